/- FnMillSets: the walk and the row. -/
import Derived.Test.YteobejgkjjhfkaaMillSets
import Derived.Test.YteobejgkjjhfkaaBytes
import Derived.Deep.CutBlock
import Derived.Test.YteobejgkjjhfkaaLaw
namespace Go.Proofs.Yteobejgkjjhfkaa.fnMillSets
open Go.ChangeShapes Go.WideShapes Go.ChangeAt Go.RowKit
set_option linter.unusedVariables false
set_option linter.unusedSimpArgs false
set_option maxRecDepth 100000 in
set_option maxHeartbeats 16000000 in
theorem walk {w : World} (A0 : Option Addr) (n0 c0 : Nat) (x0 : ArgB w A0 n0) (A1 : Option Addr) (n1 c1 : Nat) (x1 : ArgB w A1 n1) :
    Calls Try.prog 11 #[.slice A0 n0 c0, .slice A1 n1 c1] w fun e w' => e = .returned (.bool true) ∧ Below w.heap.size w w' := by
  cases hL : (decide (3000 < n0) || decide (3000 < n1)) with
  | true =>
    have HL := hid hL
    go_enter Try.func11, Try.ntmps11
    go_wp2_with fail
    refine (l2Long_ _ _ _ _ _ _ _).mono ?_
    rintro e w1 ⟨rfl, rfl⟩
    rw [HL.out]
    go_wp2_with fail
    go_ret
    exact ⟨rfl, Below.refl _ _⟩
  | false =>
    have HL := hid hL
    simp only [Bool.or_eq_false_iff, decide_eq_false_iff_not] at hL
    obtain ⟨bs0, rfl, h0, hb0⟩ := x0.rd (by omega)
    obtain ⟨bs1, rfl, h1, hb1⟩ := x1.rd (by omega)
    clear hL
    have H0 := hid h0
    have H1 := hid h1
    clear h0 h1
    go_enter Try.func11, Try.ntmps11
    go_wp2_with fail
    refine (l2Long_ _ _ _ _ _ _ _).mono ?_
    rintro e w1 ⟨rfl, rfl⟩
    rw [HL.out]
    go_wp2_with fail
    refine (specA2Mills _ _ _ _ H0.out hb0).mono ?_
    rintro e w1 ⟨V, vq, xs, rfl, hx, hok, hb⟩
    have hn5 := hok.1
    have HX := hid hx
    have HOK := hid hok
    have HB := hid hb
    have H1b := hid (H1.out.below hb)
    clear hx hok hb H0 H1
    go_wp2_with fail
    refine (l2At_ _ _ _ 0 8 _ H1b.out hb1 (by omega) (by omega)).mono ?_
    rintro e w' ⟨r0, rfl, hr0, rfl⟩
    obtain ⟨f, hf⟩ : ∃ f, 2 + r0 = f := ⟨_, rfl⟩
    have e1 : IntKind.i64.wrap (2 + r0) = f := by rw [hf]; exact IntWalk.i64_in _ (by omega)
    go_wp2_with fail
    refine (l2At_ _ _ _ 1 256 _ H1b.out hb1 (by omega) (by omega)).mono ?_
    rintro e w' ⟨r1, rfl, hr1, rfl⟩
    obtain ⟨rate, hrt⟩ : ∃ q, 1 + 4 * r1 = q := ⟨_, rfl⟩
    have e2 : IntKind.i64.wrap (1 + IntKind.i64.wrap (4 * r1)) = rate := by rw [IntWalk.i64_in (4 * r1) (by omega), hrt]; exact IntWalk.i64_in _ (by omega)
    have hf12 : 0 ≤ f ∧ f ≤ 12 := by omega
    have hrate : 1 ≤ rate ∧ rate ≤ 80000 := by omega
    go_upto_region 6 with fail
    have HF := hid hf
    have HRT := hid hrt
    clear hf hrt e1 e2
    go_wp2_with fail
    refine (implFewest V xs vq f rate _ HX.out HOK.out hf12 hrate).mono ?_
    rintro e w2 ⟨u, few, one, rfl, hfew, ho, hb⟩
    obtain ⟨P, pq, rfl⟩ := ho.form
    have hfl : few.length ≤ 5 := by
      rcases hfew with ⟨_, h, _⟩ | ⟨_, h, _⟩
      · have := upTo_len h; rw [List.length_map] at this; omega
      · rw [h]; simp
    have HP := hid (ho.rd (by omega))
    have HFEW := hid hfew
    have HX2 := hid (HX.out.below hb)
    have HB2 := hid (HB.out.trans (hb.mono HB.out.size))
    have H1c := hid (H1b.out.below hb)
    have HT := hid (three_new w2 w2.heap.size (Nat.le_refl _))
    have HTB : Hid (Below w2.heap.size w2 (((w2.alloc (.cells #[] 2)).alloc (.cells #[] 2)).alloc (.cells #[.int .i64 0, .int .i64 0] 2))) := (((Below.refl _ _).alloc (Nat.le_refl _) _).alloc (by simp) _).alloc (by simp; omega) _
    clear ho hb hfew HX HB H1b
    go_wp2_with fail
    go_loopw [10, 11, 13] (fun u v i wr => ∃ (k : Nat) (rl sm ks : List Int), k ≤ xs.length ∧ i = .int .i64 k ∧ rl = (xs.take k).map (rateM f) ∧ ks.length = k ∧ Bits ks ∧ UpTo (k : Int) sm ∧ Three wr w2.heap.size (w2.heap.size + 1 + 1) u v rl sm (sumAt 0 rl ks) (sumAt 1 rl ks) ∧ Below w2.heap.size w2 wr) (fun _ _ i _ => xs.length - (intOf i).toNat)
    case atStart => exact ⟨0, [], [], [], Nat.zero_le _, rfl, rfl, rfl, fun x hx => absurd hx (by simp), ⟨by simp, by simp⟩, HT.out, HTB.out⟩
    case round =>
      obtain ⟨k, rl, sm, ks, hk, rfl, hrl, hkl, hkb, hsm, ht, hq⟩ := hrel
      obtain ⟨wo, rfl⟩ : ∃ wo : World, wo = wr := ⟨_, rfl⟩
      have HT1 := hid ht
      have HQ := hid hq
      have HRL := hid hrl
      have HKL := hid hkl
      have HKB := hid hkb
      have HSM := hid hsm
      have hsl := upTo_len hsm
      have hrll : rl.length = k := by rw [hrl, List.length_map, List.length_take]; omega
      have HRLL := hid hrll
      have hgs := ht.lt.2
      have hrr : ∀ r ∈ rl, 0 ≤ r ∧ r ≤ 1000 := fun r hr => by
        rw [hrl] at hr
        obtain ⟨m, hm, rfl⟩ := List.mem_map.1 hr
        exact rateM_range (HOK.out.2 m (List.mem_of_mem_take hm)) f
      have hs0 := sumAt_range 0 rl ks hrr
      have hs1 := sumAt_range 1 rl ks hrr
      rw [hrll] at hs0 hs1
      have HRR := hid hrr
      obtain ⟨R, rq, rfl⟩ := ht.o1.form
      obtain ⟨S, sq, rfl⟩ := ht.o2.form
      clear ht hq hrl hrll hkl hkb hsm hrr HT HTB
      by_cases hlt : k < xs.length
      · obtain ⟨b, off, hA, t0, t1, t2, t3⟩ := (HX2.out.below HQ.out).mill hlt
        subst hA
        have hmo := HOK.out.2 _ (List.getElem_mem hlt)
        have HMO := hid hmo
        have HRN : Hid (rl ++ [rateM f xs[k]] = (xs.take (k + 1)).map (rateM f)) := by
          show rl ++ [rateM f xs[k]] = (xs.take (k + 1)).map (rateM f)
          rw [HRL.out, take_next hlt, List.map_append]
          rfl
        have hrm := rateM_range hmo f
        clear hmo
        generalize xs[k] = m at t0 t1 t2 t3 HMO HRN hrm
        have HCM := hid (fun x => specMillRate m f HMO.out hf12 x)
        generalize rateM f m = r at HCM HRN hrm
        go_wp2_with fail
        refine (HCM.out _).mono ?_
        rintro e w3 ⟨rfl, hb⟩
        have HT2 := hid (HT1.out.below hb)
        have HQ2 := hid (HQ.out.trans (hb.mono HQ.out.size))
        have hgs2 : w2.heap.size + 1 + 1 < w3.heap.size := Nat.lt_of_lt_of_le hgs hb.size
        clear hb t0 t1 t2 t3 HT1 HQ HCM
        go_wp2_with (at_builtin; refine wpList_push elInt _ rfl (.tmp 62) (.tmp 64) rfl w2.heap.size _ rl r rfl (HT2.out.o1.alloc _) _ rfl (heap_alloc_new _ _) (by rw [HRLL.out]; omega) (le_alloc HQ2.out.size) ?_; intro v' w4 hown' hg' hat'; refine keep_ ?_)
        have HQ4 := hid (below_own (HQ2.out.alloc HQ2.out.size (.cells #[.int .i64 r] 2)) (HT2.out.o1.alloc _) hg' (Nat.le_refl _) (le_alloc HQ2.out.size))
        have HT4 := hid ((HT2.out.below ((Below.refl _ _).alloc (Nat.le_refl _) (.cells #[.int .i64 r] 2))).pushA hown' hg' hat')
        obtain ⟨rl2, hrl2⟩ : ∃ q, rl ++ [r] = q := ⟨_, rfl⟩
        rw [hrl2] at HT4 hown' HRN
        obtain ⟨R2, rq2, rfl⟩ := hown'.form
        have HRL2 := hid hrl2
        have hgs4 := HT4.out.lt.2
        clear hown' hg' hat' HT2 HQ2 hrl2
        refine go_ ?_
        go_wp2_with fail
        refine (l2At_ _ _ _ (2 + (k : Int)) 2 _ (H1c.out.below HQ4.out) hb1 (by omega) (by omega)).mono ?_
        rintro e w' ⟨bt, rfl, hbt, rfl⟩
        rcases (show bt = 0 ∨ bt = 1 by omega) with hb01 | hb01
        · subst hb01
          have HS0 := hid (sumAt_snoc 0 rl ks (by rw [HRLL.out, HKL.out]) r 0)
          have HS1 := hid (sumAt_snoc 1 rl ks (by rw [HRLL.out, HKL.out]) r 0)
          rw [HRL2.out] at HS0 HS1
          obtain ⟨c3, f3⟩ := HT4.out.o3.int (k := 0) (by simp)
          have c3' : w4.cell? ⟨w2.heap.size + 1 + 1, 0, none⟩ = some (.int .i64 (sumAt 0 rl ks)) := c3
          generalize sumAt 0 rl ks = s0 at c3' HT4 HS0 hs0
          generalize sumAt 1 rl ks = s1 at HT4 HS1 hs1
          clear c3
          go_wp2_with fail
          go_roundw
          case rel => exact ⟨k + 1, rl2, sm, ks ++ [0], by omega, by go_num, HRN.out, by simp [HKL.out], bits_snoc HKB.out (.inl rfl), upTo_grow HSM.out (by omega), by have h9 := HT4.out.store0 (s0 + r); rw [HS0.out, HS1.out]; simpa using h9, HQ4.out.setCell (by simp only; omega) _⟩
          case measure => simp [intOf]; omega
        · subst hb01
          have HS0 := hid (sumAt_snoc 0 rl ks (by rw [HRLL.out, HKL.out]) r 1)
          have HS1 := hid (sumAt_snoc 1 rl ks (by rw [HRLL.out, HKL.out]) r 1)
          rw [HRL2.out] at HS0 HS1
          go_wp2_with (at_builtin; refine wpList_push elInt _ rfl (.tmp 72) (.tmp 74) rfl w2.heap.size _ sm (k : Int) rfl (HT4.out.o2.alloc _) _ rfl (heap_alloc_new _ _) (by omega) (le_alloc HQ4.out.size) ?_; intro v' w5 hown' hg' hat'; refine keep_ ?_)
          have HQ5 := hid (below_own (HQ4.out.alloc HQ4.out.size (.cells #[.int .i64 (k : Int)] 2)) (HT4.out.o2.alloc _) hg' (Nat.le_refl _) (le_alloc HQ4.out.size))
          have HT5 := hid ((HT4.out.below ((Below.refl _ _).alloc (Nat.le_refl _) (.cells #[.int .i64 (k : Int)] 2))).pushB hown' hg' hat')
          have HSM2 := hid (upTo_push HSM.out)
          obtain ⟨sm2, hsm2⟩ : ∃ q, sm ++ [(k : Int)] = q := ⟨_, rfl⟩
          rw [hsm2] at HT5 hown' HSM2
          obtain ⟨S2, sq2, rfl⟩ := hown'.form
          obtain ⟨c3, f3⟩ := HT5.out.o3.int (k := 1) (by simp)
          have c3' : w5.cell? ⟨w2.heap.size + 1 + 1, 1, none⟩ = some (.int .i64 (sumAt 1 rl ks)) := c3
          generalize sumAt 0 rl ks = s0 at HT5 HS0 hs0
          generalize sumAt 1 rl ks = s1 at c3' HT5 HS1 hs1
          clear c3 hown' hg' hat' HT4 HQ4 hsm2 hgs4
          refine go_ ?_
          go_wp2_with fail
          go_roundw
          case rel => exact ⟨k + 1, rl2, sm2, ks ++ [1], by omega, by go_num, HRN.out, by simp [HKL.out], bits_snoc HKB.out (.inr rfl), HSM2.out, by have h9 := HT5.out.store1 (s1 + r); rw [HS0.out, HS1.out]; simpa using h9, HQ5.out.setCell (by simp only; omega) _⟩
          case measure => simp [intOf]; omega
      · have hkn : k = xs.length := by omega
        have hrs : rl = xs.map (rateM f) := by rw [HRL.out, List.take_of_length_le (by omega)]
        rw [hkn] at HSM HKL
        rw [← hrs] at HFEW
        have hrn : rl.length = xs.length := by rw [hrs, List.length_map]
        have HRN := hid hrn
        have HRS := hid hrs
        have hsl2 : sm.length ≤ 5 := by rw [hkn] at hsl; omega
        have HSMU : Hid (UpTo (rl.length : Int) sm) := by rw [hrn]; exact HSM.out
        clear hkn hrs hrn hsl
        have HRo := hid (HT1.out.o1.rd (by have := HRN.out; omega))
        have HSo := hid (HT1.out.o2.rd (by omega))
        have HPo := hid (HP.out.below HQ.out)
        have hrl5 : rl.length ≤ 5 := by have := HRN.out; omega
        have HUF := hid HFEW.out
        have hfw := HFEW.out
        clear hs0 hs1 HFEW HP
        by_cases hone : one = 0
        case' neg =>
          obtain ⟨h1, h2, h3⟩ : one = 3 ∧ few = [] ∧ rl.sum < rate := by
            rcases hfw with ⟨h, _⟩ | h
            · exact absurd h hone
            · exact h
          subst h1
          clear hone hfw
          have HSUM : Hid (∀ x, x = wo → Calls Try.prog 17 #[.slice R rl.length rq] x fun e w' => e = .returned (.int .i64 rl.sum) ∧ x = w') := fun x hx => by subst hx; exact l2Sum_ R rl rq x HRo.out (by omega) HRR.out
          generalize rl.sum = z at h3 HSUM
          go_wp2_with (first | (go_at_call 17; refine (HSUM.out _ rfl).mono ?_; rintro e w' ⟨rfl, rfl⟩) | (go_at_call 53; refine keep_ ?_))
          obtain ⟨wz, rfl⟩ : ∃ wz : World, wz = wo := ⟨_, rfl⟩
          have HTz := hid HT1.out
          have HQz := hid HQ.out
          clear HSUM h2 h3 HT1 HQ HRo HSo HPo HUF
        case' pos =>
          obtain ⟨h1, hup, hge, hmin⟩ : one = 0 ∧ UpTo (rl.length : Int) few ∧ rate ≤ partsOf rl few ∧ ∀ l, UpTo (rl.length : Int) l → rate ≤ partsOf rl l → few.length ≤ l.length := by
            rcases hfw with h | ⟨h, _⟩
            · exact h
            · omega
          subst h1
          clear hone hfw
          have hupx : UpTo (xs.length : Int) few := by rw [← HRN.out]; exact hup
          have HUPX := hid hupx
          have HUP := hid hup
          have hpf := partsOf_range HRR.out few
          have hpm := partsOf_range HRR.out sm
          have HP1 : Hid (∀ x, Below wo.heap.size wo x → Calls Try.prog 52 #[.slice R rl.length rq, .slice P few.length pq] x fun e w' => e = .returned (.int .i64 (partsOf rl few)) ∧ x = w') := fun x hx => a2Parts_ R P rl few rq pq x (HRo.out.below hx) (HPo.out.below hx) HUP.out HRR.out (by omega) (by omega)
          have HP2 : Hid (∀ x, Below wo.heap.size wo x → Calls Try.prog 52 #[.slice R rl.length rq, .slice S sm.length sq] x fun e w' => e = .returned (.int .i64 (partsOf rl sm)) ∧ x = w') := fun x hx => a2Parts_ R S rl sm rq sq x (HRo.out.below hx) (HSo.out.below hx) HSMU.out HRR.out (by omega) (by omega)
          have HMIN : Hid (sm.length < few.length → partsOf rl sm < rate) := fun h => by
            rcases Int.lt_or_le (partsOf rl sm) rate with q | q
            · exact q
            · have := hmin sm HSMU.out q; omega
          clear hup hupx hmin
          generalize partsOf rl few = pf at hge hpf HP1
          generalize partsOf rl sm = pm at hpm HP2 HMIN
          by_cases hsf : sm.length < few.length
          case' pos =>
            have hlt2 := HMIN.out hsf
            go_wp2_with (first | (go_at_call 33; refine (l2Rises_ P few pq _ _ HPo.out HUPX.out (by omega)).mono ?_; rintro e wz ⟨rfl, hb⟩; have HBz := hid hb; clear hb) | (go_at_call 52; first | (with_reducible refine (HP1.out _ HBz.out).mono ?_; rintro e w' ⟨rfl, rfl⟩) | (with_reducible refine (HP2.out _ HBz.out).mono ?_; rintro e w' ⟨rfl, rfl⟩)) | (go_at_call 53; refine keep_ ?_))
            have HTz := hid (HT1.out.below HBz.out)
            have HQz := hid (HQ.out.trans (HBz.out.mono HQ.out.size))
            clear HP1 HP2 HMIN hsf hlt2 hge hpf hpm HBz HT1 HQ HRo HSo HPo HUP HUPX HUF
          case' neg =>
            go_wp2_with (first | (go_at_call 33; refine (l2Rises_ P few pq _ _ HPo.out HUPX.out (by omega)).mono ?_; rintro e wz ⟨rfl, hb⟩; have HBz := hid hb; clear hb) | (go_at_call 52; first | (with_reducible refine (HP1.out _ HBz.out).mono ?_; rintro e w' ⟨rfl, rfl⟩) | (with_reducible refine (HP2.out _ HBz.out).mono ?_; rintro e w' ⟨rfl, rfl⟩)) | (go_at_call 53; refine keep_ ?_))
            have HTz := hid (HT1.out.below HBz.out)
            have HQz := hid (HQ.out.trans (HBz.out.mono HQ.out.size))
            clear HP1 HP2 HMIN hsf hge hpf hpm HBz HT1 HQ HRo HSo HPo HUP HUPX HUF
        all_goals
          refine go_ ?_
          have HBZ : Hid (Below w.heap.size w wz) := HB2.out.trans (HQz.out.mono HB2.out.size)
          refine (implSplit V xs vq f _ (HX2.out.below HQz.out) HOK.out hf12).mono ?_
          rintro e w6 ⟨u, best, most, two, rfl, ho, hcase, hb⟩
          have HT6 := hid (HTz.out.below hb)
          have HB6 := hid (HBZ.out.trans (hb.mono HBZ.out.size))
          have HO6 := hid ho
          rw [← HRS.out] at hcase
          clear ho hb HTz HQz
          rcases hcase with ⟨hn1, h2⟩ | ⟨hn2, h2, hsp⟩
          · subst h2
            have l1 : ((xs.length : Int) == 1) = true := by simp [hn1]
            have HN1 := hid hn1
            clear hn1
            go_wp2_with fail
            go_ret
            exact ⟨rfl, HB6.out⟩
          · subst h2
            have l1 : ((xs.length : Int) == 1) = false := by rw [beq_eq_false_iff_ne]; omega
            have hbl : best.length = xs.length := by rw [hsp.len, HRN.out]
            have lb : ((best.length : Int) != xs.length) = false := by simp [hbl]
            have HSP := hid hsp
            have HBL := hid hbl
            have hbl5 : best.length ≤ 5 := by omega
            obtain ⟨BA, bq, rfl⟩ := HO6.out.form
            have HBR := hid (HO6.out.rd (by omega))
            have HRR6 := hid (HT6.out.o1.rd (by have := HRN.out; omega))
            obtain ⟨p0, hp0⟩ : ∃ q, sumAt 0 rl ks = q := ⟨_, rfl⟩
            obtain ⟨p1, hp1⟩ : ∃ q, sumAt 1 rl ks = q := ⟨_, rfl⟩
            have HTOP : Hid (min p0 p1 ≤ most) := by
              have := hsp.top ks HKB.out (by rw [HKL.out, HRN.out])
              unfold mn at this
              rw [hp0, hp1] at this
              exact this
            obtain ⟨S0, hS0⟩ : ∃ q, sumAt 0 rl best = q := ⟨_, rfl⟩
            obtain ⟨S1, hS1⟩ : ∃ q, sumAt 1 rl best = q := ⟨_, rfl⟩
            have HMN : Hid (most = min S0 S1) := by rw [← hS0, ← hS1]; exact hsp.val
            have hr0 := sumAt_range 0 rl best HRR.out
            have hr1 := sumAt_range 1 rl best HRR.out
            have hq0 := sumAt_range 0 rl ks HRR.out
            have hq1 := sumAt_range 1 rl ks HRR.out
            rw [HRN.out] at hr0 hr1 hq0 hq1
            rw [hS0] at hr0
            rw [hS1] at hr1
            rw [hp0] at hq0
            rw [hp1] at hq1
            have c4 := (HT6.out.o3.int (k := 0) (by simp)).1
            have c5 := (HT6.out.o3.int (k := 1) (by simp)).1
            simp only [List.getElem_cons_zero, List.getElem_cons_succ] at c4 c5
            rw [hp0] at c4
            rw [hp1] at c5
            have HS0' := hid hS0
            have HS1' := hid hS1
            have hg6 := HT6.out.lt.2
            obtain ⟨G1, hG1⟩ : ∃ q, w6.heap.size = q := ⟨_, rfl⟩
            have HN0 : Hid (Below w6.heap.size w6 ((w6.alloc (.cells #[.int .i64 0, .int .i64 0] 2)).alloc (.cells #[.int .i64 0, .int .i64 0] 2))) := ((Below.refl _ _).alloc (Nat.le_refl _) _).alloc (by simp) _
            clear hbl hsp hp0 hp1 hS0 hS1
            go_wp2_with fail
            go_loopw [22] (fun i wr => ∃ (k : Nat) (a b c d : Int), k ≤ best.length ∧ i = .int .i64 k ∧ wr.cell? ⟨G1, 0, none⟩ = some (.int .i64 a) ∧ wr.cell? ⟨G1, 1, none⟩ = some (.int .i64 b) ∧ wr.cell? ⟨G1 + 1, 0, none⟩ = some (.int .i64 c) ∧ wr.cell? ⟨G1 + 1, 1, none⟩ = some (.int .i64 d) ∧
              wr.frozen? ⟨G1, 0, none⟩ = false ∧ wr.frozen? ⟨G1, 1, none⟩ = false ∧ wr.frozen? ⟨G1 + 1, 0, none⟩ = false ∧ wr.frozen? ⟨G1 + 1, 1, none⟩ = false ∧
              a + sumAt 0 (rl.drop k) (best.drop k) = S0 ∧ b + sumAt 1 (rl.drop k) (best.drop k) = S1 ∧ 0 ≤ a ∧ 0 ≤ b ∧ a ≤ S0 ∧ b ≤ S1 ∧ c = oneIf (hasB (best.take k) 0) ∧ d = oneIf (hasB (best.take k) 1) ∧ Below w6.heap.size w6 wr) (fun i _ => best.length - (intOf i).toNat)
            case atStart => exact ⟨0, 0, 0, 0, 0, Nat.zero_le _, rfl, by rw [← hG1]; simp [go_sem], by rw [← hG1]; simp [go_sem], by rw [← hG1]; simp [go_sem], by rw [← hG1]; simp [go_sem], by rw [← hG1]; simp [go_sem], by rw [← hG1]; simp [go_sem], by rw [← hG1]; simp [go_sem], by rw [← hG1]; simp [go_sem], by rw [Int.zero_add]; exact HS0'.out, by rw [Int.zero_add]; exact HS1'.out, by omega, by omega, by omega, by omega, rfl, rfl, HN0.out⟩
            case round =>
              obtain ⟨k, a, b, c, d, hk, rfl, k0, k1, k2, k3, f0, f1, f2, f3, ha, hb2, ha0, hb0, ha1, hb1', hc, hd, hq⟩ := hrel
              obtain ⟨wv, rfl⟩ : ∃ wv : World, wv = wr := ⟨_, rfl⟩
              have HQ7 := hid hq
              have n4 := box_cell hq c4
              have n5 := box_cell hq c5
              clear hq
              by_cases hlt : k < best.length
              · have hll : k < rl.length := by rw [HRN.out, ← HBL.out]; exact hlt
                obtain ⟨bb, bo, hA, q9⟩ := HBR.out.int hlt
                subst hA
                have hbb : bb < G1 := by rw [← hG1]; exact World.block_lt_of_cell? w6 _ q9
                have q1 := box_cell HQ7.out q9
                clear q9
                obtain ⟨rb, ro, hA, q2⟩ := (HRR6.out.below HQ7.out).int hll
                subst hA
                have hbit := HSP.out.bits _ (List.getElem_mem hlt)
                have hrr := HRR.out _ (List.getElem_mem hll)
                have p2 := (sumAt_range 0 (rl.drop (k + 1)) (best.drop (k + 1)) fun r hr => HRR.out r (List.mem_of_mem_drop hr)).1
                have p3 := (sumAt_range 1 (rl.drop (k + 1)) (best.drop (k + 1)) fun r hr => HRR.out r (List.mem_of_mem_drop hr)).1
                rw [List.drop_eq_getElem_cons hlt, List.drop_eq_getElem_cons hll] at ha hb2
                simp only [sumAt] at ha hb2
                have HC0 := hid (hasB_take hlt 0)
                have HC1 := hid (hasB_take hlt 1)
                have hlx : k < xs.length := by rw [← HBL.out]; exact hlt
                generalize rl[k] = r at q2 hrr ha hb2
                generalize best[k] = x at q1 hbit ha hb2 HC0 HC1
                rcases hbit with hx | hx
                · subst hx
                  simp only [if_true] at ha
                  rw [if_neg (by decide)] at hb2
                  go_wp2_with fail
                  go_region
                  go_wp2_with fail
                  go_roundw
                  case rel =>
                    refine ⟨k + 1, a + r, b, 1, d, by omega, by go_num, by simp [go_sem, k0, k1, k2, k3], by simp [go_sem, k0, k1, k2, k3], by simp [go_sem, k0, k1, k2, k3], by simp [go_sem, k0, k1, k2, k3], by simpa [go_sem, k0, k1, k2, k3] using f0, by simpa [go_sem, k0, k1, k2, k3] using f1, by simpa [go_sem, k0, k1, k2, k3] using f2, by simpa [go_sem, k0, k1, k2, k3] using f3, by omega, by omega, by omega, by omega, by omega, by omega, ?_, ?_, ?_⟩
                    · rw [HC0.out]; simp [oneIf, hc]
                    · rw [HC1.out]; simp [oneIf, hd]
                    · first
                      | exact ((HQ7.out.drewN _).setCell (by simp only; omega) _).setCell (by simp only; omega) _
                      | exact (HQ7.out.setCell (by simp only; omega) _).setCell (by simp only; omega) _
                      | exact (HQ7.out.drew.setCell (by simp only; omega) _).setCell (by simp only; omega) _
                  case measure => simp [intOf]; omega
                · subst hx
                  simp only [if_true] at hb2
                  rw [if_neg (by decide)] at ha
                  go_wp2_with fail
                  go_region
                  go_wp2_with fail
                  go_roundw
                  case rel =>
                    refine ⟨k + 1, a, b + r, c, 1, by omega, by go_num, by simp [go_sem, k0, k1, k2, k3], by simp [go_sem, k0, k1, k2, k3], by simp [go_sem, k0, k1, k2, k3], by simp [go_sem, k0, k1, k2, k3], by simpa [go_sem, k0, k1, k2, k3] using f0, by simpa [go_sem, k0, k1, k2, k3] using f1, by simpa [go_sem, k0, k1, k2, k3] using f2, by simpa [go_sem, k0, k1, k2, k3] using f3, by omega, by omega, by omega, by omega, by omega, by omega, ?_, ?_, ?_⟩
                    · rw [HC0.out]; simp [oneIf, hc]
                    · rw [HC1.out]; simp [oneIf, hd]
                    · first
                      | exact ((HQ7.out.drewN _).setCell (by simp only; omega) _).setCell (by simp only; omega) _
                      | exact (HQ7.out.setCell (by simp only; omega) _).setCell (by simp only; omega) _
                      | exact (HQ7.out.drew.setCell (by simp only; omega) _).setCell (by simp only; omega) _
                  case measure => simp [intOf]; omega
              · rw [List.drop_eq_nil_of_le (show best.length ≤ k by omega), List.drop_eq_nil_of_le (show rl.length ≤ k by have := HRN.out; have := HBL.out; omega)] at ha hb2
                simp only [sumAt, Int.add_zero] at ha hb2
                subst ha hb2
                rw [List.take_of_length_le (by omega)] at hc hd
                have hboth := HSP.out.both
                unfold bothB at hboth
                simp only [Bool.and_eq_true] at hboth
                rw [hboth.1] at hc
                rw [hboth.2] at hd
                simp only [oneIf, if_true] at hc hd
                subst hc hd
                have hmn := HMN.out
                have htp := HTOP.out
                have e3 : ((if b < a then b else a) == most) = true := by rw [min_if, hmn]; simp
                have e4 : decide ((if p1 < p0 then p1 else p0) ≤ most) = true := by rw [min_if]; exact decide_eq_true htp
                clear hboth hmn htp
                go_wp2_with fail
                go_quiet (fail)
                all_goals
                  go_wp2_with fail
                  all_goals
                    go_ret
                    exact ⟨rfl, HB6.out.trans ((HQ7.out.drewN _).mono HB6.out.size)⟩
set_option maxRecDepth 100000 in
theorem lifted (os : Os) (started : os.Started) (H : Type) (enc : TypeId × Value → H) :
    ReturnsInHanded {} Try.checked os 11 .any (Rows.fnMillSetsSpec.pre6 enc Try.prog Try.f11 Rows.fnMillSetsRow.domain false) (Rows.fnMillSetsSpec.post enc Try.prog Try.f11 false true false false) := by
  refine returnsInHanded_of_change (C := Try.checked) ownLaw started (by kernel_rfl) Try.func11
    (ChangeSpec.witness6 (enc := enc) (C := Try.checked) false ⟨#[], #[.slice none 0 0, .slice none 0 0], []⟩ 8 (by kernel_rfl) (by kernel_rfl) (by kernel_rfl) (by kernel_rfl)) ?_
  intro W base args ds gs before hval0 hW _ _
  have hval : ∀ (j : Nat) t v, Try.f11.params[j]? = some t → args[j]? = some v → Value.okWide Try.prog W .any base t v := hval0
  have hW' := hW
  obtain ⟨p, q, hA0, hV, hbef, hfz, hnd⟩ := hW
  have hA : DataW.TrodAll enc Try.prog W 0 (fun _ => true) true Try.f11.params.toList args.toList ds p := hA0
  rw [Try.params11] at hA hval
  obtain ⟨v0, vs0, d0, ds0, p0, q0, hargs, rfl, hp0, h0, r0⟩ := trodAll_cons hA
  obtain ⟨v1, vs1, d1, ds1, p1, q1, rfl, rfl, hp1, h1, r1⟩ := trodAll_cons r0
  obtain ⟨rfl, rfl, hpl⟩ := trodAll_nil r1
  obtain rfl : args = #[v0, v1] := by cases args; simp_all
  obtain ⟨rfl, hq⟩ := trodVars_none hV
  obtain ⟨A0, n0, c0, rfl, x0⟩ := open_bytes Try.underlying22 Try.underlying5 (by kernel_rfl) (hval 0 _ v0 rfl rfl) h0
  obtain ⟨A1, n1, c1, rfl, x1⟩ := open_bytes Try.underlying22 Try.underlying5 (by kernel_rfl) (hval 1 _ v1 rfl rfl) h1
  refine (walk A0 n0 c0 x0 A1 n1 c1 x1).mono fun e W' ⟨he, hb⟩ => ?_
  subst he
  exact ⟨_, rfl, law_close laidLaw (by kernel_rfl) rfl rfl (by kernel_rfl) hW' rfl rfl rfl hb⟩

theorem over : Rows.fnMillSetsRow.holds Try.pinned (OpenSpec.ofChange Rows.fnMillSetsSpec) :=
  OpenClaim.holds_of_wide 11 Try.f11 rfl rfl rfl rfl rfl rfl rfl ⟨rfl, rfl, rfl, rfl, rfl⟩ rfl rfl rfl rfl rfl (by kernel_rfl) Try.func11 (by kernel_rfl)
    (of_decide_eq_true (by kernel_rfl)) (by unfold Func.isWrapper; first | (rw [if_pos (by decide +kernel)]; kernel_rfl) | (rw [if_neg (by decide +kernel)]; exact ⟨rfl, rfl⟩))
    (fun os started H enc _ => lifted os started H enc)

theorem proved : Rows.FnMillSetsSaid := over
end Go.Proofs.Yteobejgkjjhfkaa.fnMillSets
