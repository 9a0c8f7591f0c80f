/- Latest starts: the walks. -/
import Derived.Test.YthidlioacgadaaaLatePlain
import Derived.Test.YthidlioacgadaaaWorksEasy
import Derived.Test.YthidlioacgadaaaHas
import Derived.Deep.RegionWith
namespace Go.Proofs.Ythidlioacgadaaa
open Go.RowKit
set_option linter.unusedVariables false
theorem lateL_next (xs : List Task) (tot : Int) (m : Nat) : lateL xs tot (m + 1) = (lateL xs tot m).set (xs.length - 1 - m) (endTo xs tot (lateL xs tot m) ((xs.length - 1 - m : Nat) : Int) xs.length - daysAt xs ((xs.length - 1 - m : Nat) : Int)) := rfl
theorem early_tot {t : List Task} (h : EOk t) : 0 ≤ (early t t.length).2 ∧ (early t t.length).2 ≤ 48000 := by
  have h1 := (early_bound h (Nat.le_refl t.length)).2
  have h2 := h.1
  omega
set_option maxHeartbeats 4000000 in
theorem implLatest (A : Option Addr) (t : List Task) (c : Nat) (w : World) (hx : RdT w A t) (hE : EOk t) :
    Calls Try.prog 75 #[.slice A t.length c] w fun e w' => ∃ v, e = .returned v ∧ Own w' w.heap.size 2 v (late t (early t t.length).2) ∧ Below w.heap.size w w' := by
  have hn := hx.len
  have h12 := hE.1
  have htt := early_tot hE
  obtain ⟨tot, htot⟩ : ∃ tot, (early t t.length).2 = tot := ⟨_, rfl⟩
  rw [htot] at htt ⊢
  have HT0 := hid htot
  clear htot
  go_enter Try.func75, Try.ntmps75
  go_wp2_with fail
  refine (implStarts _ _ _ _ hx hE).mono ?_
  rintro e w1 ⟨u, rfl, ho, hb⟩
  have HB := hid hb
  have hx1 := hx.below hb
  rw [HT0.out]
  clear hx ho hb
  go_wp2_with (at_make; refine wpList_make' elInt _ rfl _ _ rfl w1.heap.size .i64 .i64 _ _ t.length rfl rfl rfl rfl hn (Nat.le_refl _) ?_; intro w2 hown hb1)
  have hx2 := hx1.below hb1
  go_loopw [6] (fun i wr => ∃ m : Nat, m ≤ t.length ∧ i = .int .i64 ((t.length : Int) - 1 - m) ∧ Own wr w1.heap.size 2 (.slice (some ⟨w1.heap.size, 0, none⟩) t.length t.length) (lateL t tot m) ∧ Below w1.heap.size w1 wr) (fun i _ => (intOf i + 1).toNat)
  case atStart => exact ⟨0, Nat.zero_le _, by go_num, hown, hb1⟩
  case round =>
    obtain ⟨m, hm, rfl, ho, hq⟩ := hrel
    obtain ⟨wo, rfl⟩ : ∃ wo : World, wo = wr := ⟨_, rfl⟩
    clear hown hb1 hx2
    by_cases hlt : m < t.length
    · have hxo := hx1.below hq
      have HQ := hid hq
      have HO := hid ho
      have hlb := lateL_bound hE htt.1 m
      have hln := lateL_len t tot m
      have HN := hid (lateL_next t tot m)
      obtain ⟨i, hi⟩ : ∃ i : Nat, i = t.length - 1 - m := ⟨_, rfl⟩
      rw [← hi] at HN
      have hit : i < t.length := by omega
      have e1 : ((t.length : Int) - 1 - m) = i := by omega
      rw [e1]
      have hi1 : i + 1 + m = t.length := by omega
      have HI := hid hi1
      have E1 := hid e1
      clear hi e1 hi1
      generalize lateL t tot m = L at HO hlb hln HN
      have ho := HO.out
      have hge : decide ((0 : Int) ≤ (i : Int)) = true := decide_eq_true (by omega)
      go_wp2_with fail
      go_loopw [7, 28] (fun e k wi => ∃ j : Nat, j ≤ t.length ∧ k = .int .i64 j ∧ e = .int .i64 (endTo t tot L i j) ∧ ∃ q, wi = wo.more q) (fun _ k _ => t.length - (intOf k).toNat)
      case atStart => exact ⟨0, Nat.zero_le _, rfl, rfl, more_self⟩
      case round =>
        obtain ⟨j, hj, rfl, rfl, q, rfl⟩ := hrel
        have heb := endTo_bound (xs := t) (tot := tot) (L := L) (b := -2000 * (m : Int)) (i : Int) j (by omega) (fun k => (hlb k).1)
        by_cases hjt : j < t.length
        · obtain ⟨b, off, P, p, rfl, c1, c2, c3, c4, hP⟩ := (hxo.more (x := q)).at_ hjt
          obtain ⟨d1, _⟩ := (ho.more (x := q)).int (k := j) (by omega)
          have hs := endTo_next t tot L i j
          unfold endStep at hs
          rw [behind_eq hjt] at hs
          have hLj : L.getD j 0 = L[j]'(by omega) := by simp [show j < L.length by omega]
          rw [hLj, show decide ((i : Int) ∈ t[j].after) = hasB t[j].after i from rfl] at hs
          generalize endTo t tot L i j = e at hs heb ⊢
          clear hxo
          by_cases hh : hasB t[j].after (i : Int) = true
          · rw [if_pos hh] at hs
            have HS := hid hs
            clear hs
            go_wp2_with fail
            refine (implHas _ _ _ _ _ (hP.alloc _)).mono ?_
            rintro e' w3 ⟨rfl, rfl⟩
            rw [hh]
            go_wp2_with fail
            go_roundw
            case rel => exact ⟨j + 1, by omega, by go_num, by rw [HS.out]; exact val_int (min_if _ _), below_ex (more_below.alloc more_size _)⟩
            case measure => simp [intOf]; omega
          · have hh' : hasB t[j].after (i : Int) = false := by simpa using hh
            rw [if_neg hh] at hs
            have HS := hid hs
            clear hs hh
            go_wp2_with fail
            refine (implHas _ _ _ _ _ (hP.alloc _)).mono ?_
            rintro e' w3 ⟨rfl, rfl⟩
            rw [hh']
            go_wp2_with fail
            go_roundw
            case rel => exact ⟨j + 1, by omega, by go_num, by rw [HS.out], below_ex (more_below.alloc more_size _)⟩
            case measure => simp [intOf]; omega
        · have hjl : j = t.length := by omega
          rw [hjl] at heb ⊢
          have hoq := ho.more (x := q)
          obtain ⟨b, off, P, p, rfl, c1, c2, c3, c4, hP⟩ := (hxo.more (x := q)).at_ hit
          obtain ⟨d1, d2⟩ := hoq.int (k := i) (by omega)
          have hdd := (hE.2 i hit).1
          have hset := hoq.intSet (k := i) (by omega) (endTo t tot L i t.length - t[i].days)
          rw [show endTo t tot L i t.length - t[i].days = endTo t tot L i t.length - daysAt t i by rw [daysAt_eq (by simpa using hit)]; simp] at hset
          rw [← HN.out] at hset
          rw [show endTo t tot L i t.length - daysAt t i = endTo t tot L i t.length - t[i].days by rw [daysAt_eq (by simpa using hit)]; simp] at hset
          have HT := hid hset
          have HC : Hid (Below w1.heap.size w1 ((wo.more q).setCell ⟨w1.heap.size, i, none⟩ (.int .i64 (endTo t tot L i t.length - t[i].days)))) := (HQ.out.trans (more_below.mono HQ.out.size)).setCell (Nat.le_refl _) _
          generalize endTo t tot L i t.length = e at heb HT HC ⊢
          generalize L[i]'(by omega) = old at d1
          clear hset hoq hxo hP ho HO
          go_wp2_with fail
          go_roundw
          case rel => exact ⟨m + 1, by omega, val_int (by have := HI.out; omega), HT.out, HC.out⟩
          case measure => simp [intOf]
    · have hml : m = t.length := by omega
      subst hml
      have HO := hid ho
      have HQ := hid hq
      have hge : decide ((0 : Int) ≤ (t.length : Int) - 1 - t.length) = false := decide_eq_false (by omega)
      clear ho hx1 hq
      go_wp2_with fail
      go_ret
      exact ⟨.slice (some ⟨w1.heap.size, 0, none⟩) t.length t.length, rfl, HO.out.mono HB.out.size, HB.out.trans (HQ.out.mono HB.out.size)⟩
set_option maxHeartbeats 400000 in
theorem specMin (a b : Int) (w : World) : Calls Try.prog 94 #[.int .i64 a, .int .i64 b] w fun e w' => e = .returned (.int .i64 (min a b)) ∧ w = w' := by
  by_cases h : a < b
  all_goals
    go_enter Try.func94, Try.ntmps94
    go_wp2
    go_ret
    exact ⟨ret_int (by omega), rfl⟩
theorem relax_next (o : Int) (l E : List Int) {j : Nat} (hj : j < l.length) : (l.take (j + 1)).foldl (relax o) E = relax o ((l.take j).foldl (relax o) E) l[j] := foldl_take' _ _ hj
theorem relax_bound {o b c : Int} (l : List Int) {E : List Int} (ho : b ≤ o ∧ o ≤ c) (h0 : b ≤ 0 ∧ 0 ≤ c) (hE : ∀ k, b ≤ E.getD k 0 ∧ E.getD k 0 ≤ c) : ∀ k, b ≤ (l.foldl (relax o) E).getD k 0 ∧ (l.foldl (relax o) E).getD k 0 ≤ c := by
  induction l generalizing E with
  | nil => exact hE
  | cons a l ih =>
    rw [List.foldl_cons]
    refine ih fun k => ?_
    unfold relax
    rw [getD_set]
    have := hE k
    have := hE a.toNat
    split <;> omega
set_option maxHeartbeats 4000000 in
theorem specLatest (A : Option Addr) (t : List Task) (c : Nat) (w : World) (hx : RdT w A t) (hE : EOk t) :
    Calls Try.prog 74 #[.slice A t.length c] w fun e w' => ∃ v, e = .returned v ∧ Own w' w.heap.size 2 v (late t (early t t.length).2) ∧ Below w.heap.size w w' := by
  have hn := hx.len
  have h12 := hE.1
  have htt := early_tot hE
  obtain ⟨tot, htot⟩ : ∃ tot, (early t t.length).2 = tot := ⟨_, rfl⟩
  rw [htot] at htt ⊢
  have HT0 := hid htot
  clear htot
  go_enter Try.func74, Try.ntmps74
  go_wp2_with fail
  refine (specStarts _ _ _ _ hx hE).mono ?_
  rintro e w1 ⟨u, rfl, ho, hb⟩
  have HB := hid hb
  have hx1 := hx.below hb
  rw [HT0.out]
  clear hx ho hb
  go_wp2_with fail
  go_loopw [5, 6] (fun v i wr => ∃ k : Nat, k ≤ t.length ∧ i = .int .i64 k ∧ Own wr w1.heap.size 2 v (List.replicate k tot) ∧ Below w1.heap.size w1 wr) (fun _ i _ => t.length - (intOf i).toNat)
  case atStart => exact ⟨0, Nat.zero_le _, rfl, Own.empty (Nat.le_refl _), (Below.refl _ _).alloc (Nat.le_refl _) _⟩
  case round =>
    obtain ⟨k, hk, rfl, ho, hq⟩ := hrel
    by_cases hlt : k < t.length
    · have hol : (List.replicate k tot).length ≤ 1048576 := by simp; omega
      have hr : List.replicate k tot ++ [tot] = List.replicate (k + 1) tot := by rw [List.replicate_succ']
      have HQ := hid hq
      obtain ⟨V, vq, rfl⟩ := ho.form
      clear hx1 hq
      go_wp2_with (first | fail | (at_builtin; refine wpList_push elInt _ rfl (.tmp 23) (.tmp 25) rfl w1.heap.size _ _ tot rfl (ho.alloc _) _ rfl (heap_alloc_new _ _) hol (le_alloc HQ.out.size) ?_; intro v' w' hown' hg' hat'; have hbn := below_own (HQ.out.alloc HQ.out.size _) (ho.alloc _) hg' (Nat.le_refl _) (le_alloc HQ.out.size); rw [hr] at hown'; have HO := hid hown'; have HBN := hid hbn; clear hown' hg' hat' hbn))
      go_roundw
      case rel => exact ⟨k + 1, by omega, by go_num, HO.out, HBN.out⟩
      case measure => simp [intOf]; omega
    · have hkl : k = t.length := by omega
      subst hkl
      obtain ⟨V, vq, rfl⟩ := ho.form
      have HOB := hid ho.block
      have hsz := hq.size
      have ho' := hid ho
      have HQ := hid hq
      obtain ⟨w2, rfl⟩ : ∃ w2 : World, w2 = wr := ⟨_, rfl⟩
      clear ho hq
      go_wp2_with (at_make; refine wpList_make' elInt _ rfl _ _ rfl w2.heap.size .i64 .i64 _ _ t.length rfl rfl rfl rfl hn (Nat.le_refl _) ?_; intro w3 hown hb1)
      have hE0 := ho'.out.below hb1
      go_loopw [8] (fun i wr => ∃ (m : Nat) (E : List Int), m ≤ t.length ∧ i = .int .i64 ((t.length : Int) - 1 - m) ∧ EndsOk t tot m E ∧ (∀ k, -2000 * (m : Int) ≤ E.getD k 0 ∧ E.getD k 0 ≤ 48000) ∧ Own wr w1.heap.size 2 (.slice V t.length vq) E ∧ Own wr w2.heap.size 2 (.slice (some ⟨w2.heap.size, 0, none⟩) t.length t.length) (lateL t tot m) ∧ Below w1.heap.size w1 wr) (fun i _ => (intOf i + 1).toNat)
      case atStart =>
        refine ⟨0, _, Nat.zero_le _, by go_num, ends_zero t tot, fun k => ?_, by simpa using hE0, hown, HQ.out.trans (hb1.mono HQ.out.size)⟩
        rw [List.getD_eq_getElem?_getD, List.getElem?_replicate]
        split <;> simp <;> omega
      case round =>
        obtain ⟨m, E, hm, rfl, hEn, hEb, hoE, ho, hq⟩ := hrel
        clear hown hb1 hE0 ho'
        by_cases hlt : m < t.length
        · have hxo := hx1.below hq
          obtain ⟨i, hi⟩ : ∃ i : Nat, i = t.length - 1 - m := ⟨_, rfl⟩
          have hit : i < t.length := by omega
          have hi1 : i + 1 + m = t.length := by omega
          have e1 : ((t.length : Int) - 1 - m) = i := by omega
          have hEl := hEn.1
          have hiE : i < E.length := by omega
          have HN := hid (lateL_next t tot m)
          have HA := hid (ends_at hE hEn hlt)
          have HX := hid (ends_next hE hEn hlt)
          have hdd := (hE.2 i hit).1
          have haf := (hE.2 i hit).2
          have hEi : E.getD i 0 = E[i] := by simp [hiE]
          have hdi : daysAt t ((i : Nat) : Int) = t[i].days := by rw [daysAt_eq (by simpa using hit)]; simp
          rw [← hi] at HN HA
          have HX2 : Hid (EndsOk t tot (m + 1) (t[i].after.foldl (relax (E[i] - t[i].days)) E)) := by
            have := HX.out
            simp only [← hi] at this
            rw [hEi, hdi] at this
            exact this
          have HN2 : Hid (lateL t tot (m + 1) = (lateL t tot m).set i (E[i] - t[i].days)) := by
            rw [HN.out, ← HA.out, hEi, hdi]; exact rfl
          have hln := lateL_len t tot m
          rw [e1]
          generalize lateL t tot m = L at ho HN2 hln
          obtain ⟨b, off, P, p, rfl, c1w, _, _, c4w, hPw⟩ := hx1.at_ hit
          have c1 := box_cell hq c1w
          obtain ⟨gV, rfl, hgV, hgs⟩ := hoE.addr hiE
          have hgV2 : gV < w2.heap.size := (HOB.out gV rfl).2
          obtain ⟨d1, _⟩ := hoE.int hiE
          obtain ⟨d2, f2⟩ := ho.int (k := i) (by omega)
          have hbE := hEb i
          rw [hEi] at hbE
          have hset := ho.intSet (k := i) (by omega) (E[i] - t[i].days)
          have hgb : wr.grownBy (wr.setCell ⟨w2.heap.size, i, none⟩ (.int .i64 (E[i] - t[i].days))) (Value.slice (some ⟨w2.heap.size, 0, none⟩) t.length t.length).ownBlock := grown_set (World.grownBy.refl _ _)
          have hoE2 := hoE.beside hgb (fun k g h1 h2 => by simp only [Value.ownBlock, Option.some.injEq] at h1 h2; omega)
          have hq2 := hq.setCell (p := ⟨w2.heap.size, i, none⟩) (by simp only; omega) (.int .i64 (E[i] - t[i].days))
          have hxs := hx1.below hq2
          rw [← HN2.out] at hset
          obtain ⟨o, hoo⟩ : ∃ o, E[i] - t[i].days = o := ⟨_, rfl⟩
          have hob : -2000 * ((m : Int) + 1) ≤ o ∧ o ≤ 48000 := by omega
          have hL2l := lateL_len t tot (m + 1)
          have HN3 := hid hset
          clear hset
          generalize hL2 : lateL t tot (m + 1) = L2 at HN3 hL2l HN2
          have HL2 := hid hL2
          clear hL2
          have hset := HN3.out
          have hLo : L2.getD i 0 = o := by
            rw [HN2.out, getD_set, if_pos ⟨rfl, by omega⟩, hoo]
          have HW : Hid (wr.setCell ⟨w2.heap.size, i, none⟩ (.int .i64 (E[i] - t[i].days)) = wr.setCell ⟨w2.heap.size, i, none⟩ (.int .i64 o)) := by rw [hoo]; exact rfl
          rw [hoo] at hset hoE2 hq2 hxs HX2
          have hge : decide ((0 : Int) ≤ (i : Int)) = true := decide_eq_true (by omega)
          have hil : (i : Int) < t.length := by omega
          have HI := hid hi1
          obtain ⟨wq, hwq⟩ : ∃ x, wr.setCell ⟨w2.heap.size, i, none⟩ (.int .i64 o) = x := ⟨_, rfl⟩
          rw [hwq] at hset hoE2 hq2 hxs HW
          have HWQ := hid hwq
          generalize L[i]'(by omega) = old at d2
          clear hwq hoo hoE ho hq hxo hi hi1 e1 hEn HN HA HX HN2 hgb hdi hEi
          go_wp2_with fail
          go_region
          rw [HW.out]
          have kO : Own wq.drew _ _ _ _ := hset
          have kE : Own wq.drew _ _ _ _ := hoE2
          have kB : Below w1.heap.size w1 wq.drew := hq2.drew
          clear hset hoE2 hq2 hxs d1 d2 f2 c1 HW HN3 HWQ
          generalize wq.drew = wd at kO kE kB
          have HKO := hid kO
          have HKE := hid kE
          have HKB := hid kB
          clear kO kE kB
          go_wp2_with fail
          go_loopw [9] (fun j wi => ∃ (n : Nat) (E' : List Int), n ≤ t[i].after.length ∧ j = .int .i64 n ∧ E' = (t[i].after.take n).foldl (relax o) E ∧ Own wi w1.heap.size 2 (.slice (some ⟨gV, 0, none⟩) t.length vq) E' ∧ Own wi w2.heap.size 2 (.slice (some ⟨w2.heap.size, 0, none⟩) t.length t.length) L2 ∧ Below w1.heap.size w1 wi) (fun j _ => t[i].after.length - (intOf j).toNat)
          case atStart => exact ⟨0, E, Nat.zero_le _, rfl, rfl, HKE.out, HKO.out, HKB.out⟩
          case round =>
            obtain ⟨n, E', hna, rfl, hEe, hoE', hoO, hqi⟩ := hrel
            have c4 := box_cell hqi c4w
            have hP := hPw.below hqi
            have hal := hPw.len
            have hEl' : E'.length = t.length := by rw [hEe, relax_len]; exact hEl
            have hEb' := relax_bound (o := o) (b := -2000 * ((m : Int) + 1)) (c := 48000) (t[i].after.take n) ⟨hob.1, hob.2⟩ (by omega) (E := E) (fun k => by have := hEb k; omega)
            rw [← hEe] at hEb'
            by_cases hnt : n < t[i].after.length
            · obtain ⟨b2, off2, rfl, c5⟩ := hP.int hnt
              have ha := haf _ (List.getElem_mem hnt)
              have hnx := relax_next o t[i].after E hnt
              rw [← hEe] at hnx
              unfold relax at hnx
              generalize t[i].after[n] = a at c5 ha hnx
              have haE : a.toNat < E'.length := by omega
              have hEa : E'.getD a.toNat 0 = E'[a.toNat] := by simp [haE]
              rw [hEa] at hnx
              have hab := hEb' a.toNat
              rw [hEa] at hab
              obtain ⟨d1, f1⟩ := hoE'.int haE
              obtain ⟨d2, _⟩ := hoO.int (k := i) (by omega)
              have hLo' : L2[i]'(by omega) = o := by
                have := hLo
                rw [List.getD_eq_getElem?_getD, List.getElem?_eq_getElem (by omega)] at this
                exact this
              rw [hLo'] at d2
              have hset := hoE'.intSet haE (min E'[a.toNat] o)
              have hO2 := hoO.past (p := ⟨gV, a.toNat, none⟩) hgV2 (.int .i64 (min E'[a.toNat] o))
              have hq2 := hqi.setCell (p := ⟨gV, a.toNat, none⟩) hgV (.int .i64 (min E'[a.toNat] o))
              have HNX := hid hnx
              have HS := hid hset
              have HO2 := hid hO2
              have HQ2 := hid hq2
              have hae : (a : Int) < t.length := by omega
              have ha0 := ha.1
              have hil2 : (i : Int) < t.length := by omega
              clear hnx hset hO2 hq2 hoO hoE' hqi hP hEe
              go_wp2_with fail
              go_region_with (go_at_call 94; refine (specMin _ _ _).mono ?_; rintro e w' ⟨rfl, rfl⟩)
              all_goals
                go_wp2_with fail
                exact ⟨⟨n + 1, _, by omega, by go_num, HNX.out.symm, HS.out, HO2.out, HQ2.out.drew⟩, by simp [intOf]; omega⟩
            · have hnl : Hid (n = t[i].after.length) := by show n = t[i].after.length; omega
              have HO' := hid hoE'
              have HOO := hid hoO
              have HQI := hid hqi
              have HEE := hid hEe
              clear hoE' hoO hqi hEe hP
              go_wp2_with fail
              go_roundw
              case rel => exact ⟨m + 1, E', by omega, val_int (by have := HI.out; omega), by rw [HEE.out, hnl.out, List.take_length]; exact HX2.out, hEb', HO'.out, by rw [HL2.out]; exact HOO.out, HQI.out⟩
              case measure => simp [intOf]
        · have hml : m = t.length := by omega
          subst hml
          have HO := hid ho
          have HQ2 := hid hq
          have hge : decide ((0 : Int) ≤ (t.length : Int) - 1 - t.length) = false := decide_eq_false (by omega)
          clear ho hoE hx1 hq
          go_wp2_with fail
          go_ret
          exact ⟨.slice (some ⟨w2.heap.size, 0, none⟩) t.length t.length, rfl, HO.out.mono (Nat.le_trans HB.out.size HQ.out.size), HB.out.trans (HQ2.out.mono HB.out.size)⟩
end Go.Proofs.Ythidlioacgadaaa
