/- FnDrySpells: the walk and the row. -/
import Derived.Test.YteobejgkjjhfkaaDry
import Derived.Test.YteobejgkjjhfkaaRetLaw
import Derived.Deep.CutBlock
import Derived.Test.YteobejgkjjhfkaaBytes
import Derived.Test.YteobejgkjjhfkaaLaw
namespace Go.Proofs.Yteobejgkjjhfkaa.fnDrySpells
open Go.ChangeShapes Go.WideShapes Go.ChangeAt Go.RowKit
set_option linter.unusedVariables false
theorem own_cap {α : Type} [Enc α] {w : World} {base : Nat} {e : TypeId} {v : Value} {xs : List α} (h : Own w base e v xs) : ∃ A c, v = .slice A xs.length c ∧ xs.length ≤ c := by
  rcases h.2 with ⟨rfl, h0⟩ | ⟨g, cap, cur, rfl, _, _, hc, _⟩
  · exact ⟨none, 0, by rw [h0], by omega⟩
  · exact ⟨_, _, rfl, hc⟩
theorem rd_part {w : World} {b o : Nat} {xs : List Int} (h : Rd w (some ⟨b, o, none⟩) xs) (f n : Nat) (hf : f + n ≤ xs.length) : Rd w (some ⟨b, o + f, none⟩) ((xs.drop f).take n) := by
  refine ⟨by have := h.len; simp; omega, fun k hk => ⟨b, o + f, rfl, fun j v hv => ?_⟩⟩
  have hkn : k < n := by simp at hk; omega
  rw [List.getElem_take, List.getElem_drop] at hv
  obtain ⟨b', o', e, hc⟩ := h.2 (f + k) (by omega)
  injection e with e
  injection e with i9 j9
  subst i9 j9
  have := hc j v hv
  simp only [Enc.size] at this ⊢
  rw [← this]
  congr 2
  omega
theorem sums_nonneg : ∀ ps : List (Int × Int), (∀ p ∈ ps, 1 ≤ p.2 ∧ p.2 ≤ 16) → 0 ≤ sums ps
  | [], _ => by simp [sums]
  | p :: ps, h => by
    have h1 := h p (by simp)
    have h2 := sums_nonneg ps fun q hq => h q (by simp [hq])
    simp only [sums]
    omega
set_option maxRecDepth 100000 in
set_option maxHeartbeats 16000000 in
theorem walk {w : World} (A0 : Option Addr) (n0 c0 : Nat) (x0 : ArgB w A0 n0) :
    Calls Try.prog 4 #[.slice A0 n0 c0] w fun e w' => e = .returned (.bool true) ∧ Below w.heap.size w w' := by
  cases hL : (decide (3000 < n0) || decide (3000 < 0)) with
  | true =>
    have HL := hid hL
    go_enter Try.func4, Try.ntmps4
    go_wp2_with fail
    refine (a2Long_ _ _ _ _ _ _ _).mono ?_
    rintro e w1 ⟨rfl, rfl⟩
    rw [HL.out]
    go_wp2_with fail
    go_ret
    exact ⟨rfl, Below.refl _ _⟩
  | false =>
    have HL := hid hL
    simp only [Bool.or_eq_false_iff, decide_eq_false_iff_not] at hL
    obtain ⟨bs0, rfl, h0, hb0⟩ := x0.rd (by omega)
    clear hL
    have H0 := hid h0
    clear h0
    go_enter Try.func4, Try.ntmps4
    go_wp2_with fail
    refine (a2Long_ _ _ _ _ _ _ _).mono ?_
    rintro e w1 ⟨rfl, rfl⟩
    rw [HL.out]
    go_wp2_with fail
    refine (a2Rain_ _ _ _ _ H0.out hb0).mono ?_
    rintro e w1 ⟨u, xs, rfl, ho, hok, hb⟩
    obtain ⟨V, vq, rfl, hcap⟩ := own_cap ho
    have hx16 := hok.2.1
    have hx1 : 0 < xs.length := by have := hok.1; omega
    have HX := hid (ho.rd (by omega))
    have HB := hid hb
    have HOK := hid hok
    have HCAP := hid hcap
    clear ho hb hcap
    go_wp2_with fail
    refine (drySpells_ _ _ _ 1 _ HX.out HOK.out (by omega)).mono ?_
    rintro e w2 ⟨V2, q2, rfl, hp, hb⟩
    have HSPO := hid (spL_ok xs (fun x hx => (HOK.out.2.2 x hx).1) xs.length (Nat.le_refl _))
    have HTW := hid (sp_two HOK.out)
    have hpl := spL_len HOK.out
    rw [longE_all fun p hp => (HTW.out p hp).1] at hp ⊢
    have HP := hid hp
    have HB2 := hid (HB.out.trans (hb.mono HB.out.size))
    have HX2 := hid (HX.out.below hb)
    clear hp hb
    go_wp2_with fail
    refine (longestDry_ _ _ _ _ HX2.out HOK.out).mono ?_
    rintro e w3 ⟨rfl, hb⟩
    have HB3 := hid (HB2.out.trans (hb.mono HB2.out.size))
    have HX3 := hid (HX2.out.below hb)
    have HP3 := hid (HP.out.below hb)
    have hmx0 := lmax_ge (spL xs xs.length) 0
    have HMM := hid (lmax_mem (spL xs xs.length) 0)
    have hmx1 : lmax 0 (spL xs xs.length) ≤ 16 := by
      rcases HMM.out with e | ⟨p, hp, e⟩
      · omega
      · have := (HTW.out p hp).2; omega
    have HLI := hid (long_iff fun p hp => (HTW.out p hp).1)
    have hsum := HSPO.out.sum
    rw [List.take_length] at hsum
    have HDR : Hid (∀ n A c w, Rd w A xs → 1 ≤ n ∧ n ≤ 120 → Calls Try.prog 18 #[.slice A xs.length c, .int .i64 n] w fun e w' => ∃ V q, e = .returned (.tuple #[.slice V (longE n (spL xs xs.length)).length q, .int .i64 0]) ∧ RdP w' V (longE n (spL xs xs.length)) ∧ Below w.heap.size w w') := fun n A c w h1 h2 => drySpells_ A xs c n w h1 HOK.out h2
    have HEA := hid HSPO.out.each
    generalize spL xs xs.length = ps at HSPO HTW hpl HP HP3 hmx0 hmx1 HMM HLI hsum HDR HEA ⊢
    obtain ⟨M, hM⟩ : ∃ M, lmax 0 ps = M := ⟨_, rfl⟩
    rw [hM] at hmx0 hmx1 HLI ⊢
    have HM : Hid (lmax 0 (ps.drop 0) = M) := hid (by rw [List.drop_zero]; exact hM)
    obtain ⟨b1, o1, rfl, hc1⟩ := HX3.out.ints hx1
    have HC1 := hid hc1
    have HZ : Hid (0 + zc (xs.drop 0) = sums ps) := hid (by rw [List.drop_zero, hsum]; omega)
    have HS : Hid (sums ps = sums (ps.drop 0)) := hid (by rw [List.drop_zero])
    have hz1 := zc_range xs
    have hsr : 0 ≤ sums ps ∧ sums ps ≤ 16 := by omega
    clear hb hc1 hM hsum hz1
    generalize hSS : sums ps = S at HZ HS hsr
    clear hSS
    go_upto_region 9 with fail
    go_wp2_with fail
    go_loop [8, 9] (fun d i => ∃ (k : Nat) (a : Int), k ≤ xs.length ∧ i = .int .i64 k ∧ d = .int .i64 a ∧ a + zc (xs.drop k) = S ∧ 0 ≤ a ∧ a ≤ 16) (fun _ i => xs.length - (intOf i).toNat)
    case atStart => exact ⟨0, 0, Nat.zero_le _, rfl, rfl, HZ.out, by omega, by omega⟩
    case round =>
      obtain ⟨k, a, hk, rfl, rfl, ha, ha0, ha1⟩ := hrel
      by_cases hlt : k < xs.length
      · have c1 := HC1.out k hlt
        have hzr := zc_range (xs.drop (k + 1))
        rw [drop_cons hlt] at ha
        simp only [zc] at ha
        generalize xs[k] = x at c1 ha
        by_cases hx : x = 0
        · rw [if_pos hx] at ha
          go_wp2_with fail
          go_round
          case rel => exact ⟨k + 1, a + 1, by omega, by go_num, rfl, by omega, by omega, by omega⟩
          case measure => simp [intOf]; omega
        · rw [if_neg hx] at ha
          go_wp2_with fail
          go_round
          case rel => exact ⟨k + 1, a, by omega, by go_num, rfl, by omega, by omega, by omega⟩
          case measure => simp [intOf]; omega
      · rw [drop_end hlt] at ha
        simp only [zc] at ha
        have haS : a = S := by omega
        subst haS
        clear ha
        go_upto_region 15 with fail
        go_wp2_with fail
        go_loop [8, 10, 11] (fun d m i => ∃ (k : Nat) (a l : Int), k ≤ ps.length ∧ i = .int .i64 k ∧ d = .int .i64 a ∧ m = .int .i64 l ∧ a = sums (ps.drop k) ∧ lmax l (ps.drop k) = M ∧ 0 ≤ l ∧ l ≤ 16 ∧ 0 ≤ a ∧ a ≤ 16) (fun _ _ i => ps.length - (intOf i).toNat)
        case atStart => exact ⟨0, _, 0, Nat.zero_le _, rfl, rfl, rfl, HS.out, HM.out, by omega, by omega, by omega, by omega⟩
        case round =>
          obtain ⟨m, a, l, hm, rfl, rfl, rfl, ha, hl, hl0, hl1, ha0, ha1⟩ := hrel
          by_cases hlt2 : m < ps.length
          · obtain ⟨b, off, g, o, qq, rfl, c1, c2, c3⟩ := HP3.out.at_ hlt2
            have htw := HTW.out _ (List.getElem_mem hlt2)
            have hea := HEA.out _ (List.getElem_mem hlt2)
            have hsn : 0 ≤ sums (ps.drop (m + 1)) := sums_nonneg _ fun p hp => HTW.out p (List.mem_of_mem_drop hp)
            rw [drop_consP hlt2] at ha hl
            simp only [lmax] at hl
            simp only [sums] at ha
            generalize ps[m] = p at c2 c3 ha hl htw hea
            obtain ⟨f, n⟩ := p
            have hpos := hea.pos
            have hzz := spell_zero hea (Nat.le_refl _)
            have hpv := hea.prev
            have hnx := hea.next
            simp only at c1 c2 c3 ha hl htw hpos hzz hpv hnx
            clear hea
            obtain ⟨F, rfl⟩ : ∃ F : Nat, f = (F : Int) := ⟨f.toNat, by omega⟩
            obtain ⟨N, rfl⟩ : ∃ N : Nat, n = (N : Int) := ⟨n.toNat, by omega⟩
            simp only [Int.toNat_natCast] at hzz
            have hFN : F + N ≤ xs.length := by omega
            have hrp := rd_part HX3.out F N hFN
            have hpl2 : ((xs.drop F).take N).length = N := by simp; omega
            have hsum0 := sum_zero _ hzz
            have hcall : Calls Try.prog 17 #[.slice (some ⟨b1, o1 + F, none⟩) N (vq - F)] w3 fun e w' => e = .returned (.int .i64 0) ∧ w3 = w' := by
              have h9 := a2Sum_ (some ⟨b1, o1 + F, none⟩) ((xs.drop F).take N) (vq - F) w3 hrp (by omega) (fun x hx => by have := hzz x hx; omega)
              rw [hpl2, hsum0] at h9
              exact h9
            have HC := hid hcall
            have HPV := hid hpv
            have HNX := hid hnx
            have hcp := HCAP.out
            clear hcall hrp hpl2 hsum0 hzz hpv hnx
            have hNX2 : ∀ h : F + N < xs.length, xs[F + N] ≠ 0 := fun h => by
              have := HNX.out (F + N) (by omega) h
              rwa [getD_at h] at this
            have hPV2 : ∀ j (h : j + 1 = F) (h2 : j < xs.length), xs[j] ≠ 0 := fun j h h2 => by
              have := HPV.out j (by omega)
              rwa [getD_at h2] at this
            have H5 := hid hNX2
            have H6 := hid hPV2
            clear hNX2 hPV2 HPV HNX
            go_upto_region 22 with fail
            have d1 : decide ((F : Int) < 0) = false := decide_eq_false (by omega)
            have d2 : decide ((N : Int) < 1) = false := decide_eq_false (by omega)
            go_upto_region 23 with (go_at_call 17; refine keep_ ?_)
            refine go_ (HC.out.mono ?_)
            rintro e w' ⟨rfl, rfl⟩
            go_upto_region 24 with fail
            rcases Nat.eq_zero_or_pos F with hF0 | hF0
            · subst hF0
              by_cases hnx : 0 + N < xs.length
              · have c5 := HC1.out (0 + N) hnx
                have hy := H5.out hnx
                generalize xs[0 + N] = y at c5 hy
                rw [Nat.zero_add] at c5
                go_upto_region 26 with fail
                all_goals (by_cases hcl : l < (N : Int))
                all_goals (first | rw [show max l (N : Int) = N from by omega] at hl | rw [show max l (N : Int) = l from by omega] at hl)
                all_goals (go_wp2_with fail)
                all_goals (go_round)
                all_goals (first | exact ⟨m + 1, sums (ps.drop (m + 1)), _, by omega, by go_num, by first | rfl | exact val_int (by omega), rfl, rfl, hl, by omega, by omega, by omega, by omega⟩ | (simp [intOf] <;> omega))
              · go_upto_region 26 with fail
                all_goals (by_cases hcl : l < (N : Int))
                all_goals (first | rw [show max l (N : Int) = N from by omega] at hl | rw [show max l (N : Int) = l from by omega] at hl)
                all_goals (go_wp2_with fail)
                all_goals (go_round)
                all_goals (first | exact ⟨m + 1, sums (ps.drop (m + 1)), _, by omega, by go_num, by first | rfl | exact val_int (by omega), rfl, rfl, hl, by omega, by omega, by omega, by omega⟩ | (simp [intOf] <;> omega))
            · obtain ⟨F', rfl⟩ : ∃ F', F = F' + 1 := ⟨F - 1, by omega⟩
              have hF1 : F' < xs.length := by omega
              have c4 := HC1.out F' hF1
              have hy4 := H6.out F' rfl hF1
              generalize xs[F'] = y4 at c4 hy4
              have hy4b : (y4 == 0) = false := beq_no hy4
              by_cases hnx : F' + 1 + N < xs.length
              · have c5 := HC1.out (F' + 1 + N) hnx
                have hy := H5.out hnx
                generalize xs[F' + 1 + N] = y at c5 hy
                have hyb : (y == 0) = false := beq_no hy
                go_upto_region 26 with fail
                all_goals (by_cases hcl : l < (N : Int))
                all_goals (first | rw [show max l (N : Int) = N from by omega] at hl | rw [show max l (N : Int) = l from by omega] at hl)
                all_goals (go_wp2_with fail)
                all_goals (go_round)
                all_goals (first | exact ⟨m + 1, sums (ps.drop (m + 1)), _, by omega, by go_num, by first | rfl | exact val_int (by omega), rfl, rfl, hl, by omega, by omega, by omega, by omega⟩ | (simp [intOf] <;> omega))
              · go_upto_region 26 with fail
                all_goals (by_cases hcl : l < (N : Int))
                all_goals (first | rw [show max l (N : Int) = N from by omega] at hl | rw [show max l (N : Int) = l from by omega] at hl)
                all_goals (go_wp2_with fail)
                all_goals (go_round)
                all_goals (first | exact ⟨m + 1, sums (ps.drop (m + 1)), _, by omega, by go_num, by first | rfl | exact val_int (by omega), rfl, rfl, hl, by omega, by omega, by omega, by omega⟩ | (simp [intOf] <;> omega))
          · rw [drop_endP hlt2] at ha hl
            simp only [sums] at ha
            simp only [lmax] at hl
            subst ha hl
            clear HSPO HTW HMM HEA
            by_cases hm1 : 1 < l
            · have hli := HLI.out
              rw [show max 1 l = l from by omega] at hli
              have hdry := hid (HDR.out l (some ⟨b1, o1, none⟩) vq w3 HX3.out (by omega))
              generalize longE l ps = lo at hli hdry
              have hl0 : 0 < lo.length := by
                have : decide (0 < l) = true := decide_eq_true (by omega)
                rw [this] at hli
                exact of_decide_eq_true hli
              go_wp2_with fail
              refine hdry.out.mono ?_
              rintro e w4 ⟨V4, q4, rfl, hr4, hb4⟩
              have hlo := hr4.len
              have HB4 := hid (HB3.out.trans (hb4.mono HB3.out.size))
              clear hr4 hb4 hli
              go_wp2_with fail
              go_ret
              exact ⟨by first | rfl | exact ret_bool (by simp; omega), HB4.out⟩
            · have hli := HLI.out
              rw [show max 1 l = 1 from by omega] at hli
              have hdry := hid (HDR.out 1 (some ⟨b1, o1, none⟩) vq w3 HX3.out (by omega))
              generalize longE 1 ps = lo at hli hdry
              have HLI := hid hli
              clear hli
              go_wp2_with fail
              refine hdry.out.mono ?_
              rintro e w4 ⟨V4, q4, rfl, hr4, hb4⟩
              have hlo := hr4.len
              have HB4 := hid (HB3.out.trans (hb4.mono HB3.out.size))
              clear hr4 hb4
              have hli := decide_eq_decide.mp HLI.out
              go_wp2_with fail
              go_ret
              exact ⟨by first | rfl | exact ret_bool (by simp; omega), HB4.out⟩
set_option maxRecDepth 100000 in
theorem lifted (os : Os) (started : os.Started) (H : Type) (enc : TypeId × Value → H) :
    ReturnsInHanded {} Try.checked os 4 .any (Rows.fnDrySpellsSpec.pre6 enc Try.prog Try.f4 Rows.fnDrySpellsRow.domain false) (Rows.fnDrySpellsSpec.post enc Try.prog Try.f4 false true false false) := by
  refine returnsInHanded_of_change (C := Try.checked) ownLaw started (by kernel_rfl) Try.func4
    (ChangeSpec.witness6 (enc := enc) (C := Try.checked) false ⟨#[], #[.slice none 0 0], []⟩ 8 (by kernel_rfl) (by kernel_rfl) (by kernel_rfl) (by kernel_rfl)) ?_
  intro W base args ds gs before hval0 hW _ _
  have hval : ∀ (j : Nat) t v, Try.f4.params[j]? = some t → args[j]? = some v → Value.okWide Try.prog W .any base t v := hval0
  have hW' := hW
  obtain ⟨p, q, hA0, hV, hbef, hfz, hnd⟩ := hW
  have hA : DataW.TrodAll enc Try.prog W 0 (fun _ => true) true Try.f4.params.toList args.toList ds p := hA0
  rw [Try.params4] at hA hval
  obtain ⟨v0, vs0, d0, ds0, p0, q0, hargs, rfl, hp0, h0, r0⟩ := trodAll_cons hA
  obtain ⟨rfl, rfl, hpl⟩ := trodAll_nil r0
  obtain rfl : args = #[v0] := by cases args; simp_all
  obtain ⟨rfl, hq⟩ := trodVars_none hV
  obtain ⟨A0, n0, c0, rfl, x0⟩ := open_bytes Try.underlying22 Try.underlying5 (by kernel_rfl) (hval 0 _ v0 rfl rfl) h0
  refine (walk A0 n0 c0 x0).mono fun e W' ⟨he, hb⟩ => ?_
  subst he
  exact ⟨_, rfl, law_close laidLaw (by kernel_rfl) rfl rfl (by kernel_rfl) hW' rfl rfl rfl hb⟩

theorem over : Rows.fnDrySpellsRow.holds Try.pinned (OpenSpec.ofChange Rows.fnDrySpellsSpec) :=
  OpenClaim.holds_of_wide 4 Try.f4 rfl rfl rfl rfl rfl rfl rfl ⟨rfl, rfl, rfl, rfl, rfl⟩ rfl rfl rfl rfl rfl (by kernel_rfl) Try.func4 (by kernel_rfl)
    (of_decide_eq_true (by kernel_rfl)) (by unfold Func.isWrapper; first | (rw [if_pos (by decide +kernel)]; kernel_rfl) | (rw [if_neg (by decide +kernel)]; exact ⟨rfl, rfl⟩))
    (fun os started H enc _ => lifted os started H enc)

theorem proved : Rows.FnDrySpellsSaid := over
end Go.Proofs.Yteobejgkjjhfkaa.fnDrySpells
