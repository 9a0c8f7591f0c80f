/- FnReturnTimes: the walk and the row. -/
import Derived.Test.YteobejgkjjhfkaaRetLaw
import Derived.Deep.CutBlock
import Derived.Test.YteobejgkjjhfkaaBytes
import Derived.Test.YteobejgkjjhfkaaLaw
namespace Go.Proofs.Yteobejgkjjhfkaa.fnReturnTimes
open Go.ChangeShapes Go.WideShapes Go.ChangeAt Go.RowKit
set_option linter.unusedVariables false
set_option maxRecDepth 100000 in
set_option maxHeartbeats 16000000 in
theorem walk {w : World} (A0 : Option Addr) (n0 c0 : Nat) (x0 : ArgB w A0 n0) (A1 : Option Addr) (n1 c1 : Nat) (x1 : ArgB w A1 n1) :
    Calls Try.prog 5 #[.slice A0 n0 c0, .slice A1 n1 c1] w fun e w' => e = .returned (.bool true) ∧ Below w.heap.size w w' := by
  cases hL : (decide (3000 < n0) || decide (3000 < n1)) with
  | true =>
    have HL := hid hL
    go_enter Try.func5, Try.ntmps5
    go_wp2_with fail
    refine (a2Long_ _ _ _ _ _ _ _).mono ?_
    rintro e w1 ⟨rfl, rfl⟩
    rw [HL.out]
    go_wp2_with fail
    go_ret
    exact ⟨rfl, Below.refl _ _⟩
  | false =>
    have HL := hid hL
    simp only [Bool.or_eq_false_iff, decide_eq_false_iff_not] at hL
    obtain ⟨bs0, rfl, h0, hb0⟩ := x0.rd (by omega)
    obtain ⟨bs1, rfl, h1, hb1⟩ := x1.rd (by omega)
    clear hL
    have H0 := hid h0
    have H1 := hid h1
    clear h0 h1
    go_enter Try.func5, Try.ntmps5
    go_wp2_with fail
    refine (a2Long_ _ _ _ _ _ _ _).mono ?_
    rintro e w1 ⟨rfl, rfl⟩
    rw [HL.out]
    go_wp2_with fail
    refine (a2Rain_ _ _ _ _ H0.out hb0).mono ?_
    rintro e w1 ⟨u, xs, rfl, ho, hok, hb⟩
    obtain ⟨V, vq, rfl⟩ := ho.form
    have hx16 := hok.2.1
    have hx1 : 0 < xs.length := by have := hok.1; omega
    have HX := hid (ho.rd (by omega))
    have HB := hid hb
    have H1b := hid (H1.out.below hb)
    have HOK := hid hok
    clear ho hb
    go_wp2_with fail
    refine (ranksOf_ _ _ _ _ HX.out HOK.out).mono ?_
    rintro e w2 ⟨u2, rfl, ho, hb⟩
    have HB2 := hid (HB.out.trans (hb.mono HB.out.size))
    have HX2 := hid (HX.out.below hb)
    have H1c := hid (H1b.out.below hb)
    obtain ⟨V2, v2, rfl⟩ := ho.form
    have hrd2 := ho.rd (by rw [List.length_map]; omega)
    obtain ⟨b2, o2, rfl, hc2⟩ := hrd2.ints (by rw [List.length_map]; omega)
    have HC2 : Hid (∀ k (hk : k < xs.length), w2.cell? ⟨b2, o2 + k, none⟩ = some (.int .i64 (rankOf xs xs[k]))) := fun k hk => by
      have := hc2 k (by rw [List.length_map]; exact hk)
      rwa [List.getElem_map] at this
    obtain ⟨b1, o1, rfl, hc1⟩ := HX2.out.ints hx1
    have HC1 := hid hc1
    rw [List.length_map]
    clear ho hb hrd2 hc2 hc1
    go_upto_region 7 with fail
    go_wp2_with fail
    go_loopw [8] (fun i wr => ∃ k : Nat, k ≤ xs.length ∧ i = .int .i64 k ∧ ∃ n, wr = w2.drewN n) (fun i _ => xs.length - (intOf i).toNat)
    case atStart => exact ⟨0, Nat.zero_le _, rfl, 0, rfl⟩
    case round =>
      obtain ⟨k, hk, rfl, n, rfl⟩ := hrel
      by_cases hlt : k < xs.length
      · have ck := HC1.out k hlt
        have rk := HC2.out k hlt
        have HM := hid (List.getElem_mem hlt)
        have hrg := rank_range HM.out
        generalize hxk : xs[k] = X at ck rk HM hrg
        clear hxk
        have HIFF := hid (fun b (hb : b ∈ xs) => rank_iff (a := X) (b := b) (xs := xs) HM.out hb)
        generalize rankOf xs X = Y at rk hrg HIFF
        go_wp2_with fail
        go_loopw [9] (fun j wr => ∃ m : Nat, m ≤ xs.length ∧ j = .int .i64 m ∧ ∃ n, wr = w2.drewN n) (fun j _ => xs.length - (intOf j).toNat)
        case atStart => exact ⟨0, Nat.zero_le _, rfl, n, rfl⟩
        case round =>
          obtain ⟨m, hm, rfl, n2, rfl⟩ := hrel
          by_cases hlt2 : m < xs.length
          · have cm := HC1.out m hlt2
            have rm := HC2.out m hlt2
            have hif := HIFF.out _ (List.getElem_mem hlt2)
            generalize hxm : xs[m] = x at cm rm hif
            clear hxm
            generalize rankOf xs x = y at rm hif
            have hbq : (decide (x < X)) = (decide (Y < y)) := decide_eq_decide.mpr hif
            clear hif
            by_cases hD : x < X
            · have hD2 : Y < y := by simpa [hD] using hbq.symm
              clear hbq
              go_upto_region 13 with fail
              go_quiet (fail)
              go_wp2_with fail
              go_roundw
              case rel => exact ⟨m + 1, by omega, by go_num, by first | exact ⟨_, rfl⟩ | exact ⟨_, World.drewN_drewN⟩⟩
              case measure => simp [intOf]; omega
            · have hD2 : ¬ Y < y := by simpa [hD] using hbq.symm
              clear hbq
              go_upto_region 13 with fail
              go_quiet (fail)
              go_wp2_with fail
              go_roundw
              case rel => exact ⟨m + 1, by omega, by go_num, by first | exact ⟨_, rfl⟩ | exact ⟨_, World.drewN_drewN⟩⟩
              case measure => simp [intOf]; omega
          · go_wp2_with fail
            go_roundw
            case rel => exact ⟨k + 1, by omega, by go_num, n2, rfl⟩
            case measure => simp [intOf]; omega
      · have HX2 := hid (HX2.out.drewN n)
        have H1c := hid (H1c.out.drewN n)
        have HB2 := hid (HB2.out.drewN n)
        generalize w2.drewN n = w2 at HX2 H1c HB2 ⊢
        go_wp2_with fail
        refine (a2At_ _ _ _ 0 200 _ H1c.out hb1 (by omega) (by omega)).mono ?_
        rintro e w' ⟨amount, rfl, ham, rfl⟩
        have hm01 := atLeast_anti (show amount ≤ amount + 1 by omega) xs
        have HFA : Hid (atLeast amount xs ≠ 0 → _) := fun h => ret_facts (xs := xs) (n := amount) h
        have HFB : Hid (atLeast (amount + 1) xs ≠ 0 → _) := fun h => ret_facts (xs := xs) (n := amount + 1) h
        have HFM : Hid (atLeast (amount + 1) xs ≠ 0 → _) := fun h => ret_mono (xs := xs) (n := amount) (m := amount + 1) (by omega) h
        have hrA : retCode xs amount = if atLeast amount xs = 0 then 3 else 0 := rfl
        have hrB : retCode xs (amount + 1) = if atLeast (amount + 1) xs = 0 then 3 else 0 := rfl
        have hzA := (atLeast_range (amount + 1) xs).1
        go_wp2_with fail
        refine (returnTime_ _ _ _ amount _ HX2.out HOK.out (by omega)).mono ?_
        rintro e w3 ⟨rfl, hb⟩
        have HX3 := hid (HX2.out.below hb)
        have HB3 := hid (HB2.out.trans (hb.mono HB2.out.size))
        generalize retNum xs amount = N1 at HFA HFM ⊢
        generalize retDen xs amount = D1 at HFA HFM ⊢
        generalize retCode xs amount = C1 at hrA ⊢
        have HRA := hid hrA
        have HRB := hid hrB
        clear hb hrA hrB
        go_upto_region 19 with fail
        obtain ⟨w4, hw4⟩ : ∃ x, w3.alloc (.cells #[.int .i64 N1, .int .i64 D1] 40) = x := ⟨_, rfl⟩
        have hb4 : Below w3.heap.size w3 w4 := by rw [← hw4]; exact (Below.refl _ _).alloc (Nat.le_refl _) _
        have k0 : w4.cell? ⟨w3.heap.size, 0, none⟩ = some (.int .i64 N1) := by rw [← hw4]; simp [go_sem]
        have k1 : w4.cell? ⟨w3.heap.size, 1, none⟩ = some (.int .i64 D1) := by rw [← hw4]; simp [go_sem]
        have HX4 := hid (HX3.out.below hb4)
        have HB4 := hid (HB3.out.trans (hb4.mono HB3.out.size))
        have HW4 := hid hw4
        clear hw4 hb4
        rw [HW4.out]
        clear HW4
        go_wp2_with fail
        refine (returnTime_ _ _ _ (amount + 1) _ HX4.out HOK.out (by omega)).mono ?_
        rintro e w5 ⟨rfl, hb⟩
        have HB5 := hid (HB4.out.trans (hb.mono HB4.out.size))
        have k0' := box_cell hb k0
        have k1' := box_cell hb k1
        generalize retNum xs (amount + 1) = N2 at HFB HFM ⊢
        generalize retDen xs (amount + 1) = D2 at HFB HFM ⊢
        generalize retCode xs (amount + 1) = C2 at HRB ⊢
        generalize w3.heap.size = G3 at k0' k1' ⊢
        clear hb k0 k1
        go_upto_region 20 with fail
        obtain ⟨w6, hw6⟩ : ∃ x, w5.alloc (.cells #[.int .i64 N2, .int .i64 D2] 40) = x := ⟨_, rfl⟩
        have hb6 : Below w5.heap.size w5 w6 := by rw [← hw6]; exact (Below.refl _ _).alloc (Nat.le_refl _) _
        have m0 : w6.cell? ⟨w5.heap.size, 0, none⟩ = some (.int .i64 N2) := by rw [← hw6]; simp [go_sem]
        have m1 : w6.cell? ⟨w5.heap.size, 1, none⟩ = some (.int .i64 D2) := by rw [← hw6]; simp [go_sem]
        have k0 := box_cell hb6 k0'
        have k1 := box_cell hb6 k1'
        have HB6 := hid (HB5.out.trans (hb6.mono HB5.out.size))
        rw [hw6]
        generalize w5.heap.size = G5 at m0 m1 ⊢
        clear hw6 hb6 k0' k1'
        have hfa := HFA.out
        have hfb := HFB.out
        have hfm := HFM.out
        have hra := HRA.out
        have hrb := HRB.out
        generalize atLeast amount xs = a1 at *
        generalize atLeast (amount + 1) xs = a2 at *
        by_cases ha0 : a1 = 0
        · have ha2 : a2 = 0 := by omega
          rw [if_pos ha0] at hra
          rw [if_pos ha2] at hrb
          subst hra hrb
          clear hfa hfb hfm
          go_wp2_with fail
          go_ret
          exact ⟨rfl, HB6.out⟩
        · rw [if_neg ha0] at hra
          subst hra
          obtain ⟨f1, f2, f3⟩ := hfa ha0
          have d1 : decide (D1 < 1) = false := decide_eq_false (by omega)
          by_cases ha2 : a2 = 0
          · rw [if_pos ha2] at hrb
            subst hrb
            clear hfa hfb hfm
            go_wp2_with fail
            go_ret
            exact ⟨rfl, HB6.out⟩
          · rw [if_neg ha2] at hrb
            subst hrb
            obtain ⟨e1, e2, e3⟩ := hfb ha2
            have hcr := hfm ha2
            have q1 : 0 ≤ N1 * D2 := Int.mul_nonneg (by omega) (by omega)
            have q2 : N2 * D1 ≤ 17 * 17 := Int.mul_le_mul (by omega) (by omega) (by omega) (by omega)
            clear hfa hfb hfm
            go_wp2_with fail
            trace_state
            go_ret
            exact ⟨by first | rfl | exact ret_bool (by simp; omega), HB6.out⟩
set_option maxRecDepth 100000 in
theorem lifted (os : Os) (started : os.Started) (H : Type) (enc : TypeId × Value → H) :
    ReturnsInHanded {} Try.checked os 5 .any (Rows.fnReturnTimesSpec.pre6 enc Try.prog Try.f5 Rows.fnReturnTimesRow.domain false) (Rows.fnReturnTimesSpec.post enc Try.prog Try.f5 false true false false) := by
  refine returnsInHanded_of_change (C := Try.checked) ownLaw started (by kernel_rfl) Try.func5
    (ChangeSpec.witness6 (enc := enc) (C := Try.checked) false ⟨#[], #[.slice none 0 0, .slice none 0 0], []⟩ 8 (by kernel_rfl) (by kernel_rfl) (by kernel_rfl) (by kernel_rfl)) ?_
  intro W base args ds gs before hval0 hW _ _
  have hval : ∀ (j : Nat) t v, Try.f5.params[j]? = some t → args[j]? = some v → Value.okWide Try.prog W .any base t v := hval0
  have hW' := hW
  obtain ⟨p, q, hA0, hV, hbef, hfz, hnd⟩ := hW
  have hA : DataW.TrodAll enc Try.prog W 0 (fun _ => true) true Try.f5.params.toList args.toList ds p := hA0
  rw [Try.params5] at hA hval
  obtain ⟨v0, vs0, d0, ds0, p0, q0, hargs, rfl, hp0, h0, r0⟩ := trodAll_cons hA
  obtain ⟨v1, vs1, d1, ds1, p1, q1, rfl, rfl, hp1, h1, r1⟩ := trodAll_cons r0
  obtain ⟨rfl, rfl, hpl⟩ := trodAll_nil r1
  obtain rfl : args = #[v0, v1] := by cases args; simp_all
  obtain ⟨rfl, hq⟩ := trodVars_none hV
  obtain ⟨A0, n0, c0, rfl, x0⟩ := open_bytes Try.underlying22 Try.underlying5 (by kernel_rfl) (hval 0 _ v0 rfl rfl) h0
  obtain ⟨A1, n1, c1, rfl, x1⟩ := open_bytes Try.underlying22 Try.underlying5 (by kernel_rfl) (hval 1 _ v1 rfl rfl) h1
  refine (walk A0 n0 c0 x0 A1 n1 c1 x1).mono fun e W' ⟨he, hb⟩ => ?_
  subst he
  exact ⟨_, rfl, law_close laidLaw (by kernel_rfl) rfl rfl (by kernel_rfl) hW' rfl rfl rfl hb⟩

theorem over : Rows.fnReturnTimesRow.holds Try.pinned (OpenSpec.ofChange Rows.fnReturnTimesSpec) :=
  OpenClaim.holds_of_wide 5 Try.f5 rfl rfl rfl rfl rfl rfl rfl ⟨rfl, rfl, rfl, rfl, rfl⟩ rfl rfl rfl rfl rfl (by kernel_rfl) Try.func5 (by kernel_rfl)
    (of_decide_eq_true (by kernel_rfl)) (by unfold Func.isWrapper; first | (rw [if_pos (by decide +kernel)]; kernel_rfl) | (rw [if_neg (by decide +kernel)]; exact ⟨rfl, rfl⟩))
    (fun os started H enc _ => lifted os started H enc)

theorem proved : Rows.FnReturnTimesSaid := over
end Go.Proofs.Yteobejgkjjhfkaa.fnReturnTimes
