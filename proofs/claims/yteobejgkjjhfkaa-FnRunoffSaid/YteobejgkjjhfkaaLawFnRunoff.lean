/- FnRunoff: the walk and the row. -/
import Derived.Test.YteobejgkjjhfkaaRunoff
import Derived.Deep.CutBlock
import Derived.Test.YteobejgkjjhfkaaBytes
import Derived.Test.YteobejgkjjhfkaaLaw
namespace Go.Proofs.Yteobejgkjjhfkaa.fnRunoff
open Go.ChangeShapes Go.WideShapes Go.ChangeAt Go.RowKit
set_option linter.unusedVariables false
theorem sum_range : ∀ (xs : List Int), (∀ x ∈ xs, 0 ≤ x ∧ x ≤ 199) → 0 ≤ xs.sum ∧ xs.sum ≤ 199 * xs.length
  | [], _ => by simp
  | x :: xs, h => by
    have h1 := h x (by simp)
    have h2 := sum_range xs fun y hy => h y (by simp [hy])
    simp only [List.sum_cons, List.length_cons]
    omega
set_option maxRecDepth 100000 in
set_option maxHeartbeats 16000000 in
theorem walk {w : World} (A0 : Option Addr) (n0 c0 : Nat) (x0 : ArgB w A0 n0) (A1 : Option Addr) (n1 c1 : Nat) (x1 : ArgB w A1 n1) :
    Calls Try.prog 3 #[.slice A0 n0 c0, .slice A1 n1 c1] w fun e w' => e = .returned (.bool true) ∧ Below w.heap.size w w' := by
  cases hL : (decide (3000 < n0) || decide (3000 < n1)) with
  | true =>
    have HL := hid hL
    go_enter Try.func3, Try.ntmps3
    go_wp2_with fail
    refine (a2Long_ _ _ _ _ _ _ _).mono ?_
    rintro e w1 ⟨rfl, rfl⟩
    rw [HL.out]
    go_wp2_with fail
    go_ret
    exact ⟨rfl, Below.refl _ _⟩
  | false =>
    have HL := hid hL
    simp only [Bool.or_eq_false_iff, decide_eq_false_iff_not] at hL
    obtain ⟨bs0, rfl, h0, hb0⟩ := x0.rd (by omega)
    obtain ⟨bs1, rfl, h1, hb1⟩ := x1.rd (by omega)
    clear hL
    have H0 := hid h0
    have H1 := hid h1
    clear h0 h1
    go_enter Try.func3, Try.ntmps3
    go_wp2_with fail
    refine (a2Long_ _ _ _ _ _ _ _).mono ?_
    rintro e w1 ⟨rfl, rfl⟩
    rw [HL.out]
    go_wp2_with fail
    refine (a2Rain_ _ _ _ _ H0.out hb0).mono ?_
    rintro e w1 ⟨u, xs, rfl, ho, hok, hb⟩
    obtain ⟨V, vq, rfl⟩ := ho.form
    have hx16 := hok.2.1
    have HX := hid (ho.rd (by omega))
    have HB := hid hb
    have H1b := hid (H1.out.below hb)
    have HOK := hid hok
    clear ho hb
    go_wp2_with fail
    refine (a2At_ _ _ _ 0 60 _ H1b.out hb1 (by omega) (by omega)).mono ?_
    rintro e w' ⟨loss, rfl, hl, rfl⟩
    go_wp2_with fail
    refine (a2At_ _ _ _ 1 100 _ H1b.out hb1 (by omega) (by omega)).mono ?_
    rintro e w' ⟨held, rfl, hh, rfl⟩
    go_wp2_with fail
    refine (roomFor_ _ _ _ loss held _ HX.out HOK.out (by omega) (by omega)).mono ?_
    rintro e w2 ⟨rfl, hb⟩
    have HB2 := hid (HB.out.trans (hb.mono HB.out.size))
    have HX2 := hid (HX.out.below hb)
    have hR0 := room_le loss xs held held
    have hR1 := room_top loss xs held held 99 hl.1 hh.1 (by omega) (by omega) HOK.out.2.2
    have HSOME : Hid (∀ room, held ≤ room → room < roomL loss xs held held → 0 < (runL loss room xs held).1.sum) := fun room h1 h2 => run_some loss room xs held held h1 h2
    have HNONE := hid (run_none loss (roomL loss xs held held) hl.1 xs held held HOK.out.2.2 hh.1 hR0 (Int.le_refl _))
    generalize roomL loss xs held held = R at hR0 hR1 HSOME HNONE ⊢
    clear hb
    go_wp2_with fail
    refine (runoffOf_ _ _ _ R loss held _ HX2.out HOK.out (by omega) (by omega) (by omega)).mono ?_
    rintro e w3 ⟨u2, rfl, ho, hb⟩
    have hln := runL_len loss R xs held
    have hrg := run_range loss R hl.1 (by omega) xs held HOK.out.2.2 hR0
    generalize (runL loss R xs held).2 = left at HNONE ⊢
    generalize (runL loss R xs held).1 = offs at HNONE hln hrg ho ⊢
    obtain ⟨V2, v2, rfl⟩ := ho.form
    have HOF := hid (ho.rd (by omega))
    have HX3 := hid (HX2.out.below hb)
    have HB3 := hid (HB2.out.trans (hb.mono HB2.out.size))
    have HRG := hid hrg
    have HXG : Hid (∀ x ∈ xs, 0 ≤ x ∧ x ≤ 100000) := fun x hx => by have := HOK.out.2.2 x hx; omega
    obtain ⟨s0, l0, l1, q0, q1⟩ := HNONE.out
    obtain ⟨t0, t1⟩ := sum_range xs HOK.out.2.2
    have hp0 : 0 ≤ loss * (xs.length : Int) := Int.mul_nonneg hl.1 (by omega)
    have hp1 : loss * (xs.length : Int) ≤ 59 * 16 := Int.mul_le_mul (by omega) (by omega) (by omega) (by omega)
    have hof : offs.length ≤ 1000 := by omega
    have hxf : xs.length ≤ 1000 := by omega
    clear ho hb hrg
    have hcall : Calls Try.prog 17 #[.slice V2 xs.length v2] w3 fun e w' => e = .returned (.int .i64 0) ∧ w3 = w' := by
      have h9 := a2Sum_ V2 offs v2 w3 HOF.out hof HRG.out
      rw [hln, s0] at h9
      exact h9
    obtain ⟨S, hSg⟩ : ∃ S, xs.sum = S := ⟨_, rfl⟩
    have hcall2 : Calls Try.prog 17 #[.slice V xs.length vq] w3 fun e w' => e = .returned (.int .i64 S) ∧ w3 = w' := by
      have h9 := a2Sum_ V xs vq w3 HX3.out hxf HXG.out
      rw [hSg] at h9
      exact h9
    rw [hSg] at q0 q1 t0 t1
    have HC1 := hid hcall
    have HC2 := hid hcall2
    rw [hln]
    clear hcall hcall2 hln hSg s0 HOF HRG hof HNONE
    go_upto_region 10 with (go_at_call 17; refine HC1.out.mono ?_; rintro e w' ⟨rfl, rfl⟩)
    go_upto_region 11 with (go_at_call 17; refine HC2.out.mono ?_; rintro e w' ⟨rfl, rfl⟩)
    by_cases hRh : R = held
    · have hd1 : decide (held + S - left < 0) = false := decide_eq_false (by omega)
      go_wp2_with fail
      go_ret
      exact ⟨rfl, HB3.out⟩
    · have hlt : held < R := by omega
      have hRb : 0 ≤ R - 1 ∧ R - 1 ≤ 50000 := by omega
      have hhb : 0 ≤ held ∧ held ≤ R - 1 := by omega
      have hpos := HSOME.out (R - 1) hhb.2 (by omega)
      have hln3 := runL_len loss (R - 1) xs held
      have hrg3 := run_range loss (R - 1) hl.1 hRb xs held HOK.out.2.2 hhb.2
      have hlf3 := run_left loss (R - 1) xs held hhb.2
      have HPOS := hid hpos
      have HLN3 := hid hln3
      have HRG3 := hid hrg3
      have HLF3 := hid hlf3
      clear hpos hln3 hrg3 hlf3
      go_wp2_with fail
      refine (runoffOf_ _ _ _ (R - 1) loss held _ HX3.out HOK.out (by omega) hRb hhb).mono ?_
      rintro e w4 ⟨u3, rfl, ho, hb⟩
      generalize (runL loss (R - 1) xs held).2 = rest at HLF3 ⊢
      generalize (runL loss (R - 1) xs held).1 = less at HPOS HLN3 HRG3 ho ⊢
      obtain ⟨V3, v3, rfl⟩ := ho.form
      have hless : less.length ≤ 1000 := by rw [HLN3.out]; omega
      obtain ⟨T, hT⟩ : ∃ T, less.sum = T := ⟨_, rfl⟩
      have hcall3 : Calls Try.prog 17 #[.slice V3 xs.length v3] w4 fun e w' => e = .returned (.int .i64 T) ∧ w4 = w' := by
        have h9 := a2Sum_ V3 less v3 w4 (ho.rd (by omega)) hless HRG3.out
        rw [HLN3.out, hT] at h9
        exact h9
      have HC3 := hid hcall3
      have hTp : 0 < T := by rw [← hT]; exact HPOS.out
      have hrst := HLF3.out
      have HB4 := hid (HB3.out.trans (hb.mono HB3.out.size))
      rw [HLN3.out]
      clear hcall3 hT ho hb hless
      go_wp2_with (go_at_call 17; refine HC3.out.mono ?_; rintro e w' ⟨rfl, rfl⟩)
      go_ret
      exact ⟨by first | rfl | exact ret_bool (by simp; omega), HB4.out⟩
set_option maxRecDepth 100000 in
theorem lifted (os : Os) (started : os.Started) (H : Type) (enc : TypeId × Value → H) :
    ReturnsInHanded {} Try.checked os 3 .any (Rows.fnRunoffSpec.pre6 enc Try.prog Try.f3 Rows.fnRunoffRow.domain false) (Rows.fnRunoffSpec.post enc Try.prog Try.f3 false true false false) := by
  refine returnsInHanded_of_change (C := Try.checked) ownLaw started (by kernel_rfl) Try.func3
    (ChangeSpec.witness6 (enc := enc) (C := Try.checked) false ⟨#[], #[.slice none 0 0, .slice none 0 0], []⟩ 8 (by kernel_rfl) (by kernel_rfl) (by kernel_rfl) (by kernel_rfl)) ?_
  intro W base args ds gs before hval0 hW _ _
  have hval : ∀ (j : Nat) t v, Try.f3.params[j]? = some t → args[j]? = some v → Value.okWide Try.prog W .any base t v := hval0
  have hW' := hW
  obtain ⟨p, q, hA0, hV, hbef, hfz, hnd⟩ := hW
  have hA : DataW.TrodAll enc Try.prog W 0 (fun _ => true) true Try.f3.params.toList args.toList ds p := hA0
  rw [Try.params3] at hA hval
  obtain ⟨v0, vs0, d0, ds0, p0, q0, hargs, rfl, hp0, h0, r0⟩ := trodAll_cons hA
  obtain ⟨v1, vs1, d1, ds1, p1, q1, rfl, rfl, hp1, h1, r1⟩ := trodAll_cons r0
  obtain ⟨rfl, rfl, hpl⟩ := trodAll_nil r1
  obtain rfl : args = #[v0, v1] := by cases args; simp_all
  obtain ⟨rfl, hq⟩ := trodVars_none hV
  obtain ⟨A0, n0, c0, rfl, x0⟩ := open_bytes Try.underlying22 Try.underlying5 (by kernel_rfl) (hval 0 _ v0 rfl rfl) h0
  obtain ⟨A1, n1, c1, rfl, x1⟩ := open_bytes Try.underlying22 Try.underlying5 (by kernel_rfl) (hval 1 _ v1 rfl rfl) h1
  refine (walk A0 n0 c0 x0 A1 n1 c1 x1).mono fun e W' ⟨he, hb⟩ => ?_
  subst he
  exact ⟨_, rfl, law_close laidLaw (by kernel_rfl) rfl rfl (by kernel_rfl) hW' rfl rfl rfl hb⟩

theorem over : Rows.fnRunoffRow.holds Try.pinned (OpenSpec.ofChange Rows.fnRunoffSpec) :=
  OpenClaim.holds_of_wide 3 Try.f3 rfl rfl rfl rfl rfl rfl rfl ⟨rfl, rfl, rfl, rfl, rfl⟩ rfl rfl rfl rfl rfl (by kernel_rfl) Try.func3 (by kernel_rfl)
    (of_decide_eq_true (by kernel_rfl)) (by unfold Func.isWrapper; first | (rw [if_pos (by decide +kernel)]; kernel_rfl) | (rw [if_neg (by decide +kernel)]; exact ⟨rfl, rfl⟩))
    (fun os started H enc _ => lifted os started H enc)

theorem proved : Rows.FnRunoffSaid := over
end Go.Proofs.Yteobejgkjjhfkaa.fnRunoff
