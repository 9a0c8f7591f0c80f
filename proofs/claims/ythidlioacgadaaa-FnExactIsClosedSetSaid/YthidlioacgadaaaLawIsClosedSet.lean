/- FnExactIsClosedSet: the walk and the row. Written by a program (genlaw3.py). -/
import Derived.Test.YthidlioacgadaaaClosed
import Derived.Test.YthidlioacgadaaaLaw
import Derived.Test.YthidlioacgadaaaKind
import Derived.Deep.RegionHeld3
namespace Go.Proofs.Ythidlioacgadaaa.fnExactIsClosedSet
open Go.ChangeShapes Go.WideShapes Go.ChangeAt Go.RowKit
set_option linter.unusedVariables false
set_option maxHeartbeats 16000000 in
theorem walk {w : World} (Ax0 : Option Addr) (nx0 : Nat) (cx0 : Nat) (x0 : ArgTaskS w (.slice Ax0 nx0 cx0)) (A1 : Option Addr) (n1 c1 : Nat) (x1 : Arg Int w A1 n1) :
    Calls Try.prog 6 #[.slice Ax0 nx0 cx0, .slice A1 n1 c1] w fun e w' => e = .returned (.bool true) ∧ Below w.heap.size w w' := by
  have BB := Below.refl w.heap.size w
  obtain ⟨hn1, hx1⟩ := x1
  by_cases g1 : (1048576 : Int) < n1
  · go_enter Try.func6, Try.ntmps6
    go_wp2_with fail
    go_ret
    exact ⟨rfl, BB⟩
  obtain ⟨xs1, rfl, h1, ft1⟩ := hx1 (by omega)
  rcases szTaskS_ x0 (1048576 : Int) (by omega) (by omega) with s0 | ⟨l0, t0, lb0, h0, ft0, s0⟩
  · go_enter Try.func6, Try.ntmps6
    go_wp2_with fail
    refine (s0 _ BB).mono ?_
    rintro e w1 ⟨rfl, b1⟩
    have z1 := hid b1.size
    have B := BB.trans (b1.mono BB.size)
    clear b1
    go_wp2_with fail
    go_ret
    exact ⟨rfl, B⟩
  have lc0 := lb0.1
  have ld0 := lb0.2
  go_enter Try.func6, Try.ntmps6
  go_wp2_with fail
  refine (s0 _ BB).mono ?_
  rintro e w1 ⟨rfl, b1⟩
  have z1 := hid b1.size
  have B := BB.trans (b1.mono BB.size)
  clear b1
  go_wp2_with fail
  have H0 := h0.below B
  have H1 := h1.below B
  refine (toTaskS_ (.slice Ax0 nx0 cx0) t0 _ H0).mono ?_
  rintro e w2 ⟨u2, rfl, o2, b2⟩
  obtain ⟨Ay2, cy2, rfl⟩ := o2.form
  have z2 := hid b2.size
  replace B := B.trans (b2.mono B.size)
  replace H0 := H0.below b2
  replace H1 := H1.below b2
  clear b2
  go_wp2_with fail
  refine (toInt64S A1 xs1 c1 _ H1).mono ?_
  rintro e w3 ⟨u3, rfl, o3, b3⟩
  obtain ⟨P3, k3, rfl⟩ := o3.form
  replace o3 := Lies.of o3
  have z3 := hid b3.size
  replace B := B.trans (b3.mono B.size)
  replace o2 := o2.below b3
  replace H0 := H0.below b3
  replace H1 := H1.below b3
  clear b3
  go_wp2_with fail
  refine (specIsClosed _ t0 P3 xs1 k3 _ (o2.rd ft0) (o3.rd (by omega)) ).mono ?_
  rintro e w4 ⟨rfl, b4⟩
  have z4 := hid b4.size
  replace B := B.trans (b4.mono B.size)
  replace o2 := o2.below b4
  replace o3 := o3.below b4
  replace H0 := H0.below b4
  replace H1 := H1.below b4
  clear b4
  go_wp2_with fail
  clear o2
  clear o3
  refine (toTaskS_ (.slice Ax0 nx0 cx0) t0 _ H0).mono ?_
  rintro e w5 ⟨u5, rfl, o5, b5⟩
  obtain ⟨Ay5, cy5, rfl⟩ := o5.form
  have z5 := hid b5.size
  replace B := B.trans (b5.mono B.size)
  replace H0 := H0.below b5
  replace H1 := H1.below b5
  clear b5
  go_wp2_with fail
  refine (toInt64S A1 xs1 c1 _ H1).mono ?_
  rintro e w6 ⟨u6, rfl, o6, b6⟩
  obtain ⟨P6, k6, rfl⟩ := o6.form
  replace o6 := Lies.of o6
  have z6 := hid b6.size
  replace B := B.trans (b6.mono B.size)
  replace o5 := o5.below b6
  replace H0 := H0.below b6
  replace H1 := H1.below b6
  clear b6
  go_wp2_with fail
  refine (implIsClosed _ t0 P6 xs1 k6 _ (o5.rd ft0) (o6.rd (by omega)) ).mono ?_
  rintro e w7 ⟨rfl, b7⟩
  have z7 := hid b7.size
  replace B := B.trans (b7.mono B.size)
  replace o5 := o5.below b7
  replace o6 := o6.below b7
  replace H0 := H0.below b7
  replace H1 := H1.below b7
  clear b7
  go_wp2_with fail
  refine (toTaskS_ (.slice Ax0 nx0 cx0) t0 _ H0).mono ?_
  rintro e w8 ⟨u8, rfl, o8, b8⟩
  obtain ⟨Ay8, cy8, rfl⟩ := o8.form
  have z8 := hid b8.size
  replace B := B.trans (b8.mono B.size)
  replace o5 := o5.below b8
  replace o6 := o6.below b8
  replace H0 := H0.below b8
  replace H1 := H1.below b8
  clear b8
  go_wp2_with fail
  refine (eqTaskS_ _ _ t0 t0 _ (o5.rd ft0) (o8.rd ft0)).mono ?_
  rintro e w9 ⟨rfl, b9⟩
  have z9 := hid b9.size
  replace B := B.trans (b9.mono B.size)
  replace o5 := o5.below b9
  replace o6 := o6.below b9
  replace o8 := o8.below b9
  replace H0 := H0.below b9
  replace H1 := H1.below b9
  clear b9
  go_wp2_with fail
  clear o8
  refine (toInt64S A1 xs1 c1 _ H1).mono ?_
  rintro e w10 ⟨u10, rfl, o10, b10⟩
  obtain ⟨P10, k10, rfl⟩ := o10.form
  replace o10 := Lies.of o10
  have z10 := hid b10.size
  replace B := B.trans (b10.mono B.size)
  replace o5 := o5.below b10
  replace o6 := o6.below b10
  replace H0 := H0.below b10
  replace H1 := H1.below b10
  clear b10
  go_wp2_with fail
  refine (eqInt64S P6 P10 xs1 xs1 _ _ _ (o6.rd (by omega)) (o10.rd (by omega))).mono ?_
  rintro e w11 ⟨rfl, b11⟩
  have z11 := hid b11.size
  replace B := B.trans (b11.mono B.size)
  replace o5 := o5.below b11
  replace o6 := o6.below b11
  replace o10 := o10.below b11
  replace H0 := H0.below b11
  replace H1 := H1.below b11
  clear b11
  go_wp2_with fail
  clear o10
  go_ret
  exact ⟨rfl, B⟩
set_option maxRecDepth 100000 in
theorem lifted (os : Os) (started : os.Started) (H : Type) (enc : TypeId × Value → H) :
    ReturnsInHanded {} Try.checked os 6 .any (Rows.fnExactIsClosedSetSpec.pre6 enc Try.prog Try.f6 Rows.fnExactIsClosedSetRow.domain false) (Rows.fnExactIsClosedSetSpec.post enc Try.prog Try.f6 false true false false) := by
  refine returnsInHanded_of_change (C := Try.checked) ownLaw started (by kernel_rfl) Try.func6
    (ChangeSpec.witness6 (enc := enc) (C := Try.checked) false ⟨#[], #[.slice none 0 0, .slice none 0 0], []⟩ 8 (by kernel_rfl) (by kernel_rfl) (by kernel_rfl) (by kernel_rfl)) ?_
  intro W base args ds gs before hval0 hW _ _
  have hval : ∀ (j : Nat) t v, Try.f6.params[j]? = some t → args[j]? = some v → Value.okWide Try.prog W .any base t v := hval0
  have hW' := hW
  obtain ⟨p, q, hA0, hV, hbef, hfz, hnd⟩ := hW
  have hA : DataW.TrodAll enc Try.prog W 0 (fun _ => true) true Try.f6.params.toList args.toList ds p := hA0
  rw [Try.params6] at hA hval
  obtain ⟨v0, vs0, d0, ds0, p0, q0, hargs, rfl, hp0, h0, r0⟩ := trodAll_cons hA
  obtain ⟨v1, vs1, d1, ds1, p1, q1, rfl, rfl, hp1, h1, r1⟩ := trodAll_cons r0
  obtain ⟨rfl, rfl, hpl⟩ := trodAll_nil r1
  obtain rfl : args = #[v0, v1] := by cases args; simp_all
  obtain ⟨rfl, hq⟩ := trodVars_none hV
  have x0 := openTaskS_ (hval 0 _ v0 rfl rfl) h0
  obtain ⟨Ax0, nx0, cx0, rfl⟩ := x0.form
  obtain ⟨A1, n1, c1, rfl, x1⟩ := open_nums Try.underlying32 Try.underlying2 (by kernel_rfl) (hval 1 _ v1 rfl rfl) h1
  refine (walk Ax0 nx0 cx0 x0 A1 n1 c1 x1).mono fun e W' ⟨he, hb⟩ => ?_
  subst he
  exact ⟨_, rfl, law_close laidLaw (by kernel_rfl) rfl rfl (by kernel_rfl) hW' rfl rfl rfl hb⟩

theorem over : Rows.fnExactIsClosedSetRow.holds Try.pinned (OpenSpec.ofChange Rows.fnExactIsClosedSetSpec) :=
  OpenClaim.holds_of_wide 6 Try.f6 rfl rfl rfl rfl rfl rfl rfl ⟨rfl, rfl, rfl, rfl, rfl⟩ rfl rfl rfl rfl rfl (by kernel_rfl) Try.func6 (by kernel_rfl)
    (of_decide_eq_true (by kernel_rfl)) (by unfold Func.isWrapper; first | (rw [if_pos (by decide +kernel)]; kernel_rfl) | (rw [if_neg (by decide +kernel)]; exact ⟨rfl, rfl⟩))
    (fun os started H enc _ => lifted os started H enc)

theorem proved : Rows.FnExactIsClosedSetSaid := over
end Go.Proofs.Ythidlioacgadaaa.fnExactIsClosedSet
