/- FnExactCriticalTasks: the walk and the row. Written by a program (genlaw3.py). -/
import Derived.Test.YthidlioacgadaaaCrit
import Derived.Test.YthidlioacgadaaaLaw
import Derived.Test.YthidlioacgadaaaKind
import Derived.Deep.RegionHeld3
namespace Go.Proofs.Ythidlioacgadaaa.fnExactCriticalTasks
open Go.ChangeShapes Go.WideShapes Go.ChangeAt Go.RowKit
set_option linter.unusedVariables false
set_option maxHeartbeats 16000000 in
theorem walk {w : World} (Ax0 : Option Addr) (nx0 : Nat) (cx0 : Nat) (x0 : ArgTaskS w (.slice Ax0 nx0 cx0)) :
    Calls Try.prog 13 #[.slice Ax0 nx0 cx0] w fun e w' => e = .returned (.bool true) ∧ Below w.heap.size w w' := by
  have BB := Below.refl w.heap.size w
  rcases szTaskS_ x0 (1048576 : Int) (by omega) (by omega) with s0 | ⟨l0, t0, lb0, h0, ft0, s0⟩
  · go_enter Try.func13, Try.ntmps13
    go_wp2_with fail
    refine (s0 _ BB).mono ?_
    rintro e w1 ⟨rfl, b1⟩
    have z1 := hid b1.size
    have B := BB.trans (b1.mono BB.size)
    clear b1
    go_wp2_with fail
    go_ret
    exact ⟨rfl, B⟩
  have lc0 := lb0.1
  have ld0 := lb0.2
  have yl : (critF t0).length ≤ 1048576 := critF_len t0
  have YL := hid yl
  clear yl
  go_enter Try.func13, Try.ntmps13
  go_wp2_with fail
  refine (s0 _ BB).mono ?_
  rintro e w1 ⟨rfl, b1⟩
  have z1 := hid b1.size
  have B := BB.trans (b1.mono BB.size)
  clear b1
  go_wp2_with fail
  have H0 := h0.below B
  refine (toTaskS_ (.slice Ax0 nx0 cx0) t0 _ H0).mono ?_
  rintro e w2 ⟨u2, rfl, o2, b2⟩
  obtain ⟨Ay2, cy2, rfl⟩ := o2.form
  have z2 := hid b2.size
  replace B := B.trans (b2.mono B.size)
  replace H0 := H0.below b2
  clear b2
  go_wp2_with fail
  refine (specCritical _ t0 _ (o2.rd ft0) ).mono ?_
  rintro e w3 ⟨u3, rfl, o3, b3⟩
  obtain ⟨P3, k3, rfl⟩ := o3.form
  replace o3 := Lies.of o3
  have z3 := hid b3.size
  replace B := B.trans (b3.mono B.size)
  replace o2 := o2.below b3
  replace H0 := H0.below b3
  clear b3
  go_wp2_with fail
  clear o2
  refine (toTaskS_ (.slice Ax0 nx0 cx0) t0 _ H0).mono ?_
  rintro e w4 ⟨u4, rfl, o4, b4⟩
  obtain ⟨Ay4, cy4, rfl⟩ := o4.form
  have z4 := hid b4.size
  replace B := B.trans (b4.mono B.size)
  replace o3 := o3.below b4
  replace H0 := H0.below b4
  clear b4
  go_wp2_with fail
  refine (implCritical _ t0 _ (o4.rd ft0) ).mono ?_
  rintro e w5 ⟨u5, rfl, o5, b5⟩
  obtain ⟨P5, k5, rfl⟩ := o5.form
  replace o5 := Lies.of o5
  have z5 := hid b5.size
  replace B := B.trans (b5.mono B.size)
  replace o3 := o3.below b5
  replace o4 := o4.below b5
  replace H0 := H0.below b5
  clear b5
  go_wp2_with fail
  refine (eqInt64S P5 P3 (critF t0) (critF t0) _ _ _ (o5.rd YL.out) (o3.rd YL.out)).mono ?_
  rintro e w6 ⟨rfl, b6⟩
  have z6 := hid b6.size
  replace B := B.trans (b6.mono B.size)
  replace o3 := o3.below b6
  replace o4 := o4.below b6
  replace o5 := o5.below b6
  replace H0 := H0.below b6
  clear b6
  go_wp2_with fail
  refine (toTaskS_ (.slice Ax0 nx0 cx0) t0 _ H0).mono ?_
  rintro e w7 ⟨u7, rfl, o7, b7⟩
  obtain ⟨Ay7, cy7, rfl⟩ := o7.form
  have z7 := hid b7.size
  replace B := B.trans (b7.mono B.size)
  replace o3 := o3.below b7
  replace o4 := o4.below b7
  replace o5 := o5.below b7
  replace H0 := H0.below b7
  clear b7
  go_wp2_with fail
  refine (eqTaskS_ _ _ t0 t0 _ (o4.rd ft0) (o7.rd ft0)).mono ?_
  rintro e w8 ⟨rfl, b8⟩
  have z8 := hid b8.size
  replace B := B.trans (b8.mono B.size)
  replace o3 := o3.below b8
  replace o4 := o4.below b8
  replace o5 := o5.below b8
  replace o7 := o7.below b8
  replace H0 := H0.below b8
  clear b8
  go_wp2_with fail
  clear o7
  refine (markTaskS_ _ _ _ _ _ _ o4 ft0 (by omega) (by omega)).mono ?_
  rintro e w9 ⟨q9, rfl, m9, S9⟩
  have ma9 := m9.1
  have mb9 := m9.2
  clear o4
  replace o3 := o3.span S9 (by have := z1.out; have := z2.out; have := z3.out; have := z4.out; have := z5.out; have := z6.out; have := z7.out; have := z8.out; omega)
  replace o5 := o5.span S9 (by have := z1.out; have := z2.out; have := z3.out; have := z4.out; have := z5.out; have := z6.out; have := z7.out; have := z8.out; omega)
  replace B := below_span B S9 (by have := z1.out; have := z2.out; have := z3.out; have := z4.out; have := z5.out; have := z6.out; have := z7.out; have := z8.out; omega) B.size
  have z9 := hid S9.size
  replace H0 := h0.below B
  go_wp2_with fail
  refine (eqInt64S P5 P3 (critF t0) (critF t0) _ _ _ (o5.rd YL.out) (o3.rd YL.out)).mono ?_
  rintro e w10 ⟨rfl, b10⟩
  have z10 := hid b10.size
  replace B := B.trans (b10.mono B.size)
  replace o3 := o3.below b10
  replace o5 := o5.below b10
  replace H0 := H0.below b10
  clear b10
  go_wp2_with fail
  refine (markInt64S _ _ _ _ _ o5.1 YL.out (by omega) (by omega)).mono ?_
  rintro e w11 ⟨rfl, p11, hg11⟩
  have S11 := o5.spans hg11
  replace o3 := o3.span S11 (by have := z1.out; have := z2.out; have := z3.out; have := z4.out; have := z5.out; have := z6.out; have := z7.out; have := z8.out; have := z9.out; have := z10.out; omega)
  replace B := below_span B S11 (by have := z1.out; have := z2.out; have := z3.out; have := z4.out; have := z5.out; have := z6.out; have := z7.out; have := z8.out; have := z9.out; have := z10.out; omega) B.size
  replace o5 := o5.marked p11 hg11.size
  clear p11 hg11
  have z11 := hid S11.size
  replace H0 := h0.below B
  go_wp2_with fail
  refine (heldInt64S _ _ _ _ _ (o5.rd (by rw [marks_len]; exact YL.out)) (by omega) (by omega)).mono ?_
  rintro e w12 ⟨rfl, b12⟩
  have z12 := hid b12.size
  replace B := B.trans (b12.mono B.size)
  replace o3 := o3.below b12
  replace o5 := o5.below b12
  replace H0 := H0.below b12
  clear b12
  go_wp2_with fail
  refine (toTaskS_ (.slice Ax0 nx0 cx0) t0 _ H0).mono ?_
  rintro e w13 ⟨u13, rfl, o13, b13⟩
  obtain ⟨Ay13, cy13, rfl⟩ := o13.form
  have z13 := hid b13.size
  replace B := B.trans (b13.mono B.size)
  replace o3 := o3.below b13
  replace o5 := o5.below b13
  replace H0 := H0.below b13
  clear b13
  go_wp2_with fail
  refine (implCritical _ t0 _ (o13.rd ft0) ).mono ?_
  rintro e w14 ⟨u14, rfl, o14, b14⟩
  obtain ⟨P14, k14, rfl⟩ := o14.form
  replace o14 := Lies.of o14
  have z14 := hid b14.size
  replace B := B.trans (b14.mono B.size)
  replace o3 := o3.below b14
  replace o5 := o5.below b14
  replace o13 := o13.below b14
  replace H0 := H0.below b14
  clear b14
  go_wp2_with fail
  refine (eqInt64S P14 P3 (critF t0) (critF t0) _ _ _ (o14.rd YL.out) (o3.rd YL.out)).mono ?_
  rintro e w15 ⟨rfl, b15⟩
  have z15 := hid b15.size
  replace B := B.trans (b15.mono B.size)
  replace o3 := o3.below b15
  replace o5 := o5.below b15
  replace o13 := o13.below b15
  replace o14 := o14.below b15
  replace H0 := H0.below b15
  clear b15
  go_wp2_with fail
  refine (heldInt64S _ _ _ _ _ (o5.rd (by rw [marks_len]; exact YL.out)) (by omega) (by omega)).mono ?_
  rintro e w16 ⟨rfl, b16⟩
  have z16 := hid b16.size
  replace B := B.trans (b16.mono B.size)
  replace o3 := o3.below b16
  replace o5 := o5.below b16
  replace o13 := o13.below b16
  replace o14 := o14.below b16
  replace H0 := H0.below b16
  clear b16
  go_wp2_with fail
  go_ret
  exact ⟨rfl, B⟩
set_option maxRecDepth 100000 in
theorem lifted (os : Os) (started : os.Started) (H : Type) (enc : TypeId × Value → H) :
    ReturnsInHanded {} Try.checked os 13 .any (Rows.fnExactCriticalTasksSpec.pre6 enc Try.prog Try.f13 Rows.fnExactCriticalTasksRow.domain false) (Rows.fnExactCriticalTasksSpec.post enc Try.prog Try.f13 false true false false) := by
  refine returnsInHanded_of_change (C := Try.checked) ownLaw started (by kernel_rfl) Try.func13
    (ChangeSpec.witness6 (enc := enc) (C := Try.checked) false ⟨#[], #[.slice none 0 0], []⟩ 8 (by kernel_rfl) (by kernel_rfl) (by kernel_rfl) (by kernel_rfl)) ?_
  intro W base args ds gs before hval0 hW _ _
  have hval : ∀ (j : Nat) t v, Try.f13.params[j]? = some t → args[j]? = some v → Value.okWide Try.prog W .any base t v := hval0
  have hW' := hW
  obtain ⟨p, q, hA0, hV, hbef, hfz, hnd⟩ := hW
  have hA : DataW.TrodAll enc Try.prog W 0 (fun _ => true) true Try.f13.params.toList args.toList ds p := hA0
  rw [Try.params13] at hA hval
  obtain ⟨v0, vs0, d0, ds0, p0, q0, hargs, rfl, hp0, h0, r0⟩ := trodAll_cons hA
  obtain ⟨rfl, rfl, hpl⟩ := trodAll_nil r0
  obtain rfl : args = #[v0] := by cases args; simp_all
  obtain ⟨rfl, hq⟩ := trodVars_none hV
  have x0 := openTaskS_ (hval 0 _ v0 rfl rfl) h0
  obtain ⟨Ax0, nx0, cx0, rfl⟩ := x0.form
  refine (walk Ax0 nx0 cx0 x0).mono fun e W' ⟨he, hb⟩ => ?_
  subst he
  exact ⟨_, rfl, law_close laidLaw (by kernel_rfl) rfl rfl (by kernel_rfl) hW' rfl rfl rfl hb⟩

theorem over : Rows.fnExactCriticalTasksRow.holds Try.pinned (OpenSpec.ofChange Rows.fnExactCriticalTasksSpec) :=
  OpenClaim.holds_of_wide 13 Try.f13 rfl rfl rfl rfl rfl rfl rfl ⟨rfl, rfl, rfl, rfl, rfl⟩ rfl rfl rfl rfl rfl (by kernel_rfl) Try.func13 (by kernel_rfl)
    (of_decide_eq_true (by kernel_rfl)) (by unfold Func.isWrapper; first | (rw [if_pos (by decide +kernel)]; kernel_rfl) | (rw [if_neg (by decide +kernel)]; exact ⟨rfl, rfl⟩))
    (fun os started H enc _ => lifted os started H enc)

theorem proved : Rows.FnExactCriticalTasksSaid := over
end Go.Proofs.Ythidlioacgadaaa.fnExactCriticalTasks
