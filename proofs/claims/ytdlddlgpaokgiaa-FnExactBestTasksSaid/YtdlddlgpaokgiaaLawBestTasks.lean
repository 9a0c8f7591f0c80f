/- FnExactBestTasks: the walk and the row. Written by a program (genlaw3.py). -/
import Derived.Test.YtdlddlgpaokgiaaTaskRec
import Derived.Test.YtdlddlgpaokgiaaBestI
import Derived.Test.YtdlddlgpaokgiaaBestS
import Derived.Test.YtdlddlgpaokgiaaLaw
import Derived.Test.YtdlddlgpaokgiaaKind
import Derived.Deep.RegionHeld3
namespace Go.Proofs.Ytdlddlgpaokgiaa.fnExactBestTasks
open Go.ChangeShapes Go.WideShapes Go.ChangeAt Go.RowKit
set_option linter.unusedVariables false
set_option maxHeartbeats 16000000 in
theorem walk {w : World} (Ax0 : Option Addr) (nx0 : Nat) (cx0 : Nat) (x0 : ArgTaskS w (.slice Ax0 nx0 cx0)) (A1 : Option Addr) (n1 c1 : Nat) (x1 : Arg Int w A1 n1) (a2 : Int) (bd2 : -9223372036854775808 ≤ a2 ∧ a2 ≤ 9223372036854775807) :
    Calls Try.prog 3 #[.slice Ax0 nx0 cx0, .slice A1 n1 c1, .int .i64 a2] w fun e w' => e = .returned (.bool true) ∧ Below w.heap.size w w' := by
  have BB := Below.refl w.heap.size w
  obtain ⟨hn1, hx1⟩ := x1
  by_cases g1 : (1048576 : Int) < n1
  · go_enter Try.func3, Try.ntmps3
    go_wp2_with fail
    go_ret
    exact ⟨rfl, BB⟩
  obtain ⟨xs1, rfl, h1, ft1⟩ := hx1 (by omega)
  rcases szTaskS_ x0 (1048576 : Int) (by omega) (by omega) with s0 | ⟨l0, t0, lb0, h0, ft0, s0⟩
  · go_enter Try.func3, Try.ntmps3
    go_wp2_with fail
    refine (s0 _ BB).mono ?_
    rintro e w1 ⟨rfl, b1⟩
    have z1 := hid b1.size
    have B := BB.trans (b1.mono BB.size)
    clear b1
    go_wp2_with fail
    go_ret
    exact ⟨rfl, B⟩
  have lc0 := lb0.1
  have ld0 := lb0.2
  have yl : ((bestF t0 xs1 a2).1.1).length ≤ 1048576 := bestF_len t0 xs1 a2
  have YL := hid yl
  clear yl
  go_enter Try.func3, Try.ntmps3
  go_wp2_with fail
  refine (s0 _ BB).mono ?_
  rintro e w1 ⟨rfl, b1⟩
  have z1 := hid b1.size
  have B := BB.trans (b1.mono BB.size)
  clear b1
  go_wp2_with fail
  have H0 := h0.below B
  have H1 := h1.below B
  refine (toTaskS_ (.slice Ax0 nx0 cx0) t0 _ H0).mono ?_
  rintro e w2 ⟨u2, rfl, o2, b2⟩
  obtain ⟨Ay2, cy2, rfl⟩ := o2.form
  have z2 := hid b2.size
  replace B := B.trans (b2.mono B.size)
  replace H0 := H0.below b2
  replace H1 := H1.below b2
  clear b2
  go_wp2_with fail
  refine (toInt64S A1 xs1 c1 _ H1).mono ?_
  rintro e w3 ⟨u3, rfl, o3, b3⟩
  obtain ⟨P3, k3, rfl⟩ := o3.form
  replace o3 := Lies.of o3
  have z3 := hid b3.size
  replace B := B.trans (b3.mono B.size)
  replace o2 := o2.below b3
  replace H0 := H0.below b3
  replace H1 := H1.below b3
  clear b3
  go_wp2_with fail
  refine (specBest _ t0 P3 xs1 k3 a2 _ (o2.rd ft0) (o3.rd (by omega)) ).mono ?_
  rintro e w4 ⟨u4, rfl, o4, b4⟩
  obtain ⟨P4, k4, rfl⟩ := o4.form
  replace o4 := Lies.of o4
  have z4 := hid b4.size
  replace B := B.trans (b4.mono B.size)
  replace o2 := o2.below b4
  replace o3 := o3.below b4
  replace H0 := H0.below b4
  replace H1 := H1.below b4
  clear b4
  go_wp2_with fail
  clear o2
  clear o3
  refine (toTaskS_ (.slice Ax0 nx0 cx0) t0 _ H0).mono ?_
  rintro e w5 ⟨u5, rfl, o5, b5⟩
  obtain ⟨Ay5, cy5, rfl⟩ := o5.form
  have z5 := hid b5.size
  replace B := B.trans (b5.mono B.size)
  replace o4 := o4.below b5
  replace H0 := H0.below b5
  replace H1 := H1.below b5
  clear b5
  go_wp2_with fail
  refine (toInt64S A1 xs1 c1 _ H1).mono ?_
  rintro e w6 ⟨u6, rfl, o6, b6⟩
  obtain ⟨P6, k6, rfl⟩ := o6.form
  replace o6 := Lies.of o6
  have z6 := hid b6.size
  replace B := B.trans (b6.mono B.size)
  replace o4 := o4.below b6
  replace o5 := o5.below b6
  replace H0 := H0.below b6
  replace H1 := H1.below b6
  clear b6
  go_wp2_with fail
  refine (implBest _ t0 P6 xs1 k6 a2 _ (o5.rd ft0) (o6.rd (by omega)) ).mono ?_
  rintro e w7 ⟨u7, rfl, o7, b7⟩
  obtain ⟨P7, k7, rfl⟩ := o7.form
  replace o7 := Lies.of o7
  have z7 := hid b7.size
  replace B := B.trans (b7.mono B.size)
  replace o4 := o4.below b7
  replace o5 := o5.below b7
  replace o6 := o6.below b7
  replace H0 := H0.below b7
  replace H1 := H1.below b7
  clear b7
  go_wp2_with fail
  refine (eqInt64S P7 P4 ((bestF t0 xs1 a2).1.1) ((bestF t0 xs1 a2).1.1) _ _ _ (o7.rd YL.out) (o4.rd YL.out)).mono ?_
  rintro e w8 ⟨rfl, b8⟩
  have z8 := hid b8.size
  replace B := B.trans (b8.mono B.size)
  replace o4 := o4.below b8
  replace o5 := o5.below b8
  replace o6 := o6.below b8
  replace o7 := o7.below b8
  replace H0 := H0.below b8
  replace H1 := H1.below b8
  clear b8
  go_wp2_with fail
  refine (toTaskS_ (.slice Ax0 nx0 cx0) t0 _ H0).mono ?_
  rintro e w9 ⟨u9, rfl, o9, b9⟩
  obtain ⟨Ay9, cy9, rfl⟩ := o9.form
  have z9 := hid b9.size
  replace B := B.trans (b9.mono B.size)
  replace o4 := o4.below b9
  replace o5 := o5.below b9
  replace o6 := o6.below b9
  replace o7 := o7.below b9
  replace H0 := H0.below b9
  replace H1 := H1.below b9
  clear b9
  go_wp2_with fail
  refine (eqTaskS_ _ _ t0 t0 _ (o5.rd ft0) (o9.rd ft0)).mono ?_
  rintro e w10 ⟨rfl, b10⟩
  have z10 := hid b10.size
  replace B := B.trans (b10.mono B.size)
  replace o4 := o4.below b10
  replace o5 := o5.below b10
  replace o6 := o6.below b10
  replace o7 := o7.below b10
  replace o9 := o9.below b10
  replace H0 := H0.below b10
  replace H1 := H1.below b10
  clear b10
  go_wp2_with fail
  clear o9
  refine (toInt64S A1 xs1 c1 _ H1).mono ?_
  rintro e w11 ⟨u11, rfl, o11, b11⟩
  obtain ⟨P11, k11, rfl⟩ := o11.form
  replace o11 := Lies.of o11
  have z11 := hid b11.size
  replace B := B.trans (b11.mono B.size)
  replace o4 := o4.below b11
  replace o5 := o5.below b11
  replace o6 := o6.below b11
  replace o7 := o7.below b11
  replace H0 := H0.below b11
  replace H1 := H1.below b11
  clear b11
  go_wp2_with fail
  refine (eqInt64S P6 P11 xs1 xs1 _ _ _ (o6.rd (by omega)) (o11.rd (by omega))).mono ?_
  rintro e w12 ⟨rfl, b12⟩
  have z12 := hid b12.size
  replace B := B.trans (b12.mono B.size)
  replace o4 := o4.below b12
  replace o5 := o5.below b12
  replace o6 := o6.below b12
  replace o7 := o7.below b12
  replace o11 := o11.below b12
  replace H0 := H0.below b12
  replace H1 := H1.below b12
  clear b12
  go_wp2_with fail
  clear o11
  refine (markTaskS_ _ _ _ _ _ _ o5 ft0 (by omega) (by omega)).mono ?_
  rintro e w13 ⟨q13, rfl, m13, S13⟩
  have ma13 := m13.1
  have mb13 := m13.2
  clear o5
  replace o4 := o4.span S13 (by have := z1.out; have := z2.out; have := z3.out; have := z4.out; have := z5.out; have := z6.out; have := z7.out; have := z8.out; have := z9.out; have := z10.out; have := z11.out; have := z12.out; omega)
  replace o6 := o6.span S13 (by have := z1.out; have := z2.out; have := z3.out; have := z4.out; have := z5.out; have := z6.out; have := z7.out; have := z8.out; have := z9.out; have := z10.out; have := z11.out; have := z12.out; omega)
  replace o7 := o7.span S13 (by have := z1.out; have := z2.out; have := z3.out; have := z4.out; have := z5.out; have := z6.out; have := z7.out; have := z8.out; have := z9.out; have := z10.out; have := z11.out; have := z12.out; omega)
  replace B := below_span B S13 (by have := z1.out; have := z2.out; have := z3.out; have := z4.out; have := z5.out; have := z6.out; have := z7.out; have := z8.out; have := z9.out; have := z10.out; have := z11.out; have := z12.out; omega) B.size
  have z13 := hid S13.size
  replace H0 := h0.below B
  replace H1 := h1.below B
  go_wp2_with fail
  refine (markInt64S _ _ _ _ _ o6.1 (by omega) (by omega) (by omega)).mono ?_
  rintro e w14 ⟨rfl, p14, hg14⟩
  have S14 := o6.spans hg14
  replace o4 := o4.span S14 (by have := z1.out; have := z2.out; have := z3.out; have := z4.out; have := z5.out; have := z6.out; have := z7.out; have := z8.out; have := z9.out; have := z10.out; have := z11.out; have := z12.out; have := z13.out; omega)
  replace o7 := o7.span S14 (by have := z1.out; have := z2.out; have := z3.out; have := z4.out; have := z5.out; have := z6.out; have := z7.out; have := z8.out; have := z9.out; have := z10.out; have := z11.out; have := z12.out; have := z13.out; omega)
  replace B := below_span B S14 (by have := z1.out; have := z2.out; have := z3.out; have := z4.out; have := z5.out; have := z6.out; have := z7.out; have := z8.out; have := z9.out; have := z10.out; have := z11.out; have := z12.out; have := z13.out; omega) B.size
  replace o6 := o6.marked p14 hg14.size
  clear p14 hg14
  have z14 := hid S14.size
  replace H0 := h0.below B
  replace H1 := h1.below B
  go_wp2_with fail
  clear o6
  refine (eqInt64S P7 P4 ((bestF t0 xs1 a2).1.1) ((bestF t0 xs1 a2).1.1) _ _ _ (o7.rd YL.out) (o4.rd YL.out)).mono ?_
  rintro e w15 ⟨rfl, b15⟩
  have z15 := hid b15.size
  replace B := B.trans (b15.mono B.size)
  replace o4 := o4.below b15
  replace o7 := o7.below b15
  replace H0 := H0.below b15
  replace H1 := H1.below b15
  clear b15
  go_wp2_with fail
  refine (markInt64S _ _ _ _ _ o7.1 YL.out (by omega) (by omega)).mono ?_
  rintro e w16 ⟨rfl, p16, hg16⟩
  have S16 := o7.spans hg16
  replace o4 := o4.span S16 (by have := z1.out; have := z2.out; have := z3.out; have := z4.out; have := z5.out; have := z6.out; have := z7.out; have := z8.out; have := z9.out; have := z10.out; have := z11.out; have := z12.out; have := z13.out; have := z14.out; have := z15.out; omega)
  replace B := below_span B S16 (by have := z1.out; have := z2.out; have := z3.out; have := z4.out; have := z5.out; have := z6.out; have := z7.out; have := z8.out; have := z9.out; have := z10.out; have := z11.out; have := z12.out; have := z13.out; have := z14.out; have := z15.out; omega) B.size
  replace o7 := o7.marked p16 hg16.size
  clear p16 hg16
  have z16 := hid S16.size
  replace H0 := h0.below B
  replace H1 := h1.below B
  go_wp2_with fail
  refine (heldInt64S _ _ _ _ _ (o7.rd (by rw [marks_len]; exact YL.out)) (by omega) (by omega)).mono ?_
  rintro e w17 ⟨rfl, b17⟩
  have z17 := hid b17.size
  replace B := B.trans (b17.mono B.size)
  replace o4 := o4.below b17
  replace o7 := o7.below b17
  replace H0 := H0.below b17
  replace H1 := H1.below b17
  clear b17
  go_wp2_with fail
  refine (toTaskS_ (.slice Ax0 nx0 cx0) t0 _ H0).mono ?_
  rintro e w18 ⟨u18, rfl, o18, b18⟩
  obtain ⟨Ay18, cy18, rfl⟩ := o18.form
  have z18 := hid b18.size
  replace B := B.trans (b18.mono B.size)
  replace o4 := o4.below b18
  replace o7 := o7.below b18
  replace H0 := H0.below b18
  replace H1 := H1.below b18
  clear b18
  go_wp2_with fail
  refine (toInt64S A1 xs1 c1 _ H1).mono ?_
  rintro e w19 ⟨u19, rfl, o19, b19⟩
  obtain ⟨P19, k19, rfl⟩ := o19.form
  replace o19 := Lies.of o19
  have z19 := hid b19.size
  replace B := B.trans (b19.mono B.size)
  replace o4 := o4.below b19
  replace o7 := o7.below b19
  replace o18 := o18.below b19
  replace H0 := H0.below b19
  replace H1 := H1.below b19
  clear b19
  go_wp2_with fail
  refine (implBest _ t0 P19 xs1 k19 a2 _ (o18.rd ft0) (o19.rd (by omega)) ).mono ?_
  rintro e w20 ⟨u20, rfl, o20, b20⟩
  obtain ⟨P20, k20, rfl⟩ := o20.form
  replace o20 := Lies.of o20
  have z20 := hid b20.size
  replace B := B.trans (b20.mono B.size)
  replace o4 := o4.below b20
  replace o7 := o7.below b20
  replace o18 := o18.below b20
  replace o19 := o19.below b20
  replace H0 := H0.below b20
  replace H1 := H1.below b20
  clear b20
  go_wp2_with fail
  refine (eqInt64S P20 P4 ((bestF t0 xs1 a2).1.1) ((bestF t0 xs1 a2).1.1) _ _ _ (o20.rd YL.out) (o4.rd YL.out)).mono ?_
  rintro e w21 ⟨rfl, b21⟩
  have z21 := hid b21.size
  replace B := B.trans (b21.mono B.size)
  replace o4 := o4.below b21
  replace o7 := o7.below b21
  replace o18 := o18.below b21
  replace o19 := o19.below b21
  replace o20 := o20.below b21
  replace H0 := H0.below b21
  replace H1 := H1.below b21
  clear b21
  go_wp2_with fail
  refine (heldInt64S _ _ _ _ _ (o7.rd (by rw [marks_len]; exact YL.out)) (by omega) (by omega)).mono ?_
  rintro e w22 ⟨rfl, b22⟩
  have z22 := hid b22.size
  replace B := B.trans (b22.mono B.size)
  replace o4 := o4.below b22
  replace o7 := o7.below b22
  replace o18 := o18.below b22
  replace o19 := o19.below b22
  replace o20 := o20.below b22
  replace H0 := H0.below b22
  replace H1 := H1.below b22
  clear b22
  go_wp2_with fail
  go_ret
  exact ⟨rfl, B⟩
set_option maxRecDepth 100000 in
theorem lifted (os : Os) (started : os.Started) (H : Type) (enc : TypeId × Value → H) :
    ReturnsInHanded {} Try.checked os 3 .any (Rows.fnExactBestTasksSpec.pre6 enc Try.prog Try.f3 Rows.fnExactBestTasksRow.domain false) (Rows.fnExactBestTasksSpec.post enc Try.prog Try.f3 false true false false) := by
  refine returnsInHanded_of_change (C := Try.checked) ownLaw started (by kernel_rfl) Try.func3
    (ChangeSpec.witness6 (enc := enc) (C := Try.checked) false ⟨#[], #[.slice none 0 0, .slice none 0 0, .int .i64 0], []⟩ 8 (by kernel_rfl) (by kernel_rfl) (by kernel_rfl) (by kernel_rfl)) ?_
  intro W base args ds gs before hval0 hW _ _
  have hval : ∀ (j : Nat) t v, Try.f3.params[j]? = some t → args[j]? = some v → Value.okWide Try.prog W .any base t v := hval0
  have hW' := hW
  obtain ⟨p, q, hA0, hV, hbef, hfz, hnd⟩ := hW
  have hA : DataW.TrodAll enc Try.prog W 0 (fun _ => true) true Try.f3.params.toList args.toList ds p := hA0
  rw [Try.params3] at hA hval
  obtain ⟨v0, vs0, d0, ds0, p0, q0, hargs, rfl, hp0, h0, r0⟩ := trodAll_cons hA
  obtain ⟨v1, vs1, d1, ds1, p1, q1, rfl, rfl, hp1, h1, r1⟩ := trodAll_cons r0
  obtain ⟨v2, vs2, d2, ds2, p2, q2, rfl, rfl, hp2, h2, r2⟩ := trodAll_cons r1
  obtain ⟨rfl, rfl, hpl⟩ := trodAll_nil r2
  obtain rfl : args = #[v0, v1, v2] := by cases args; simp_all
  obtain ⟨rfl, hq⟩ := trodVars_none hV
  have x0 := openTaskS_ (hval 0 _ v0 rfl rfl) h0
  obtain ⟨Ax0, nx0, cx0, rfl⟩ := x0.form
  obtain ⟨A1, n1, c1, rfl, x1⟩ := open_nums Try.underlying23 Try.underlying2 (by kernel_rfl) (hval 1 _ v1 rfl rfl) h1
  obtain ⟨a2, rfl, rfl, hz2, w2⟩ := open_int Try.underlying2 (hval 2 _ v2 rfl rfl) h2
  refine (walk Ax0 nx0 cx0 x0 A1 n1 c1 x1 a2 (wf_range w2)).mono fun e W' ⟨he, hb⟩ => ?_
  subst he
  exact ⟨_, rfl, law_close laidLaw (by kernel_rfl) rfl rfl (by kernel_rfl) hW' rfl rfl rfl hb⟩

theorem over : Rows.fnExactBestTasksRow.holds Try.pinned (OpenSpec.ofChange Rows.fnExactBestTasksSpec) :=
  OpenClaim.holds_of_wide 3 Try.f3 rfl rfl rfl rfl rfl rfl rfl ⟨rfl, rfl, rfl, rfl, rfl⟩ rfl rfl rfl rfl rfl (by kernel_rfl) Try.func3 (by kernel_rfl)
    (of_decide_eq_true (by kernel_rfl)) (by unfold Func.isWrapper; first | (rw [if_pos (by decide +kernel)]; kernel_rfl) | (rw [if_neg (by decide +kernel)]; exact ⟨rfl, rfl⟩))
    (fun os started H enc _ => lifted os started H enc)

theorem proved : Rows.FnExactBestTasksSaid := over
end Go.Proofs.Ytdlddlgpaokgiaa.fnExactBestTasks
