/- FnExactDelayTask: the walk and the row. Written by a program (genlaw3.py). -/
import Derived.Test.YthidlioacgadaaaDelay
import Derived.Test.YthidlioacgadaaaLaw
import Derived.Test.YthidlioacgadaaaKind
import Derived.Deep.RegionHeld3
namespace Go.Proofs.Ythidlioacgadaaa.fnExactDelayTask
open Go.ChangeShapes Go.WideShapes Go.ChangeAt Go.RowKit
set_option linter.unusedVariables false
set_option maxHeartbeats 16000000 in
theorem walk {w : World} (Ax0 : Option Addr) (nx0 : Nat) (cx0 : Nat) (x0 : ArgTaskS w (.slice Ax0 nx0 cx0)) (a1 : Int) (bd1 : -9223372036854775808 ≤ a1 ∧ a1 ≤ 9223372036854775807) (a2 : Int) (bd2 : -9223372036854775808 ≤ a2 ∧ a2 ≤ 9223372036854775807) :
    Calls Try.prog 7 #[.slice Ax0 nx0 cx0, .int .i64 a1, .int .i64 a2] w fun e w' => e = .returned (.bool true) ∧ Below w.heap.size w w' := by
  have BB := Below.refl w.heap.size w
  rcases szTaskS_ x0 (1048576 : Int) (by omega) (by omega) with s0 | ⟨l0, t0, lb0, h0, ft0, s0⟩
  · go_enter Try.func7, Try.ntmps7
    go_wp2_with fail
    refine (s0 _ BB).mono ?_
    rintro e w1 ⟨rfl, b1⟩
    have z1 := hid b1.size
    have B := BB.trans (b1.mono BB.size)
    clear b1
    go_wp2_with fail
    go_ret
    exact ⟨rfl, B⟩
  have lc0 := lb0.1
  have ld0 := lb0.2
  go_enter Try.func7, Try.ntmps7
  go_wp2_with fail
  refine (s0 _ BB).mono ?_
  rintro e w1 ⟨rfl, b1⟩
  have z1 := hid b1.size
  have B := BB.trans (b1.mono BB.size)
  clear b1
  go_wp2_with fail
  have H0 := h0.below B
  refine (toTaskS_ (.slice Ax0 nx0 cx0) t0 _ H0).mono ?_
  rintro e w2 ⟨u2, rfl, o2, b2⟩
  obtain ⟨Ay2, cy2, rfl⟩ := o2.form
  have z2 := hid b2.size
  replace B := B.trans (b2.mono B.size)
  replace H0 := H0.below b2
  clear b2
  go_wp2_with fail
  refine (specDelay _ t0 a1 a2 _ (o2.rd ft0) bd1 bd2).mono ?_
  rintro e w3 ⟨rfl, b3⟩
  have z3 := hid b3.size
  replace B := B.trans (b3.mono B.size)
  replace o2 := o2.below b3
  replace H0 := H0.below b3
  clear b3
  go_wp2_with fail
  clear o2
  refine (toTaskS_ (.slice Ax0 nx0 cx0) t0 _ H0).mono ?_
  rintro e w4 ⟨u4, rfl, o4, b4⟩
  obtain ⟨Ay4, cy4, rfl⟩ := o4.form
  have z4 := hid b4.size
  replace B := B.trans (b4.mono B.size)
  replace H0 := H0.below b4
  clear b4
  go_wp2_with fail
  refine (implDelay _ t0 a1 a2 _ (o4.rd ft0) bd1 bd2).mono ?_
  rintro e w5 ⟨rfl, b5⟩
  have z5 := hid b5.size
  replace B := B.trans (b5.mono B.size)
  replace o4 := o4.below b5
  replace H0 := H0.below b5
  clear b5
  go_wp2_with fail
  refine (toTaskS_ (.slice Ax0 nx0 cx0) t0 _ H0).mono ?_
  rintro e w6 ⟨u6, rfl, o6, b6⟩
  obtain ⟨Ay6, cy6, rfl⟩ := o6.form
  have z6 := hid b6.size
  replace B := B.trans (b6.mono B.size)
  replace o4 := o4.below b6
  replace H0 := H0.below b6
  clear b6
  go_wp2_with fail
  refine (eqTaskS_ _ _ t0 t0 _ (o4.rd ft0) (o6.rd ft0)).mono ?_
  rintro e w7 ⟨rfl, b7⟩
  have z7 := hid b7.size
  replace B := B.trans (b7.mono B.size)
  replace o4 := o4.below b7
  replace o6 := o6.below b7
  replace H0 := H0.below b7
  clear b7
  go_wp2_with fail
  clear o6
  go_ret
  exact ⟨rfl, B⟩
set_option maxRecDepth 100000 in
theorem lifted (os : Os) (started : os.Started) (H : Type) (enc : TypeId × Value → H) :
    ReturnsInHanded {} Try.checked os 7 .any (Rows.fnExactDelayTaskSpec.pre6 enc Try.prog Try.f7 Rows.fnExactDelayTaskRow.domain false) (Rows.fnExactDelayTaskSpec.post enc Try.prog Try.f7 false true false false) := by
  refine returnsInHanded_of_change (C := Try.checked) ownLaw started (by kernel_rfl) Try.func7
    (ChangeSpec.witness6 (enc := enc) (C := Try.checked) false ⟨#[], #[.slice none 0 0, .int .i64 0, .int .i64 0], []⟩ 8 (by kernel_rfl) (by kernel_rfl) (by kernel_rfl) (by kernel_rfl)) ?_
  intro W base args ds gs before hval0 hW _ _
  have hval : ∀ (j : Nat) t v, Try.f7.params[j]? = some t → args[j]? = some v → Value.okWide Try.prog W .any base t v := hval0
  have hW' := hW
  obtain ⟨p, q, hA0, hV, hbef, hfz, hnd⟩ := hW
  have hA : DataW.TrodAll enc Try.prog W 0 (fun _ => true) true Try.f7.params.toList args.toList ds p := hA0
  rw [Try.params7] at hA hval
  obtain ⟨v0, vs0, d0, ds0, p0, q0, hargs, rfl, hp0, h0, r0⟩ := trodAll_cons hA
  obtain ⟨v1, vs1, d1, ds1, p1, q1, rfl, rfl, hp1, h1, r1⟩ := trodAll_cons r0
  obtain ⟨v2, vs2, d2, ds2, p2, q2, rfl, rfl, hp2, h2, r2⟩ := trodAll_cons r1
  obtain ⟨rfl, rfl, hpl⟩ := trodAll_nil r2
  obtain rfl : args = #[v0, v1, v2] := by cases args; simp_all
  obtain ⟨rfl, hq⟩ := trodVars_none hV
  have x0 := openTaskS_ (hval 0 _ v0 rfl rfl) h0
  obtain ⟨Ax0, nx0, cx0, rfl⟩ := x0.form
  obtain ⟨a1, rfl, rfl, hz1, w1⟩ := open_int Try.underlying2 (hval 1 _ v1 rfl rfl) h1
  obtain ⟨a2, rfl, rfl, hz2, w2⟩ := open_int Try.underlying2 (hval 2 _ v2 rfl rfl) h2
  refine (walk Ax0 nx0 cx0 x0 a1 (wf_range w1) a2 (wf_range w2)).mono fun e W' ⟨he, hb⟩ => ?_
  subst he
  exact ⟨_, rfl, law_close laidLaw (by kernel_rfl) rfl rfl (by kernel_rfl) hW' rfl rfl rfl hb⟩

theorem over : Rows.fnExactDelayTaskRow.holds Try.pinned (OpenSpec.ofChange Rows.fnExactDelayTaskSpec) :=
  OpenClaim.holds_of_wide 7 Try.f7 rfl rfl rfl rfl rfl rfl rfl ⟨rfl, rfl, rfl, rfl, rfl⟩ rfl rfl rfl rfl rfl (by kernel_rfl) Try.func7 (by kernel_rfl)
    (of_decide_eq_true (by kernel_rfl)) (by unfold Func.isWrapper; first | (rw [if_pos (by decide +kernel)]; kernel_rfl) | (rw [if_neg (by decide +kernel)]; exact ⟨rfl, rfl⟩))
    (fun os started H enc _ => lifted os started H enc)

theorem proved : Rows.FnExactDelayTaskSaid := over
end Go.Proofs.Ythidlioacgadaaa.fnExactDelayTask
