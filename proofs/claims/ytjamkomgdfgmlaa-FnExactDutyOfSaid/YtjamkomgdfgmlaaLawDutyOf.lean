/- FnExactDutyOf: the walk and the row. Written by a program (genlaw.py). -/
import Derived.Test.YtjamkomgdfgmlaaDutyOf
import Derived.Test.YtjamkomgdfgmlaaLaw
namespace Go.Proofs.Ytjamkomgdfgmlaa.fnExactDutyOf
open Go.ChangeShapes Go.WideShapes Go.ChangeAt Go.RowKit
set_option linter.unusedVariables false
set_option maxHeartbeats 2000000 in
theorem walk {w : World} (A0 : Option Addr) (n0 c0 : Nat) (x0 : Arg Duty w A0 n0) (a1 : Int) (bd1 : -9223372036854775808 ≤ a1 ∧ a1 ≤ 9223372036854775807) (a2 : Int) (bd2 : -9223372036854775808 ≤ a2 ∧ a2 ≤ 9223372036854775807) :
    Calls Try.prog 6 #[.slice A0 n0 c0, .int .i64 a1, .int .i64 a2] w fun e w' => e = .returned (.bool true) ∧ Below w.heap.size w w' := by
  obtain ⟨hn0, hx0⟩ := x0
  by_cases g0 : (1048576 : Int) < n0
  · go_enter Try.func6, Try.ntmps6
    go_wp2_with fail
    refine (szDutyS A0 n0 c0 1048576 _ hn0 (by omega) (by omega)).mono ?_
    rintro e w' ⟨rfl, rfl⟩
    rw [if_pos (by omega)]
    go_wp2_with fail
    go_ret
    exact ⟨rfl, Below.refl _ _⟩
  obtain ⟨xs0, rfl, h0, ft0⟩ := hx0 (by omega)
  go_enter Try.func6, Try.ntmps6
  go_wp2_with fail
  refine (szDutyS A0 xs0.length c0 1048576 _ hn0 (by omega) (by omega)).mono ?_
  rintro e w' ⟨rfl, rfl⟩
  rw [if_neg (by omega)]
  go_wp2_with fail
  refine Calls.mono (toDutyS A0 xs0 c0 _ ?_) ?_
  · with_reducible repeat (first | assumption | apply Rd.more)
  rintro e w1 ⟨v1, rfl, o1, b1⟩
  obtain ⟨P1, k1, rfl⟩ := o1.form
  have r1 := o1.rd (by omega)
  have z1 := hid b1.size
  obtain ⟨y1, rfl⟩ := below_ex b1
  clear b1
  go_wp2_with fail
  refine Calls.mono (specDutyOf P1 xs0 k1 a1 a2 _ ?_ ) ?_
  · with_reducible repeat (first | assumption | apply Rd.more)
  rintro e w2 ⟨rfl, b2⟩
  have z2 := hid b2.size
  obtain ⟨y2, rfl⟩ := below_ex b2
  clear b2
  go_wp2_with fail
  refine Calls.mono (toDutyS A0 xs0 c0 _ ?_) ?_
  · with_reducible repeat (first | assumption | apply Rd.more)
  rintro e w3 ⟨v3, rfl, o3, b3⟩
  obtain ⟨P3, k3, rfl⟩ := o3.form
  have r3 := o3.rd (by omega)
  have z3 := hid b3.size
  obtain ⟨y3, rfl⟩ := below_ex b3
  clear b3
  go_wp2_with fail
  refine Calls.mono (implDutyOf P3 xs0 k3 a1 a2 _ ?_ ) ?_
  · with_reducible repeat (first | assumption | apply Rd.more)
  rintro e w4 ⟨rfl, b4⟩
  have z4 := hid b4.size
  obtain ⟨y4, rfl⟩ := below_ex b4
  clear b4
  go_wp2_with fail
  refine Calls.mono (toDutyS A0 xs0 c0 _ ?_) ?_
  · with_reducible repeat (first | assumption | apply Rd.more)
  rintro e w5 ⟨v5, rfl, o5, b5⟩
  obtain ⟨P5, k5, rfl⟩ := o5.form
  have r5 := o5.rd (by omega)
  have z5 := hid b5.size
  obtain ⟨y5, rfl⟩ := below_ex b5
  clear b5
  go_wp2_with fail
  refine Calls.mono (eqDutyS P3 P5 xs0 xs0 _ _ _ ?_ ?_) ?_
  · with_reducible repeat (first | assumption | apply Rd.more)
  · with_reducible repeat (first | assumption | apply Rd.more)
  rintro e w6 ⟨rfl, b6⟩
  have z6 := hid b6.size
  obtain ⟨y6, rfl⟩ := below_ex b6
  clear b6
  go_wp2_with fail
  go_ret
  exact ⟨rfl, by with_reducible repeat (first | exact more_below | apply below_next)⟩
set_option maxRecDepth 100000 in
theorem lifted (os : Os) (started : os.Started) (H : Type) (enc : TypeId × Value → H) :
    ReturnsInHanded {} Try.checked os 6 .any (Rows.fnExactDutyOfSpec.pre6 enc Try.prog Try.f6 Rows.fnExactDutyOfRow.domain false) (Rows.fnExactDutyOfSpec.post enc Try.prog Try.f6 false true false false) := by
  refine returnsInHanded_of_change (C := Try.checked) ownLaw started (by kernel_rfl) Try.func6
    (ChangeSpec.witness6 (enc := enc) (C := Try.checked) false ⟨#[], #[.slice none 0 0, .int .i64 0, .int .i64 0], []⟩ 8 (by kernel_rfl) (by kernel_rfl) (by kernel_rfl) (by kernel_rfl)) ?_
  intro W base args ds gs before hval0 hW _ _
  have hval : ∀ (j : Nat) t v, Try.f6.params[j]? = some t → args[j]? = some v → Value.okWide Try.prog W .any base t v := hval0
  have hW' := hW
  obtain ⟨p, q, hA0, hV, hbef, hfz, hnd⟩ := hW
  have hA : DataW.TrodAll enc Try.prog W 0 (fun _ => true) true Try.f6.params.toList args.toList ds p := hA0
  rw [Try.params6] at hA hval
  obtain ⟨v0, vs0, d0, ds0, p0, q0, hargs, rfl, hp0, h0, r0⟩ := trodAll_cons hA
  obtain ⟨v1, vs1, d1, ds1, p1, q1, rfl, rfl, hp1, h1, r1⟩ := trodAll_cons r0
  obtain ⟨v2, vs2, d2, ds2, p2, q2, rfl, rfl, hp2, h2, r2⟩ := trodAll_cons r1
  obtain ⟨rfl, rfl, hpl⟩ := trodAll_nil r2
  obtain rfl : args = #[v0, v1, v2] := by cases args; simp_all
  obtain ⟨rfl, hq⟩ := trodVars_none hV
  obtain ⟨A0, n0, c0, rfl, x0⟩ := open_structs (α := Duty) Try.underlying22 Try.underlying58 (by kernel_rfl) (by kernel_rfl) rfl (by decide) (by kernel_rfl) (hval 0 _ v0 rfl rfl) h0
  obtain ⟨a1, rfl, rfl, hz1, w1⟩ := open_int Try.underlying2 (hval 1 _ v1 rfl rfl) h1
  obtain ⟨a2, rfl, rfl, hz2, w2⟩ := open_int Try.underlying2 (hval 2 _ v2 rfl rfl) h2
  refine (walk A0 n0 c0 x0 a1 (wf_range w1) a2 (wf_range w2)).mono fun e W' ⟨he, hb⟩ => ?_
  subst he
  exact ⟨_, rfl, law_close laidLaw (by kernel_rfl) rfl rfl (by kernel_rfl) hW' rfl rfl rfl hb⟩

theorem over : Rows.fnExactDutyOfRow.holds Try.pinned (OpenSpec.ofChange Rows.fnExactDutyOfSpec) :=
  OpenClaim.holds_of_wide 6 Try.f6 rfl rfl rfl rfl rfl rfl rfl ⟨rfl, rfl, rfl, rfl, rfl⟩ rfl rfl rfl rfl rfl (by kernel_rfl) Try.func6 (by kernel_rfl)
    (of_decide_eq_true (by kernel_rfl)) (by unfold Func.isWrapper; first | (rw [if_pos (by decide +kernel)]; kernel_rfl) | (rw [if_neg (by decide +kernel)]; exact ⟨rfl, rfl⟩))
    (fun os started H enc _ => lifted os started H enc)

theorem proved : Rows.FnExactDutyOfSaid := over
end Go.Proofs.Ytjamkomgdfgmlaa.fnExactDutyOf

