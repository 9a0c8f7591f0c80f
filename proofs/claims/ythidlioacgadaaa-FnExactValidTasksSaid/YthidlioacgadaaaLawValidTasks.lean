/- FnExactValidTasks: the walk and the row. Written by a program (genlaw.py). -/
import Derived.Test.YthidlioacgadaaaTaskValid
import Derived.Test.YthidlioacgadaaaLaw
namespace Go.Proofs.Ythidlioacgadaaa.fnExactValidTasks
open Go.ChangeShapes Go.WideShapes Go.ChangeAt Go.RowKit
set_option linter.unusedVariables false
set_option maxHeartbeats 4000000 in
theorem walk {w : World} (A0 : Option Addr) (n0 c0 : Nat) (x0 : ArgT w A0 n0) :
    Calls Try.prog 3 #[.slice A0 n0 c0] w fun e w' => e = .returned (.bool true) ∧ Below w.heap.size w w' := by
  obtain ⟨hn0, hx0⟩ := x0
  by_cases g0 : (1048576 : Int) < n0
  · have B := Below.refl w.heap.size w
    go_enter Try.func3, Try.ntmps3
    go_wp2_with fail
    refine (szTaskS A0 n0 c0 1048576 _ hn0 (by omega) (by omega) [] (fun h => absurd h (by omega))).mono ?_
    rintro e w' ⟨rfl, b1⟩
    have z1 := hid b1.size
    obtain ⟨y1, rfl⟩ := below_ex b1
    clear b1
    replace B := below_next B (x := y1)
    rw [if_pos (by omega)]
    go_wp2_with fail
    go_ret
    exact ⟨rfl, B⟩
  obtain ⟨ts0, rfl, rt0, p0⟩ := hx0 (by omega)
  have e0 := szTs_le ts0 ((1048576 : Int) - ts0.length) (by omega)
  by_cases f0 : (szTs ((1048576 : Int) - ts0.length) ts0) < 0
  · have B := Below.refl w.heap.size w
    go_enter Try.func3, Try.ntmps3
    go_wp2_with fail
    refine (szTaskS A0 ts0.length c0 1048576 _ hn0 (by omega) (by omega) ts0 (fun _ => ⟨rfl, rt0, fun t ht => (p0 t ht).1.max⟩)).mono ?_
    rintro e w' ⟨rfl, b2⟩
    have z2 := hid b2.size
    obtain ⟨y2, rfl⟩ := below_ex b2
    clear b2
    replace B := below_next B (x := y2)
    rw [if_neg (by omega)]
    go_wp2_with fail
    go_ret
    exact ⟨rfl, B⟩
  obtain ⟨xs0, hl0, h0, ft0⟩ := tasks_of rt0 p0 (szTs_ok ts0 ((1048576 : Int) - ts0.length) (by omega) (by omega))
  have HL0 := hid hl0
  rw [← hl0] at f0 e0 g0 hn0 ⊢
  clear hl0
  have in0 := hid (fun x hx => (ft0 x hx).2.2.2.1)
  have B := Below.refl w.heap.size w
  go_enter Try.func3, Try.ntmps3
  go_wp2_with fail
  refine (szTaskS A0 xs0.length c0 1048576 _ hn0 (by omega) (by omega) ts0 (fun _ => ⟨HL0.out.symm, rt0, fun t ht => (p0 t ht).1.max⟩)).mono ?_
  rintro e w' ⟨rfl, b1⟩
  have z1 := hid b1.size
  obtain ⟨y1, rfl⟩ := below_ex b1
  clear b1
  replace B := below_next B (x := y1)
  rw [if_neg (by omega)]
  have H0 := h0.below B
  go_wp2_with fail
  refine (toTaskS A0 xs0 c0 _ H0).mono ?_
  rintro e w2 ⟨v2, rfl, o2, b2⟩
  obtain ⟨P2, k2, rfl⟩ := o2.form
  have z2 := hid b2.size
  obtain ⟨y2, rfl⟩ := below_ex b2
  clear b2
  replace B := below_next B (x := y2)
  replace H0 := H0.more (x := y2)
  go_wp2_with fail
  refine (specValidTasks P2 xs0 k2 _ (o2.rd (by omega) in0.out) ).mono ?_
  rintro e w3 ⟨rfl, b3⟩
  have z3 := hid b3.size
  obtain ⟨y3, rfl⟩ := below_ex b3
  clear b3
  replace B := below_next B (x := y3)
  replace H0 := H0.more (x := y3)
  replace o2 := o2.more (x := y3)
  go_wp2_with fail
  clear o2
  refine (toTaskS A0 xs0 c0 _ H0).mono ?_
  rintro e w4 ⟨v4, rfl, o4, b4⟩
  obtain ⟨P4, k4, rfl⟩ := o4.form
  have z4 := hid b4.size
  obtain ⟨y4, rfl⟩ := below_ex b4
  clear b4
  replace B := below_next B (x := y4)
  replace H0 := H0.more (x := y4)
  go_wp2_with fail
  refine (implValidTasks P4 xs0 k4 _ (o4.rd (by omega) in0.out) ).mono ?_
  rintro e w5 ⟨rfl, b5⟩
  have z5 := hid b5.size
  obtain ⟨y5, rfl⟩ := below_ex b5
  clear b5
  replace B := below_next B (x := y5)
  replace H0 := H0.more (x := y5)
  replace o4 := o4.more (x := y5)
  go_wp2_with fail
  refine (toTaskS A0 xs0 c0 _ H0).mono ?_
  rintro e w6 ⟨v6, rfl, o6, b6⟩
  obtain ⟨P6, k6, rfl⟩ := o6.form
  have z6 := hid b6.size
  obtain ⟨y6, rfl⟩ := below_ex b6
  clear b6
  replace B := below_next B (x := y6)
  replace H0 := H0.more (x := y6)
  replace o4 := o4.more (x := y6)
  go_wp2_with fail
  refine (eqTaskS P4 P6 xs0 xs0 _ _ _ (o4.rd (by omega) in0.out) (o6.rd (by omega) in0.out)).mono ?_
  rintro e w7 ⟨rfl, b7⟩
  have z7 := hid b7.size
  obtain ⟨y7, rfl⟩ := below_ex b7
  clear b7
  replace B := below_next B (x := y7)
  replace H0 := H0.more (x := y7)
  replace o4 := o4.more (x := y7)
  replace o6 := o6.more (x := y7)
  go_wp2_with fail
  clear o6
  go_ret
  exact ⟨rfl, B⟩
set_option maxRecDepth 100000 in
theorem lifted (os : Os) (started : os.Started) (H : Type) (enc : TypeId × Value → H) :
    ReturnsInHanded {} Try.checked os 3 .any (Rows.fnExactValidTasksSpec.pre6 enc Try.prog Try.f3 Rows.fnExactValidTasksRow.domain false) (Rows.fnExactValidTasksSpec.post enc Try.prog Try.f3 false true false false) := by
  refine returnsInHanded_of_change (C := Try.checked) ownLaw started (by kernel_rfl) Try.func3
    (ChangeSpec.witness6 (enc := enc) (C := Try.checked) false ⟨#[], #[.slice none 0 0], []⟩ 8 (by kernel_rfl) (by kernel_rfl) (by kernel_rfl) (by kernel_rfl)) ?_
  intro W base args ds gs before hval0 hW _ _
  have hval : ∀ (j : Nat) t v, Try.f3.params[j]? = some t → args[j]? = some v → Value.okWide Try.prog W .any base t v := hval0
  have hW' := hW
  obtain ⟨p, q, hA0, hV, hbef, hfz, hnd⟩ := hW
  have hA : DataW.TrodAll enc Try.prog W 0 (fun _ => true) true Try.f3.params.toList args.toList ds p := hA0
  rw [Try.params3] at hA hval
  obtain ⟨v0, vs0, d0, ds0, p0, q0, hargs, rfl, hp0, h0, r0⟩ := trodAll_cons hA
  obtain ⟨rfl, rfl, hpl⟩ := trodAll_nil r0
  obtain rfl : args = #[v0] := by cases args; simp_all
  obtain ⟨rfl, hq⟩ := trodVars_none hV
  obtain ⟨A0, n0, c0, rfl, x0⟩ := open_tasks (hval 0 _ v0 rfl rfl) h0
  refine (walk A0 n0 c0 x0).mono fun e W' ⟨he, hb⟩ => ?_
  subst he
  exact ⟨_, rfl, law_close laidLaw (by kernel_rfl) rfl rfl (by kernel_rfl) hW' rfl rfl rfl hb⟩

theorem over : Rows.fnExactValidTasksRow.holds Try.pinned (OpenSpec.ofChange Rows.fnExactValidTasksSpec) :=
  OpenClaim.holds_of_wide 3 Try.f3 rfl rfl rfl rfl rfl rfl rfl ⟨rfl, rfl, rfl, rfl, rfl⟩ rfl rfl rfl rfl rfl (by kernel_rfl) Try.func3 (by kernel_rfl)
    (of_decide_eq_true (by kernel_rfl)) (by unfold Func.isWrapper; first | (rw [if_pos (by decide +kernel)]; kernel_rfl) | (rw [if_neg (by decide +kernel)]; exact ⟨rfl, rfl⟩))
    (fun os started H enc _ => lifted os started H enc)

theorem proved : Rows.FnExactValidTasksSaid := over
end Go.Proofs.Ythidlioacgadaaa.fnExactValidTasks

