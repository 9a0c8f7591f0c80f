/- FnExactSameTasks: the walk and the row. Written by a program (genlaw.py). -/
import Derived.Test.YthidlioacgadaaaTaskSame
import Derived.Test.YthidlioacgadaaaLaw
namespace Go.Proofs.Ythidlioacgadaaa.fnExactSameTasks
open Go.ChangeShapes Go.WideShapes Go.ChangeAt Go.RowKit
set_option linter.unusedVariables false
set_option maxHeartbeats 4000000 in
theorem walk {w : World} (A0 : Option Addr) (n0 c0 : Nat) (x0 : ArgT w A0 n0) (A1 : Option Addr) (n1 c1 : Nat) (x1 : ArgT w A1 n1) :
    Calls Try.prog 4 #[.slice A0 n0 c0, .slice A1 n1 c1] w fun e w' => e = .returned (.bool true) ∧ Below w.heap.size w w' := by
  obtain ⟨hn0, hx0⟩ := x0
  obtain ⟨hn1, hx1⟩ := x1
  by_cases g0 : (1048576 : Int) < n0
  · have B := Below.refl w.heap.size w
    go_enter Try.func4, Try.ntmps4
    go_wp2_with fail
    refine (szTaskS A0 n0 c0 1048576 _ hn0 (by omega) (by omega) [] (fun h => absurd h (by omega))).mono ?_
    rintro e w' ⟨rfl, b1⟩
    have z1 := hid b1.size
    obtain ⟨y1, rfl⟩ := below_ex b1
    clear b1
    replace B := below_next B (x := y1)
    rw [if_pos (by omega)]
    go_wp2_with fail
    go_ret
    exact ⟨rfl, B⟩
  obtain ⟨ts0, rfl, rt0, p0⟩ := hx0 (by omega)
  have e0 := szTs_le ts0 ((1048576 : Int) - ts0.length) (by omega)
  by_cases f0 : (szTs ((1048576 : Int) - ts0.length) ts0) < 0
  · have B := Below.refl w.heap.size w
    go_enter Try.func4, Try.ntmps4
    go_wp2_with fail
    refine (szTaskS A0 ts0.length c0 1048576 _ hn0 (by omega) (by omega) ts0 (fun _ => ⟨rfl, rt0, fun t ht => (p0 t ht).1.max⟩)).mono ?_
    rintro e w' ⟨rfl, b2⟩
    have z2 := hid b2.size
    obtain ⟨y2, rfl⟩ := below_ex b2
    clear b2
    replace B := below_next B (x := y2)
    rw [if_neg (by omega)]
    go_wp2_with fail
    go_ret
    exact ⟨rfl, B⟩
  obtain ⟨xs0, hl0, h0, ft0⟩ := tasks_of rt0 p0 (szTs_ok ts0 ((1048576 : Int) - ts0.length) (by omega) (by omega))
  have HL0 := hid hl0
  rw [← hl0] at f0 e0 g0 hn0 ⊢
  clear hl0
  have in0 := hid (fun x hx => (ft0 x hx).2.2.2.1)
  by_cases g1 : (szTs ((1048576 : Int) - xs0.length) ts0) < n1
  · have B := Below.refl w.heap.size w
    go_enter Try.func4, Try.ntmps4
    go_wp2_with fail
    refine (szTaskS A0 xs0.length c0 1048576 _ hn0 (by omega) (by omega) ts0 (fun _ => ⟨HL0.out.symm, rt0, fun t ht => (p0 t ht).1.max⟩)).mono ?_
    rintro e w' ⟨rfl, b3⟩
    have z3 := hid b3.size
    obtain ⟨y3, rfl⟩ := below_ex b3
    clear b3
    replace B := below_next B (x := y3)
    rw [if_neg (by omega)]
    go_wp2_with fail
    refine (szTaskS A1 n1 c1 _ _ hn1 (by omega) (by omega) [] (fun h => absurd h (by omega))).mono ?_
    rintro e w' ⟨rfl, b4⟩
    have z4 := hid b4.size
    obtain ⟨y4, rfl⟩ := below_ex b4
    clear b4
    replace B := below_next B (x := y4)
    rw [if_pos (by omega)]
    go_wp2_with fail
    go_ret
    exact ⟨rfl, B⟩
  obtain ⟨ts1, rfl, rt1, p1⟩ := hx1 (by omega)
  have e1 := szTs_le ts1 ((szTs ((1048576 : Int) - xs0.length) ts0) - ts1.length) (by omega)
  by_cases f1 : (szTs ((szTs ((1048576 : Int) - xs0.length) ts0) - ts1.length) ts1) < 0
  · have B := Below.refl w.heap.size w
    go_enter Try.func4, Try.ntmps4
    go_wp2_with fail
    refine (szTaskS A0 xs0.length c0 1048576 _ hn0 (by omega) (by omega) ts0 (fun _ => ⟨HL0.out.symm, rt0, fun t ht => (p0 t ht).1.max⟩)).mono ?_
    rintro e w' ⟨rfl, b5⟩
    have z5 := hid b5.size
    obtain ⟨y5, rfl⟩ := below_ex b5
    clear b5
    replace B := below_next B (x := y5)
    rw [if_neg (by omega)]
    go_wp2_with fail
    refine (szTaskS A1 ts1.length c1 _ _ hn1 (by omega) (by omega) ts1 (fun _ => ⟨rfl, rt1.more, fun t ht => (p1 t ht).1.max⟩)).mono ?_
    rintro e w' ⟨rfl, b6⟩
    have z6 := hid b6.size
    obtain ⟨y6, rfl⟩ := below_ex b6
    clear b6
    replace B := below_next B (x := y6)
    rw [if_neg (by omega)]
    go_wp2_with fail
    go_ret
    exact ⟨rfl, B⟩
  obtain ⟨xs1, hl1, h1, ft1⟩ := tasks_of rt1 p1 (szTs_ok ts1 ((szTs ((1048576 : Int) - xs0.length) ts0) - ts1.length) (by omega) (by omega))
  have HL1 := hid hl1
  rw [← hl1] at f1 e1 g1 hn1 ⊢
  clear hl1
  have in1 := hid (fun x hx => (ft1 x hx).2.2.2.1)
  have B := Below.refl w.heap.size w
  go_enter Try.func4, Try.ntmps4
  go_wp2_with fail
  refine (szTaskS A0 xs0.length c0 1048576 _ hn0 (by omega) (by omega) ts0 (fun _ => ⟨HL0.out.symm, rt0, fun t ht => (p0 t ht).1.max⟩)).mono ?_
  rintro e w' ⟨rfl, b1⟩
  have z1 := hid b1.size
  obtain ⟨y1, rfl⟩ := below_ex b1
  clear b1
  replace B := below_next B (x := y1)
  rw [if_neg (by omega)]
  go_wp2_with fail
  refine (szTaskS A1 xs1.length c1 _ _ hn1 (by omega) (by omega) ts1 (fun _ => ⟨HL1.out.symm, rt1.more, fun t ht => (p1 t ht).1.max⟩)).mono ?_
  rintro e w' ⟨rfl, b2⟩
  have z2 := hid b2.size
  obtain ⟨y2, rfl⟩ := below_ex b2
  clear b2
  replace B := below_next B (x := y2)
  rw [if_neg (by omega)]
  have H0 := h0.below B
  have H1 := h1.below B
  go_wp2_with fail
  refine (toTaskS A0 xs0 c0 _ H0).mono ?_
  rintro e w3 ⟨v3, rfl, o3, b3⟩
  obtain ⟨P3, k3, rfl⟩ := o3.form
  have z3 := hid b3.size
  obtain ⟨y3, rfl⟩ := below_ex b3
  clear b3
  replace B := below_next B (x := y3)
  replace H0 := H0.more (x := y3)
  replace H1 := H1.more (x := y3)
  go_wp2_with fail
  refine (toTaskS A1 xs1 c1 _ H1).mono ?_
  rintro e w4 ⟨v4, rfl, o4, b4⟩
  obtain ⟨P4, k4, rfl⟩ := o4.form
  have z4 := hid b4.size
  obtain ⟨y4, rfl⟩ := below_ex b4
  clear b4
  replace B := below_next B (x := y4)
  replace H0 := H0.more (x := y4)
  replace H1 := H1.more (x := y4)
  replace o3 := o3.more (x := y4)
  go_wp2_with fail
  refine (specSameTasks2 P3 xs0 k3 P4 xs1 k4 _ (o3.rd (by omega) in0.out) (o4.rd (by omega) in1.out) ).mono ?_
  rintro e w5 ⟨rfl, b5⟩
  have z5 := hid b5.size
  obtain ⟨y5, rfl⟩ := below_ex b5
  clear b5
  replace B := below_next B (x := y5)
  replace H0 := H0.more (x := y5)
  replace H1 := H1.more (x := y5)
  replace o3 := o3.more (x := y5)
  replace o4 := o4.more (x := y5)
  go_wp2_with fail
  clear o3
  clear o4
  refine (toTaskS A0 xs0 c0 _ H0).mono ?_
  rintro e w6 ⟨v6, rfl, o6, b6⟩
  obtain ⟨P6, k6, rfl⟩ := o6.form
  have z6 := hid b6.size
  obtain ⟨y6, rfl⟩ := below_ex b6
  clear b6
  replace B := below_next B (x := y6)
  replace H0 := H0.more (x := y6)
  replace H1 := H1.more (x := y6)
  go_wp2_with fail
  refine (toTaskS A1 xs1 c1 _ H1).mono ?_
  rintro e w7 ⟨v7, rfl, o7, b7⟩
  obtain ⟨P7, k7, rfl⟩ := o7.form
  have z7 := hid b7.size
  obtain ⟨y7, rfl⟩ := below_ex b7
  clear b7
  replace B := below_next B (x := y7)
  replace H0 := H0.more (x := y7)
  replace H1 := H1.more (x := y7)
  replace o6 := o6.more (x := y7)
  go_wp2_with fail
  refine (implSameTasks2 P6 xs0 k6 P7 xs1 k7 _ (o6.rd (by omega) in0.out) (o7.rd (by omega) in1.out) ).mono ?_
  rintro e w8 ⟨rfl, b8⟩
  have z8 := hid b8.size
  obtain ⟨y8, rfl⟩ := below_ex b8
  clear b8
  replace B := below_next B (x := y8)
  replace H0 := H0.more (x := y8)
  replace H1 := H1.more (x := y8)
  replace o6 := o6.more (x := y8)
  replace o7 := o7.more (x := y8)
  go_wp2_with fail
  refine (toTaskS A0 xs0 c0 _ H0).mono ?_
  rintro e w9 ⟨v9, rfl, o9, b9⟩
  obtain ⟨P9, k9, rfl⟩ := o9.form
  have z9 := hid b9.size
  obtain ⟨y9, rfl⟩ := below_ex b9
  clear b9
  replace B := below_next B (x := y9)
  replace H0 := H0.more (x := y9)
  replace H1 := H1.more (x := y9)
  replace o6 := o6.more (x := y9)
  replace o7 := o7.more (x := y9)
  go_wp2_with fail
  refine (eqTaskS P6 P9 xs0 xs0 _ _ _ (o6.rd (by omega) in0.out) (o9.rd (by omega) in0.out)).mono ?_
  rintro e w10 ⟨rfl, b10⟩
  have z10 := hid b10.size
  obtain ⟨y10, rfl⟩ := below_ex b10
  clear b10
  replace B := below_next B (x := y10)
  replace H0 := H0.more (x := y10)
  replace H1 := H1.more (x := y10)
  replace o6 := o6.more (x := y10)
  replace o7 := o7.more (x := y10)
  replace o9 := o9.more (x := y10)
  go_wp2_with fail
  clear o9
  refine (toTaskS A1 xs1 c1 _ H1).mono ?_
  rintro e w11 ⟨v11, rfl, o11, b11⟩
  obtain ⟨P11, k11, rfl⟩ := o11.form
  have z11 := hid b11.size
  obtain ⟨y11, rfl⟩ := below_ex b11
  clear b11
  replace B := below_next B (x := y11)
  replace H0 := H0.more (x := y11)
  replace H1 := H1.more (x := y11)
  replace o6 := o6.more (x := y11)
  replace o7 := o7.more (x := y11)
  go_wp2_with fail
  refine (eqTaskS P7 P11 xs1 xs1 _ _ _ (o7.rd (by omega) in1.out) (o11.rd (by omega) in1.out)).mono ?_
  rintro e w12 ⟨rfl, b12⟩
  have z12 := hid b12.size
  obtain ⟨y12, rfl⟩ := below_ex b12
  clear b12
  replace B := below_next B (x := y12)
  replace H0 := H0.more (x := y12)
  replace H1 := H1.more (x := y12)
  replace o6 := o6.more (x := y12)
  replace o7 := o7.more (x := y12)
  replace o11 := o11.more (x := y12)
  go_wp2_with fail
  clear o11
  go_ret
  exact ⟨rfl, B⟩
set_option maxRecDepth 100000 in
theorem lifted (os : Os) (started : os.Started) (H : Type) (enc : TypeId × Value → H) :
    ReturnsInHanded {} Try.checked os 4 .any (Rows.fnExactSameTasksSpec.pre6 enc Try.prog Try.f4 Rows.fnExactSameTasksRow.domain false) (Rows.fnExactSameTasksSpec.post enc Try.prog Try.f4 false true false false) := by
  refine returnsInHanded_of_change (C := Try.checked) ownLaw started (by kernel_rfl) Try.func4
    (ChangeSpec.witness6 (enc := enc) (C := Try.checked) false ⟨#[], #[.slice none 0 0, .slice none 0 0], []⟩ 8 (by kernel_rfl) (by kernel_rfl) (by kernel_rfl) (by kernel_rfl)) ?_
  intro W base args ds gs before hval0 hW _ _
  have hval : ∀ (j : Nat) t v, Try.f4.params[j]? = some t → args[j]? = some v → Value.okWide Try.prog W .any base t v := hval0
  have hW' := hW
  obtain ⟨p, q, hA0, hV, hbef, hfz, hnd⟩ := hW
  have hA : DataW.TrodAll enc Try.prog W 0 (fun _ => true) true Try.f4.params.toList args.toList ds p := hA0
  rw [Try.params4] at hA hval
  obtain ⟨v0, vs0, d0, ds0, p0, q0, hargs, rfl, hp0, h0, r0⟩ := trodAll_cons hA
  obtain ⟨v1, vs1, d1, ds1, p1, q1, rfl, rfl, hp1, h1, r1⟩ := trodAll_cons r0
  obtain ⟨rfl, rfl, hpl⟩ := trodAll_nil r1
  obtain rfl : args = #[v0, v1] := by cases args; simp_all
  obtain ⟨rfl, hq⟩ := trodVars_none hV
  obtain ⟨A0, n0, c0, rfl, x0⟩ := open_tasks (hval 0 _ v0 rfl rfl) h0
  obtain ⟨A1, n1, c1, rfl, x1⟩ := open_tasks (hval 1 _ v1 rfl rfl) h1
  refine (walk A0 n0 c0 x0 A1 n1 c1 x1).mono fun e W' ⟨he, hb⟩ => ?_
  subst he
  exact ⟨_, rfl, law_close laidLaw (by kernel_rfl) rfl rfl (by kernel_rfl) hW' rfl rfl rfl hb⟩

theorem over : Rows.fnExactSameTasksRow.holds Try.pinned (OpenSpec.ofChange Rows.fnExactSameTasksSpec) :=
  OpenClaim.holds_of_wide 4 Try.f4 rfl rfl rfl rfl rfl rfl rfl ⟨rfl, rfl, rfl, rfl, rfl⟩ rfl rfl rfl rfl rfl (by kernel_rfl) Try.func4 (by kernel_rfl)
    (of_decide_eq_true (by kernel_rfl)) (by unfold Func.isWrapper; first | (rw [if_pos (by decide +kernel)]; kernel_rfl) | (rw [if_neg (by decide +kernel)]; exact ⟨rfl, rfl⟩))
    (fun os started H enc _ => lifted os started H enc)

theorem proved : Rows.FnExactSameTasksSaid := over
end Go.Proofs.Ythidlioacgadaaa.fnExactSameTasks

