/- FnExactUnfairDuties: the walk and the row. Written by a program (genlaw.py). -/
import Derived.Test.YtampbbknhbhcbaaUnfI
import Derived.Test.YtampbbknhbhcbaaLaw
namespace Go.Proofs.Ytampbbknhbhcbaa.fnExactUnfairDuties
open Go.ChangeShapes Go.WideShapes Go.ChangeAt Go.RowKit
set_option linter.unusedVariables false
set_option maxHeartbeats 4000000 in
theorem walk {w : World} (A0 : Option Addr) (n0 c0 : Nat) (x0 : Arg Duty w A0 n0) (a1 : Int) (bd1 : -9223372036854775808 ≤ a1 ∧ a1 ≤ 9223372036854775807) (A2 : Option Addr) (n2 c2 : Nat) (x2 : Arg Parcel w A2 n2) :
    Calls Try.prog 4 #[.slice A0 n0 c0, .int .i64 a1, .slice A2 n2 c2] w fun e w' => e = .returned (.bool true) ∧ Below w.heap.size w w' := by
  obtain ⟨hn0, hx0⟩ := x0
  obtain ⟨hn2, hx2⟩ := x2
  by_cases g0 : (1048576 : Int) < n0
  · have B := Below.refl w.heap.size w
    go_enter Try.func4, Try.ntmps4
    go_wp2_with fail
    refine (szDutyS A0 n0 c0 1048576 _ hn0 (by omega) (by omega)).mono ?_
    rintro e w' ⟨rfl, rfl⟩
    rw [if_pos (by omega)]
    go_wp2_with fail
    go_ret
    exact ⟨rfl, B⟩
  obtain ⟨xs0, rfl, h0, ft0⟩ := hx0 (by omega)
  by_cases g2 : ((1048576 : Int) - xs0.length) < n2
  · have B := Below.refl w.heap.size w
    go_enter Try.func4, Try.ntmps4
    go_wp2_with fail
    refine (szDutyS A0 xs0.length c0 1048576 _ hn0 (by omega) (by omega)).mono ?_
    rintro e w' ⟨rfl, rfl⟩
    rw [if_neg (by omega)]
    go_wp2_with fail
    refine (szParcelS A2 n2 c2 _ _ hn2 (by omega) (by omega)).mono ?_
    rintro e w' ⟨rfl, rfl⟩
    rw [if_pos (by omega)]
    go_wp2_with fail
    go_ret
    exact ⟨rfl, B⟩
  obtain ⟨xs2, rfl, h2, ft2⟩ := hx2 (by omega)
  have yl : ((unfair xs0 a1 xs2).1).length ≤ 1048576 := Nat.le_trans (unfair_len xs0 a1 xs2) (by decide)
  have YL := hid yl
  clear yl
  have B := Below.refl w.heap.size w
  go_enter Try.func4, Try.ntmps4
  go_wp2_with fail
  refine (szDutyS A0 xs0.length c0 1048576 _ hn0 (by omega) (by omega)).mono ?_
  rintro e w' ⟨rfl, rfl⟩
  rw [if_neg (by omega)]
  go_wp2_with fail
  refine (szParcelS A2 xs2.length c2 _ _ hn2 (by omega) (by omega)).mono ?_
  rintro e w' ⟨rfl, rfl⟩
  rw [if_neg (by omega)]
  have H0 := h0.below B
  have H2 := h2.below B
  go_wp2_with fail
  refine (toDutyS A0 xs0 c0 _ H0).mono ?_
  rintro e w1 ⟨v1, rfl, o1, b1⟩
  obtain ⟨P1, k1, rfl⟩ := o1.form
  have u1 := hid o1.block
  have z1 := hid b1.size
  obtain ⟨y1, rfl⟩ := below_ex b1
  clear b1
  replace B := below_next B (x := y1)
  replace H0 := H0.more (x := y1)
  replace H2 := H2.more (x := y1)
  go_wp2_with fail
  refine (toParcelS A2 xs2 c2 _ H2).mono ?_
  rintro e w2 ⟨v2, rfl, o2, b2⟩
  obtain ⟨P2, k2, rfl⟩ := o2.form
  have u2 := hid o2.block
  have z2 := hid b2.size
  obtain ⟨y2, rfl⟩ := below_ex b2
  clear b2
  replace B := below_next B (x := y2)
  replace H0 := H0.more (x := y2)
  replace H2 := H2.more (x := y2)
  replace o1 := o1.more (x := y2)
  go_wp2_with fail
  refine (specUnfair P1 xs0 k1 a1 P2 xs2 k2 _ (o1.rd (by omega)) (o2.rd (by omega)) ).mono ?_
  rintro e w3 ⟨v3, rfl, o3, b3⟩
  obtain ⟨P3, k3, rfl⟩ := o3.form
  have u3 := hid o3.block
  have z3 := hid b3.size
  obtain ⟨y3, rfl⟩ := below_ex b3
  clear b3
  replace B := below_next B (x := y3)
  replace H0 := H0.more (x := y3)
  replace H2 := H2.more (x := y3)
  replace o1 := o1.more (x := y3)
  replace o2 := o2.more (x := y3)
  go_wp2_with fail
  clear o1
  clear o2
  refine (toDutyS A0 xs0 c0 _ H0).mono ?_
  rintro e w4 ⟨v4, rfl, o4, b4⟩
  obtain ⟨P4, k4, rfl⟩ := o4.form
  have u4 := hid o4.block
  have z4 := hid b4.size
  obtain ⟨y4, rfl⟩ := below_ex b4
  clear b4
  replace B := below_next B (x := y4)
  replace H0 := H0.more (x := y4)
  replace H2 := H2.more (x := y4)
  replace o3 := o3.more (x := y4)
  go_wp2_with fail
  refine (toParcelS A2 xs2 c2 _ H2).mono ?_
  rintro e w5 ⟨v5, rfl, o5, b5⟩
  obtain ⟨P5, k5, rfl⟩ := o5.form
  have u5 := hid o5.block
  have z5 := hid b5.size
  obtain ⟨y5, rfl⟩ := below_ex b5
  clear b5
  replace B := below_next B (x := y5)
  replace H0 := H0.more (x := y5)
  replace H2 := H2.more (x := y5)
  replace o3 := o3.more (x := y5)
  replace o4 := o4.more (x := y5)
  go_wp2_with fail
  refine (implUnfair P4 xs0 k4 a1 P5 xs2 k5 _ (o4.rd (by omega)) (o5.rd (by omega)) ).mono ?_
  rintro e w6 ⟨v6, rfl, o6, b6⟩
  obtain ⟨P6, k6, rfl⟩ := o6.form
  have u6 := hid o6.block
  have z6 := hid b6.size
  obtain ⟨y6, rfl⟩ := below_ex b6
  clear b6
  replace B := below_next B (x := y6)
  replace H0 := H0.more (x := y6)
  replace H2 := H2.more (x := y6)
  replace o3 := o3.more (x := y6)
  replace o4 := o4.more (x := y6)
  replace o5 := o5.more (x := y6)
  go_wp2_with fail
  refine (eqInt64S P6 P3 ((unfair xs0 a1 xs2).1) ((unfair xs0 a1 xs2).1) _ _ _ (o6.rd YL.out) (o3.rd YL.out)).mono ?_
  rintro e w7 ⟨rfl, b7⟩
  have z7 := hid b7.size
  obtain ⟨y7, rfl⟩ := below_ex b7
  clear b7
  replace B := below_next B (x := y7)
  replace H0 := H0.more (x := y7)
  replace H2 := H2.more (x := y7)
  replace o3 := o3.more (x := y7)
  replace o4 := o4.more (x := y7)
  replace o5 := o5.more (x := y7)
  replace o6 := o6.more (x := y7)
  go_wp2_with fail
  refine (toDutyS A0 xs0 c0 _ H0).mono ?_
  rintro e w8 ⟨v8, rfl, o8, b8⟩
  obtain ⟨P8, k8, rfl⟩ := o8.form
  have u8 := hid o8.block
  have z8 := hid b8.size
  obtain ⟨y8, rfl⟩ := below_ex b8
  clear b8
  replace B := below_next B (x := y8)
  replace H0 := H0.more (x := y8)
  replace H2 := H2.more (x := y8)
  replace o3 := o3.more (x := y8)
  replace o4 := o4.more (x := y8)
  replace o5 := o5.more (x := y8)
  replace o6 := o6.more (x := y8)
  go_wp2_with fail
  refine (eqDutyS P4 P8 xs0 xs0 _ _ _ (o4.rd (by omega)) (o8.rd (by omega))).mono ?_
  rintro e w9 ⟨rfl, b9⟩
  have z9 := hid b9.size
  obtain ⟨y9, rfl⟩ := below_ex b9
  clear b9
  replace B := below_next B (x := y9)
  replace H0 := H0.more (x := y9)
  replace H2 := H2.more (x := y9)
  replace o3 := o3.more (x := y9)
  replace o4 := o4.more (x := y9)
  replace o5 := o5.more (x := y9)
  replace o6 := o6.more (x := y9)
  replace o8 := o8.more (x := y9)
  go_wp2_with fail
  clear o8
  refine (toParcelS A2 xs2 c2 _ H2).mono ?_
  rintro e w10 ⟨v10, rfl, o10, b10⟩
  obtain ⟨P10, k10, rfl⟩ := o10.form
  have u10 := hid o10.block
  have z10 := hid b10.size
  obtain ⟨y10, rfl⟩ := below_ex b10
  clear b10
  replace B := below_next B (x := y10)
  replace H0 := H0.more (x := y10)
  replace H2 := H2.more (x := y10)
  replace o3 := o3.more (x := y10)
  replace o4 := o4.more (x := y10)
  replace o5 := o5.more (x := y10)
  replace o6 := o6.more (x := y10)
  go_wp2_with fail
  refine (eqParcelS P5 P10 xs2 xs2 _ _ _ (o5.rd (by omega)) (o10.rd (by omega))).mono ?_
  rintro e w11 ⟨rfl, b11⟩
  have z11 := hid b11.size
  obtain ⟨y11, rfl⟩ := below_ex b11
  clear b11
  replace B := below_next B (x := y11)
  replace H0 := H0.more (x := y11)
  replace H2 := H2.more (x := y11)
  replace o3 := o3.more (x := y11)
  replace o4 := o4.more (x := y11)
  replace o5 := o5.more (x := y11)
  replace o6 := o6.more (x := y11)
  replace o10 := o10.more (x := y11)
  go_wp2_with fail
  clear o10
  refine (markDutyS _ _ _ _ _ o4 (by omega) (by omega) (by omega)).mono ?_
  rintro e w12 ⟨rfl, q12, hg12⟩
  have z12 := hid hg12.size
  replace o3 := o3.beside hg12 (fun k g hk hg => by have := u3.out k hk; have := u4.out g hg; have := z1.out; have := z2.out; have := z3.out; have := z4.out; have := z5.out; have := z6.out; have := z7.out; have := z8.out; have := z9.out; have := z10.out; have := z11.out; have := z12.out; omega)
  replace o5 := o5.beside hg12 (fun k g hk hg => by have := u5.out k hk; have := u4.out g hg; have := z1.out; have := z2.out; have := z3.out; have := z4.out; have := z5.out; have := z6.out; have := z7.out; have := z8.out; have := z9.out; have := z10.out; have := z11.out; have := z12.out; omega)
  replace o6 := o6.beside hg12 (fun k g hk hg => by have := u6.out k hk; have := u4.out g hg; have := z1.out; have := z2.out; have := z3.out; have := z4.out; have := z5.out; have := z6.out; have := z7.out; have := z8.out; have := z9.out; have := z10.out; have := z11.out; have := z12.out; omega)
  replace B := B.grown hg12 B.size (fun g hg => by have := u4.out g hg; have := z1.out; have := z2.out; have := z3.out; have := z4.out; have := z5.out; have := z6.out; have := z7.out; have := z8.out; have := z9.out; have := z10.out; have := z11.out; have := z12.out; omega)
  clear o4
  have o4 := q12
  clear q12 hg12
  replace H0 := h0.below B
  replace H2 := h2.below B
  go_wp2_with fail
  refine (markParcelS _ _ _ _ _ o5 (by omega) (by omega) (by omega)).mono ?_
  rintro e w13 ⟨rfl, q13, hg13⟩
  have z13 := hid hg13.size
  replace o3 := o3.beside hg13 (fun k g hk hg => by have := u3.out k hk; have := u5.out g hg; have := z1.out; have := z2.out; have := z3.out; have := z4.out; have := z5.out; have := z6.out; have := z7.out; have := z8.out; have := z9.out; have := z10.out; have := z11.out; have := z12.out; have := z13.out; omega)
  replace o4 := o4.beside hg13 (fun k g hk hg => by have := u4.out k hk; have := u5.out g hg; have := z1.out; have := z2.out; have := z3.out; have := z4.out; have := z5.out; have := z6.out; have := z7.out; have := z8.out; have := z9.out; have := z10.out; have := z11.out; have := z12.out; have := z13.out; omega)
  replace o6 := o6.beside hg13 (fun k g hk hg => by have := u6.out k hk; have := u5.out g hg; have := z1.out; have := z2.out; have := z3.out; have := z4.out; have := z5.out; have := z6.out; have := z7.out; have := z8.out; have := z9.out; have := z10.out; have := z11.out; have := z12.out; have := z13.out; omega)
  replace B := B.grown hg13 B.size (fun g hg => by have := u5.out g hg; have := z1.out; have := z2.out; have := z3.out; have := z4.out; have := z5.out; have := z6.out; have := z7.out; have := z8.out; have := z9.out; have := z10.out; have := z11.out; have := z12.out; have := z13.out; omega)
  clear o5
  have o5 := q13
  clear q13 hg13
  replace H0 := h0.below B
  replace H2 := h2.below B
  go_wp2_with fail
  clear o4
  clear o5
  refine (eqInt64S P6 P3 ((unfair xs0 a1 xs2).1) ((unfair xs0 a1 xs2).1) _ _ _ (o6.rd YL.out) (o3.rd YL.out)).mono ?_
  rintro e w14 ⟨rfl, b14⟩
  have z14 := hid b14.size
  obtain ⟨y14, rfl⟩ := below_ex b14
  clear b14
  replace B := below_next B (x := y14)
  replace H0 := H0.more (x := y14)
  replace H2 := H2.more (x := y14)
  replace o3 := o3.more (x := y14)
  replace o6 := o6.more (x := y14)
  go_wp2_with fail
  refine (markInt64S _ _ _ _ _ o6 YL.out (by omega) (by omega)).mono ?_
  rintro e w15 ⟨rfl, q15, hg15⟩
  have z15 := hid hg15.size
  replace o3 := o3.beside hg15 (fun k g hk hg => by have := u3.out k hk; have := u6.out g hg; have := z1.out; have := z2.out; have := z3.out; have := z4.out; have := z5.out; have := z6.out; have := z7.out; have := z8.out; have := z9.out; have := z10.out; have := z11.out; have := z12.out; have := z13.out; have := z14.out; have := z15.out; omega)
  replace B := B.grown hg15 B.size (fun g hg => by have := u6.out g hg; have := z1.out; have := z2.out; have := z3.out; have := z4.out; have := z5.out; have := z6.out; have := z7.out; have := z8.out; have := z9.out; have := z10.out; have := z11.out; have := z12.out; have := z13.out; have := z14.out; have := z15.out; omega)
  clear o6
  have o6 := q15
  clear q15 hg15
  replace H0 := h0.below B
  replace H2 := h2.below B
  go_wp2_with fail
  refine (heldInt64S _ _ _ _ _ (o6.rd (by rw [marks_len]; exact YL.out)) (by omega) (by omega)).mono ?_
  rintro e w16 ⟨rfl, b16⟩
  have z16 := hid b16.size
  obtain ⟨y16, rfl⟩ := below_ex b16
  clear b16
  replace B := below_next B (x := y16)
  replace H0 := H0.more (x := y16)
  replace H2 := H2.more (x := y16)
  replace o3 := o3.more (x := y16)
  replace o6 := o6.more (x := y16)
  go_wp2_with fail
  refine (toDutyS A0 xs0 c0 _ H0).mono ?_
  rintro e w17 ⟨v17, rfl, o17, b17⟩
  obtain ⟨P17, k17, rfl⟩ := o17.form
  have u17 := hid o17.block
  have z17 := hid b17.size
  obtain ⟨y17, rfl⟩ := below_ex b17
  clear b17
  replace B := below_next B (x := y17)
  replace H0 := H0.more (x := y17)
  replace H2 := H2.more (x := y17)
  replace o3 := o3.more (x := y17)
  replace o6 := o6.more (x := y17)
  go_wp2_with fail
  refine (toParcelS A2 xs2 c2 _ H2).mono ?_
  rintro e w18 ⟨v18, rfl, o18, b18⟩
  obtain ⟨P18, k18, rfl⟩ := o18.form
  have u18 := hid o18.block
  have z18 := hid b18.size
  obtain ⟨y18, rfl⟩ := below_ex b18
  clear b18
  replace B := below_next B (x := y18)
  replace H0 := H0.more (x := y18)
  replace H2 := H2.more (x := y18)
  replace o3 := o3.more (x := y18)
  replace o6 := o6.more (x := y18)
  replace o17 := o17.more (x := y18)
  go_wp2_with fail
  refine (implUnfair P17 xs0 k17 a1 P18 xs2 k18 _ (o17.rd (by omega)) (o18.rd (by omega)) ).mono ?_
  rintro e w19 ⟨v19, rfl, o19, b19⟩
  obtain ⟨P19, k19, rfl⟩ := o19.form
  have u19 := hid o19.block
  have z19 := hid b19.size
  obtain ⟨y19, rfl⟩ := below_ex b19
  clear b19
  replace B := below_next B (x := y19)
  replace H0 := H0.more (x := y19)
  replace H2 := H2.more (x := y19)
  replace o3 := o3.more (x := y19)
  replace o6 := o6.more (x := y19)
  replace o17 := o17.more (x := y19)
  replace o18 := o18.more (x := y19)
  go_wp2_with fail
  refine (eqInt64S P19 P3 ((unfair xs0 a1 xs2).1) ((unfair xs0 a1 xs2).1) _ _ _ (o19.rd YL.out) (o3.rd YL.out)).mono ?_
  rintro e w20 ⟨rfl, b20⟩
  have z20 := hid b20.size
  obtain ⟨y20, rfl⟩ := below_ex b20
  clear b20
  replace B := below_next B (x := y20)
  replace H0 := H0.more (x := y20)
  replace H2 := H2.more (x := y20)
  replace o3 := o3.more (x := y20)
  replace o6 := o6.more (x := y20)
  replace o17 := o17.more (x := y20)
  replace o18 := o18.more (x := y20)
  replace o19 := o19.more (x := y20)
  go_wp2_with fail
  refine (heldInt64S _ _ _ _ _ (o6.rd (by rw [marks_len]; exact YL.out)) (by omega) (by omega)).mono ?_
  rintro e w21 ⟨rfl, b21⟩
  have z21 := hid b21.size
  obtain ⟨y21, rfl⟩ := below_ex b21
  clear b21
  replace B := below_next B (x := y21)
  replace H0 := H0.more (x := y21)
  replace H2 := H2.more (x := y21)
  replace o3 := o3.more (x := y21)
  replace o6 := o6.more (x := y21)
  replace o17 := o17.more (x := y21)
  replace o18 := o18.more (x := y21)
  replace o19 := o19.more (x := y21)
  go_wp2_with fail
  go_ret
  exact ⟨rfl, B⟩
set_option maxRecDepth 100000 in
theorem lifted (os : Os) (started : os.Started) (H : Type) (enc : TypeId × Value → H) :
    ReturnsInHanded {} Try.checked os 4 .any (Rows.fnExactUnfairDutiesSpec.pre6 enc Try.prog Try.f4 Rows.fnExactUnfairDutiesRow.domain false) (Rows.fnExactUnfairDutiesSpec.post enc Try.prog Try.f4 false true false false) := by
  refine returnsInHanded_of_change (C := Try.checked) ownLaw started (by kernel_rfl) Try.func4
    (ChangeSpec.witness6 (enc := enc) (C := Try.checked) false ⟨#[], #[.slice none 0 0, .int .i64 0, .slice none 0 0], []⟩ 8 (by kernel_rfl) (by kernel_rfl) (by kernel_rfl) (by kernel_rfl)) ?_
  intro W base args ds gs before hval0 hW _ _
  have hval : ∀ (j : Nat) t v, Try.f4.params[j]? = some t → args[j]? = some v → Value.okWide Try.prog W .any base t v := hval0
  have hW' := hW
  obtain ⟨p, q, hA0, hV, hbef, hfz, hnd⟩ := hW
  have hA : DataW.TrodAll enc Try.prog W 0 (fun _ => true) true Try.f4.params.toList args.toList ds p := hA0
  rw [Try.params4] at hA hval
  obtain ⟨v0, vs0, d0, ds0, p0, q0, hargs, rfl, hp0, h0, r0⟩ := trodAll_cons hA
  obtain ⟨v1, vs1, d1, ds1, p1, q1, rfl, rfl, hp1, h1, r1⟩ := trodAll_cons r0
  obtain ⟨v2, vs2, d2, ds2, p2, q2, rfl, rfl, hp2, h2, r2⟩ := trodAll_cons r1
  obtain ⟨rfl, rfl, hpl⟩ := trodAll_nil r2
  obtain rfl : args = #[v0, v1, v2] := by cases args; simp_all
  obtain ⟨rfl, hq⟩ := trodVars_none hV
  obtain ⟨A0, n0, c0, rfl, x0⟩ := open_structs (α := Duty) Try.underlying34 Try.underlying67 (by kernel_rfl) (by kernel_rfl) rfl (by decide) (by kernel_rfl) (hval 0 _ v0 rfl rfl) h0
  obtain ⟨a1, rfl, rfl, hz1, w1⟩ := open_int Try.underlying2 (hval 1 _ v1 rfl rfl) h1
  obtain ⟨A2, n2, c2, rfl, x2⟩ := open_structs (α := Parcel) Try.underlying22 Try.underlying60 (by kernel_rfl) (by kernel_rfl) rfl (by decide) (by kernel_rfl) (hval 2 _ v2 rfl rfl) h2
  refine (walk A0 n0 c0 x0 a1 (wf_range w1) A2 n2 c2 x2).mono fun e W' ⟨he, hb⟩ => ?_
  subst he
  exact ⟨_, rfl, law_close laidLaw (by kernel_rfl) rfl rfl (by kernel_rfl) hW' rfl rfl rfl hb⟩

theorem over : Rows.fnExactUnfairDutiesRow.holds Try.pinned (OpenSpec.ofChange Rows.fnExactUnfairDutiesSpec) :=
  OpenClaim.holds_of_wide 4 Try.f4 rfl rfl rfl rfl rfl rfl rfl ⟨rfl, rfl, rfl, rfl, rfl⟩ rfl rfl rfl rfl rfl (by kernel_rfl) Try.func4 (by kernel_rfl)
    (of_decide_eq_true (by kernel_rfl)) (by unfold Func.isWrapper; first | (rw [if_pos (by decide +kernel)]; kernel_rfl) | (rw [if_neg (by decide +kernel)]; exact ⟨rfl, rfl⟩))
    (fun os started H enc _ => lifted os started H enc)

theorem proved : Rows.FnExactUnfairDutiesSaid := over
end Go.Proofs.Ytampbbknhbhcbaa.fnExactUnfairDuties

