/- FnExactDivideDike: the walk and the row. Written by a program (genlaw.py). -/
import Derived.Test.YtampbbknhbhcbaaDivI
import Derived.Test.YtampbbknhbhcbaaLaw
namespace Go.Proofs.Ytampbbknhbhcbaa.fnExactDivideDike
open Go.ChangeShapes Go.WideShapes Go.ChangeAt Go.RowKit
set_option linter.unusedVariables false
set_option maxHeartbeats 4000000 in
theorem walk {w : World} (A0 : Option Addr) (n0 c0 : Nat) (x0 : Arg Parcel w A0 n0) (a1 : Int) (bd1 : -9223372036854775808 ≤ a1 ∧ a1 ≤ 9223372036854775807) :
    Calls Try.prog 3 #[.slice A0 n0 c0, .int .i64 a1] w fun e w' => e = .returned (.bool true) ∧ Below w.heap.size w w' := by
  obtain ⟨hn0, hx0⟩ := x0
  by_cases g0 : (1048576 : Int) < n0
  · have B := Below.refl w.heap.size w
    go_enter Try.func3, Try.ntmps3
    go_wp2_with fail
    refine (szParcelS A0 n0 c0 1048576 _ hn0 (by omega) (by omega)).mono ?_
    rintro e w' ⟨rfl, rfl⟩
    rw [if_pos (by omega)]
    go_wp2_with fail
    go_ret
    exact ⟨rfl, B⟩
  obtain ⟨xs0, rfl, h0, ft0⟩ := hx0 (by omega)
  have yl : ((divL xs0 a1).1).length ≤ 1048576 := Nat.le_trans (divL_len xs0 a1) (by decide)
  have YL := hid yl
  clear yl
  have B := Below.refl w.heap.size w
  go_enter Try.func3, Try.ntmps3
  go_wp2_with fail
  refine (szParcelS A0 xs0.length c0 1048576 _ hn0 (by omega) (by omega)).mono ?_
  rintro e w' ⟨rfl, rfl⟩
  rw [if_neg (by omega)]
  have H0 := h0.below B
  go_wp2_with fail
  refine (toParcelS A0 xs0 c0 _ H0).mono ?_
  rintro e w1 ⟨v1, rfl, o1, b1⟩
  obtain ⟨P1, k1, rfl⟩ := o1.form
  have u1 := hid o1.block
  have z1 := hid b1.size
  obtain ⟨y1, rfl⟩ := below_ex b1
  clear b1
  replace B := below_next B (x := y1)
  replace H0 := H0.more (x := y1)
  go_wp2_with fail
  refine (specDivide P1 xs0 k1 a1 _ (o1.rd (by omega)) ).mono ?_
  rintro e w2 ⟨v2, rfl, o2, b2⟩
  obtain ⟨P2, k2, rfl⟩ := o2.form
  have u2 := hid o2.block
  have z2 := hid b2.size
  obtain ⟨y2, rfl⟩ := below_ex b2
  clear b2
  replace B := below_next B (x := y2)
  replace H0 := H0.more (x := y2)
  replace o1 := o1.more (x := y2)
  go_wp2_with fail
  clear o1
  refine (toParcelS A0 xs0 c0 _ H0).mono ?_
  rintro e w3 ⟨v3, rfl, o3, b3⟩
  obtain ⟨P3, k3, rfl⟩ := o3.form
  have u3 := hid o3.block
  have z3 := hid b3.size
  obtain ⟨y3, rfl⟩ := below_ex b3
  clear b3
  replace B := below_next B (x := y3)
  replace H0 := H0.more (x := y3)
  replace o2 := o2.more (x := y3)
  go_wp2_with fail
  refine (implDivide P3 xs0 k3 a1 _ (o3.rd (by omega)) ).mono ?_
  rintro e w4 ⟨v4, rfl, o4, b4⟩
  obtain ⟨P4, k4, rfl⟩ := o4.form
  have u4 := hid o4.block
  have z4 := hid b4.size
  obtain ⟨y4, rfl⟩ := below_ex b4
  clear b4
  replace B := below_next B (x := y4)
  replace H0 := H0.more (x := y4)
  replace o2 := o2.more (x := y4)
  replace o3 := o3.more (x := y4)
  go_wp2_with fail
  refine (eqDutyS P4 P2 ((divL xs0 a1).1) ((divL xs0 a1).1) _ _ _ (o4.rd YL.out) (o2.rd YL.out)).mono ?_
  rintro e w5 ⟨rfl, b5⟩
  have z5 := hid b5.size
  obtain ⟨y5, rfl⟩ := below_ex b5
  clear b5
  replace B := below_next B (x := y5)
  replace H0 := H0.more (x := y5)
  replace o2 := o2.more (x := y5)
  replace o3 := o3.more (x := y5)
  replace o4 := o4.more (x := y5)
  go_wp2_with fail
  refine (toParcelS A0 xs0 c0 _ H0).mono ?_
  rintro e w6 ⟨v6, rfl, o6, b6⟩
  obtain ⟨P6, k6, rfl⟩ := o6.form
  have u6 := hid o6.block
  have z6 := hid b6.size
  obtain ⟨y6, rfl⟩ := below_ex b6
  clear b6
  replace B := below_next B (x := y6)
  replace H0 := H0.more (x := y6)
  replace o2 := o2.more (x := y6)
  replace o3 := o3.more (x := y6)
  replace o4 := o4.more (x := y6)
  go_wp2_with fail
  refine (eqParcelS P3 P6 xs0 xs0 _ _ _ (o3.rd (by omega)) (o6.rd (by omega))).mono ?_
  rintro e w7 ⟨rfl, b7⟩
  have z7 := hid b7.size
  obtain ⟨y7, rfl⟩ := below_ex b7
  clear b7
  replace B := below_next B (x := y7)
  replace H0 := H0.more (x := y7)
  replace o2 := o2.more (x := y7)
  replace o3 := o3.more (x := y7)
  replace o4 := o4.more (x := y7)
  replace o6 := o6.more (x := y7)
  go_wp2_with fail
  clear o6
  refine (markParcelS _ _ _ _ _ o3 (by omega) (by omega) (by omega)).mono ?_
  rintro e w8 ⟨rfl, q8, hg8⟩
  have z8 := hid hg8.size
  replace o2 := o2.beside hg8 (fun k g hk hg => by have := u2.out k hk; have := u3.out g hg; have := z1.out; have := z2.out; have := z3.out; have := z4.out; have := z5.out; have := z6.out; have := z7.out; have := z8.out; omega)
  replace o4 := o4.beside hg8 (fun k g hk hg => by have := u4.out k hk; have := u3.out g hg; have := z1.out; have := z2.out; have := z3.out; have := z4.out; have := z5.out; have := z6.out; have := z7.out; have := z8.out; omega)
  replace B := B.grown hg8 B.size (fun g hg => by have := u3.out g hg; have := z1.out; have := z2.out; have := z3.out; have := z4.out; have := z5.out; have := z6.out; have := z7.out; have := z8.out; omega)
  clear o3
  have o3 := q8
  clear q8 hg8
  replace H0 := h0.below B
  go_wp2_with fail
  clear o3
  refine (eqDutyS P4 P2 ((divL xs0 a1).1) ((divL xs0 a1).1) _ _ _ (o4.rd YL.out) (o2.rd YL.out)).mono ?_
  rintro e w9 ⟨rfl, b9⟩
  have z9 := hid b9.size
  obtain ⟨y9, rfl⟩ := below_ex b9
  clear b9
  replace B := below_next B (x := y9)
  replace H0 := H0.more (x := y9)
  replace o2 := o2.more (x := y9)
  replace o4 := o4.more (x := y9)
  go_wp2_with fail
  refine (markDutyS _ _ _ _ _ o4 YL.out (by omega) (by omega)).mono ?_
  rintro e w10 ⟨rfl, q10, hg10⟩
  have z10 := hid hg10.size
  replace o2 := o2.beside hg10 (fun k g hk hg => by have := u2.out k hk; have := u4.out g hg; have := z1.out; have := z2.out; have := z3.out; have := z4.out; have := z5.out; have := z6.out; have := z7.out; have := z8.out; have := z9.out; have := z10.out; omega)
  replace B := B.grown hg10 B.size (fun g hg => by have := u4.out g hg; have := z1.out; have := z2.out; have := z3.out; have := z4.out; have := z5.out; have := z6.out; have := z7.out; have := z8.out; have := z9.out; have := z10.out; omega)
  clear o4
  have o4 := q10
  clear q10 hg10
  replace H0 := h0.below B
  go_wp2_with fail
  refine (heldDutyS _ _ _ _ _ (o4.rd (by rw [marksDuty_len]; exact YL.out)) (by omega) (by omega)).mono ?_
  rintro e w11 ⟨rfl, b11⟩
  have z11 := hid b11.size
  obtain ⟨y11, rfl⟩ := below_ex b11
  clear b11
  replace B := below_next B (x := y11)
  replace H0 := H0.more (x := y11)
  replace o2 := o2.more (x := y11)
  replace o4 := o4.more (x := y11)
  go_wp2_with fail
  refine (toParcelS A0 xs0 c0 _ H0).mono ?_
  rintro e w12 ⟨v12, rfl, o12, b12⟩
  obtain ⟨P12, k12, rfl⟩ := o12.form
  have u12 := hid o12.block
  have z12 := hid b12.size
  obtain ⟨y12, rfl⟩ := below_ex b12
  clear b12
  replace B := below_next B (x := y12)
  replace H0 := H0.more (x := y12)
  replace o2 := o2.more (x := y12)
  replace o4 := o4.more (x := y12)
  go_wp2_with fail
  refine (implDivide P12 xs0 k12 a1 _ (o12.rd (by omega)) ).mono ?_
  rintro e w13 ⟨v13, rfl, o13, b13⟩
  obtain ⟨P13, k13, rfl⟩ := o13.form
  have u13 := hid o13.block
  have z13 := hid b13.size
  obtain ⟨y13, rfl⟩ := below_ex b13
  clear b13
  replace B := below_next B (x := y13)
  replace H0 := H0.more (x := y13)
  replace o2 := o2.more (x := y13)
  replace o4 := o4.more (x := y13)
  replace o12 := o12.more (x := y13)
  go_wp2_with fail
  refine (eqDutyS P13 P2 ((divL xs0 a1).1) ((divL xs0 a1).1) _ _ _ (o13.rd YL.out) (o2.rd YL.out)).mono ?_
  rintro e w14 ⟨rfl, b14⟩
  have z14 := hid b14.size
  obtain ⟨y14, rfl⟩ := below_ex b14
  clear b14
  replace B := below_next B (x := y14)
  replace H0 := H0.more (x := y14)
  replace o2 := o2.more (x := y14)
  replace o4 := o4.more (x := y14)
  replace o12 := o12.more (x := y14)
  replace o13 := o13.more (x := y14)
  go_wp2_with fail
  refine (heldDutyS _ _ _ _ _ (o4.rd (by rw [marksDuty_len]; exact YL.out)) (by omega) (by omega)).mono ?_
  rintro e w15 ⟨rfl, b15⟩
  have z15 := hid b15.size
  obtain ⟨y15, rfl⟩ := below_ex b15
  clear b15
  replace B := below_next B (x := y15)
  replace H0 := H0.more (x := y15)
  replace o2 := o2.more (x := y15)
  replace o4 := o4.more (x := y15)
  replace o12 := o12.more (x := y15)
  replace o13 := o13.more (x := y15)
  go_wp2_with fail
  go_ret
  exact ⟨rfl, B⟩
set_option maxRecDepth 100000 in
theorem lifted (os : Os) (started : os.Started) (H : Type) (enc : TypeId × Value → H) :
    ReturnsInHanded {} Try.checked os 3 .any (Rows.fnExactDivideDikeSpec.pre6 enc Try.prog Try.f3 Rows.fnExactDivideDikeRow.domain false) (Rows.fnExactDivideDikeSpec.post enc Try.prog Try.f3 false true false false) := by
  refine returnsInHanded_of_change (C := Try.checked) ownLaw started (by kernel_rfl) Try.func3
    (ChangeSpec.witness6 (enc := enc) (C := Try.checked) false ⟨#[], #[.slice none 0 0, .int .i64 0], []⟩ 8 (by kernel_rfl) (by kernel_rfl) (by kernel_rfl) (by kernel_rfl)) ?_
  intro W base args ds gs before hval0 hW _ _
  have hval : ∀ (j : Nat) t v, Try.f3.params[j]? = some t → args[j]? = some v → Value.okWide Try.prog W .any base t v := hval0
  have hW' := hW
  obtain ⟨p, q, hA0, hV, hbef, hfz, hnd⟩ := hW
  have hA : DataW.TrodAll enc Try.prog W 0 (fun _ => true) true Try.f3.params.toList args.toList ds p := hA0
  rw [Try.params3] at hA hval
  obtain ⟨v0, vs0, d0, ds0, p0, q0, hargs, rfl, hp0, h0, r0⟩ := trodAll_cons hA
  obtain ⟨v1, vs1, d1, ds1, p1, q1, rfl, rfl, hp1, h1, r1⟩ := trodAll_cons r0
  obtain ⟨rfl, rfl, hpl⟩ := trodAll_nil r1
  obtain rfl : args = #[v0, v1] := by cases args; simp_all
  obtain ⟨rfl, hq⟩ := trodVars_none hV
  obtain ⟨A0, n0, c0, rfl, x0⟩ := open_structs (α := Parcel) Try.underlying22 Try.underlying60 (by kernel_rfl) (by kernel_rfl) rfl (by decide) (by kernel_rfl) (hval 0 _ v0 rfl rfl) h0
  obtain ⟨a1, rfl, rfl, hz1, w1⟩ := open_int Try.underlying2 (hval 1 _ v1 rfl rfl) h1
  refine (walk A0 n0 c0 x0 a1 (wf_range w1)).mono fun e W' ⟨he, hb⟩ => ?_
  subst he
  exact ⟨_, rfl, law_close laidLaw (by kernel_rfl) rfl rfl (by kernel_rfl) hW' rfl rfl rfl hb⟩

theorem over : Rows.fnExactDivideDikeRow.holds Try.pinned (OpenSpec.ofChange Rows.fnExactDivideDikeSpec) :=
  OpenClaim.holds_of_wide 3 Try.f3 rfl rfl rfl rfl rfl rfl rfl ⟨rfl, rfl, rfl, rfl, rfl⟩ rfl rfl rfl rfl rfl (by kernel_rfl) Try.func3 (by kernel_rfl)
    (of_decide_eq_true (by kernel_rfl)) (by unfold Func.isWrapper; first | (rw [if_pos (by decide +kernel)]; kernel_rfl) | (rw [if_neg (by decide +kernel)]; exact ⟨rfl, rfl⟩))
    (fun os started H enc _ => lifted os started H enc)

theorem proved : Rows.FnExactDivideDikeSaid := over
end Go.Proofs.Ytampbbknhbhcbaa.fnExactDivideDike

