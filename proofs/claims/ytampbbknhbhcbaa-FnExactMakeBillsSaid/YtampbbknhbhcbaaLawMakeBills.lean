/- FnExactMakeBills: the walk and the row. Written by a program (genlaw3.py). -/
import Derived.Test.YtampbbknhbhcbaaBills
import Derived.Test.YtampbbknhbhcbaaLaw
import Derived.Test.YtampbbknhbhcbaaKind
import Derived.Deep.RegionHeld3
namespace Go.Proofs.Ytampbbknhbhcbaa.fnExactMakeBills
open Go.ChangeShapes Go.WideShapes Go.ChangeAt Go.RowKit
set_option linter.unusedVariables false
set_option maxHeartbeats 16000000 in
theorem walk {w : World} (A0 : Option Addr) (n0 c0 : Nat) (x0 : Arg Parcel w A0 n0) (A1 : Option Addr) (n1 c1 : Nat) (x1 : Arg Int w A1 n1) (a2 : Int) (bd2 : -9223372036854775808 ≤ a2 ∧ a2 ≤ 9223372036854775807) (a3 : Int) (bd3 : -9223372036854775808 ≤ a3 ∧ a3 ≤ 9223372036854775807) :
    Calls Try.prog 6 #[.slice A0 n0 c0, .slice A1 n1 c1, .int .i64 a2, .int .i64 a3] w fun e w' => e = .returned (.bool true) ∧ Below w.heap.size w w' := by
  have BB := Below.refl w.heap.size w
  obtain ⟨hn0, hx0⟩ := x0
  obtain ⟨hn1, hx1⟩ := x1
  by_cases g1 : (1048576 : Int) < n1
  · go_enter Try.func6, Try.ntmps6
    go_wp2_with fail
    go_ret
    exact ⟨rfl, BB⟩
  obtain ⟨xs1, rfl, h1, ft1⟩ := hx1 (by omega)
  by_cases g0 : (1048576 : Int) < n0
  · go_enter Try.func6, Try.ntmps6
    go_wp2_with fail
    refine (szParcelS A0 n0 c0 _ _ hn0 (by omega) (by omega)).mono ?_
    rintro e w' ⟨rfl, rfl⟩
    rw [if_pos (by omega)]
    go_wp2_with fail
    go_ret
    exact ⟨rfl, BB⟩
  obtain ⟨xs0, rfl, h0, ft0⟩ := hx0 (by omega)
  have yl : ((billsF xs0 xs1 a2 a3).1).length ≤ 1048576 := Nat.le_trans (billsF_len xs0 xs1 a2 a3) (by decide)
  have YL := hid yl
  clear yl
  go_enter Try.func6, Try.ntmps6
  go_wp2_with fail
  refine (szParcelS A0 xs0.length c0 _ _ hn0 (by omega) (by omega)).mono ?_
  rintro e w' ⟨rfl, rfl⟩
  rw [if_neg (by omega)]
  go_wp2_with fail
  have B := BB
  have H0 := h0.below B
  have H1 := h1.below B
  refine (toParcelS A0 xs0 c0 _ H0).mono ?_
  rintro e w1 ⟨u1, rfl, o1, b1⟩
  obtain ⟨P1, k1, rfl⟩ := o1.form
  replace o1 := Lies.of o1
  have z1 := hid b1.size
  replace B := B.trans (b1.mono B.size)
  replace H0 := H0.below b1
  replace H1 := H1.below b1
  clear b1
  go_wp2_with fail
  refine (toInt64S A1 xs1 c1 _ H1).mono ?_
  rintro e w2 ⟨u2, rfl, o2, b2⟩
  obtain ⟨P2, k2, rfl⟩ := o2.form
  replace o2 := Lies.of o2
  have z2 := hid b2.size
  replace B := B.trans (b2.mono B.size)
  replace o1 := o1.below b2
  replace H0 := H0.below b2
  replace H1 := H1.below b2
  clear b2
  go_wp2_with fail
  refine (specBills P1 xs0 k1 P2 xs1 k2 a2 a3 _ (o1.rd (by omega)) (o2.rd (by omega)) ).mono ?_
  rintro e w3 ⟨u3, rfl, o3, b3⟩
  obtain ⟨P3, k3, rfl⟩ := o3.form
  replace o3 := Lies.of o3
  have z3 := hid b3.size
  replace B := B.trans (b3.mono B.size)
  replace o1 := o1.below b3
  replace o2 := o2.below b3
  replace H0 := H0.below b3
  replace H1 := H1.below b3
  clear b3
  go_wp2_with fail
  clear o1
  clear o2
  refine (toParcelS A0 xs0 c0 _ H0).mono ?_
  rintro e w4 ⟨u4, rfl, o4, b4⟩
  obtain ⟨P4, k4, rfl⟩ := o4.form
  replace o4 := Lies.of o4
  have z4 := hid b4.size
  replace B := B.trans (b4.mono B.size)
  replace o3 := o3.below b4
  replace H0 := H0.below b4
  replace H1 := H1.below b4
  clear b4
  go_wp2_with fail
  refine (toInt64S A1 xs1 c1 _ H1).mono ?_
  rintro e w5 ⟨u5, rfl, o5, b5⟩
  obtain ⟨P5, k5, rfl⟩ := o5.form
  replace o5 := Lies.of o5
  have z5 := hid b5.size
  replace B := B.trans (b5.mono B.size)
  replace o3 := o3.below b5
  replace o4 := o4.below b5
  replace H0 := H0.below b5
  replace H1 := H1.below b5
  clear b5
  go_wp2_with fail
  refine (implBills P4 xs0 k4 P5 xs1 k5 a2 a3 _ (o4.rd (by omega)) (o5.rd (by omega)) ).mono ?_
  rintro e w6 ⟨u6, rfl, o6, b6⟩
  obtain ⟨P6, k6, rfl⟩ := o6.form
  replace o6 := Lies.of o6
  have z6 := hid b6.size
  replace B := B.trans (b6.mono B.size)
  replace o3 := o3.below b6
  replace o4 := o4.below b6
  replace o5 := o5.below b6
  replace H0 := H0.below b6
  replace H1 := H1.below b6
  clear b6
  go_wp2_with fail
  refine (eqBillS P6 P3 ((billsF xs0 xs1 a2 a3).1) ((billsF xs0 xs1 a2 a3).1) _ _ _ (o6.rd YL.out) (o3.rd YL.out)).mono ?_
  rintro e w7 ⟨rfl, b7⟩
  have z7 := hid b7.size
  replace B := B.trans (b7.mono B.size)
  replace o3 := o3.below b7
  replace o4 := o4.below b7
  replace o5 := o5.below b7
  replace o6 := o6.below b7
  replace H0 := H0.below b7
  replace H1 := H1.below b7
  clear b7
  go_wp2_with fail
  refine (toParcelS A0 xs0 c0 _ H0).mono ?_
  rintro e w8 ⟨u8, rfl, o8, b8⟩
  obtain ⟨P8, k8, rfl⟩ := o8.form
  replace o8 := Lies.of o8
  have z8 := hid b8.size
  replace B := B.trans (b8.mono B.size)
  replace o3 := o3.below b8
  replace o4 := o4.below b8
  replace o5 := o5.below b8
  replace o6 := o6.below b8
  replace H0 := H0.below b8
  replace H1 := H1.below b8
  clear b8
  go_wp2_with fail
  refine (eqParcelS P4 P8 xs0 xs0 _ _ _ (o4.rd (by omega)) (o8.rd (by omega))).mono ?_
  rintro e w9 ⟨rfl, b9⟩
  have z9 := hid b9.size
  replace B := B.trans (b9.mono B.size)
  replace o3 := o3.below b9
  replace o4 := o4.below b9
  replace o5 := o5.below b9
  replace o6 := o6.below b9
  replace o8 := o8.below b9
  replace H0 := H0.below b9
  replace H1 := H1.below b9
  clear b9
  go_wp2_with fail
  clear o8
  refine (toInt64S A1 xs1 c1 _ H1).mono ?_
  rintro e w10 ⟨u10, rfl, o10, b10⟩
  obtain ⟨P10, k10, rfl⟩ := o10.form
  replace o10 := Lies.of o10
  have z10 := hid b10.size
  replace B := B.trans (b10.mono B.size)
  replace o3 := o3.below b10
  replace o4 := o4.below b10
  replace o5 := o5.below b10
  replace o6 := o6.below b10
  replace H0 := H0.below b10
  replace H1 := H1.below b10
  clear b10
  go_wp2_with fail
  refine (eqInt64S P5 P10 xs1 xs1 _ _ _ (o5.rd (by omega)) (o10.rd (by omega))).mono ?_
  rintro e w11 ⟨rfl, b11⟩
  have z11 := hid b11.size
  replace B := B.trans (b11.mono B.size)
  replace o3 := o3.below b11
  replace o4 := o4.below b11
  replace o5 := o5.below b11
  replace o6 := o6.below b11
  replace o10 := o10.below b11
  replace H0 := H0.below b11
  replace H1 := H1.below b11
  clear b11
  go_wp2_with fail
  clear o10
  refine (markParcelS _ _ _ _ _ o4.1 (by omega) (by omega) (by omega)).mono ?_
  rintro e w12 ⟨rfl, p12, hg12⟩
  have S12 := o4.spans hg12
  replace o3 := o3.span S12 (by have := z1.out; have := z2.out; have := z3.out; have := z4.out; have := z5.out; have := z6.out; have := z7.out; have := z8.out; have := z9.out; have := z10.out; have := z11.out; omega)
  replace o5 := o5.span S12 (by have := z1.out; have := z2.out; have := z3.out; have := z4.out; have := z5.out; have := z6.out; have := z7.out; have := z8.out; have := z9.out; have := z10.out; have := z11.out; omega)
  replace o6 := o6.span S12 (by have := z1.out; have := z2.out; have := z3.out; have := z4.out; have := z5.out; have := z6.out; have := z7.out; have := z8.out; have := z9.out; have := z10.out; have := z11.out; omega)
  replace B := below_span B S12 (by have := z1.out; have := z2.out; have := z3.out; have := z4.out; have := z5.out; have := z6.out; have := z7.out; have := z8.out; have := z9.out; have := z10.out; have := z11.out; omega) B.size
  replace o4 := o4.marked p12 hg12.size
  clear p12 hg12
  have z12 := hid S12.size
  replace H0 := h0.below B
  replace H1 := h1.below B
  go_wp2_with fail
  clear o4
  refine (markInt64S _ _ _ _ _ o5.1 (by omega) (by omega) (by omega)).mono ?_
  rintro e w13 ⟨rfl, p13, hg13⟩
  have S13 := o5.spans hg13
  replace o3 := o3.span S13 (by have := z1.out; have := z2.out; have := z3.out; have := z4.out; have := z5.out; have := z6.out; have := z7.out; have := z8.out; have := z9.out; have := z10.out; have := z11.out; have := z12.out; omega)
  replace o6 := o6.span S13 (by have := z1.out; have := z2.out; have := z3.out; have := z4.out; have := z5.out; have := z6.out; have := z7.out; have := z8.out; have := z9.out; have := z10.out; have := z11.out; have := z12.out; omega)
  replace B := below_span B S13 (by have := z1.out; have := z2.out; have := z3.out; have := z4.out; have := z5.out; have := z6.out; have := z7.out; have := z8.out; have := z9.out; have := z10.out; have := z11.out; have := z12.out; omega) B.size
  replace o5 := o5.marked p13 hg13.size
  clear p13 hg13
  have z13 := hid S13.size
  replace H0 := h0.below B
  replace H1 := h1.below B
  go_wp2_with fail
  clear o5
  refine (eqBillS P6 P3 ((billsF xs0 xs1 a2 a3).1) ((billsF xs0 xs1 a2 a3).1) _ _ _ (o6.rd YL.out) (o3.rd YL.out)).mono ?_
  rintro e w14 ⟨rfl, b14⟩
  have z14 := hid b14.size
  replace B := B.trans (b14.mono B.size)
  replace o3 := o3.below b14
  replace o6 := o6.below b14
  replace H0 := H0.below b14
  replace H1 := H1.below b14
  clear b14
  go_wp2_with fail
  refine (markBillS _ _ _ _ _ o6.1 YL.out (by omega) (by omega)).mono ?_
  rintro e w15 ⟨rfl, p15, hg15⟩
  have S15 := o6.spans hg15
  replace o3 := o3.span S15 (by have := z1.out; have := z2.out; have := z3.out; have := z4.out; have := z5.out; have := z6.out; have := z7.out; have := z8.out; have := z9.out; have := z10.out; have := z11.out; have := z12.out; have := z13.out; have := z14.out; omega)
  replace B := below_span B S15 (by have := z1.out; have := z2.out; have := z3.out; have := z4.out; have := z5.out; have := z6.out; have := z7.out; have := z8.out; have := z9.out; have := z10.out; have := z11.out; have := z12.out; have := z13.out; have := z14.out; omega) B.size
  replace o6 := o6.marked p15 hg15.size
  clear p15 hg15
  have z15 := hid S15.size
  replace H0 := h0.below B
  replace H1 := h1.below B
  go_wp2_with fail
  refine (heldBillS _ _ _ _ _ (o6.rd (by rw [marksBill_len]; exact YL.out)) (by omega) (by omega)).mono ?_
  rintro e w16 ⟨rfl, b16⟩
  have z16 := hid b16.size
  replace B := B.trans (b16.mono B.size)
  replace o3 := o3.below b16
  replace o6 := o6.below b16
  replace H0 := H0.below b16
  replace H1 := H1.below b16
  clear b16
  go_wp2_with fail
  refine (toParcelS A0 xs0 c0 _ H0).mono ?_
  rintro e w17 ⟨u17, rfl, o17, b17⟩
  obtain ⟨P17, k17, rfl⟩ := o17.form
  replace o17 := Lies.of o17
  have z17 := hid b17.size
  replace B := B.trans (b17.mono B.size)
  replace o3 := o3.below b17
  replace o6 := o6.below b17
  replace H0 := H0.below b17
  replace H1 := H1.below b17
  clear b17
  go_wp2_with fail
  refine (toInt64S A1 xs1 c1 _ H1).mono ?_
  rintro e w18 ⟨u18, rfl, o18, b18⟩
  obtain ⟨P18, k18, rfl⟩ := o18.form
  replace o18 := Lies.of o18
  have z18 := hid b18.size
  replace B := B.trans (b18.mono B.size)
  replace o3 := o3.below b18
  replace o6 := o6.below b18
  replace o17 := o17.below b18
  replace H0 := H0.below b18
  replace H1 := H1.below b18
  clear b18
  go_wp2_with fail
  refine (implBills P17 xs0 k17 P18 xs1 k18 a2 a3 _ (o17.rd (by omega)) (o18.rd (by omega)) ).mono ?_
  rintro e w19 ⟨u19, rfl, o19, b19⟩
  obtain ⟨P19, k19, rfl⟩ := o19.form
  replace o19 := Lies.of o19
  have z19 := hid b19.size
  replace B := B.trans (b19.mono B.size)
  replace o3 := o3.below b19
  replace o6 := o6.below b19
  replace o17 := o17.below b19
  replace o18 := o18.below b19
  replace H0 := H0.below b19
  replace H1 := H1.below b19
  clear b19
  go_wp2_with fail
  refine (eqBillS P19 P3 ((billsF xs0 xs1 a2 a3).1) ((billsF xs0 xs1 a2 a3).1) _ _ _ (o19.rd YL.out) (o3.rd YL.out)).mono ?_
  rintro e w20 ⟨rfl, b20⟩
  have z20 := hid b20.size
  replace B := B.trans (b20.mono B.size)
  replace o3 := o3.below b20
  replace o6 := o6.below b20
  replace o17 := o17.below b20
  replace o18 := o18.below b20
  replace o19 := o19.below b20
  replace H0 := H0.below b20
  replace H1 := H1.below b20
  clear b20
  go_wp2_with fail
  refine (heldBillS _ _ _ _ _ (o6.rd (by rw [marksBill_len]; exact YL.out)) (by omega) (by omega)).mono ?_
  rintro e w21 ⟨rfl, b21⟩
  have z21 := hid b21.size
  replace B := B.trans (b21.mono B.size)
  replace o3 := o3.below b21
  replace o6 := o6.below b21
  replace o17 := o17.below b21
  replace o18 := o18.below b21
  replace o19 := o19.below b21
  replace H0 := H0.below b21
  replace H1 := H1.below b21
  clear b21
  go_wp2_with fail
  go_ret
  exact ⟨rfl, B⟩
set_option maxRecDepth 100000 in
theorem lifted (os : Os) (started : os.Started) (H : Type) (enc : TypeId × Value → H) :
    ReturnsInHanded {} Try.checked os 6 .any (Rows.fnExactMakeBillsSpec.pre6 enc Try.prog Try.f6 Rows.fnExactMakeBillsRow.domain false) (Rows.fnExactMakeBillsSpec.post enc Try.prog Try.f6 false true false false) := by
  refine returnsInHanded_of_change (C := Try.checked) ownLaw started (by kernel_rfl) Try.func6
    (ChangeSpec.witness6 (enc := enc) (C := Try.checked) false ⟨#[], #[.slice none 0 0, .slice none 0 0, .int .i64 0, .int .i64 0], []⟩ 8 (by kernel_rfl) (by kernel_rfl) (by kernel_rfl) (by kernel_rfl)) ?_
  intro W base args ds gs before hval0 hW _ _
  have hval : ∀ (j : Nat) t v, Try.f6.params[j]? = some t → args[j]? = some v → Value.okWide Try.prog W .any base t v := hval0
  have hW' := hW
  obtain ⟨p, q, hA0, hV, hbef, hfz, hnd⟩ := hW
  have hA : DataW.TrodAll enc Try.prog W 0 (fun _ => true) true Try.f6.params.toList args.toList ds p := hA0
  rw [Try.params6] at hA hval
  obtain ⟨v0, vs0, d0, ds0, p0, q0, hargs, rfl, hp0, h0, r0⟩ := trodAll_cons hA
  obtain ⟨v1, vs1, d1, ds1, p1, q1, rfl, rfl, hp1, h1, r1⟩ := trodAll_cons r0
  obtain ⟨v2, vs2, d2, ds2, p2, q2, rfl, rfl, hp2, h2, r2⟩ := trodAll_cons r1
  obtain ⟨v3, vs3, d3, ds3, p3, q3, rfl, rfl, hp3, h3, r3⟩ := trodAll_cons r2
  obtain ⟨rfl, rfl, hpl⟩ := trodAll_nil r3
  obtain rfl : args = #[v0, v1, v2, v3] := by cases args; simp_all
  obtain ⟨rfl, hq⟩ := trodVars_none hV
  obtain ⟨A0, n0, c0, rfl, x0⟩ := open_structs (α := Parcel) Try.underlying22 Try.underlying60 (by kernel_rfl) (by kernel_rfl) rfl (by decide) (by kernel_rfl) (hval 0 _ v0 rfl rfl) h0
  obtain ⟨A1, n1, c1, rfl, x1⟩ := open_nums Try.underlying36 Try.underlying2 (by kernel_rfl) (hval 1 _ v1 rfl rfl) h1
  obtain ⟨a2, rfl, rfl, hz2, w2⟩ := open_int Try.underlying2 (hval 2 _ v2 rfl rfl) h2
  obtain ⟨a3, rfl, rfl, hz3, w3⟩ := open_int Try.underlying2 (hval 3 _ v3 rfl rfl) h3
  refine (walk A0 n0 c0 x0 A1 n1 c1 x1 a2 (wf_range w2) a3 (wf_range w3)).mono fun e W' ⟨he, hb⟩ => ?_
  subst he
  exact ⟨_, rfl, law_close laidLaw (by kernel_rfl) rfl rfl (by kernel_rfl) hW' rfl rfl rfl hb⟩

theorem over : Rows.fnExactMakeBillsRow.holds Try.pinned (OpenSpec.ofChange Rows.fnExactMakeBillsSpec) :=
  OpenClaim.holds_of_wide 6 Try.f6 rfl rfl rfl rfl rfl rfl rfl ⟨rfl, rfl, rfl, rfl, rfl⟩ rfl rfl rfl rfl rfl (by kernel_rfl) Try.func6 (by kernel_rfl)
    (of_decide_eq_true (by kernel_rfl)) (by unfold Func.isWrapper; first | (rw [if_pos (by decide +kernel)]; kernel_rfl) | (rw [if_neg (by decide +kernel)]; exact ⟨rfl, rfl⟩))
    (fun os started H enc _ => lifted os started H enc)

theorem proved : Rows.FnExactMakeBillsSaid := over
end Go.Proofs.Ytampbbknhbhcbaa.fnExactMakeBills
