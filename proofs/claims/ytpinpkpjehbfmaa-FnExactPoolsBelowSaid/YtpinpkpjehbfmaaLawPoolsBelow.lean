/- FnExactPoolsBelow: the walk and the row. Written by a program (genlaw3.py). -/
import Derived.Test.YtpinpkpjehbfmaaPoolsI
import Derived.Test.YtpinpkpjehbfmaaLaw
import Derived.Test.YtpinpkpjehbfmaaKind
import Derived.Deep.RegionHeld3
namespace Go.Proofs.Ytpinpkpjehbfmaa.fnExactPoolsBelow
open Go.ChangeShapes Go.WideShapes Go.ChangeAt Go.RowKit
set_option linter.unusedVariables false
set_option maxHeartbeats 16000000 in
theorem walk {w : World} (Rx0 : Int) (Cx0 : Int) (Ax0 : Option Addr) (nx0 : Nat) (cx0 : Nat) (x0 : ArgLand w (.agg #[.int .i64 Rx0, .int .i64 Cx0, .slice Ax0 nx0 cx0])) (a1 : Int) (bd1 : -9223372036854775808 ≤ a1 ∧ a1 ≤ 9223372036854775807) :
    Calls Try.prog 4 #[.agg #[.int .i64 Rx0, .int .i64 Cx0, .slice Ax0 nx0 cx0], .int .i64 a1] w fun e w' => e = .returned (.bool true) ∧ Below w.heap.size w w' := by
  have BB : ∀ o1, Below w.heap.size w (w.alloc o1) := fun o1 => (Below.refl w.heap.size w).alloc (Nat.le_refl _) o1
  rcases szLand_ x0 (1048576 : Int) (by omega) (by omega) with s0 | ⟨l0, t0, lb0, h0, ft0, s0⟩
  · go_enter Try.func4, Try.ntmps4
    go_wp2_with fail
    refine (s0 _ (BB _)).mono ?_
    rintro e w1 ⟨rfl, b1⟩
    have z1 : Hid (w.heap.size + 1 ≤ w1.heap.size) := by have := b1.size; simp at this; show w.heap.size + 1 ≤ w1.heap.size; omega
    have B := (BB _).trans (b1.mono (BB _).size)
    have ca0_0 : w1.cell? ⟨w.heap.size, 0, none⟩ = some (.int .i64 Rx0) := box_cell b1 (by simp [go_sem])
    have ca0_1 : w1.cell? ⟨w.heap.size, 1, none⟩ = some (.int .i64 Cx0) := box_cell b1 (by simp [go_sem])
    have ca0_2 : w1.cell? ⟨w.heap.size, 2, none⟩ = some (.slice Ax0 nx0 cx0) := box_cell b1 (by simp [go_sem])
    clear b1
    go_wp2_with fail
    go_ret
    exact ⟨rfl, B⟩
  have lc0 := lb0.1
  have ld0 := lb0.2
  have yl : (poolF t0 a1).length ≤ 1048576 := poolF_len t0 a1
  have YL := hid yl
  clear yl
  go_enter Try.func4, Try.ntmps4
  go_wp2_with fail
  refine (s0 _ (BB _)).mono ?_
  rintro e w1 ⟨rfl, b1⟩
  have z1 : Hid (w.heap.size + 1 ≤ w1.heap.size) := by have := b1.size; simp at this; show w.heap.size + 1 ≤ w1.heap.size; omega
  have B := (BB _).trans (b1.mono (BB _).size)
  have ca0_0 : w1.cell? ⟨w.heap.size, 0, none⟩ = some (.int .i64 Rx0) := box_cell b1 (by simp [go_sem])
  have ca0_1 : w1.cell? ⟨w.heap.size, 1, none⟩ = some (.int .i64 Cx0) := box_cell b1 (by simp [go_sem])
  have ca0_2 : w1.cell? ⟨w.heap.size, 2, none⟩ = some (.slice Ax0 nx0 cx0) := box_cell b1 (by simp [go_sem])
  clear b1
  go_wp2_with fail
  have H0 := h0.below B
  refine (toLand_ (.agg #[.int .i64 Rx0, .int .i64 Cx0, .slice Ax0 nx0 cx0]) t0 _ H0).mono ?_
  rintro e w2 ⟨u2, rfl, o2, b2⟩
  obtain ⟨Ay2, cy2, rfl⟩ := o2.form
  have z2 := hid b2.size
  replace B := B.trans (b2.mono B.size)
  replace ca0_0 := box_cell b2 ca0_0
  replace ca0_1 := box_cell b2 ca0_1
  replace ca0_2 := box_cell b2 ca0_2
  replace H0 := H0.below b2
  clear b2
  go_wp2_with fail
  refine (specPoolsBelow _ t0 a1 _ (o2.rd ft0) ).mono ?_
  rintro e w3 ⟨u3, rfl, o3, b3⟩
  obtain ⟨P3, k3, rfl⟩ := o3.form
  replace o3 := Lies.of o3
  have z3 := hid b3.size
  replace B := B.trans (b3.mono B.size)
  replace ca0_0 := box_cell b3 ca0_0
  replace ca0_1 := box_cell b3 ca0_1
  replace ca0_2 := box_cell b3 ca0_2
  replace o2 := o2.below b3
  replace H0 := H0.below b3
  clear b3
  go_wp2_with fail
  clear o2
  refine (toLand_ (.agg #[.int .i64 Rx0, .int .i64 Cx0, .slice Ax0 nx0 cx0]) t0 _ H0).mono ?_
  rintro e w4 ⟨u4, rfl, o4, b4⟩
  obtain ⟨Ay4, cy4, rfl⟩ := o4.form
  have z4 := hid b4.size
  replace B := B.trans (b4.mono B.size)
  replace ca0_0 := box_cell b4 ca0_0
  replace ca0_1 := box_cell b4 ca0_1
  replace ca0_2 := box_cell b4 ca0_2
  replace o3 := o3.below b4
  replace H0 := H0.below b4
  clear b4
  go_wp2_with fail
  obtain ⟨w5, hw5⟩ : ∃ x, w4.alloc (.cells #[.int .i64 t0.rows, .int .i64 t0.columns, .slice Ay4 t0.heights.length cy4] 28) = x := ⟨_, rfl⟩
  rw [hw5]
  have b5 : Below w4.heap.size w4 w5 := by rw [← hw5]; exact (Below.refl _ _).alloc (Nat.le_refl _) _
  have y5 : Hid (w4.heap.size < w5.heap.size) := by rw [← hw5]; simp [Hid]
  have cx5_0 : w5.cell? ⟨w4.heap.size, 0, none⟩ = some (.int .i64 t0.rows) := by rw [← hw5]; simp [go_sem]
  have cx5_1 : w5.cell? ⟨w4.heap.size, 1, none⟩ = some (.int .i64 t0.columns) := by rw [← hw5]; simp [go_sem]
  have cx5_2 : w5.cell? ⟨w4.heap.size, 2, none⟩ = some (.slice Ay4 t0.heights.length cy4) := by rw [← hw5]; simp [go_sem]
  clear hw5
  have z5 := hid b5.size
  replace B := B.trans (b5.mono B.size)
  replace ca0_0 := box_cell b5 ca0_0
  replace ca0_1 := box_cell b5 ca0_1
  replace ca0_2 := box_cell b5 ca0_2
  replace o3 := o3.below b5
  replace o4 := o4.below b5
  replace H0 := H0.below b5
  clear b5
  refine (implPoolsBelow _ t0 a1 _ (o4.rd ft0) ).mono ?_
  rintro e w6 ⟨u6, rfl, o6, b6⟩
  obtain ⟨P6, k6, rfl⟩ := o6.form
  replace o6 := Lies.of o6
  have z6 := hid b6.size
  replace B := B.trans (b6.mono B.size)
  replace ca0_0 := box_cell b6 ca0_0
  replace ca0_1 := box_cell b6 ca0_1
  replace ca0_2 := box_cell b6 ca0_2
  replace cx5_0 := box_cell b6 cx5_0
  replace cx5_1 := box_cell b6 cx5_1
  replace cx5_2 := box_cell b6 cx5_2
  replace o3 := o3.below b6
  replace o4 := o4.below b6
  replace H0 := H0.below b6
  clear b6
  go_wp2_with fail
  refine (eqInt64S P6 P3 (poolF t0 a1) (poolF t0 a1) _ _ _ (o6.rd YL.out) (o3.rd YL.out)).mono ?_
  rintro e w7 ⟨rfl, b7⟩
  have z7 := hid b7.size
  replace B := B.trans (b7.mono B.size)
  replace ca0_0 := box_cell b7 ca0_0
  replace ca0_1 := box_cell b7 ca0_1
  replace ca0_2 := box_cell b7 ca0_2
  replace cx5_0 := box_cell b7 cx5_0
  replace cx5_1 := box_cell b7 cx5_1
  replace cx5_2 := box_cell b7 cx5_2
  replace o3 := o3.below b7
  replace o4 := o4.below b7
  replace o6 := o6.below b7
  replace H0 := H0.below b7
  clear b7
  go_wp2_with fail
  go_region_held3 (fun w' => w'.cell? ⟨w.heap.size, 0, none⟩ = some (.int .i64 Rx0) ∧ w'.cell? ⟨w.heap.size, 1, none⟩ = some (.int .i64 Cx0) ∧ w'.cell? ⟨w.heap.size, 2, none⟩ = some (.slice Ax0 nx0 cx0) ∧ w'.cell? ⟨w4.heap.size, 0, none⟩ = some (.int .i64 t0.rows) ∧ w'.cell? ⟨w4.heap.size, 1, none⟩ = some (.int .i64 t0.columns) ∧ w'.cell? ⟨w4.heap.size, 2, none⟩ = some (.slice Ay4 t0.heights.length cy4))
    (first | go_keep | ((repeat' apply And.intro) <;> first | exact box_cell (by assumption) (by assumption) | exact box_cell (by assumption) (box_cell (by assumption) (by assumption)) | exact box_cell (by assumption) (box_cell (by assumption) (box_cell (by assumption) (by assumption))) | exact box_cell (by assumption) (box_cell (by assumption) (box_cell (by assumption) (box_cell (by assumption) (by assumption))))))
    (first
      | (go_at_call 19; have hb := b8; clear hb; refine (eqLand_ _ _ t0 t0 _ (o4.rd ft0) (o8.rd ft0)).mono ?_; rintro e w9 ⟨rfl, b9⟩; replace o3 := o3.below b9; replace o4 := o4.below b9; replace o6 := o6.below b9; replace o8 := o8.below b9; replace H0 := H0.below b9)
      | (go_at_call 16; refine (toLand_ (.agg #[.int .i64 Rx0, .int .i64 Cx0, .slice Ax0 nx0 cx0]) t0 _ H0.drew).mono ?_; rintro e w8 ⟨u8, rfl, o8, b8⟩; replace b8 := undrew b8; rw [show w7.drew.heap.size = w7.heap.size from rfl] at o8; obtain ⟨Ay8, cy8, rfl⟩ := o8.form; replace o3 := o3.below b8; replace o4 := o4.below b8; replace o6 := o6.below b8; replace H0 := H0.below b8)
    )
  have z8 := hid b8.size
  replace B := B.trans (b8.mono B.size)
  replace ca0_0 := box_cell b8 ca0_0
  replace ca0_1 := box_cell b8 ca0_1
  replace ca0_2 := box_cell b8 ca0_2
  replace cx5_0 := box_cell b8 cx5_0
  replace cx5_1 := box_cell b8 cx5_1
  replace cx5_2 := box_cell b8 cx5_2
  clear b8
  have z9 := hid b9.size
  replace B := B.trans (b9.mono B.size)
  replace ca0_0 := box_cell b9 ca0_0
  replace ca0_1 := box_cell b9 ca0_1
  replace ca0_2 := box_cell b9 ca0_2
  replace cx5_0 := box_cell b9 cx5_0
  replace cx5_1 := box_cell b9 cx5_1
  replace cx5_2 := box_cell b9 cx5_2
  clear b9
  go_wp2_with fail
  clear o8
  refine (markLand_ _ _ _ _ _ _ o4 ft0 (by omega) (by omega)).mono ?_
  rintro e w10 ⟨q10, rfl, m10, S10⟩
  have ma10 := m10.1
  have mb10 := m10.2
  clear o4
  replace o3 := o3.span S10 (by have := z1.out; have := z2.out; have := z3.out; have := z4.out; have := y5.out; have := z5.out; have := z6.out; have := z7.out; have := z8.out; have := z9.out; omega)
  replace o6 := o6.span S10 (by have := z1.out; have := z2.out; have := z3.out; have := z4.out; have := y5.out; have := z5.out; have := z6.out; have := z7.out; have := z8.out; have := z9.out; omega)
  replace ca0_0 := span_cell S10 ca0_0 (by have := z1.out; have := z2.out; have := z3.out; have := z4.out; have := y5.out; have := z5.out; have := z6.out; have := z7.out; have := z8.out; have := z9.out; simp only; omega)
  replace ca0_1 := span_cell S10 ca0_1 (by have := z1.out; have := z2.out; have := z3.out; have := z4.out; have := y5.out; have := z5.out; have := z6.out; have := z7.out; have := z8.out; have := z9.out; simp only; omega)
  replace ca0_2 := span_cell S10 ca0_2 (by have := z1.out; have := z2.out; have := z3.out; have := z4.out; have := y5.out; have := z5.out; have := z6.out; have := z7.out; have := z8.out; have := z9.out; simp only; omega)
  replace cx5_0 := span_cell S10 cx5_0 (by have := z1.out; have := z2.out; have := z3.out; have := z4.out; have := y5.out; have := z5.out; have := z6.out; have := z7.out; have := z8.out; have := z9.out; simp only; omega)
  replace cx5_1 := span_cell S10 cx5_1 (by have := z1.out; have := z2.out; have := z3.out; have := z4.out; have := y5.out; have := z5.out; have := z6.out; have := z7.out; have := z8.out; have := z9.out; simp only; omega)
  replace cx5_2 := span_cell S10 cx5_2 (by have := z1.out; have := z2.out; have := z3.out; have := z4.out; have := y5.out; have := z5.out; have := z6.out; have := z7.out; have := z8.out; have := z9.out; simp only; omega)
  replace B := below_span B S10 (by have := z1.out; have := z2.out; have := z3.out; have := z4.out; have := y5.out; have := z5.out; have := z6.out; have := z7.out; have := z8.out; have := z9.out; omega) B.size
  have z10 := hid S10.size
  replace H0 := h0.below B
  go_wp2_with fail
  refine (eqInt64S P6 P3 (poolF t0 a1) (poolF t0 a1) _ _ _ (o6.rd YL.out) (o3.rd YL.out)).mono ?_
  rintro e w11 ⟨rfl, b11⟩
  have z11 := hid b11.size
  replace B := B.trans (b11.mono B.size)
  replace ca0_0 := box_cell b11 ca0_0
  replace ca0_1 := box_cell b11 ca0_1
  replace ca0_2 := box_cell b11 ca0_2
  replace cx5_0 := box_cell b11 cx5_0
  replace cx5_1 := box_cell b11 cx5_1
  replace cx5_2 := box_cell b11 cx5_2
  replace o3 := o3.below b11
  replace o6 := o6.below b11
  replace H0 := H0.below b11
  clear b11
  go_wp2_with fail
  refine (markInt64S _ _ _ _ _ o6.1 YL.out (by omega) (by omega)).mono ?_
  rintro e w12 ⟨rfl, p12, hg12⟩
  have S12 := o6.spans hg12
  replace o3 := o3.span S12 (by have := z1.out; have := z2.out; have := z3.out; have := z4.out; have := y5.out; have := z5.out; have := z6.out; have := z7.out; have := z8.out; have := z9.out; have := z10.out; have := z11.out; omega)
  replace ca0_0 := span_cell S12 ca0_0 (by have := z1.out; have := z2.out; have := z3.out; have := z4.out; have := y5.out; have := z5.out; have := z6.out; have := z7.out; have := z8.out; have := z9.out; have := z10.out; have := z11.out; simp only; omega)
  replace ca0_1 := span_cell S12 ca0_1 (by have := z1.out; have := z2.out; have := z3.out; have := z4.out; have := y5.out; have := z5.out; have := z6.out; have := z7.out; have := z8.out; have := z9.out; have := z10.out; have := z11.out; simp only; omega)
  replace ca0_2 := span_cell S12 ca0_2 (by have := z1.out; have := z2.out; have := z3.out; have := z4.out; have := y5.out; have := z5.out; have := z6.out; have := z7.out; have := z8.out; have := z9.out; have := z10.out; have := z11.out; simp only; omega)
  replace cx5_0 := span_cell S12 cx5_0 (by have := z1.out; have := z2.out; have := z3.out; have := z4.out; have := y5.out; have := z5.out; have := z6.out; have := z7.out; have := z8.out; have := z9.out; have := z10.out; have := z11.out; simp only; omega)
  replace cx5_1 := span_cell S12 cx5_1 (by have := z1.out; have := z2.out; have := z3.out; have := z4.out; have := y5.out; have := z5.out; have := z6.out; have := z7.out; have := z8.out; have := z9.out; have := z10.out; have := z11.out; simp only; omega)
  replace cx5_2 := span_cell S12 cx5_2 (by have := z1.out; have := z2.out; have := z3.out; have := z4.out; have := y5.out; have := z5.out; have := z6.out; have := z7.out; have := z8.out; have := z9.out; have := z10.out; have := z11.out; simp only; omega)
  replace B := below_span B S12 (by have := z1.out; have := z2.out; have := z3.out; have := z4.out; have := y5.out; have := z5.out; have := z6.out; have := z7.out; have := z8.out; have := z9.out; have := z10.out; have := z11.out; omega) B.size
  replace o6 := o6.marked p12 hg12.size
  clear p12 hg12
  have z12 := hid S12.size
  replace H0 := h0.below B
  go_wp2_with fail
  refine (heldInt64S _ _ _ _ _ (o6.rd (by rw [marks_len]; exact YL.out)) (by omega) (by omega)).mono ?_
  rintro e w13 ⟨rfl, b13⟩
  have z13 := hid b13.size
  replace B := B.trans (b13.mono B.size)
  replace ca0_0 := box_cell b13 ca0_0
  replace ca0_1 := box_cell b13 ca0_1
  replace ca0_2 := box_cell b13 ca0_2
  replace cx5_0 := box_cell b13 cx5_0
  replace cx5_1 := box_cell b13 cx5_1
  replace cx5_2 := box_cell b13 cx5_2
  replace o3 := o3.below b13
  replace o6 := o6.below b13
  replace H0 := H0.below b13
  clear b13
  go_wp2_with fail
  refine (toLand_ (.agg #[.int .i64 Rx0, .int .i64 Cx0, .slice Ax0 nx0 cx0]) t0 _ H0).mono ?_
  rintro e w14 ⟨u14, rfl, o14, b14⟩
  obtain ⟨Ay14, cy14, rfl⟩ := o14.form
  have z14 := hid b14.size
  replace B := B.trans (b14.mono B.size)
  replace ca0_0 := box_cell b14 ca0_0
  replace ca0_1 := box_cell b14 ca0_1
  replace ca0_2 := box_cell b14 ca0_2
  replace cx5_0 := box_cell b14 cx5_0
  replace cx5_1 := box_cell b14 cx5_1
  replace cx5_2 := box_cell b14 cx5_2
  replace o3 := o3.below b14
  replace o6 := o6.below b14
  replace H0 := H0.below b14
  clear b14
  go_wp2_with fail
  refine (implPoolsBelow _ t0 a1 _ (o14.rd ft0) ).mono ?_
  rintro e w15 ⟨u15, rfl, o15, b15⟩
  obtain ⟨P15, k15, rfl⟩ := o15.form
  replace o15 := Lies.of o15
  have z15 := hid b15.size
  replace B := B.trans (b15.mono B.size)
  replace ca0_0 := box_cell b15 ca0_0
  replace ca0_1 := box_cell b15 ca0_1
  replace ca0_2 := box_cell b15 ca0_2
  replace cx5_0 := box_cell b15 cx5_0
  replace cx5_1 := box_cell b15 cx5_1
  replace cx5_2 := box_cell b15 cx5_2
  replace o3 := o3.below b15
  replace o6 := o6.below b15
  replace o14 := o14.below b15
  replace H0 := H0.below b15
  clear b15
  go_wp2_with fail
  refine (eqInt64S P15 P3 (poolF t0 a1) (poolF t0 a1) _ _ _ (o15.rd YL.out) (o3.rd YL.out)).mono ?_
  rintro e w16 ⟨rfl, b16⟩
  have z16 := hid b16.size
  replace B := B.trans (b16.mono B.size)
  replace ca0_0 := box_cell b16 ca0_0
  replace ca0_1 := box_cell b16 ca0_1
  replace ca0_2 := box_cell b16 ca0_2
  replace cx5_0 := box_cell b16 cx5_0
  replace cx5_1 := box_cell b16 cx5_1
  replace cx5_2 := box_cell b16 cx5_2
  replace o3 := o3.below b16
  replace o6 := o6.below b16
  replace o14 := o14.below b16
  replace o15 := o15.below b16
  replace H0 := H0.below b16
  clear b16
  go_wp2_with fail
  refine (heldInt64S _ _ _ _ _ (o6.rd (by rw [marks_len]; exact YL.out)) (by omega) (by omega)).mono ?_
  rintro e w17 ⟨rfl, b17⟩
  have z17 := hid b17.size
  replace B := B.trans (b17.mono B.size)
  replace ca0_0 := box_cell b17 ca0_0
  replace ca0_1 := box_cell b17 ca0_1
  replace ca0_2 := box_cell b17 ca0_2
  replace cx5_0 := box_cell b17 cx5_0
  replace cx5_1 := box_cell b17 cx5_1
  replace cx5_2 := box_cell b17 cx5_2
  replace o3 := o3.below b17
  replace o6 := o6.below b17
  replace o14 := o14.below b17
  replace o15 := o15.below b17
  replace H0 := H0.below b17
  clear b17
  go_wp2_with fail
  go_ret
  exact ⟨rfl, B⟩
set_option maxRecDepth 100000 in
theorem lifted (os : Os) (started : os.Started) (H : Type) (enc : TypeId × Value → H) :
    ReturnsInHanded {} Try.checked os 4 .any (Rows.fnExactPoolsBelowSpec.pre6 enc Try.prog Try.f4 Rows.fnExactPoolsBelowRow.domain false) (Rows.fnExactPoolsBelowSpec.post enc Try.prog Try.f4 false true false false) := by
  refine returnsInHanded_of_change (C := Try.checked) ownLaw started (by kernel_rfl) Try.func4
    (ChangeSpec.witness6 (enc := enc) (C := Try.checked) false ⟨#[], #[.agg #[.int .i64 0, .int .i64 0, .slice none 0 0], .int .i64 0], []⟩ 8 (by kernel_rfl) (by kernel_rfl) (by kernel_rfl) (by kernel_rfl)) ?_
  intro W base args ds gs before hval0 hW _ _
  have hval : ∀ (j : Nat) t v, Try.f4.params[j]? = some t → args[j]? = some v → Value.okWide Try.prog W .any base t v := hval0
  have hW' := hW
  obtain ⟨p, q, hA0, hV, hbef, hfz, hnd⟩ := hW
  have hA : DataW.TrodAll enc Try.prog W 0 (fun _ => true) true Try.f4.params.toList args.toList ds p := hA0
  rw [Try.params4] at hA hval
  obtain ⟨v0, vs0, d0, ds0, p0, q0, hargs, rfl, hp0, h0, r0⟩ := trodAll_cons hA
  obtain ⟨v1, vs1, d1, ds1, p1, q1, rfl, rfl, hp1, h1, r1⟩ := trodAll_cons r0
  obtain ⟨rfl, rfl, hpl⟩ := trodAll_nil r1
  obtain rfl : args = #[v0, v1] := by cases args; simp_all
  obtain ⟨rfl, hq⟩ := trodVars_none hV
  have x0 := openLand_ (hval 0 _ v0 rfl rfl) h0
  obtain ⟨Rx0, Cx0, Ax0, nx0, cx0, rfl⟩ := x0.form
  obtain ⟨a1, rfl, rfl, hz1, w1⟩ := open_int Try.underlying2 (hval 1 _ v1 rfl rfl) h1
  refine (walk Rx0 Cx0 Ax0 nx0 cx0 x0 a1 (wf_range w1)).mono fun e W' ⟨he, hb⟩ => ?_
  subst he
  exact ⟨_, rfl, law_close laidLaw (by kernel_rfl) rfl rfl (by kernel_rfl) hW' rfl rfl rfl hb⟩

theorem over : Rows.fnExactPoolsBelowRow.holds Try.pinned (OpenSpec.ofChange Rows.fnExactPoolsBelowSpec) :=
  OpenClaim.holds_of_wide 4 Try.f4 rfl rfl rfl rfl rfl rfl rfl ⟨rfl, rfl, rfl, rfl, rfl⟩ rfl rfl rfl rfl rfl (by kernel_rfl) Try.func4 (by kernel_rfl)
    (of_decide_eq_true (by kernel_rfl)) (by unfold Func.isWrapper; first | (rw [if_pos (by decide +kernel)]; kernel_rfl) | (rw [if_neg (by decide +kernel)]; exact ⟨rfl, rfl⟩))
    (fun os started H enc _ => lifted os started H enc)

theorem proved : Rows.FnExactPoolsBelowSaid := over
end Go.Proofs.Ytpinpkpjehbfmaa.fnExactPoolsBelow
