/- FnExactSameTender: the walk and the row. Written by a program (genlaw3.py). -/
import Derived.Test.YtgkhjikkbjmadaaTenderSame
import Derived.Test.YtgkhjikkbjmadaaLaw
import Derived.Test.YtgkhjikkbjmadaaKind
import Derived.Deep.RegionHeld3
namespace Go.Proofs.Ytgkhjikkbjmadaa.fnExactSameTender
open Go.ChangeShapes Go.WideShapes Go.ChangeAt Go.RowKit
set_option linter.unusedVariables false
set_option maxHeartbeats 16000000 in
theorem walk {w : World} (Lx0 : Int) (Ax0 : Option Addr) (nx0 : Nat) (cx0 : Nat) (Bx0 : Option Addr) (mx0 : Nat) (dx0 : Nat) (x0 : ArgTender w (.agg #[.int .i64 Lx0, .slice Ax0 nx0 cx0, .slice Bx0 mx0 dx0])) (Lx1 : Int) (Ax1 : Option Addr) (nx1 : Nat) (cx1 : Nat) (Bx1 : Option Addr) (mx1 : Nat) (dx1 : Nat) (x1 : ArgTender w (.agg #[.int .i64 Lx1, .slice Ax1 nx1 cx1, .slice Bx1 mx1 dx1])) :
    Calls Try.prog 3 #[.agg #[.int .i64 Lx0, .slice Ax0 nx0 cx0, .slice Bx0 mx0 dx0], .agg #[.int .i64 Lx1, .slice Ax1 nx1 cx1, .slice Bx1 mx1 dx1]] w fun e w' => e = .returned (.bool true) ∧ Below w.heap.size w w' := by
  have BB : ∀ o1 o2, Below w.heap.size w ((w.alloc o1).alloc o2) := fun o1 o2 => ((Below.refl w.heap.size w).alloc (Nat.le_refl _) o1).alloc (by simp) o2
  rcases szTender_ x0 (1048576 : Int) (by omega) (by omega) with s0 | ⟨l0, t0, lb0, h0, ft0, s0⟩
  · go_enter Try.func3, Try.ntmps3
    go_wp2_with fail
    refine (s0 _ (BB _ _)).mono ?_
    rintro e w1 ⟨rfl, b1⟩
    have z1 := hid b1.size
    have B := (BB _ _).trans (b1.mono (BB _ _).size)
    have ca0_0 : w1.cell? ⟨w.heap.size, 0, none⟩ = some (.int .i64 Lx0) := box_cell b1 (by simp [go_sem])
    have ca0_1 : w1.cell? ⟨w.heap.size, 1, none⟩ = some (.slice Ax0 nx0 cx0) := box_cell b1 (by simp [go_sem])
    have ca0_2 : w1.cell? ⟨w.heap.size, 2, none⟩ = some (.slice Bx0 mx0 dx0) := box_cell b1 (by simp [go_sem])
    have ca1_0 : w1.cell? ⟨w.heap.size + 1, 0, none⟩ = some (.int .i64 Lx1) := box_cell b1 (by simp [go_sem])
    have ca1_1 : w1.cell? ⟨w.heap.size + 1, 1, none⟩ = some (.slice Ax1 nx1 cx1) := box_cell b1 (by simp [go_sem])
    have ca1_2 : w1.cell? ⟨w.heap.size + 1, 2, none⟩ = some (.slice Bx1 mx1 dx1) := box_cell b1 (by simp [go_sem])
    clear b1
    go_wp2_with fail
    go_ret
    exact ⟨rfl, B⟩
  have lc0 := lb0.1
  have ld0 := lb0.2
  rcases szTender_ x1 l0 (by omega) (by omega) with s1 | ⟨l1, t1, lb1, h1, ft1, s1⟩
  · go_enter Try.func3, Try.ntmps3
    go_wp2_with fail
    refine (s0 _ (BB _ _)).mono ?_
    rintro e w1 ⟨rfl, b1⟩
    have z1 := hid b1.size
    have B := (BB _ _).trans (b1.mono (BB _ _).size)
    have ca0_0 : w1.cell? ⟨w.heap.size, 0, none⟩ = some (.int .i64 Lx0) := box_cell b1 (by simp [go_sem])
    have ca0_1 : w1.cell? ⟨w.heap.size, 1, none⟩ = some (.slice Ax0 nx0 cx0) := box_cell b1 (by simp [go_sem])
    have ca0_2 : w1.cell? ⟨w.heap.size, 2, none⟩ = some (.slice Bx0 mx0 dx0) := box_cell b1 (by simp [go_sem])
    have ca1_0 : w1.cell? ⟨w.heap.size + 1, 0, none⟩ = some (.int .i64 Lx1) := box_cell b1 (by simp [go_sem])
    have ca1_1 : w1.cell? ⟨w.heap.size + 1, 1, none⟩ = some (.slice Ax1 nx1 cx1) := box_cell b1 (by simp [go_sem])
    have ca1_2 : w1.cell? ⟨w.heap.size + 1, 2, none⟩ = some (.slice Bx1 mx1 dx1) := box_cell b1 (by simp [go_sem])
    clear b1
    go_wp2_with fail
    refine (s1 _ B).mono ?_
    rintro e w2 ⟨rfl, b2⟩
    have z2 := hid b2.size
    replace B := B.trans (b2.mono B.size)
    replace ca0_0 := box_cell b2 ca0_0
    replace ca0_1 := box_cell b2 ca0_1
    replace ca0_2 := box_cell b2 ca0_2
    replace ca1_0 := box_cell b2 ca1_0
    replace ca1_1 := box_cell b2 ca1_1
    replace ca1_2 := box_cell b2 ca1_2
    clear b2
    go_wp2_with fail
    go_ret
    exact ⟨rfl, B⟩
  have lc1 := lb1.1
  have ld1 := lb1.2
  go_enter Try.func3, Try.ntmps3
  go_wp2_with fail
  refine (s0 _ (BB _ _)).mono ?_
  rintro e w1 ⟨rfl, b1⟩
  have z1 := hid b1.size
  have B := (BB _ _).trans (b1.mono (BB _ _).size)
  have ca0_0 : w1.cell? ⟨w.heap.size, 0, none⟩ = some (.int .i64 Lx0) := box_cell b1 (by simp [go_sem])
  have ca0_1 : w1.cell? ⟨w.heap.size, 1, none⟩ = some (.slice Ax0 nx0 cx0) := box_cell b1 (by simp [go_sem])
  have ca0_2 : w1.cell? ⟨w.heap.size, 2, none⟩ = some (.slice Bx0 mx0 dx0) := box_cell b1 (by simp [go_sem])
  have ca1_0 : w1.cell? ⟨w.heap.size + 1, 0, none⟩ = some (.int .i64 Lx1) := box_cell b1 (by simp [go_sem])
  have ca1_1 : w1.cell? ⟨w.heap.size + 1, 1, none⟩ = some (.slice Ax1 nx1 cx1) := box_cell b1 (by simp [go_sem])
  have ca1_2 : w1.cell? ⟨w.heap.size + 1, 2, none⟩ = some (.slice Bx1 mx1 dx1) := box_cell b1 (by simp [go_sem])
  clear b1
  go_wp2_with fail
  refine (s1 _ B).mono ?_
  rintro e w2 ⟨rfl, b2⟩
  have z2 := hid b2.size
  replace B := B.trans (b2.mono B.size)
  replace ca0_0 := box_cell b2 ca0_0
  replace ca0_1 := box_cell b2 ca0_1
  replace ca0_2 := box_cell b2 ca0_2
  replace ca1_0 := box_cell b2 ca1_0
  replace ca1_1 := box_cell b2 ca1_1
  replace ca1_2 := box_cell b2 ca1_2
  clear b2
  go_wp2_with fail
  have H0 := h0.below B
  have H1 := h1.below B
  go_region_held3 (fun w' => w'.cell? ⟨w.heap.size, 0, none⟩ = some (.int .i64 Lx0) ∧ w'.cell? ⟨w.heap.size, 1, none⟩ = some (.slice Ax0 nx0 cx0) ∧ w'.cell? ⟨w.heap.size, 2, none⟩ = some (.slice Bx0 mx0 dx0) ∧ w'.cell? ⟨w.heap.size + 1, 0, none⟩ = some (.int .i64 Lx1) ∧ w'.cell? ⟨w.heap.size + 1, 1, none⟩ = some (.slice Ax1 nx1 cx1) ∧ w'.cell? ⟨w.heap.size + 1, 2, none⟩ = some (.slice Bx1 mx1 dx1))
    (first | go_keep | ((repeat' apply And.intro) <;> first | exact box_cell (by assumption) (by assumption) | exact box_cell (by assumption) (box_cell (by assumption) (by assumption)) | exact box_cell (by assumption) (box_cell (by assumption) (box_cell (by assumption) (by assumption))) | exact box_cell (by assumption) (box_cell (by assumption) (box_cell (by assumption) (box_cell (by assumption) (by assumption))))))
    (first
      | (go_at_call 11; have hb := b4; clear hb; refine (specSameTender _ t0 _ t1 _ (o3.rd ft0) (o4.rd ft1) ).mono ?_; rintro e w5 ⟨rfl, b5⟩; replace o3 := o3.below b5; replace o4 := o4.below b5; replace H0 := H0.below b5; replace H1 := H1.below b5)
      | (go_at_call 12; have hb := b3; clear hb; refine (toTender_ (.agg #[.int .i64 Lx1, .slice Ax1 nx1 cx1, .slice Bx1 mx1 dx1]) t1 _ H1).mono ?_; rintro e w4 ⟨u4, rfl, o4, b4⟩; obtain ⟨Ay4, cy4, By4, dy4, rfl⟩ := o4.form; replace o3 := o3.below b4; replace H0 := H0.below b4; replace H1 := H1.below b4)
      | (go_at_call 12; refine (toTender_ (.agg #[.int .i64 Lx0, .slice Ax0 nx0 cx0, .slice Bx0 mx0 dx0]) t0 _ H0.drew).mono ?_; rintro e w3 ⟨u3, rfl, o3, b3⟩; replace b3 := undrew b3; rw [show w2.drew.heap.size = w2.heap.size from rfl] at o3; obtain ⟨Ay3, cy3, By3, dy3, rfl⟩ := o3.form; replace H0 := H0.below b3; replace H1 := H1.below b3)
    )
  have z3 := hid b3.size
  replace B := B.trans (b3.mono B.size)
  replace ca0_0 := box_cell b3 ca0_0
  replace ca0_1 := box_cell b3 ca0_1
  replace ca0_2 := box_cell b3 ca0_2
  replace ca1_0 := box_cell b3 ca1_0
  replace ca1_1 := box_cell b3 ca1_1
  replace ca1_2 := box_cell b3 ca1_2
  clear b3
  have z4 := hid b4.size
  replace B := B.trans (b4.mono B.size)
  replace ca0_0 := box_cell b4 ca0_0
  replace ca0_1 := box_cell b4 ca0_1
  replace ca0_2 := box_cell b4 ca0_2
  replace ca1_0 := box_cell b4 ca1_0
  replace ca1_1 := box_cell b4 ca1_1
  replace ca1_2 := box_cell b4 ca1_2
  clear b4
  have z5 := hid b5.size
  replace B := B.trans (b5.mono B.size)
  replace ca0_0 := box_cell b5 ca0_0
  replace ca0_1 := box_cell b5 ca0_1
  replace ca0_2 := box_cell b5 ca0_2
  replace ca1_0 := box_cell b5 ca1_0
  replace ca1_1 := box_cell b5 ca1_1
  replace ca1_2 := box_cell b5 ca1_2
  clear b5
  go_wp2_with fail
  clear o3
  clear o4
  refine (toTender_ (.agg #[.int .i64 Lx0, .slice Ax0 nx0 cx0, .slice Bx0 mx0 dx0]) t0 _ H0).mono ?_
  rintro e w6 ⟨u6, rfl, o6, b6⟩
  obtain ⟨Ay6, cy6, By6, dy6, rfl⟩ := o6.form
  have z6 := hid b6.size
  replace B := B.trans (b6.mono B.size)
  replace ca0_0 := box_cell b6 ca0_0
  replace ca0_1 := box_cell b6 ca0_1
  replace ca0_2 := box_cell b6 ca0_2
  replace ca1_0 := box_cell b6 ca1_0
  replace ca1_1 := box_cell b6 ca1_1
  replace ca1_2 := box_cell b6 ca1_2
  replace H0 := H0.below b6
  replace H1 := H1.below b6
  clear b6
  go_wp2_with fail
  obtain ⟨w7, hw7⟩ : ∃ x, w6.alloc (.cells #[.int .i64 t0.lots, .slice Ay6 t0.most.length cy6, .slice By6 t0.bids.length dy6] 30) = x := ⟨_, rfl⟩
  rw [hw7]
  have b7 : Below w6.heap.size w6 w7 := by rw [← hw7]; exact (Below.refl _ _).alloc (Nat.le_refl _) _
  have y7 : Hid (w6.heap.size < w7.heap.size) := by rw [← hw7]; simp [Hid]
  have cx7_0 : w7.cell? ⟨w6.heap.size, 0, none⟩ = some (.int .i64 t0.lots) := by rw [← hw7]; simp [go_sem]
  have cx7_1 : w7.cell? ⟨w6.heap.size, 1, none⟩ = some (.slice Ay6 t0.most.length cy6) := by rw [← hw7]; simp [go_sem]
  have cx7_2 : w7.cell? ⟨w6.heap.size, 2, none⟩ = some (.slice By6 t0.bids.length dy6) := by rw [← hw7]; simp [go_sem]
  clear hw7
  have z7 := hid b7.size
  replace B := B.trans (b7.mono B.size)
  replace ca0_0 := box_cell b7 ca0_0
  replace ca0_1 := box_cell b7 ca0_1
  replace ca0_2 := box_cell b7 ca0_2
  replace ca1_0 := box_cell b7 ca1_0
  replace ca1_1 := box_cell b7 ca1_1
  replace ca1_2 := box_cell b7 ca1_2
  replace o6 := o6.below b7
  replace H0 := H0.below b7
  replace H1 := H1.below b7
  clear b7
  refine (toTender_ (.agg #[.int .i64 Lx1, .slice Ax1 nx1 cx1, .slice Bx1 mx1 dx1]) t1 _ H1).mono ?_
  rintro e w8 ⟨u8, rfl, o8, b8⟩
  obtain ⟨Ay8, cy8, By8, dy8, rfl⟩ := o8.form
  have z8 := hid b8.size
  replace B := B.trans (b8.mono B.size)
  replace ca0_0 := box_cell b8 ca0_0
  replace ca0_1 := box_cell b8 ca0_1
  replace ca0_2 := box_cell b8 ca0_2
  replace ca1_0 := box_cell b8 ca1_0
  replace ca1_1 := box_cell b8 ca1_1
  replace ca1_2 := box_cell b8 ca1_2
  replace cx7_0 := box_cell b8 cx7_0
  replace cx7_1 := box_cell b8 cx7_1
  replace cx7_2 := box_cell b8 cx7_2
  replace o6 := o6.below b8
  replace H0 := H0.below b8
  replace H1 := H1.below b8
  clear b8
  go_wp2_with fail
  obtain ⟨w9, hw9⟩ : ∃ x, w8.alloc (.cells #[.int .i64 t1.lots, .slice Ay8 t1.most.length cy8, .slice By8 t1.bids.length dy8] 30) = x := ⟨_, rfl⟩
  rw [hw9]
  have b9 : Below w8.heap.size w8 w9 := by rw [← hw9]; exact (Below.refl _ _).alloc (Nat.le_refl _) _
  have y9 : Hid (w8.heap.size < w9.heap.size) := by rw [← hw9]; simp [Hid]
  have cx9_0 : w9.cell? ⟨w8.heap.size, 0, none⟩ = some (.int .i64 t1.lots) := by rw [← hw9]; simp [go_sem]
  have cx9_1 : w9.cell? ⟨w8.heap.size, 1, none⟩ = some (.slice Ay8 t1.most.length cy8) := by rw [← hw9]; simp [go_sem]
  have cx9_2 : w9.cell? ⟨w8.heap.size, 2, none⟩ = some (.slice By8 t1.bids.length dy8) := by rw [← hw9]; simp [go_sem]
  clear hw9
  have z9 := hid b9.size
  replace B := B.trans (b9.mono B.size)
  replace ca0_0 := box_cell b9 ca0_0
  replace ca0_1 := box_cell b9 ca0_1
  replace ca0_2 := box_cell b9 ca0_2
  replace ca1_0 := box_cell b9 ca1_0
  replace ca1_1 := box_cell b9 ca1_1
  replace ca1_2 := box_cell b9 ca1_2
  replace cx7_0 := box_cell b9 cx7_0
  replace cx7_1 := box_cell b9 cx7_1
  replace cx7_2 := box_cell b9 cx7_2
  replace o6 := o6.below b9
  replace o8 := o8.below b9
  replace H0 := H0.below b9
  replace H1 := H1.below b9
  clear b9
  refine (implSameTender _ t0 _ t1 _ (o6.rd ft0) (o8.rd ft1) ).mono ?_
  rintro e w10 ⟨rfl, b10⟩
  have z10 := hid b10.size
  replace B := B.trans (b10.mono B.size)
  replace ca0_0 := box_cell b10 ca0_0
  replace ca0_1 := box_cell b10 ca0_1
  replace ca0_2 := box_cell b10 ca0_2
  replace ca1_0 := box_cell b10 ca1_0
  replace ca1_1 := box_cell b10 ca1_1
  replace ca1_2 := box_cell b10 ca1_2
  replace cx7_0 := box_cell b10 cx7_0
  replace cx7_1 := box_cell b10 cx7_1
  replace cx7_2 := box_cell b10 cx7_2
  replace cx9_0 := box_cell b10 cx9_0
  replace cx9_1 := box_cell b10 cx9_1
  replace cx9_2 := box_cell b10 cx9_2
  replace o6 := o6.below b10
  replace o8 := o8.below b10
  replace H0 := H0.below b10
  replace H1 := H1.below b10
  clear b10
  go_wp2_with fail
  go_region_held3 (fun w' => w'.cell? ⟨w.heap.size, 0, none⟩ = some (.int .i64 Lx0) ∧ w'.cell? ⟨w.heap.size, 1, none⟩ = some (.slice Ax0 nx0 cx0) ∧ w'.cell? ⟨w.heap.size, 2, none⟩ = some (.slice Bx0 mx0 dx0) ∧ w'.cell? ⟨w.heap.size + 1, 0, none⟩ = some (.int .i64 Lx1) ∧ w'.cell? ⟨w.heap.size + 1, 1, none⟩ = some (.slice Ax1 nx1 cx1) ∧ w'.cell? ⟨w.heap.size + 1, 2, none⟩ = some (.slice Bx1 mx1 dx1) ∧ w'.cell? ⟨w6.heap.size, 0, none⟩ = some (.int .i64 t0.lots) ∧ w'.cell? ⟨w6.heap.size, 1, none⟩ = some (.slice Ay6 t0.most.length cy6) ∧ w'.cell? ⟨w6.heap.size, 2, none⟩ = some (.slice By6 t0.bids.length dy6) ∧ w'.cell? ⟨w8.heap.size, 0, none⟩ = some (.int .i64 t1.lots) ∧ w'.cell? ⟨w8.heap.size, 1, none⟩ = some (.slice Ay8 t1.most.length cy8) ∧ w'.cell? ⟨w8.heap.size, 2, none⟩ = some (.slice By8 t1.bids.length dy8))
    (first | go_keep | ((repeat' apply And.intro) <;> first | exact box_cell (by assumption) (by assumption) | exact box_cell (by assumption) (box_cell (by assumption) (by assumption)) | exact box_cell (by assumption) (box_cell (by assumption) (box_cell (by assumption) (by assumption))) | exact box_cell (by assumption) (box_cell (by assumption) (box_cell (by assumption) (box_cell (by assumption) (by assumption))))))
    (first
      | (go_at_call 14; have hb := b11; clear hb; refine (eqTender_ _ _ t0 t0 _ (o6.rd ft0) (o11.rd ft0)).mono ?_; rintro e w12 ⟨rfl, b12⟩; replace o6 := o6.below b12; replace o8 := o8.below b12; replace o11 := o11.below b12; replace H0 := H0.below b12; replace H1 := H1.below b12)
      | (go_at_call 12; refine (toTender_ (.agg #[.int .i64 Lx0, .slice Ax0 nx0 cx0, .slice Bx0 mx0 dx0]) t0 _ H0.drew).mono ?_; rintro e w11 ⟨u11, rfl, o11, b11⟩; replace b11 := undrew b11; rw [show w10.drew.heap.size = w10.heap.size from rfl] at o11; obtain ⟨Ay11, cy11, By11, dy11, rfl⟩ := o11.form; replace o6 := o6.below b11; replace o8 := o8.below b11; replace H0 := H0.below b11; replace H1 := H1.below b11)
    )
  have z11 := hid b11.size
  replace B := B.trans (b11.mono B.size)
  replace ca0_0 := box_cell b11 ca0_0
  replace ca0_1 := box_cell b11 ca0_1
  replace ca0_2 := box_cell b11 ca0_2
  replace ca1_0 := box_cell b11 ca1_0
  replace ca1_1 := box_cell b11 ca1_1
  replace ca1_2 := box_cell b11 ca1_2
  replace cx7_0 := box_cell b11 cx7_0
  replace cx7_1 := box_cell b11 cx7_1
  replace cx7_2 := box_cell b11 cx7_2
  replace cx9_0 := box_cell b11 cx9_0
  replace cx9_1 := box_cell b11 cx9_1
  replace cx9_2 := box_cell b11 cx9_2
  clear b11
  have z12 := hid b12.size
  replace B := B.trans (b12.mono B.size)
  replace ca0_0 := box_cell b12 ca0_0
  replace ca0_1 := box_cell b12 ca0_1
  replace ca0_2 := box_cell b12 ca0_2
  replace ca1_0 := box_cell b12 ca1_0
  replace ca1_1 := box_cell b12 ca1_1
  replace ca1_2 := box_cell b12 ca1_2
  replace cx7_0 := box_cell b12 cx7_0
  replace cx7_1 := box_cell b12 cx7_1
  replace cx7_2 := box_cell b12 cx7_2
  replace cx9_0 := box_cell b12 cx9_0
  replace cx9_1 := box_cell b12 cx9_1
  replace cx9_2 := box_cell b12 cx9_2
  clear b12
  go_wp2_with fail
  clear o11
  go_region_held3 (fun w' => w'.cell? ⟨w.heap.size, 0, none⟩ = some (.int .i64 Lx0) ∧ w'.cell? ⟨w.heap.size, 1, none⟩ = some (.slice Ax0 nx0 cx0) ∧ w'.cell? ⟨w.heap.size, 2, none⟩ = some (.slice Bx0 mx0 dx0) ∧ w'.cell? ⟨w.heap.size + 1, 0, none⟩ = some (.int .i64 Lx1) ∧ w'.cell? ⟨w.heap.size + 1, 1, none⟩ = some (.slice Ax1 nx1 cx1) ∧ w'.cell? ⟨w.heap.size + 1, 2, none⟩ = some (.slice Bx1 mx1 dx1) ∧ w'.cell? ⟨w6.heap.size, 0, none⟩ = some (.int .i64 t0.lots) ∧ w'.cell? ⟨w6.heap.size, 1, none⟩ = some (.slice Ay6 t0.most.length cy6) ∧ w'.cell? ⟨w6.heap.size, 2, none⟩ = some (.slice By6 t0.bids.length dy6) ∧ w'.cell? ⟨w8.heap.size, 0, none⟩ = some (.int .i64 t1.lots) ∧ w'.cell? ⟨w8.heap.size, 1, none⟩ = some (.slice Ay8 t1.most.length cy8) ∧ w'.cell? ⟨w8.heap.size, 2, none⟩ = some (.slice By8 t1.bids.length dy8))
    (first | go_keep | ((repeat' apply And.intro) <;> first | exact box_cell (by assumption) (by assumption) | exact box_cell (by assumption) (box_cell (by assumption) (by assumption)) | exact box_cell (by assumption) (box_cell (by assumption) (box_cell (by assumption) (by assumption))) | exact box_cell (by assumption) (box_cell (by assumption) (box_cell (by assumption) (box_cell (by assumption) (by assumption))))))
    (first
      | (go_at_call 14; have hb := b13; clear hb; refine (eqTender_ _ _ t1 t1 _ (o8.rd ft1) (o13.rd ft1)).mono ?_; rintro e w14 ⟨rfl, b14⟩; replace o6 := o6.below b14; replace o8 := o8.below b14; replace o13 := o13.below b14; replace H0 := H0.below b14; replace H1 := H1.below b14)
      | (go_at_call 12; refine (toTender_ (.agg #[.int .i64 Lx1, .slice Ax1 nx1 cx1, .slice Bx1 mx1 dx1]) t1 _ H1.drew).mono ?_; rintro e w13 ⟨u13, rfl, o13, b13⟩; replace b13 := undrew b13; rw [show w12.drew.heap.size = w12.heap.size from rfl] at o13; obtain ⟨Ay13, cy13, By13, dy13, rfl⟩ := o13.form; replace o6 := o6.below b13; replace o8 := o8.below b13; replace H0 := H0.below b13; replace H1 := H1.below b13)
    )
  have z13 := hid b13.size
  replace B := B.trans (b13.mono B.size)
  replace ca0_0 := box_cell b13 ca0_0
  replace ca0_1 := box_cell b13 ca0_1
  replace ca0_2 := box_cell b13 ca0_2
  replace ca1_0 := box_cell b13 ca1_0
  replace ca1_1 := box_cell b13 ca1_1
  replace ca1_2 := box_cell b13 ca1_2
  replace cx7_0 := box_cell b13 cx7_0
  replace cx7_1 := box_cell b13 cx7_1
  replace cx7_2 := box_cell b13 cx7_2
  replace cx9_0 := box_cell b13 cx9_0
  replace cx9_1 := box_cell b13 cx9_1
  replace cx9_2 := box_cell b13 cx9_2
  clear b13
  have z14 := hid b14.size
  replace B := B.trans (b14.mono B.size)
  replace ca0_0 := box_cell b14 ca0_0
  replace ca0_1 := box_cell b14 ca0_1
  replace ca0_2 := box_cell b14 ca0_2
  replace ca1_0 := box_cell b14 ca1_0
  replace ca1_1 := box_cell b14 ca1_1
  replace ca1_2 := box_cell b14 ca1_2
  replace cx7_0 := box_cell b14 cx7_0
  replace cx7_1 := box_cell b14 cx7_1
  replace cx7_2 := box_cell b14 cx7_2
  replace cx9_0 := box_cell b14 cx9_0
  replace cx9_1 := box_cell b14 cx9_1
  replace cx9_2 := box_cell b14 cx9_2
  clear b14
  go_wp2_with fail
  clear o13
  go_ret
  exact ⟨rfl, B⟩
set_option maxRecDepth 100000 in
theorem lifted (os : Os) (started : os.Started) (H : Type) (enc : TypeId × Value → H) :
    ReturnsInHanded {} Try.checked os 3 .any (Rows.fnExactSameTenderSpec.pre6 enc Try.prog Try.f3 Rows.fnExactSameTenderRow.domain false) (Rows.fnExactSameTenderSpec.post enc Try.prog Try.f3 false true false false) := by
  refine returnsInHanded_of_change (C := Try.checked) ownLaw started (by kernel_rfl) Try.func3
    (ChangeSpec.witness6 (enc := enc) (C := Try.checked) false ⟨#[], #[.agg #[.int .i64 0, .slice none 0 0, .slice none 0 0], .agg #[.int .i64 0, .slice none 0 0, .slice none 0 0]], []⟩ 8 (by kernel_rfl) (by kernel_rfl) (by kernel_rfl) (by kernel_rfl)) ?_
  intro W base args ds gs before hval0 hW _ _
  have hval : ∀ (j : Nat) t v, Try.f3.params[j]? = some t → args[j]? = some v → Value.okWide Try.prog W .any base t v := hval0
  have hW' := hW
  obtain ⟨p, q, hA0, hV, hbef, hfz, hnd⟩ := hW
  have hA : DataW.TrodAll enc Try.prog W 0 (fun _ => true) true Try.f3.params.toList args.toList ds p := hA0
  rw [Try.params3] at hA hval
  obtain ⟨v0, vs0, d0, ds0, p0, q0, hargs, rfl, hp0, h0, r0⟩ := trodAll_cons hA
  obtain ⟨v1, vs1, d1, ds1, p1, q1, rfl, rfl, hp1, h1, r1⟩ := trodAll_cons r0
  obtain ⟨rfl, rfl, hpl⟩ := trodAll_nil r1
  obtain rfl : args = #[v0, v1] := by cases args; simp_all
  obtain ⟨rfl, hq⟩ := trodVars_none hV
  have x0 := openTender_ (hval 0 _ v0 rfl rfl) h0
  obtain ⟨Lx0, Ax0, nx0, cx0, Bx0, mx0, dx0, rfl⟩ := x0.form
  have x1 := openTender_ (hval 1 _ v1 rfl rfl) h1
  obtain ⟨Lx1, Ax1, nx1, cx1, Bx1, mx1, dx1, rfl⟩ := x1.form
  refine (walk Lx0 Ax0 nx0 cx0 Bx0 mx0 dx0 x0 Lx1 Ax1 nx1 cx1 Bx1 mx1 dx1 x1).mono fun e W' ⟨he, hb⟩ => ?_
  subst he
  exact ⟨_, rfl, law_close laidLaw (by kernel_rfl) rfl rfl (by kernel_rfl) hW' rfl rfl rfl hb⟩

theorem over : Rows.fnExactSameTenderRow.holds Try.pinned (OpenSpec.ofChange Rows.fnExactSameTenderSpec) :=
  OpenClaim.holds_of_wide 3 Try.f3 rfl rfl rfl rfl rfl rfl rfl ⟨rfl, rfl, rfl, rfl, rfl⟩ rfl rfl rfl rfl rfl (by kernel_rfl) Try.func3 (by kernel_rfl)
    (of_decide_eq_true (by kernel_rfl)) (by unfold Func.isWrapper; first | (rw [if_pos (by decide +kernel)]; kernel_rfl) | (rw [if_neg (by decide +kernel)]; exact ⟨rfl, rfl⟩))
    (fun os started H enc _ => lifted os started H enc)

theorem proved : Rows.FnExactSameTenderSaid := over
end Go.Proofs.Ytgkhjikkbjmadaa.fnExactSameTender
