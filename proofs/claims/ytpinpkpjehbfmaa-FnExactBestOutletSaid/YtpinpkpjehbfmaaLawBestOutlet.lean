/- FnExactBestOutlet: the walk and the row. Written by a program (genlaw3.py). -/
import Derived.Test.YtpinpkpjehbfmaaBestOut
import Derived.Test.YtpinpkpjehbfmaaLaw
import Derived.Test.YtpinpkpjehbfmaaKind
import Derived.Deep.RegionHeld3
namespace Go.Proofs.Ytpinpkpjehbfmaa.fnExactBestOutlet
open Go.ChangeShapes Go.WideShapes Go.ChangeAt Go.RowKit
set_option linter.unusedVariables false
set_option maxHeartbeats 16000000 in
theorem walk {w : World} (Rx0 : Int) (Cx0 : Int) (Ax0 : Option Addr) (nx0 : Nat) (cx0 : Nat) (x0 : ArgLand w (.agg #[.int .i64 Rx0, .int .i64 Cx0, .slice Ax0 nx0 cx0])) :
    Calls Try.prog 5 #[.agg #[.int .i64 Rx0, .int .i64 Cx0, .slice Ax0 nx0 cx0]] w fun e w' => e = .returned (.bool true) ∧ Below w.heap.size w w' := by
  have BB : ∀ o1, Below w.heap.size w (w.alloc o1) := fun o1 => (Below.refl w.heap.size w).alloc (Nat.le_refl _) o1
  rcases szLand_ x0 (1048576 : Int) (by omega) (by omega) with s0 | ⟨l0, t0, lb0, h0, ft0, s0⟩
  · go_enter Try.func5, Try.ntmps5
    go_wp2_with fail
    refine (s0 _ (BB _)).mono ?_
    rintro e w1 ⟨rfl, b1⟩
    have z1 : Hid (w.heap.size + 1 ≤ w1.heap.size) := by have := b1.size; simp at this; show w.heap.size + 1 ≤ w1.heap.size; omega
    have B := (BB _).trans (b1.mono (BB _).size)
    have ca0_0 : w1.cell? ⟨w.heap.size, 0, none⟩ = some (.int .i64 Rx0) := box_cell b1 (by simp [go_sem])
    have ca0_1 : w1.cell? ⟨w.heap.size, 1, none⟩ = some (.int .i64 Cx0) := box_cell b1 (by simp [go_sem])
    have ca0_2 : w1.cell? ⟨w.heap.size, 2, none⟩ = some (.slice Ax0 nx0 cx0) := box_cell b1 (by simp [go_sem])
    clear b1
    go_wp2_with fail
    go_ret
    exact ⟨rfl, B⟩
  have lc0 := lb0.1
  have ld0 := lb0.2
  go_enter Try.func5, Try.ntmps5
  go_wp2_with fail
  refine (s0 _ (BB _)).mono ?_
  rintro e w1 ⟨rfl, b1⟩
  have z1 : Hid (w.heap.size + 1 ≤ w1.heap.size) := by have := b1.size; simp at this; show w.heap.size + 1 ≤ w1.heap.size; omega
  have B := (BB _).trans (b1.mono (BB _).size)
  have ca0_0 : w1.cell? ⟨w.heap.size, 0, none⟩ = some (.int .i64 Rx0) := box_cell b1 (by simp [go_sem])
  have ca0_1 : w1.cell? ⟨w.heap.size, 1, none⟩ = some (.int .i64 Cx0) := box_cell b1 (by simp [go_sem])
  have ca0_2 : w1.cell? ⟨w.heap.size, 2, none⟩ = some (.slice Ax0 nx0 cx0) := box_cell b1 (by simp [go_sem])
  clear b1
  go_wp2_with fail
  have H0 := h0.below B
  refine (toLand_ (.agg #[.int .i64 Rx0, .int .i64 Cx0, .slice Ax0 nx0 cx0]) t0 _ H0).mono ?_
  rintro e w2 ⟨u2, rfl, o2, b2⟩
  obtain ⟨Ay2, cy2, rfl⟩ := o2.form
  have z2 := hid b2.size
  replace B := B.trans (b2.mono B.size)
  replace ca0_0 := box_cell b2 ca0_0
  replace ca0_1 := box_cell b2 ca0_1
  replace ca0_2 := box_cell b2 ca0_2
  replace H0 := H0.below b2
  clear b2
  go_wp2_with fail
  refine (specBestOutlet _ t0 _ (o2.rd ft0) ).mono ?_
  rintro e w3 ⟨rfl, b3⟩
  have z3 := hid b3.size
  replace B := B.trans (b3.mono B.size)
  replace ca0_0 := box_cell b3 ca0_0
  replace ca0_1 := box_cell b3 ca0_1
  replace ca0_2 := box_cell b3 ca0_2
  replace o2 := o2.below b3
  replace H0 := H0.below b3
  clear b3
  go_wp2_with fail
  clear o2
  refine (toLand_ (.agg #[.int .i64 Rx0, .int .i64 Cx0, .slice Ax0 nx0 cx0]) t0 _ H0).mono ?_
  rintro e w4 ⟨u4, rfl, o4, b4⟩
  obtain ⟨Ay4, cy4, rfl⟩ := o4.form
  have z4 := hid b4.size
  replace B := B.trans (b4.mono B.size)
  replace ca0_0 := box_cell b4 ca0_0
  replace ca0_1 := box_cell b4 ca0_1
  replace ca0_2 := box_cell b4 ca0_2
  replace H0 := H0.below b4
  clear b4
  go_wp2_with fail
  obtain ⟨w5, hw5⟩ : ∃ x, w4.alloc (.cells #[.int .i64 t0.rows, .int .i64 t0.columns, .slice Ay4 t0.heights.length cy4] 28) = x := ⟨_, rfl⟩
  rw [hw5]
  have b5 : Below w4.heap.size w4 w5 := by rw [← hw5]; exact (Below.refl _ _).alloc (Nat.le_refl _) _
  have y5 : Hid (w4.heap.size < w5.heap.size) := by rw [← hw5]; simp [Hid]
  have cx5_0 : w5.cell? ⟨w4.heap.size, 0, none⟩ = some (.int .i64 t0.rows) := by rw [← hw5]; simp [go_sem]
  have cx5_1 : w5.cell? ⟨w4.heap.size, 1, none⟩ = some (.int .i64 t0.columns) := by rw [← hw5]; simp [go_sem]
  have cx5_2 : w5.cell? ⟨w4.heap.size, 2, none⟩ = some (.slice Ay4 t0.heights.length cy4) := by rw [← hw5]; simp [go_sem]
  clear hw5
  have z5 := hid b5.size
  replace B := B.trans (b5.mono B.size)
  replace ca0_0 := box_cell b5 ca0_0
  replace ca0_1 := box_cell b5 ca0_1
  replace ca0_2 := box_cell b5 ca0_2
  replace o4 := o4.below b5
  replace H0 := H0.below b5
  clear b5
  refine (implBestOutlet _ t0 _ (o4.rd ft0) ).mono ?_
  rintro e w6 ⟨rfl, b6⟩
  have z6 := hid b6.size
  replace B := B.trans (b6.mono B.size)
  replace ca0_0 := box_cell b6 ca0_0
  replace ca0_1 := box_cell b6 ca0_1
  replace ca0_2 := box_cell b6 ca0_2
  replace cx5_0 := box_cell b6 cx5_0
  replace cx5_1 := box_cell b6 cx5_1
  replace cx5_2 := box_cell b6 cx5_2
  replace o4 := o4.below b6
  replace H0 := H0.below b6
  clear b6
  go_wp2_with fail
  go_region_held3 (fun w' => w'.cell? ⟨w.heap.size, 0, none⟩ = some (.int .i64 Rx0) ∧ w'.cell? ⟨w.heap.size, 1, none⟩ = some (.int .i64 Cx0) ∧ w'.cell? ⟨w.heap.size, 2, none⟩ = some (.slice Ax0 nx0 cx0) ∧ w'.cell? ⟨w4.heap.size, 0, none⟩ = some (.int .i64 t0.rows) ∧ w'.cell? ⟨w4.heap.size, 1, none⟩ = some (.int .i64 t0.columns) ∧ w'.cell? ⟨w4.heap.size, 2, none⟩ = some (.slice Ay4 t0.heights.length cy4))
    (first | go_keep | ((repeat' apply And.intro) <;> first | exact box_cell (by assumption) (by assumption) | exact box_cell (by assumption) (box_cell (by assumption) (by assumption)) | exact box_cell (by assumption) (box_cell (by assumption) (box_cell (by assumption) (by assumption))) | exact box_cell (by assumption) (box_cell (by assumption) (box_cell (by assumption) (box_cell (by assumption) (by assumption))))))
    (first
      | (go_at_call 19; have hb := b7; clear hb; refine (eqLand_ _ _ t0 t0 _ (o4.rd ft0) (o7.rd ft0)).mono ?_; rintro e w8 ⟨rfl, b8⟩; replace o4 := o4.below b8; replace o7 := o7.below b8; replace H0 := H0.below b8)
      | (go_at_call 16; refine (toLand_ (.agg #[.int .i64 Rx0, .int .i64 Cx0, .slice Ax0 nx0 cx0]) t0 _ H0.drew).mono ?_; rintro e w7 ⟨u7, rfl, o7, b7⟩; replace b7 := undrew b7; rw [show w6.drew.heap.size = w6.heap.size from rfl] at o7; obtain ⟨Ay7, cy7, rfl⟩ := o7.form; replace o4 := o4.below b7; replace H0 := H0.below b7)
    )
  have z7 := hid b7.size
  replace B := B.trans (b7.mono B.size)
  replace ca0_0 := box_cell b7 ca0_0
  replace ca0_1 := box_cell b7 ca0_1
  replace ca0_2 := box_cell b7 ca0_2
  replace cx5_0 := box_cell b7 cx5_0
  replace cx5_1 := box_cell b7 cx5_1
  replace cx5_2 := box_cell b7 cx5_2
  clear b7
  have z8 := hid b8.size
  replace B := B.trans (b8.mono B.size)
  replace ca0_0 := box_cell b8 ca0_0
  replace ca0_1 := box_cell b8 ca0_1
  replace ca0_2 := box_cell b8 ca0_2
  replace cx5_0 := box_cell b8 cx5_0
  replace cx5_1 := box_cell b8 cx5_1
  replace cx5_2 := box_cell b8 cx5_2
  clear b8
  go_wp2_with fail
  clear o7
  go_ret
  exact ⟨rfl, B⟩
set_option maxRecDepth 100000 in
theorem lifted (os : Os) (started : os.Started) (H : Type) (enc : TypeId × Value → H) :
    ReturnsInHanded {} Try.checked os 5 .any (Rows.fnExactBestOutletSpec.pre6 enc Try.prog Try.f5 Rows.fnExactBestOutletRow.domain false) (Rows.fnExactBestOutletSpec.post enc Try.prog Try.f5 false true false false) := by
  refine returnsInHanded_of_change (C := Try.checked) ownLaw started (by kernel_rfl) Try.func5
    (ChangeSpec.witness6 (enc := enc) (C := Try.checked) false ⟨#[], #[.agg #[.int .i64 0, .int .i64 0, .slice none 0 0]], []⟩ 8 (by kernel_rfl) (by kernel_rfl) (by kernel_rfl) (by kernel_rfl)) ?_
  intro W base args ds gs before hval0 hW _ _
  have hval : ∀ (j : Nat) t v, Try.f5.params[j]? = some t → args[j]? = some v → Value.okWide Try.prog W .any base t v := hval0
  have hW' := hW
  obtain ⟨p, q, hA0, hV, hbef, hfz, hnd⟩ := hW
  have hA : DataW.TrodAll enc Try.prog W 0 (fun _ => true) true Try.f5.params.toList args.toList ds p := hA0
  rw [Try.params5] at hA hval
  obtain ⟨v0, vs0, d0, ds0, p0, q0, hargs, rfl, hp0, h0, r0⟩ := trodAll_cons hA
  obtain ⟨rfl, rfl, hpl⟩ := trodAll_nil r0
  obtain rfl : args = #[v0] := by cases args; simp_all
  obtain ⟨rfl, hq⟩ := trodVars_none hV
  have x0 := openLand_ (hval 0 _ v0 rfl rfl) h0
  obtain ⟨Rx0, Cx0, Ax0, nx0, cx0, rfl⟩ := x0.form
  refine (walk Rx0 Cx0 Ax0 nx0 cx0 x0).mono fun e W' ⟨he, hb⟩ => ?_
  subst he
  exact ⟨_, rfl, law_close laidLaw (by kernel_rfl) rfl rfl (by kernel_rfl) hW' rfl rfl rfl hb⟩

theorem over : Rows.fnExactBestOutletRow.holds Try.pinned (OpenSpec.ofChange Rows.fnExactBestOutletSpec) :=
  OpenClaim.holds_of_wide 5 Try.f5 rfl rfl rfl rfl rfl rfl rfl ⟨rfl, rfl, rfl, rfl, rfl⟩ rfl rfl rfl rfl rfl (by kernel_rfl) Try.func5 (by kernel_rfl)
    (of_decide_eq_true (by kernel_rfl)) (by unfold Func.isWrapper; first | (rw [if_pos (by decide +kernel)]; kernel_rfl) | (rw [if_neg (by decide +kernel)]; exact ⟨rfl, rfl⟩))
    (fun os started H enc _ => lifted os started H enc)

theorem proved : Rows.FnExactBestOutletSaid := over
end Go.Proofs.Ytpinpkpjehbfmaa.fnExactBestOutlet
