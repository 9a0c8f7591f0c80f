/- FnExactPondedVolume: the walk and the row. Written by a program (genlaw3.py). -/
import Derived.Test.YtpinpkpjehbfmaaPond
import Derived.Test.YtpinpkpjehbfmaaLaw
import Derived.Test.YtpinpkpjehbfmaaKind
import Derived.Deep.RegionHeld3
namespace Go.Proofs.Ytpinpkpjehbfmaa.fnExactPondedVolume
open Go.ChangeShapes Go.WideShapes Go.ChangeAt Go.RowKit
set_option linter.unusedVariables false
set_option maxHeartbeats 16000000 in
theorem walk {w : World} (Rx0 : Int) (Cx0 : Int) (Ax0 : Option Addr) (nx0 : Nat) (cx0 : Nat) (x0 : ArgLand w (.agg #[.int .i64 Rx0, .int .i64 Cx0, .slice Ax0 nx0 cx0])) (A1 : Option Addr) (n1 c1 : Nat) (x1 : Arg Int w A1 n1) :
    Calls Try.prog 13 #[.agg #[.int .i64 Rx0, .int .i64 Cx0, .slice Ax0 nx0 cx0], .slice A1 n1 c1] w fun e w' => e = .returned (.bool true) ∧ Below w.heap.size w w' := by
  have BB : ∀ o1, Below w.heap.size w (w.alloc o1) := fun o1 => (Below.refl w.heap.size w).alloc (Nat.le_refl _) o1
  obtain ⟨hn1, hx1⟩ := x1
  by_cases g1 : (1048576 : Int) < n1
  · go_enter Try.func13, Try.ntmps13
    go_wp2_with fail
    go_ret
    exact ⟨rfl, (BB _)⟩
  obtain ⟨xs1, rfl, h1, ft1⟩ := hx1 (by omega)
  rcases szLand_ x0 (1048576 : Int) (by omega) (by omega) with s0 | ⟨l0, t0, lb0, h0, ft0, s0⟩
  · go_enter Try.func13, Try.ntmps13
    go_wp2_with fail
    refine (s0 _ (BB _)).mono ?_
    rintro e w1 ⟨rfl, b1⟩
    have z1 : Hid (w.heap.size + 1 ≤ w1.heap.size) := by have := b1.size; simp at this; show w.heap.size + 1 ≤ w1.heap.size; omega
    have B := (BB _).trans (b1.mono (BB _).size)
    have ca0_0 : w1.cell? ⟨w.heap.size, 0, none⟩ = some (.int .i64 Rx0) := box_cell b1 (by simp [go_sem])
    have ca0_1 : w1.cell? ⟨w.heap.size, 1, none⟩ = some (.int .i64 Cx0) := box_cell b1 (by simp [go_sem])
    have ca0_2 : w1.cell? ⟨w.heap.size, 2, none⟩ = some (.slice Ax0 nx0 cx0) := box_cell b1 (by simp [go_sem])
    clear b1
    go_wp2_with fail
    go_ret
    exact ⟨rfl, B⟩
  have lc0 := lb0.1
  have ld0 := lb0.2
  go_enter Try.func13, Try.ntmps13
  go_wp2_with fail
  refine (s0 _ (BB _)).mono ?_
  rintro e w1 ⟨rfl, b1⟩
  have z1 : Hid (w.heap.size + 1 ≤ w1.heap.size) := by have := b1.size; simp at this; show w.heap.size + 1 ≤ w1.heap.size; omega
  have B := (BB _).trans (b1.mono (BB _).size)
  have ca0_0 : w1.cell? ⟨w.heap.size, 0, none⟩ = some (.int .i64 Rx0) := box_cell b1 (by simp [go_sem])
  have ca0_1 : w1.cell? ⟨w.heap.size, 1, none⟩ = some (.int .i64 Cx0) := box_cell b1 (by simp [go_sem])
  have ca0_2 : w1.cell? ⟨w.heap.size, 2, none⟩ = some (.slice Ax0 nx0 cx0) := box_cell b1 (by simp [go_sem])
  clear b1
  go_wp2_with fail
  have H0 := h0.below B
  have H1 := h1.below B
  refine (toLand_ (.agg #[.int .i64 Rx0, .int .i64 Cx0, .slice Ax0 nx0 cx0]) t0 _ H0).mono ?_
  rintro e w2 ⟨u2, rfl, o2, b2⟩
  obtain ⟨Ay2, cy2, rfl⟩ := o2.form
  have z2 := hid b2.size
  replace B := B.trans (b2.mono B.size)
  replace ca0_0 := box_cell b2 ca0_0
  replace ca0_1 := box_cell b2 ca0_1
  replace ca0_2 := box_cell b2 ca0_2
  replace H0 := H0.below b2
  replace H1 := H1.below b2
  clear b2
  go_wp2_with fail
  refine (toInt64S A1 xs1 c1 _ H1).mono ?_
  rintro e w3 ⟨u3, rfl, o3, b3⟩
  obtain ⟨P3, k3, rfl⟩ := o3.form
  replace o3 := Lies.of o3
  have z3 := hid b3.size
  replace B := B.trans (b3.mono B.size)
  replace ca0_0 := box_cell b3 ca0_0
  replace ca0_1 := box_cell b3 ca0_1
  replace ca0_2 := box_cell b3 ca0_2
  replace o2 := o2.below b3
  replace H0 := H0.below b3
  replace H1 := H1.below b3
  clear b3
  go_wp2_with fail
  refine (specPondedVolume _ t0 P3 xs1 k3 _ (o2.rd ft0) (o3.rd (by omega)) ).mono ?_
  rintro e w4 ⟨rfl, b4⟩
  have z4 := hid b4.size
  replace B := B.trans (b4.mono B.size)
  replace ca0_0 := box_cell b4 ca0_0
  replace ca0_1 := box_cell b4 ca0_1
  replace ca0_2 := box_cell b4 ca0_2
  replace o2 := o2.below b4
  replace o3 := o3.below b4
  replace H0 := H0.below b4
  replace H1 := H1.below b4
  clear b4
  go_wp2_with fail
  clear o2
  clear o3
  refine (toLand_ (.agg #[.int .i64 Rx0, .int .i64 Cx0, .slice Ax0 nx0 cx0]) t0 _ H0).mono ?_
  rintro e w5 ⟨u5, rfl, o5, b5⟩
  obtain ⟨Ay5, cy5, rfl⟩ := o5.form
  have z5 := hid b5.size
  replace B := B.trans (b5.mono B.size)
  replace ca0_0 := box_cell b5 ca0_0
  replace ca0_1 := box_cell b5 ca0_1
  replace ca0_2 := box_cell b5 ca0_2
  replace H0 := H0.below b5
  replace H1 := H1.below b5
  clear b5
  go_wp2_with fail
  obtain ⟨w6, hw6⟩ : ∃ x, w5.alloc (.cells #[.int .i64 t0.rows, .int .i64 t0.columns, .slice Ay5 t0.heights.length cy5] 28) = x := ⟨_, rfl⟩
  rw [hw6]
  have b6 : Below w5.heap.size w5 w6 := by rw [← hw6]; exact (Below.refl _ _).alloc (Nat.le_refl _) _
  have y6 : Hid (w5.heap.size < w6.heap.size) := by rw [← hw6]; simp [Hid]
  have cx6_0 : w6.cell? ⟨w5.heap.size, 0, none⟩ = some (.int .i64 t0.rows) := by rw [← hw6]; simp [go_sem]
  have cx6_1 : w6.cell? ⟨w5.heap.size, 1, none⟩ = some (.int .i64 t0.columns) := by rw [← hw6]; simp [go_sem]
  have cx6_2 : w6.cell? ⟨w5.heap.size, 2, none⟩ = some (.slice Ay5 t0.heights.length cy5) := by rw [← hw6]; simp [go_sem]
  clear hw6
  have z6 := hid b6.size
  replace B := B.trans (b6.mono B.size)
  replace ca0_0 := box_cell b6 ca0_0
  replace ca0_1 := box_cell b6 ca0_1
  replace ca0_2 := box_cell b6 ca0_2
  replace o5 := o5.below b6
  replace H0 := H0.below b6
  replace H1 := H1.below b6
  clear b6
  refine (toInt64S A1 xs1 c1 _ H1).mono ?_
  rintro e w7 ⟨u7, rfl, o7, b7⟩
  obtain ⟨P7, k7, rfl⟩ := o7.form
  replace o7 := Lies.of o7
  have z7 := hid b7.size
  replace B := B.trans (b7.mono B.size)
  replace ca0_0 := box_cell b7 ca0_0
  replace ca0_1 := box_cell b7 ca0_1
  replace ca0_2 := box_cell b7 ca0_2
  replace cx6_0 := box_cell b7 cx6_0
  replace cx6_1 := box_cell b7 cx6_1
  replace cx6_2 := box_cell b7 cx6_2
  replace o5 := o5.below b7
  replace H0 := H0.below b7
  replace H1 := H1.below b7
  clear b7
  go_wp2_with fail
  refine (implPondedVolume _ t0 P7 xs1 k7 _ (o5.rd ft0) (o7.rd (by omega)) ).mono ?_
  rintro e w8 ⟨rfl, b8⟩
  have z8 := hid b8.size
  replace B := B.trans (b8.mono B.size)
  replace ca0_0 := box_cell b8 ca0_0
  replace ca0_1 := box_cell b8 ca0_1
  replace ca0_2 := box_cell b8 ca0_2
  replace cx6_0 := box_cell b8 cx6_0
  replace cx6_1 := box_cell b8 cx6_1
  replace cx6_2 := box_cell b8 cx6_2
  replace o5 := o5.below b8
  replace o7 := o7.below b8
  replace H0 := H0.below b8
  replace H1 := H1.below b8
  clear b8
  go_wp2_with fail
  go_region_held3 (fun w' => w'.cell? ⟨w.heap.size, 0, none⟩ = some (.int .i64 Rx0) ∧ w'.cell? ⟨w.heap.size, 1, none⟩ = some (.int .i64 Cx0) ∧ w'.cell? ⟨w.heap.size, 2, none⟩ = some (.slice Ax0 nx0 cx0) ∧ w'.cell? ⟨w5.heap.size, 0, none⟩ = some (.int .i64 t0.rows) ∧ w'.cell? ⟨w5.heap.size, 1, none⟩ = some (.int .i64 t0.columns) ∧ w'.cell? ⟨w5.heap.size, 2, none⟩ = some (.slice Ay5 t0.heights.length cy5))
    (first | go_keep | ((repeat' apply And.intro) <;> first | exact box_cell (by assumption) (by assumption) | exact box_cell (by assumption) (box_cell (by assumption) (by assumption)) | exact box_cell (by assumption) (box_cell (by assumption) (box_cell (by assumption) (by assumption))) | exact box_cell (by assumption) (box_cell (by assumption) (box_cell (by assumption) (box_cell (by assumption) (by assumption))))))
    (first
      | (go_at_call 19; have hb := b9; clear hb; refine (eqLand_ _ _ t0 t0 _ (o5.rd ft0) (o9.rd ft0)).mono ?_; rintro e w10 ⟨rfl, b10⟩; replace o5 := o5.below b10; replace o7 := o7.below b10; replace o9 := o9.below b10; replace H0 := H0.below b10; replace H1 := H1.below b10)
      | (go_at_call 16; refine (toLand_ (.agg #[.int .i64 Rx0, .int .i64 Cx0, .slice Ax0 nx0 cx0]) t0 _ H0.drew).mono ?_; rintro e w9 ⟨u9, rfl, o9, b9⟩; replace b9 := undrew b9; rw [show w8.drew.heap.size = w8.heap.size from rfl] at o9; obtain ⟨Ay9, cy9, rfl⟩ := o9.form; replace o5 := o5.below b9; replace o7 := o7.below b9; replace H0 := H0.below b9; replace H1 := H1.below b9)
    )
  have z9 := hid b9.size
  replace B := B.trans (b9.mono B.size)
  replace ca0_0 := box_cell b9 ca0_0
  replace ca0_1 := box_cell b9 ca0_1
  replace ca0_2 := box_cell b9 ca0_2
  replace cx6_0 := box_cell b9 cx6_0
  replace cx6_1 := box_cell b9 cx6_1
  replace cx6_2 := box_cell b9 cx6_2
  clear b9
  have z10 := hid b10.size
  replace B := B.trans (b10.mono B.size)
  replace ca0_0 := box_cell b10 ca0_0
  replace ca0_1 := box_cell b10 ca0_1
  replace ca0_2 := box_cell b10 ca0_2
  replace cx6_0 := box_cell b10 cx6_0
  replace cx6_1 := box_cell b10 cx6_1
  replace cx6_2 := box_cell b10 cx6_2
  clear b10
  go_wp2_with fail
  clear o9
  refine (toInt64S A1 xs1 c1 _ H1).mono ?_
  rintro e w11 ⟨u11, rfl, o11, b11⟩
  obtain ⟨P11, k11, rfl⟩ := o11.form
  replace o11 := Lies.of o11
  have z11 := hid b11.size
  replace B := B.trans (b11.mono B.size)
  replace ca0_0 := box_cell b11 ca0_0
  replace ca0_1 := box_cell b11 ca0_1
  replace ca0_2 := box_cell b11 ca0_2
  replace cx6_0 := box_cell b11 cx6_0
  replace cx6_1 := box_cell b11 cx6_1
  replace cx6_2 := box_cell b11 cx6_2
  replace o5 := o5.below b11
  replace o7 := o7.below b11
  replace H0 := H0.below b11
  replace H1 := H1.below b11
  clear b11
  go_wp2_with fail
  refine (eqInt64S P7 P11 xs1 xs1 _ _ _ (o7.rd (by omega)) (o11.rd (by omega))).mono ?_
  rintro e w12 ⟨rfl, b12⟩
  have z12 := hid b12.size
  replace B := B.trans (b12.mono B.size)
  replace ca0_0 := box_cell b12 ca0_0
  replace ca0_1 := box_cell b12 ca0_1
  replace ca0_2 := box_cell b12 ca0_2
  replace cx6_0 := box_cell b12 cx6_0
  replace cx6_1 := box_cell b12 cx6_1
  replace cx6_2 := box_cell b12 cx6_2
  replace o5 := o5.below b12
  replace o7 := o7.below b12
  replace o11 := o11.below b12
  replace H0 := H0.below b12
  replace H1 := H1.below b12
  clear b12
  go_wp2_with fail
  clear o11
  go_ret
  exact ⟨rfl, B⟩
set_option maxRecDepth 100000 in
theorem lifted (os : Os) (started : os.Started) (H : Type) (enc : TypeId × Value → H) :
    ReturnsInHanded {} Try.checked os 13 .any (Rows.fnExactPondedVolumeSpec.pre6 enc Try.prog Try.f13 Rows.fnExactPondedVolumeRow.domain false) (Rows.fnExactPondedVolumeSpec.post enc Try.prog Try.f13 false true false false) := by
  refine returnsInHanded_of_change (C := Try.checked) ownLaw started (by kernel_rfl) Try.func13
    (ChangeSpec.witness6 (enc := enc) (C := Try.checked) false ⟨#[], #[.agg #[.int .i64 0, .int .i64 0, .slice none 0 0], .slice none 0 0], []⟩ 8 (by kernel_rfl) (by kernel_rfl) (by kernel_rfl) (by kernel_rfl)) ?_
  intro W base args ds gs before hval0 hW _ _
  have hval : ∀ (j : Nat) t v, Try.f13.params[j]? = some t → args[j]? = some v → Value.okWide Try.prog W .any base t v := hval0
  have hW' := hW
  obtain ⟨p, q, hA0, hV, hbef, hfz, hnd⟩ := hW
  have hA : DataW.TrodAll enc Try.prog W 0 (fun _ => true) true Try.f13.params.toList args.toList ds p := hA0
  rw [Try.params13] at hA hval
  obtain ⟨v0, vs0, d0, ds0, p0, q0, hargs, rfl, hp0, h0, r0⟩ := trodAll_cons hA
  obtain ⟨v1, vs1, d1, ds1, p1, q1, rfl, rfl, hp1, h1, r1⟩ := trodAll_cons r0
  obtain ⟨rfl, rfl, hpl⟩ := trodAll_nil r1
  obtain rfl : args = #[v0, v1] := by cases args; simp_all
  obtain ⟨rfl, hq⟩ := trodVars_none hV
  have x0 := openLand_ (hval 0 _ v0 rfl rfl) h0
  obtain ⟨Rx0, Cx0, Ax0, nx0, cx0, rfl⟩ := x0.form
  obtain ⟨A1, n1, c1, rfl, x1⟩ := open_nums Try.underlying22 Try.underlying2 (by kernel_rfl) (hval 1 _ v1 rfl rfl) h1
  refine (walk Rx0 Cx0 Ax0 nx0 cx0 x0 A1 n1 c1 x1).mono fun e W' ⟨he, hb⟩ => ?_
  subst he
  exact ⟨_, rfl, law_close laidLaw (by kernel_rfl) rfl rfl (by kernel_rfl) hW' rfl rfl rfl hb⟩

theorem over : Rows.fnExactPondedVolumeRow.holds Try.pinned (OpenSpec.ofChange Rows.fnExactPondedVolumeSpec) :=
  OpenClaim.holds_of_wide 13 Try.f13 rfl rfl rfl rfl rfl rfl rfl ⟨rfl, rfl, rfl, rfl, rfl⟩ rfl rfl rfl rfl rfl (by kernel_rfl) Try.func13 (by kernel_rfl)
    (of_decide_eq_true (by kernel_rfl)) (by unfold Func.isWrapper; first | (rw [if_pos (by decide +kernel)]; kernel_rfl) | (rw [if_neg (by decide +kernel)]; exact ⟨rfl, rfl⟩))
    (fun os started H enc _ => lifted os started H enc)

theorem proved : Rows.FnExactPondedVolumeSaid := over
end Go.Proofs.Ytpinpkpjehbfmaa.fnExactPondedVolume
