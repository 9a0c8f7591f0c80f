/- ReadBill: the program's walk. -/
import Derived.Test.YtampbbknhbhcbaaDoorRbS2
namespace Go.Proofs.YtampbbknhbhcbaaDoor
open Go.RowKit
set_option linter.unusedVariables false
set_option linter.unusedSimpArgs false
set_option maxHeartbeats 400000 in
theorem implIsBill (o d a p : Int) (w : World) : Calls Tryd.prog 38 #[.agg #[.int .i64 o, .int .i64 d, .int .i64 a, .int .i64 p]] w fun e w' => e = .returned (.bool (billOkB ⟨o, d, a, p⟩)) ∧ Below w.heap.size w w' := by
  have hown : ∀ (n : Int) (w : World), Calls Tryd.prog 56 #[.int .i64 n] w fun e w' => e = .returned (.bool (inB n 0 39)) ∧ w = w' := fun n w => by
    go_enter Tryd.func56, Tryd.ntmps56
    go_wp2_with (go_at_call 54; refine (implIn _ _ _ _).mono ?_; rintro e w' ⟨rfl, rfl⟩)
    go_ret
    exact ⟨rfl, rfl⟩
  have hday : ∀ (n : Int) (w : World), Calls Tryd.prog 64 #[.int .i64 n] w fun e w' => e = .returned (.bool (inB n 0 100000)) ∧ w = w' := fun n w => by
    go_enter Tryd.func64, Tryd.ntmps64
    go_wp2_with (go_at_call 54; refine (implIn _ _ _ _).mono ?_; rintro e w' ⟨rfl, rfl⟩)
    go_ret
    exact ⟨rfl, rfl⟩
  have hsh : ∀ (n : Int) (w : World), Calls Tryd.prog 65 #[.int .i64 n] w fun e w' => e = .returned (.bool (inB n 0 1000000000)) ∧ w = w' := fun n w => by
    go_enter Tryd.func65, Tryd.ntmps65
    go_wp2_with (go_at_call 54; refine (implIn _ _ _ _).mono ?_; rintro e w' ⟨rfl, rfl⟩)
    go_ret
    exact ⟨rfl, rfl⟩
  unfold billOkB
  simp only
  cases h1 : inB o 0 39
  all_goals cases h2 : inB d 0 100000
  all_goals cases h3 : inB a 0 1000000000
  all_goals
    go_enter Tryd.func38, Tryd.ntmps38
    go_wp2_with (first | (go_at_call 56; refine (hown _ _).mono ?_; rintro e w' ⟨rfl, rfl⟩; rw [h1]) | (go_at_call 64; refine (hday _ _).mono ?_; rintro e w' ⟨rfl, rfl⟩; rw [h2]) | (go_at_call 65; refine (hsh _ _).mono ?_; rintro e w' ⟨rfl, rfl⟩; rw [h3]) | (go_at_call 54; refine (implIn _ _ _ _).mono ?_; rintro e w' ⟨rfl, rfl⟩))
    go_ret
    exact ⟨ret_bool (by simp), (Below.refl _ _).alloc (Nat.le_refl _) _⟩
set_option maxRecDepth 100000 in
set_option maxHeartbeats 2000000 in
theorem implBillText (o d a p : Int) (hk : billOkB ⟨o, d, a, p⟩ = true) (w : World) (ht : Tab w) :
    Calls Tryd.prog 39 #[.agg #[.int .i64 o, .int .i64 d, .int .i64 a, .int .i64 p]] w fun e w' => e = .returned (.string ⟨(billTxt ⟨o, d, a, p⟩).toArray⟩) ∧ Below w.heap.size w w' := by
  obtain ⟨T, hT⟩ : ∃ T, billTxt ⟨o, d, a, p⟩ = T := ⟨_, rfl⟩
  rw [hT]
  have hr : (0 ≤ o ∧ o ≤ 39) ∧ (0 ≤ d ∧ d ≤ 100000) ∧ (0 ≤ a ∧ a ≤ 1000000000) ∧ (0 ≤ p ∧ p ≤ a) := by
    unfold billOkB at hk
    simp only [Bool.and_eq_true, inB_true] at hk
    omega
  have lo := itoa_len (n := o) (by omega) (by omega)
  have ld := itoa_len (n := d) (by omega) (by omega)
  have la := itoa_len (n := a) (by omega) (by omega)
  have lp := itoa_len (n := p) (by omega) (by omega)
  unfold billTxt at hT
  simp only at hT
  obtain ⟨O, hO⟩ : ∃ A, Lib.itoa o = A := ⟨_, rfl⟩
  obtain ⟨D, hD⟩ : ∃ A, Lib.itoa d = A := ⟨_, rfl⟩
  obtain ⟨A, hA⟩ : ∃ A, Lib.itoa a = A := ⟨_, rfl⟩
  obtain ⟨P, hP⟩ : ∃ A, Lib.itoa p = A := ⟨_, rfl⟩
  rw [hO, hD, hA, hP] at hT
  rw [hO] at lo
  rw [hD] at ld
  rw [hA] at la
  rw [hP] at lp
  have DO := implDecE o O (by omega) (by omega) (hid hO)
  have DD := implDecE d D (by omega) (by omega) (hid hD)
  have DA := implDecE a A (by omega) (by omega) (hid hA)
  have DP := implDecE p P (by omega) (by omega) (hid hP)
  clear hO hD hA hP
  have hT2 : (((((([111, 119, 110, 101, 114, 32] ++ O) ++ [32, 100, 97, 121, 32]) ++ D) ++ [32, 97, 109, 111, 117, 110, 116, 32]) ++ A) ++ [32, 112, 97, 105, 100, 32]) ++ P = T := hT
  obtain ⟨X1, h1⟩ : ∃ X, [111, 119, 110, 101, 114, 32] ++ O = X := ⟨_, rfl⟩
  rw [h1] at hT2
  obtain ⟨X2, h2⟩ : ∃ X, X1 ++ [32, 100, 97, 121, 32] = X := ⟨_, rfl⟩
  rw [h2] at hT2
  obtain ⟨X3, h3⟩ : ∃ X, X2 ++ D = X := ⟨_, rfl⟩
  rw [h3] at hT2
  obtain ⟨X4, h4⟩ : ∃ X, X3 ++ [32, 97, 109, 111, 117, 110, 116, 32] = X := ⟨_, rfl⟩
  rw [h4] at hT2
  obtain ⟨X5, h5⟩ : ∃ X, X4 ++ A = X := ⟨_, rfl⟩
  rw [h5] at hT2
  obtain ⟨X6, h6⟩ : ∃ X, X5 ++ [32, 112, 97, 105, 100, 32] = X := ⟨_, rfl⟩
  rw [h6] at hT2
  have l1 : X1.length ≤ 100 := by rw [← h1, List.length_append]; simp; omega
  have l2 : X2.length ≤ 200 := by rw [← h2, List.length_append]; simp; omega
  have l3 : X3.length ≤ 300 := by rw [← h3, List.length_append]; omega
  have l4 : X4.length ≤ 400 := by rw [← h4, List.length_append]; simp; omega
  have l5 : X5.length ≤ 500 := by rw [← h5, List.length_append]; omega
  have l6 : X6.length ≤ 600 := by rw [← h6, List.length_append]; simp; omega
  have k1 := cat h1 (by simp) (by omega)
  have k2 := cat h2 (by omega) (by simp)
  have k3 := cat h3 (by omega) (by omega)
  have k4 := cat h4 (by omega) (by simp)
  have k5 := cat h5 (by omega) (by omega)
  have k6 := cat h6 (by omega) (by simp)
  have k7 := cat hT2 (by omega) (by omega)
  clear hT hT2 h1 h2 h3 h4 h5 h6
  go_enter Tryd.func39, Tryd.ntmps39
  go_wp2_with ((go_at_call 38; refine (implIsBill o d a p _).mono ?_; rintro e w' ⟨rfl, hb⟩; rw [hk]; obtain ⟨y, rfl⟩ := below_ex hb; clear hb; refine keep_ ?_))
  refine go_ ?_
  have HW := hid (below_go (x := y) ((Below.refl w.heap.size w).alloc (Nat.le_refl _) (.cells #[.int .i64 o, .int .i64 d, .int .i64 a, .int .i64 p] 34)) (le_alloc (Nat.le_refl _)))
  have HT := hid (ht.below HW.out)
  go_wp2_with fail
  refine wp_region_more (by kernel_rfl) (by kernel_rfl) ?_
  repeat (go_big_quiet_step ((go_at_call 32; first | with_reducible exact quiet_below (DO _ HT.out.more) | with_reducible exact quiet_below (DD _ HT.out.more) | with_reducible exact quiet_below (DA _ HT.out.more) | with_reducible exact quiet_below (DP _ HT.out.more))))
  refine wpQuiet_nil ?_
  rintro _ ⟨nq, rfl⟩
  go_wp2_with fail
  go_ret
  exact ⟨rfl, below_go HW.out HW.out.size⟩
theorem list4 {α : Type} {l : List α} (h : l.length = 4) : ∃ a b c d, l = [a, b, c, d] := by
  match l, h with
  | [a, b, c, d], _ => exact ⟨a, b, c, d, rfl⟩
theorem billF_other {s : List UInt8} (h : ∀ o d a p, numsIn s = [o, d, a, p] → billOkB ⟨o, d, a, p⟩ = true → billTxt ⟨o, d, a, p⟩ ≠ s) : billF s = (⟨0, 0, 0, 0⟩, false) := billF_no fun b hk ht => by
  have hn := bill_nums hk
  rw [ht] at hn
  exact h b.o b.d b.a b.p hn hk ht
set_option maxRecDepth 100000 in
set_option maxHeartbeats 4000000 in
theorem implReadBill (s : List UInt8) (w : World) (hs : s.length ≤ 1048576) (ht : Tabs w) :
    Calls Tryd.prog 18 #[.string ⟨s.toArray⟩] w fun e w' => e = .returned (.tuple #[.agg #[.int .i64 (billF s).1.o, .int .i64 (billF s).1.d, .int .i64 (billF s).1.a, .int .i64 (billF s).1.p], .bool (billF s).2]) ∧ Below w.heap.size w w' := by
  have HB0 := hid ((Below.refl w.heap.size w).alloc (Nat.le_refl _) (.cells #[.int .i64 0, .int .i64 0, .int .i64 0, .int .i64 0] 34))
  have Z : Hid (∀ w', Below (w.alloc (.cells #[.int .i64 0, .int .i64 0, .int .i64 0, .int .i64 0] 34)).heap.size (w.alloc (.cells #[.int .i64 0, .int .i64 0, .int .i64 0, .int .i64 0] 34)) w' →
      (w'.cell? ⟨w.heap.size, 0, none⟩ = some (.int .i64 0) ∧ w'.cell? ⟨w.heap.size, 1, none⟩ = some (.int .i64 0) ∧ w'.cell? ⟨w.heap.size, 2, none⟩ = some (.int .i64 0) ∧ w'.cell? ⟨w.heap.size, 3, none⟩ = some (.int .i64 0)) ∧
      (w'.frozen? ⟨w.heap.size, 0, none⟩ = false ∧ w'.frozen? ⟨w.heap.size, 1, none⟩ = false ∧ w'.frozen? ⟨w.heap.size, 2, none⟩ = false ∧ w'.frozen? ⟨w.heap.size, 3, none⟩ = false)) := fun w' hb => by
    refine ⟨⟨box_cell hb ?_, box_cell hb ?_, box_cell hb ?_, box_cell hb ?_⟩, box_free hb ?_ ?_, box_free hb ?_ ?_, box_free hb ?_ ?_, box_free hb ?_ ?_⟩ <;> simp [go_sem]
  obtain ⟨R, hR⟩ : ∃ R, billF s = R := ⟨_, rfl⟩
  rw [hR]
  have HR := hid hR
  have HNU := hid (implNumbers s (w.alloc (.cells #[.int .i64 0, .int .i64 0, .int .i64 0, .int .i64 0] 34)) hs (ht.below HB0.out))
  have HOT := hid (billF_other (s := s))
  rw [hR] at HOT
  have HT := hid ht
  obtain ⟨L, hL⟩ : ∃ L, numsIn s = L := ⟨_, rfl⟩
  rw [hL] at HNU HOT
  have HL := hid hL
  clear hR hL ht
  by_cases h4 : L.length = 4
  · obtain ⟨o, d, a, p, rfl⟩ := list4 h4
    clear h4
    go_enter Tryd.func18, Tryd.ntmps18
    go_wp2_with (go_at_call 36; refine HNU.out.mono ?_; rintro e w1 ⟨A, q, rfl, ho, hb⟩; refine keep_ ?_)
    have hr := ho.rd (by simp)
    obtain ⟨b, off, rfl, c0⟩ := hr.int (k := 0) (by simp)
    obtain ⟨b', off', hA, c1⟩ := hr.int (k := 1) (by simp)
    injection hA with hA
    injection hA with i1 i2
    subst i1 i2
    obtain ⟨b', off', hA, c2⟩ := hr.int (k := 2) (by simp)
    injection hA with hA
    injection hA with i1 i2
    subst i1 i2
    obtain ⟨b', off', hA, c3⟩ := hr.int (k := 3) (by simp)
    injection hA with hA
    injection hA with i1 i2
    subst i1 i2
    simp only [List.getElem_cons_zero, List.getElem_cons_succ, Nat.add_zero] at c0 c1 c2 c3
    obtain ⟨⟨z0, z1, z2, z3⟩, f0, f1, f2, f3⟩ := Z.out _ hb
    have HB1 := hid (HB0.out.trans (hb.mono HB0.out.size))
    clear ho hb hr
    refine go_ ?_
    go_wp2_with fail
    go_region
    have HB2 := hid ((HB1.out.alloc HB1.out.size (.cells #[.int .i64 o, .int .i64 d, .int .i64 a, .int .i64 p] 34)).drew)
    have y0 : (w1.alloc (.cells #[.int .i64 o, .int .i64 d, .int .i64 a, .int .i64 p] 34)).drew.cell? ⟨w.heap.size, 0, none⟩ = some (.int .i64 0) := by simp [go_sem, z0]
    have e0 : (w1.alloc (.cells #[.int .i64 o, .int .i64 d, .int .i64 a, .int .i64 p] 34)).drew.frozen? ⟨w.heap.size, 0, none⟩ = false := by simpa [go_sem, z0] using f0
    have q0 : (w1.alloc (.cells #[.int .i64 o, .int .i64 d, .int .i64 a, .int .i64 p] 34)).drew.cell? ⟨w1.heap.size, 0, none⟩ = some (.int .i64 o) := by simp [go_sem]
    have y1 : (w1.alloc (.cells #[.int .i64 o, .int .i64 d, .int .i64 a, .int .i64 p] 34)).drew.cell? ⟨w.heap.size, 1, none⟩ = some (.int .i64 0) := by simp [go_sem, z1]
    have e1 : (w1.alloc (.cells #[.int .i64 o, .int .i64 d, .int .i64 a, .int .i64 p] 34)).drew.frozen? ⟨w.heap.size, 1, none⟩ = false := by simpa [go_sem, z1] using f1
    have q1 : (w1.alloc (.cells #[.int .i64 o, .int .i64 d, .int .i64 a, .int .i64 p] 34)).drew.cell? ⟨w1.heap.size, 1, none⟩ = some (.int .i64 d) := by simp [go_sem]
    have y2 : (w1.alloc (.cells #[.int .i64 o, .int .i64 d, .int .i64 a, .int .i64 p] 34)).drew.cell? ⟨w.heap.size, 2, none⟩ = some (.int .i64 0) := by simp [go_sem, z2]
    have e2 : (w1.alloc (.cells #[.int .i64 o, .int .i64 d, .int .i64 a, .int .i64 p] 34)).drew.frozen? ⟨w.heap.size, 2, none⟩ = false := by simpa [go_sem, z2] using f2
    have q2 : (w1.alloc (.cells #[.int .i64 o, .int .i64 d, .int .i64 a, .int .i64 p] 34)).drew.cell? ⟨w1.heap.size, 2, none⟩ = some (.int .i64 a) := by simp [go_sem]
    have y3 : (w1.alloc (.cells #[.int .i64 o, .int .i64 d, .int .i64 a, .int .i64 p] 34)).drew.cell? ⟨w.heap.size, 3, none⟩ = some (.int .i64 0) := by simp [go_sem, z3]
    have e3 : (w1.alloc (.cells #[.int .i64 o, .int .i64 d, .int .i64 a, .int .i64 p] 34)).drew.frozen? ⟨w.heap.size, 3, none⟩ = false := by simpa [go_sem, z3] using f3
    have q3 : (w1.alloc (.cells #[.int .i64 o, .int .i64 d, .int .i64 a, .int .i64 p] 34)).drew.cell? ⟨w1.heap.size, 3, none⟩ = some (.int .i64 p) := by simp [go_sem]
    have Y0 := hid y0
    have E0 := hid e0
    have Q0 := hid q0
    have Y1 := hid y1
    have E1 := hid e1
    have Q1 := hid q1
    have Y2 := hid y2
    have E2 := hid e2
    have Q2 := hid q2
    have Y3 := hid y3
    have E3 := hid e3
    have Q3 := hid q3
    clear y0 y1 y2 y3 e0 e1 e2 e3 q0 q1 q2 q3 z0 z1 z2 z3 f0 f1 f2 f3 c0 c1 c2 c3
    cases hk : billOkB ⟨o, d, a, p⟩
    · have HR0 : Hid (((⟨0, 0, 0, 0⟩ : Bill), false) = R) := (HOT.out fun o' d' a' p' h h1 => by
        injection h with i1 h; injection h with i2 h; injection h with i3 h; injection h with i4 h
        subst i1 i2 i3 i4
        rw [hk] at h1; cases h1).symm
      go_wp2_with (go_at_call 38; refine (implIsBill o d a p _).mono ?_; rintro e wf ⟨rfl, hb⟩; rw [hk]; refine keep_ ?_)
      have u0 := box_cell hb Y0.out
      have v0 := box_free hb (by rw [Y0.out]; rfl) E0.out
      have r0 := box_cell hb Q0.out
      have u1 := box_cell hb Y1.out
      have v1 := box_free hb (by rw [Y1.out]; rfl) E1.out
      have r1 := box_cell hb Q1.out
      have u2 := box_cell hb Y2.out
      have v2 := box_free hb (by rw [Y2.out]; rfl) E2.out
      have r2 := box_cell hb Q2.out
      have u3 := box_cell hb Y3.out
      have v3 := box_free hb (by rw [Y3.out]; rfl) E3.out
      have r3 := box_cell hb Q3.out
      have HB3 := hid (HB2.out.trans (hb.mono HB2.out.size))
      clear hb
      refine go_ ?_
      go_wp2_with fail
      (try simp only [Exit.inBlock, Exit.then])
      refine bodyPost_ret (v := .tuple #[.agg #[.int .i64 0, .int .i64 0, .int .i64 0, .int .i64 0], .bool false]) ?_ rfl ?_
      · simp [results, go_sem, u0, u1, u2, u3]
      · exact ⟨ret_bill HR0.out.symm, (((HB3.out.setCell (Nat.le_refl _) _).setCell (Nat.le_refl _) _).setCell (Nat.le_refl _) _).setCell (Nat.le_refl _) _⟩
    · have HTX := hid (fun x ht => implBillText o d a p hk x ht)
      obtain ⟨D, hD⟩ : ∃ D, billTxt ⟨o, d, a, p⟩ = D := ⟨_, rfl⟩
      rw [hD] at HTX
      by_cases he : D = s
      · have HR0 : Hid (((⟨o, d, a, p⟩ : Bill), true) = R) := by show _ = R; rw [← HR.out]; exact (billF_yes hk (hD.trans he)).symm
        have x1 : (D == s) = true := by rw [beq_iff_eq]; exact he
        clear hD he
        go_wp2_with (go_at_call 38; refine (implIsBill o d a p _).mono ?_; rintro e wf ⟨rfl, hb⟩; rw [hk]; refine keep_ ?_)
        have u0 := box_cell hb Y0.out
        have v0 := box_free hb (by rw [Y0.out]; rfl) E0.out
        have r0 := box_cell hb Q0.out
        have u1 := box_cell hb Y1.out
        have v1 := box_free hb (by rw [Y1.out]; rfl) E1.out
        have r1 := box_cell hb Q1.out
        have u2 := box_cell hb Y2.out
        have v2 := box_free hb (by rw [Y2.out]; rfl) E2.out
        have r2 := box_cell hb Q2.out
        have u3 := box_cell hb Y3.out
        have v3 := box_free hb (by rw [Y3.out]; rfl) E3.out
        have r3 := box_cell hb Q3.out
        have HB3 := hid (HB2.out.trans (hb.mono HB2.out.size))
        have U0 := hid u0
        have V0 := hid v0
        have R0 := hid r0
        have U1 := hid u1
        have V1 := hid v1
        have R1 := hid r1
        have U2 := hid u2
        have V2 := hid v2
        have R2 := hid r2
        have U3 := hid u3
        have V3 := hid v3
        have R3 := hid r3
        clear hb u0 u1 u2 u3 v0 v1 v2 v3 r1 r2 r3
        have r1 := R1.out
        have r2 := R2.out
        have r3 := R3.out
        refine go_ ?_
        go_wp2_with (go_at_call 39; refine (HTX.out _ (HT.out.below HB3.out).tab).mono ?_; rintro e wg ⟨rfl, hb⟩; refine keep_ ?_)
        clear r0 r1 r2 r3
        have u0 := box_cell hb U0.out
        have v0 := box_free hb (by rw [U0.out]; rfl) V0.out
        have r0 := box_cell hb R0.out
        have u1 := box_cell hb U1.out
        have v1 := box_free hb (by rw [U1.out]; rfl) V1.out
        have r1 := box_cell hb R1.out
        have u2 := box_cell hb U2.out
        have v2 := box_free hb (by rw [U2.out]; rfl) V2.out
        have r2 := box_cell hb R2.out
        have u3 := box_cell hb U3.out
        have v3 := box_free hb (by rw [U3.out]; rfl) V3.out
        have r3 := box_cell hb R3.out
        have HB4 := hid (HB3.out.trans (hb.mono HB3.out.size))
        clear hb
        refine go_ ?_
        go_wp2_with fail
        (try simp only [Exit.inBlock, Exit.then])
        refine bodyPost_ret (v := .tuple #[.agg #[.int .i64 o, .int .i64 d, .int .i64 a, .int .i64 p], .bool true]) ?_ rfl ?_
        · simp [results, go_sem, u0, u1, u2, u3]
        · exact ⟨ret_bill HR0.out.symm, (((HB4.out.setCell (Nat.le_refl _) _).setCell (Nat.le_refl _) _).setCell (Nat.le_refl _) _).setCell (Nat.le_refl _) _⟩
      · have HR0 : Hid (((⟨0, 0, 0, 0⟩ : Bill), false) = R) := (HOT.out fun o' d' a' p' h h1 => by
          injection h with i1 h; injection h with i2 h; injection h with i3 h; injection h with i4 h
          subst i1 i2 i3 i4
          intro h2; rw [hD] at h2; exact he h2).symm
        have x1 : (D == s) = false := by rw [beq_eq_false_iff_ne]; exact he
        have x2 : ¬ D = s := he
        clear hD he
        go_wp2_with (go_at_call 38; refine (implIsBill o d a p _).mono ?_; rintro e wf ⟨rfl, hb⟩; rw [hk]; refine keep_ ?_)
        have u0 := box_cell hb Y0.out
        have v0 := box_free hb (by rw [Y0.out]; rfl) E0.out
        have r0 := box_cell hb Q0.out
        have u1 := box_cell hb Y1.out
        have v1 := box_free hb (by rw [Y1.out]; rfl) E1.out
        have r1 := box_cell hb Q1.out
        have u2 := box_cell hb Y2.out
        have v2 := box_free hb (by rw [Y2.out]; rfl) E2.out
        have r2 := box_cell hb Q2.out
        have u3 := box_cell hb Y3.out
        have v3 := box_free hb (by rw [Y3.out]; rfl) E3.out
        have r3 := box_cell hb Q3.out
        have HB3 := hid (HB2.out.trans (hb.mono HB2.out.size))
        have U0 := hid u0
        have V0 := hid v0
        have R0 := hid r0
        have U1 := hid u1
        have V1 := hid v1
        have R1 := hid r1
        have U2 := hid u2
        have V2 := hid v2
        have R2 := hid r2
        have U3 := hid u3
        have V3 := hid v3
        have R3 := hid r3
        clear hb u0 u1 u2 u3 v0 v1 v2 v3 r1 r2 r3
        have r1 := R1.out
        have r2 := R2.out
        have r3 := R3.out
        refine go_ ?_
        go_wp2_with (go_at_call 39; refine (HTX.out _ (HT.out.below HB3.out).tab).mono ?_; rintro e wg ⟨rfl, hb⟩; refine keep_ ?_)
        clear r0 r1 r2 r3
        have u0 := box_cell hb U0.out
        have v0 := box_free hb (by rw [U0.out]; rfl) V0.out
        have r0 := box_cell hb R0.out
        have u1 := box_cell hb U1.out
        have v1 := box_free hb (by rw [U1.out]; rfl) V1.out
        have r1 := box_cell hb R1.out
        have u2 := box_cell hb U2.out
        have v2 := box_free hb (by rw [U2.out]; rfl) V2.out
        have r2 := box_cell hb R2.out
        have u3 := box_cell hb U3.out
        have v3 := box_free hb (by rw [U3.out]; rfl) V3.out
        have r3 := box_cell hb R3.out
        have HB4 := hid (HB3.out.trans (hb.mono HB3.out.size))
        clear hb
        refine go_ ?_
        go_wp2_with fail
        (try simp only [Exit.inBlock, Exit.then])
        refine bodyPost_ret (v := .tuple #[.agg #[.int .i64 0, .int .i64 0, .int .i64 0, .int .i64 0], .bool false]) ?_ rfl ?_
        · simp [results, go_sem, u0, u1, u2, u3]
        · exact ⟨ret_bill HR0.out.symm, (((HB4.out.setCell (Nat.le_refl _) _).setCell (Nat.le_refl _) _).setCell (Nat.le_refl _) _).setCell (Nat.le_refl _) _⟩
  · have HR0 : Hid (((⟨0, 0, 0, 0⟩ : Bill), false) = R) := (HOT.out fun o d a p h => by rw [h] at h4; exact absurd rfl h4).symm
    have l4 : ((L.length : Int) != 4) = true := by rw [bne_iff_ne]; omega
    clear h4
    go_enter Tryd.func18, Tryd.ntmps18
    go_wp2_with (go_at_call 36; refine HNU.out.mono ?_; rintro e w1 ⟨A, q, rfl, ho, hb⟩; have hz := Z.out _ hb; have HB1 := hid (HB0.out.trans (hb.mono HB0.out.size)); clear ho hb; refine keep_ ?_)
    obtain ⟨⟨z0, z1, z2, z3⟩, f0, f1, f2, f3⟩ := hz
    refine go_ ?_
    go_wp2_with fail
    (try simp only [Exit.inBlock, Exit.then])
    refine bodyPost_ret (v := .tuple #[.agg #[.int .i64 0, .int .i64 0, .int .i64 0, .int .i64 0], .bool false]) ?_ rfl ?_
    · simp [results, go_sem, z0, z1, z2, z3]
    · exact ⟨ret_bill HR0.out.symm, (((HB1.out.setCell (Nat.le_refl _) _).setCell (Nat.le_refl _) _).setCell (Nat.le_refl _) _).setCell (Nat.le_refl _) _⟩
end Go.Proofs.YtampbbknhbhcbaaDoor
