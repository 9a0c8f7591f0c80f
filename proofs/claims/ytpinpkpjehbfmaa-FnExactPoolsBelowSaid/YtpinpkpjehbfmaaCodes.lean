/- Is a cell one of a land, is a level one? The walks. -/
import Derived.Test.YtpinpkpjehbfmaaLandOk
namespace Go.Proofs.Ytpinpkpjehbfmaa
open Go.RowKit
set_option linter.unusedVariables false
def codeCl (t : Land) (c : Int) : Int := if validL t = true then (if inB c 0 ((t.heights.length : Int) - 1) = true then 0 else 2) else 1
theorem codeCl_ok {t : Land} {c : Int} (h : codeCl t c = 0) : LOk t ∧ 0 ≤ c ∧ c < t.heights.length := by
  unfold codeCl at h
  split at h
  · rename_i h1
    split at h
    · rename_i h2; have := inB_true.1 h2; exact ⟨lok h1, by omega, by omega⟩
    · omega
  · omega
def codeFl (t : Land) (c lev : Int) : Int := if codeCl t c = 0 then (if inB lev (-2000) 2000 = true then 0 else 2) else codeCl t c
theorem codeFl_ok {t : Land} {c lev : Int} (h : codeFl t c lev = 0) : codeCl t c = 0 ∧ -2000 ≤ lev ∧ lev ≤ 2000 := by
  unfold codeFl at h
  split at h
  · rename_i h1
    split at h
    · rename_i h2; exact ⟨h1, inB_true.1 h2⟩
    · omega
  · omega
set_option maxHeartbeats 1000000 in
theorem specCellCode (g o : Nat) (t : Land) (c : Int) (w : World) (h : PtLand w g o t) :
    Calls Try.prog 58 #[.pointer (some ⟨g, o, none⟩), .int .i64 c] w fun e w' => e = .returned (.int .i64 (codeCl t c)) ∧ Below w.heap.size w w' := by
  have h0 := h
  obtain ⟨A, q, ⟨_, _, eH⟩, hA⟩ := h0
  have hn := hA.len
  have H := hid h
  clear hA h
  unfold codeCl
  by_cases hv : validL t = true
  · obtain ⟨z, hz⟩ : ∃ z, inB c 0 ((t.heights.length : Int) - 1) = z := ⟨_, rfl⟩
    rw [if_pos hv, hz]
    cases z
    all_goals
      go_enter Try.func58, Try.ntmps58
      go_wp2_with fail
      refine (specLandOk _ _ _ _ H.out).mono ?_
      rintro e w1 ⟨rfl, hb⟩
      rw [hv]
      have eH1 := box_cell hb eH
      have HB := hid hb
      clear hb
      go_wp2_with (go_at_call 46; refine (specIn_eq _ _ _ _ hz).mono ?_; rintro e w' ⟨rfl, rfl⟩)
      go_ret
      exact ⟨by simp, HB.out⟩
  · rw [if_neg hv]
    rw [Bool.not_eq_true] at hv
    go_enter Try.func58, Try.ntmps58
    go_wp2_with fail
    refine (specLandOk _ _ _ _ H.out).mono ?_
    rintro e w1 ⟨rfl, hb⟩
    rw [hv]
    go_wp2_with fail
    go_ret
    exact ⟨rfl, hb⟩
set_option maxHeartbeats 1000000 in
theorem specFloodCode (g o : Nat) (t : Land) (c lev : Int) (w : World) (h : PtLand w g o t) :
    Calls Try.prog 62 #[.pointer (some ⟨g, o, none⟩), .int .i64 c, .int .i64 lev] w fun e w' => e = .returned (.int .i64 (codeFl t c lev)) ∧ Below w.heap.size w w' := by
  unfold codeFl
  have H := hid h
  clear h
  by_cases h1 : codeCl t c = 0
  · obtain ⟨z, hz⟩ : ∃ z, inB lev (-2000) 2000 = z := ⟨_, rfl⟩
    rw [if_pos h1, hz]
    cases z
    all_goals
      go_enter Try.func62, Try.ntmps62
      go_wp2_with fail
      refine (specCellCode _ _ _ _ _ H.out).mono ?_
      rintro e w1 ⟨rfl, hb⟩
      rw [h1]
      go_wp2_with (go_at_call 73; refine (specLevel _ _).mono ?_; rintro e w' ⟨rfl, rfl⟩; rw [hz])
      go_ret
      exact ⟨by simp, hb⟩
  · rw [if_neg h1]
    have h1' : (codeCl t c == 0) = false := by simp [h1]
    have H1 := hid h1'
    clear h1'
    go_enter Try.func62, Try.ntmps62
    go_wp2_with fail
    refine (specCellCode _ _ _ _ _ H.out).mono ?_
    rintro e w1 ⟨rfl, hb⟩
    have h1' := H1.out
    clear H1
    generalize hz : codeCl t c = z at h1 h1' ⊢
    have HZ := hid hz
    clear hz
    go_wp2_with fail
    go_ret
    exact ⟨ret_int HZ.out.symm, hb⟩
set_option maxHeartbeats 1000000 in
theorem implIsCell {z : Bool} (v : Value) (t : Land) (c : Int) (w : World) (h : RdLand w v t) (hz : inB c 0 ((t.heights.length : Int) - 1) = z) :
    Calls Try.prog 79 #[v, .int .i64 c] w fun e w' => e = .returned (.bool z) ∧ Below w.heap.size w w' := by
  obtain ⟨A, q, rfl, hA⟩ := h
  have hn := hA.len
  have HB := hid fun o => (Below.refl w.heap.size w).alloc (Nat.le_refl _) o
  clear hA
  go_enter Try.func79, Try.ntmps79
  go_wp2_with (first | (go_at_call 50; refine (sizeInts _ _ _ _ hn).mono ?_; rintro e w' ⟨rfl, rfl⟩) | (go_at_call 49; refine (implIn_eq _ _ _ _ hz).mono ?_; rintro e w' ⟨rfl, rfl⟩))
  go_ret
  exact ⟨rfl, HB.out _⟩
set_option maxHeartbeats 1000000 in
theorem implCellCode (v : Value) (t : Land) (c : Int) (w : World) (h : RdLand w v t) :
    Calls Try.prog 60 #[v, .int .i64 c] w fun e w' => e = .returned (.int .i64 (codeCl t c)) ∧ Below w.heap.size w w' := by
  obtain ⟨A, q, rfl, hA⟩ := h
  have hn20 := hA.len
  obtain ⟨w0, hw0⟩ : ∃ x, w.alloc (.cells #[.int .i64 t.rows, .int .i64 t.columns, .slice A t.heights.length q] 28) = x := ⟨_, rfl⟩
  have hbw0 : Below w.heap.size w w0 := by rw [← hw0]; exact (Below.refl _ _).alloc (Nat.le_refl _) _
  have kR : w0.cell? ⟨w.heap.size, 0, none⟩ = some (.int .i64 t.rows) := by rw [← hw0]; simp [go_sem]
  have kC : w0.cell? ⟨w.heap.size, 1, none⟩ = some (.int .i64 t.columns) := by rw [← hw0]; simp [go_sem]
  have kH : w0.cell? ⟨w.heap.size, 2, none⟩ = some (.slice A t.heights.length q) := by rw [← hw0]; simp [go_sem]
  have HA0 := hid (hA.below hbw0)
  have HBW := hid hbw0
  have HW := hid hw0
  have HPT : Hid (RdLand w0 (.agg #[.int .i64 t.rows, .int .i64 t.columns, .slice A t.heights.length q]) t) := ⟨A, q, rfl, HA0.out⟩
  have HPP : Hid (PtLand w0 w.heap.size 0 t) := ⟨A, q, ⟨kR, kC, kH⟩, HA0.out⟩
  clear hA hbw0 hw0
  unfold codeCl
  by_cases hv : validL t = true
  · obtain ⟨z, hz⟩ : ∃ z, inB c 0 ((t.heights.length : Int) - 1) = z := ⟨_, rfl⟩
    rw [if_pos hv, hz]
    go_enter Try.func60, Try.ntmps60
    go_upto_region 1 with fail
    rw [HW.out]
    clear HW
    go_wp2_with fail
    refine (implValidLand _ _ _ HPT.out).mono ?_
    rintro e w1 ⟨rfl, hb⟩
    rw [hv]
    have e1 := box_cell hb kR
    have e2 := box_cell hb kC
    have e3 := box_cell hb kH
    have HB1 := hid (HBW.out.trans (hb.mono HBW.out.size))
    have HP1 := hid (HPT.out.below hb)
    clear hb kR kC kH
    go_wp2_with fail
    refine (implIsCell _ t c _ HP1.out hz).mono ?_
    rintro e w2 ⟨rfl, hb⟩
    have HB2 := hid (HB1.out.trans (hb.mono HB1.out.size))
    clear hb e1 e2 e3
    cases z
    all_goals
      go_wp2_with fail
      go_ret
      exact ⟨by simp, HB2.out⟩
  · rw [if_neg hv]
    rw [Bool.not_eq_true] at hv
    go_enter Try.func60, Try.ntmps60
    go_upto_region 1 with fail
    rw [HW.out]
    clear HW
    go_wp2_with fail
    refine (implValidLand _ _ _ HPT.out).mono ?_
    rintro e w1 ⟨rfl, hb⟩
    rw [hv]
    have HB1 := hid (HBW.out.trans (hb.mono HBW.out.size))
    clear hb kR kC kH
    go_wp2_with fail
    go_ret
    exact ⟨rfl, HB1.out⟩
theorem codeFl_cases {t : Land} {c lev : Int} : codeFl t c lev = if validL t = true then (if inB c 0 ((t.heights.length : Int) - 1) = true ∧ inB lev (-2000) 2000 = true then 0 else 2) else 1 := by
  unfold codeFl codeCl
  by_cases hv : validL t = true <;> by_cases h1 : inB c 0 ((t.heights.length : Int) - 1) = true <;> by_cases h2 : inB lev (-2000) 2000 = true <;> simp [hv, h1, h2]
set_option maxHeartbeats 2000000 in
theorem implFloodCode (v : Value) (t : Land) (c lev : Int) (w : World) (h : RdLand w v t) :
    Calls Try.prog 65 #[v, .int .i64 c, .int .i64 lev] w fun e w' => e = .returned (.int .i64 (codeFl t c lev)) ∧ Below w.heap.size w w' := by
  obtain ⟨A, q, rfl, hA⟩ := h
  have hn20 := hA.len
  obtain ⟨w0, hw0⟩ : ∃ x, w.alloc (.cells #[.int .i64 t.rows, .int .i64 t.columns, .slice A t.heights.length q] 28) = x := ⟨_, rfl⟩
  have hbw0 : Below w.heap.size w w0 := by rw [← hw0]; exact (Below.refl _ _).alloc (Nat.le_refl _) _
  have kR : w0.cell? ⟨w.heap.size, 0, none⟩ = some (.int .i64 t.rows) := by rw [← hw0]; simp [go_sem]
  have kC : w0.cell? ⟨w.heap.size, 1, none⟩ = some (.int .i64 t.columns) := by rw [← hw0]; simp [go_sem]
  have kH : w0.cell? ⟨w.heap.size, 2, none⟩ = some (.slice A t.heights.length q) := by rw [← hw0]; simp [go_sem]
  have HA0 := hid (hA.below hbw0)
  have HBW := hid hbw0
  have HW := hid hw0
  have HPT : Hid (RdLand w0 (.agg #[.int .i64 t.rows, .int .i64 t.columns, .slice A t.heights.length q]) t) := ⟨A, q, rfl, HA0.out⟩
  have HPP : Hid (PtLand w0 w.heap.size 0 t) := ⟨A, q, ⟨kR, kC, kH⟩, HA0.out⟩
  clear hA hbw0 hw0
  rw [codeFl_cases]
  by_cases hv : validL t = true
  · obtain ⟨z, hz⟩ : ∃ z, inB c 0 ((t.heights.length : Int) - 1) = z := ⟨_, rfl⟩
    obtain ⟨y, hy⟩ : ∃ y, inB lev (-2000) 2000 = y := ⟨_, rfl⟩
    rw [if_pos hv, hz, hy]
    go_enter Try.func65, Try.ntmps65
    go_upto_region 1 with fail
    rw [HW.out]
    clear HW
    go_wp2_with fail
    refine (implValidLand _ _ _ HPT.out).mono ?_
    rintro e w1 ⟨rfl, hb⟩
    rw [hv]
    have e1 := box_cell hb kR
    have e2 := box_cell hb kC
    have e3 := box_cell hb kH
    have HB1 := hid (HBW.out.trans (hb.mono HBW.out.size))
    have HP1 := hid (HPT.out.below hb)
    clear hb kR kC kH
    go_wp2_with fail
    refine (implIsCell _ t c _ HP1.out hz).mono ?_
    rintro e w2 ⟨rfl, hb⟩
    have HB2 := hid (HB1.out.trans (hb.mono HB1.out.size))
    clear hb e1 e2 e3
    cases z <;> cases y
    all_goals
      go_wp2_with (go_at_call 54; refine (implLevel _ _).mono ?_; rintro e w' ⟨rfl, rfl⟩; rw [hy])
      go_ret
      exact ⟨by simp, HB2.out⟩
  · rw [if_neg hv]
    rw [Bool.not_eq_true] at hv
    go_enter Try.func65, Try.ntmps65
    go_upto_region 1 with fail
    rw [HW.out]
    clear HW
    go_wp2_with fail
    refine (implValidLand _ _ _ HPT.out).mono ?_
    rintro e w1 ⟨rfl, hb⟩
    rw [hv]
    have HB1 := hid (HBW.out.trans (hb.mono HBW.out.size))
    clear hb kR kC kH
    go_wp2_with fail
    go_ret
    exact ⟨rfl, HB1.out⟩
end Go.Proofs.Ytpinpkpjehbfmaa
