/- Levels and order of a flood: the walks. -/
import Derived.Test.YtpinpkpjehbfmaaSprI
import Derived.Test.YtpinpkpjehbfmaaCodes
namespace Go.Proofs.Ytpinpkpjehbfmaa
open Go.RowKit
set_option linter.unusedVariables false

theorem surf_inv {t : Land} (ht : LOk t) {cs : List Int} (hc : ∀ c ∈ cs, 0 ≤ c ∧ c < t.heights.length) : SInv t (surf t cs) :=
  SInv.spread ht _ (start_inv ht cs (spInit_inv t) (fun x => seen_rep0 _ _) hc).1
theorem one_cell {t : Land} {c : Int} (h0 : 0 ≤ c) (h1 : c < t.heights.length) : ∀ x ∈ [c], 0 ≤ x ∧ x < t.heights.length := by simp; exact ⟨h0, h1⟩
def levF (t : Land) (c : Int) : List Int := if codeCl t c = 0 then (surf t [c]).out else []
def ordF (t : Land) (c : Int) : List Int := if codeCl t c = 0 then (surf t [c]).order else []
theorem levF_len (t : Land) (c : Int) : (levF t c).length ≤ 1048576 := by
  unfold levF
  split
  · rename_i h
    obtain ⟨ht, a, b⟩ := codeCl_ok h
    rw [(surf_inv ht (one_cell a b)).lo]
    have := ht.le; omega
  · simp
theorem ordF_len (t : Land) (c : Int) : (ordF t c).length ≤ 1048576 := by
  unfold ordF
  split
  · rename_i h
    obtain ⟨ht, a, b⟩ := codeCl_ok h
    have h1 := (surf_inv ht (one_cell a b)).toSOk.order_le
    have := ht.le; omega
  · simp
set_option maxHeartbeats 4000000 in
theorem specFloodLevels (v : Value) (t : Land) (c : Int) (w : World) (h : RdLand w v t) :
    Calls Try.prog 27 #[v, .int .i64 c] w fun e w' => ∃ u, e = .returned (.tuple #[u, .int .i64 (codeCl t c)]) ∧ Own w' w.heap.size 2 u (levF t c) ∧ Below w.heap.size w w' := by
  obtain ⟨A, q, rfl, hA⟩ := h
  have hn20 := hA.len
  obtain ⟨w0, hw0⟩ : ∃ x, w.alloc (.cells #[.int .i64 t.rows, .int .i64 t.columns, .slice A t.heights.length q] 28) = x := ⟨_, rfl⟩
  have hbw0 : Below w.heap.size w w0 := by rw [← hw0]; exact (Below.refl _ _).alloc (Nat.le_refl _) _
  have kR : w0.cell? ⟨w.heap.size, 0, none⟩ = some (.int .i64 t.rows) := by rw [← hw0]; simp [go_sem]
  have kC : w0.cell? ⟨w.heap.size, 1, none⟩ = some (.int .i64 t.columns) := by rw [← hw0]; simp [go_sem]
  have kH : w0.cell? ⟨w.heap.size, 2, none⟩ = some (.slice A t.heights.length q) := by rw [← hw0]; simp [go_sem]
  have HA0 := hid (hA.below hbw0)
  have HBW := hid hbw0
  have HW := hid hw0
  have HPT : Hid (RdLand w0 (.agg #[.int .i64 t.rows, .int .i64 t.columns, .slice A t.heights.length q]) t) := ⟨A, q, rfl, HA0.out⟩
  have HPP : Hid (PtLand w0 w.heap.size 0 t) := ⟨A, q, ⟨kR, kC, kH⟩, HA0.out⟩
  clear hA hbw0 hw0
  by_cases h1 : codeCl t c = 0
  · obtain ⟨ht, a, b⟩ := codeCl_ok h1
    have HF : Hid (levF t c = (surf t [c]).out) := by show _ = _; unfold levF; rw [if_pos h1]
    have HC := hid h1
    clear h1
    go_enter Try.func27, Try.ntmps27
    go_upto_region 1 with fail
    rw [HW.out]
    clear HW
    go_wp2_with fail
    refine (specCellCode _ _ _ _ _ HPP.out).mono ?_
    rintro e w1 ⟨rfl, hb⟩
    rw [HC.out]
    have HB1 := hid (HBW.out.trans (hb.mono HBW.out.size))
    have HPa : Hid (PtLand (w1.alloc (.cells #[.int .i64 c] 2)) w.heap.size 0 t) := (HPP.out.below hb).below ((Below.refl _ _).alloc (Nat.le_refl _) _)
    have HRa : Hid (Rd (w1.alloc (.cells #[.int .i64 c] 2)) (some ⟨w1.heap.size, 0, none⟩) [c]) := (Own.one (w := w1) (base := w1.heap.size) (e := 2) c (Nat.le_refl _)).rd (by simp)
    clear hb kR kC kH
    go_wp2_with fail
    refine (specSurfaces _ _ t ht (some ⟨w1.heap.size, 0, none⟩) [c] 1 _ HPa.out HRa.out (one_cell a b)).mono ?_
    rintro e w2 ⟨u, v, rfl, ho1, ho2, hb⟩
    have HBa := hid (HB1.out.alloc HB1.out.size (.cells #[.int .i64 c] 2))
    have HO := hid (ho1.mono HBa.out.size)
    have HB2 := hid (HBa.out.trans (hb.mono HBa.out.size))
    clear ho1 ho2 hb
    go_wp2_with fail
    go_ret2
    exact ⟨_, by rw [HC.out]; rfl, by rw [HF.out]; exact HO.out, HB2.out⟩
  · have HF : Hid (levF t c = []) := by show _ = _; unfold levF; rw [if_neg h1]
    have h1' : (codeCl t c != 0) = true := by simp [h1]
    have H1 := hid h1'
    clear h1'
    go_enter Try.func27, Try.ntmps27
    go_upto_region 1 with fail
    rw [HW.out]
    clear HW
    go_wp2_with fail
    refine (specCellCode _ _ _ _ _ HPP.out).mono ?_
    rintro e w1 ⟨rfl, hb⟩
    have HB1 := hid (HBW.out.trans (hb.mono HBW.out.size))
    have h1' := H1.out
    clear hb kR kC kH H1
    generalize hz : codeCl t c = z at h1 h1' ⊢
    have HZ := hid hz
    clear hz
    go_wp2_with fail
    go_ret2
    exact ⟨.slice none 0 0, by rw [HZ.out]; rfl, by rw [HF.out]; exact Own.nil _ _ _, HB1.out⟩
set_option maxHeartbeats 4000000 in
theorem implFloodLevels (v : Value) (t : Land) (c : Int) (w : World) (h : RdLand w v t) :
    Calls Try.prog 28 #[v, .int .i64 c] w fun e w' => ∃ u, e = .returned (.tuple #[u, .int .i64 (codeCl t c)]) ∧ Own w' w.heap.size 2 u (levF t c) ∧ Below w.heap.size w w' := by
  obtain ⟨A, q, rfl, hA⟩ := h
  have hn20 := hA.len
  obtain ⟨w0, hw0⟩ : ∃ x, w.alloc (.cells #[.int .i64 t.rows, .int .i64 t.columns, .slice A t.heights.length q] 28) = x := ⟨_, rfl⟩
  have hbw0 : Below w.heap.size w w0 := by rw [← hw0]; exact (Below.refl _ _).alloc (Nat.le_refl _) _
  have kR : w0.cell? ⟨w.heap.size, 0, none⟩ = some (.int .i64 t.rows) := by rw [← hw0]; simp [go_sem]
  have kC : w0.cell? ⟨w.heap.size, 1, none⟩ = some (.int .i64 t.columns) := by rw [← hw0]; simp [go_sem]
  have kH : w0.cell? ⟨w.heap.size, 2, none⟩ = some (.slice A t.heights.length q) := by rw [← hw0]; simp [go_sem]
  have HA0 := hid (hA.below hbw0)
  have HBW := hid hbw0
  have HW := hid hw0
  have HPT : Hid (RdLand w0 (.agg #[.int .i64 t.rows, .int .i64 t.columns, .slice A t.heights.length q]) t) := ⟨A, q, rfl, HA0.out⟩
  have HPP : Hid (PtLand w0 w.heap.size 0 t) := ⟨A, q, ⟨kR, kC, kH⟩, HA0.out⟩
  clear hA hbw0 hw0
  by_cases h1 : codeCl t c = 0
  · obtain ⟨ht, a, b⟩ := codeCl_ok h1
    have HF : Hid (levF t c = (surf t [c]).out) := by show _ = _; unfold levF; rw [if_pos h1]
    have HC := hid h1
    clear h1
    go_enter Try.func28, Try.ntmps28
    go_upto_region 1 with fail
    rw [HW.out]
    clear HW
    go_wp2_with fail
    refine (implCellCode _ _ _ _ HPT.out).mono ?_
    rintro e w1 ⟨rfl, hb⟩
    rw [HC.out]
    have HB1 := hid (HBW.out.trans (hb.mono HBW.out.size))
    have HPa : Hid (PtLand (w1.alloc (.cells #[.int .i64 c] 2)) w.heap.size 0 t) := (HPP.out.below hb).below ((Below.refl _ _).alloc (Nat.le_refl _) _)
    have HRa : Hid (Rd (w1.alloc (.cells #[.int .i64 c] 2)) (some ⟨w1.heap.size, 0, none⟩) [c]) := (Own.one (w := w1) (base := w1.heap.size) (e := 2) c (Nat.le_refl _)).rd (by simp)
    have e1 := box_cell hb kR
    have e2 := box_cell hb kC
    have e3 := box_cell hb kH
    have HTa : Hid (RdLand (w1.alloc (.cells #[.int .i64 c] 2)) (.agg #[.int .i64 t.rows, .int .i64 t.columns, .slice A t.heights.length q]) t) := (HPT.out.below hb).below ((Below.refl _ _).alloc (Nat.le_refl _) _)
    clear hb kR kC kH
    go_wp2_with fail
    refine (implSpread _ t ht (some ⟨w1.heap.size, 0, none⟩) [c] 1 _ HTa.out HRa.out (one_cell a b)).mono ?_
    rintro e w2 ⟨u, v, rfl, ho1, ho2, hb⟩
    have HBa := hid (HB1.out.alloc HB1.out.size (.cells #[.int .i64 c] 2))
    have HO := hid (ho1.mono HBa.out.size)
    have HB2 := hid (HBa.out.trans (hb.mono HBa.out.size))
    clear ho1 ho2 hb
    go_wp2_with fail
    go_ret2
    exact ⟨_, by rw [HC.out]; rfl, by rw [HF.out]; exact HO.out, HB2.out⟩
  · have HF : Hid (levF t c = []) := by show _ = _; unfold levF; rw [if_neg h1]
    have h1' : (codeCl t c != 0) = true := by simp [h1]
    have H1 := hid h1'
    clear h1'
    go_enter Try.func28, Try.ntmps28
    go_upto_region 1 with fail
    rw [HW.out]
    clear HW
    go_wp2_with fail
    refine (implCellCode _ _ _ _ HPT.out).mono ?_
    rintro e w1 ⟨rfl, hb⟩
    have HB1 := hid (HBW.out.trans (hb.mono HBW.out.size))
    have h1' := H1.out
    clear hb kR kC kH H1
    generalize hz : codeCl t c = z at h1 h1' ⊢
    have HZ := hid hz
    clear hz
    go_wp2_with fail
    go_ret2
    exact ⟨_, by rw [HZ.out]; rfl, by rw [HF.out]; exact Own.empty HB1.out.size, HB1.out.alloc HB1.out.size _⟩
set_option maxHeartbeats 4000000 in
theorem specFloodOrder (v : Value) (t : Land) (c : Int) (w : World) (h : RdLand w v t) :
    Calls Try.prog 29 #[v, .int .i64 c] w fun e w' => ∃ u, e = .returned (.tuple #[u, .int .i64 (codeCl t c)]) ∧ Own w' w.heap.size 2 u (ordF t c) ∧ Below w.heap.size w w' := by
  obtain ⟨A, q, rfl, hA⟩ := h
  have hn20 := hA.len
  obtain ⟨w0, hw0⟩ : ∃ x, w.alloc (.cells #[.int .i64 t.rows, .int .i64 t.columns, .slice A t.heights.length q] 28) = x := ⟨_, rfl⟩
  have hbw0 : Below w.heap.size w w0 := by rw [← hw0]; exact (Below.refl _ _).alloc (Nat.le_refl _) _
  have kR : w0.cell? ⟨w.heap.size, 0, none⟩ = some (.int .i64 t.rows) := by rw [← hw0]; simp [go_sem]
  have kC : w0.cell? ⟨w.heap.size, 1, none⟩ = some (.int .i64 t.columns) := by rw [← hw0]; simp [go_sem]
  have kH : w0.cell? ⟨w.heap.size, 2, none⟩ = some (.slice A t.heights.length q) := by rw [← hw0]; simp [go_sem]
  have HA0 := hid (hA.below hbw0)
  have HBW := hid hbw0
  have HW := hid hw0
  have HPT : Hid (RdLand w0 (.agg #[.int .i64 t.rows, .int .i64 t.columns, .slice A t.heights.length q]) t) := ⟨A, q, rfl, HA0.out⟩
  have HPP : Hid (PtLand w0 w.heap.size 0 t) := ⟨A, q, ⟨kR, kC, kH⟩, HA0.out⟩
  clear hA hbw0 hw0
  by_cases h1 : codeCl t c = 0
  · obtain ⟨ht, a, b⟩ := codeCl_ok h1
    have HF : Hid (ordF t c = (surf t [c]).order) := by show _ = _; unfold ordF; rw [if_pos h1]
    have HC := hid h1
    clear h1
    go_enter Try.func29, Try.ntmps29
    go_upto_region 1 with fail
    rw [HW.out]
    clear HW
    go_wp2_with fail
    refine (specCellCode _ _ _ _ _ HPP.out).mono ?_
    rintro e w1 ⟨rfl, hb⟩
    rw [HC.out]
    have HB1 := hid (HBW.out.trans (hb.mono HBW.out.size))
    have HPa : Hid (PtLand (w1.alloc (.cells #[.int .i64 c] 2)) w.heap.size 0 t) := (HPP.out.below hb).below ((Below.refl _ _).alloc (Nat.le_refl _) _)
    have HRa : Hid (Rd (w1.alloc (.cells #[.int .i64 c] 2)) (some ⟨w1.heap.size, 0, none⟩) [c]) := (Own.one (w := w1) (base := w1.heap.size) (e := 2) c (Nat.le_refl _)).rd (by simp)
    clear hb kR kC kH
    go_wp2_with fail
    refine (specSurfaces _ _ t ht (some ⟨w1.heap.size, 0, none⟩) [c] 1 _ HPa.out HRa.out (one_cell a b)).mono ?_
    rintro e w2 ⟨u, v, rfl, ho1, ho2, hb⟩
    have HBa := hid (HB1.out.alloc HB1.out.size (.cells #[.int .i64 c] 2))
    have HO := hid (ho2.mono HBa.out.size)
    have HB2 := hid (HBa.out.trans (hb.mono HBa.out.size))
    clear ho1 ho2 hb
    go_wp2_with fail
    go_ret2
    exact ⟨_, by rw [HC.out]; rfl, by rw [HF.out]; exact HO.out, HB2.out⟩
  · have HF : Hid (ordF t c = []) := by show _ = _; unfold ordF; rw [if_neg h1]
    have h1' : (codeCl t c != 0) = true := by simp [h1]
    have H1 := hid h1'
    clear h1'
    go_enter Try.func29, Try.ntmps29
    go_upto_region 1 with fail
    rw [HW.out]
    clear HW
    go_wp2_with fail
    refine (specCellCode _ _ _ _ _ HPP.out).mono ?_
    rintro e w1 ⟨rfl, hb⟩
    have HB1 := hid (HBW.out.trans (hb.mono HBW.out.size))
    have h1' := H1.out
    clear hb kR kC kH H1
    generalize hz : codeCl t c = z at h1 h1' ⊢
    have HZ := hid hz
    clear hz
    go_wp2_with fail
    go_ret2
    exact ⟨.slice none 0 0, by rw [HZ.out]; rfl, by rw [HF.out]; exact Own.nil _ _ _, HB1.out⟩
set_option maxHeartbeats 4000000 in
theorem implFloodOrder (v : Value) (t : Land) (c : Int) (w : World) (h : RdLand w v t) :
    Calls Try.prog 30 #[v, .int .i64 c] w fun e w' => ∃ u, e = .returned (.tuple #[u, .int .i64 (codeCl t c)]) ∧ Own w' w.heap.size 2 u (ordF t c) ∧ Below w.heap.size w w' := by
  obtain ⟨A, q, rfl, hA⟩ := h
  have hn20 := hA.len
  obtain ⟨w0, hw0⟩ : ∃ x, w.alloc (.cells #[.int .i64 t.rows, .int .i64 t.columns, .slice A t.heights.length q] 28) = x := ⟨_, rfl⟩
  have hbw0 : Below w.heap.size w w0 := by rw [← hw0]; exact (Below.refl _ _).alloc (Nat.le_refl _) _
  have kR : w0.cell? ⟨w.heap.size, 0, none⟩ = some (.int .i64 t.rows) := by rw [← hw0]; simp [go_sem]
  have kC : w0.cell? ⟨w.heap.size, 1, none⟩ = some (.int .i64 t.columns) := by rw [← hw0]; simp [go_sem]
  have kH : w0.cell? ⟨w.heap.size, 2, none⟩ = some (.slice A t.heights.length q) := by rw [← hw0]; simp [go_sem]
  have HA0 := hid (hA.below hbw0)
  have HBW := hid hbw0
  have HW := hid hw0
  have HPT : Hid (RdLand w0 (.agg #[.int .i64 t.rows, .int .i64 t.columns, .slice A t.heights.length q]) t) := ⟨A, q, rfl, HA0.out⟩
  have HPP : Hid (PtLand w0 w.heap.size 0 t) := ⟨A, q, ⟨kR, kC, kH⟩, HA0.out⟩
  clear hA hbw0 hw0
  by_cases h1 : codeCl t c = 0
  · obtain ⟨ht, a, b⟩ := codeCl_ok h1
    have HF : Hid (ordF t c = (surf t [c]).order) := by show _ = _; unfold ordF; rw [if_pos h1]
    have HC := hid h1
    clear h1
    go_enter Try.func30, Try.ntmps30
    go_upto_region 1 with fail
    rw [HW.out]
    clear HW
    go_wp2_with fail
    refine (implCellCode _ _ _ _ HPT.out).mono ?_
    rintro e w1 ⟨rfl, hb⟩
    rw [HC.out]
    have HB1 := hid (HBW.out.trans (hb.mono HBW.out.size))
    have HPa : Hid (PtLand (w1.alloc (.cells #[.int .i64 c] 2)) w.heap.size 0 t) := (HPP.out.below hb).below ((Below.refl _ _).alloc (Nat.le_refl _) _)
    have HRa : Hid (Rd (w1.alloc (.cells #[.int .i64 c] 2)) (some ⟨w1.heap.size, 0, none⟩) [c]) := (Own.one (w := w1) (base := w1.heap.size) (e := 2) c (Nat.le_refl _)).rd (by simp)
    have e1 := box_cell hb kR
    have e2 := box_cell hb kC
    have e3 := box_cell hb kH
    have HTa : Hid (RdLand (w1.alloc (.cells #[.int .i64 c] 2)) (.agg #[.int .i64 t.rows, .int .i64 t.columns, .slice A t.heights.length q]) t) := (HPT.out.below hb).below ((Below.refl _ _).alloc (Nat.le_refl _) _)
    clear hb kR kC kH
    go_wp2_with fail
    refine (implSpread _ t ht (some ⟨w1.heap.size, 0, none⟩) [c] 1 _ HTa.out HRa.out (one_cell a b)).mono ?_
    rintro e w2 ⟨u, v, rfl, ho1, ho2, hb⟩
    have HBa := hid (HB1.out.alloc HB1.out.size (.cells #[.int .i64 c] 2))
    have HO := hid (ho2.mono HBa.out.size)
    have HB2 := hid (HBa.out.trans (hb.mono HBa.out.size))
    clear ho1 ho2 hb
    go_wp2_with fail
    go_ret2
    exact ⟨_, by rw [HC.out]; rfl, by rw [HF.out]; exact HO.out, HB2.out⟩
  · have HF : Hid (ordF t c = []) := by show _ = _; unfold ordF; rw [if_neg h1]
    have h1' : (codeCl t c != 0) = true := by simp [h1]
    have H1 := hid h1'
    clear h1'
    go_enter Try.func30, Try.ntmps30
    go_upto_region 1 with fail
    rw [HW.out]
    clear HW
    go_wp2_with fail
    refine (implCellCode _ _ _ _ HPT.out).mono ?_
    rintro e w1 ⟨rfl, hb⟩
    have HB1 := hid (HBW.out.trans (hb.mono HBW.out.size))
    have h1' := H1.out
    clear hb kR kC kH H1
    generalize hz : codeCl t c = z at h1 h1' ⊢
    have HZ := hid hz
    clear hz
    go_wp2_with fail
    go_ret2
    exact ⟨_, by rw [HZ.out]; rfl, by rw [HF.out]; exact Own.empty HB1.out.size, HB1.out.alloc HB1.out.size _⟩
end Go.Proofs.Ytpinpkpjehbfmaa
