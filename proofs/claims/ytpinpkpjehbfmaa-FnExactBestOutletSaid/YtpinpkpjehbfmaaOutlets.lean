/- Outlets: the codes, the surfaces of them. -/
import Derived.Test.YtpinpkpjehbfmaaRises
import Derived.Test.YtpinpkpjehbfmaaLevels
namespace Go.Proofs.Ytpinpkpjehbfmaa
open Go.RowKit
set_option linter.unusedVariables false

def outOk (t : Land) (cs : List Int) : Bool := decide (0 < cs.length) && risesB 0 ((t.heights.length : Int) - 1) cs
def codeOut (t : Land) (cs : List Int) : Int := if validL t = true then (if outOk t cs = true then 0 else 2) else 1
theorem codeOut_ok {t : Land} {cs : List Int} (h : codeOut t cs = 0) : LOk t ∧ outOk t cs = true := by
  unfold codeOut at h
  split at h
  · rename_i hv
    split at h
    · rename_i ho; exact ⟨lok hv, ho⟩
    · cases h
  · cases h
theorem outOk_in {t : Land} {cs : List Int} (h : outOk t cs = true) : ∀ c ∈ cs, 0 ≤ c ∧ c < t.heights.length := by
  unfold outOk at h
  simp only [Bool.and_eq_true] at h
  intro c hc
  obtain ⟨k, hk, rfl⟩ := List.mem_iff_getElem.1 hc
  have := (rises_at h.2 hk).1
  omega
theorem outOk_pos {t : Land} {cs : List Int} (h : outOk t cs = true) : 0 < cs.length := by
  unfold outOk at h
  simp only [Bool.and_eq_true, decide_eq_true_eq] at h
  exact h.1
set_option maxHeartbeats 1000000 in
theorem specOutlets (g o : Nat) (t : Land) (A1 : Option Addr) (cs : List Int) (c1 : Nat) (w : World) (h : PtLand w g o t) (hx : Rd w A1 cs) :
    Calls Try.prog 71 #[.pointer (some ⟨g, o, none⟩), .slice A1 cs.length c1] w fun e w' => e = .returned (.bool (outOk t cs)) ∧ Below w.heap.size w w' := by
  obtain ⟨A, q, ⟨_, _, eH⟩, hA⟩ := h
  have hn20 := hA.len
  have hxl := hx.len
  have HX := hid hx
  clear hA hx
  by_cases h0 : 0 < cs.length
  · have HO : Hid (outOk t cs = risesB 0 ((t.heights.length : Int) - 1) cs) := by show _ = _; unfold outOk; rw [decide_eq_true h0]; rfl
    go_enter Try.func71, Try.ntmps71
    go_wp2_with fail
    refine (specRises _ _ _ _ _ _ HX.out).mono ?_
    rintro e w1 ⟨rfl, hb⟩
    have HB := hid hb
    clear hb
    rw [← HO.out]
    go_wp2_with fail
    go_ret
    exact ⟨rfl, HB.out⟩
  · have HO : Hid (outOk t cs = false) := by show _ = _; unfold outOk; rw [decide_eq_false h0]; rfl
    go_enter Try.func71, Try.ntmps71
    go_wp2_with fail
    go_ret
    exact ⟨ret_bool HO.out.symm, Below.refl _ _⟩
set_option maxHeartbeats 4000000 in
theorem implOutlets (v : Value) (t : Land) (A1 : Option Addr) (cs : List Int) (c1 : Nat) (w : World) (h : RdLand w v t) (hx : Rd w A1 cs) :
    Calls Try.prog 72 #[v, .slice A1 cs.length c1] w fun e w' => e = .returned (.int .i64 (codeOut t cs)) ∧ Below w.heap.size w w' := by
  have hxl := hx.len
  obtain ⟨A, q, rfl, hA⟩ := h
  have hn20 := hA.len
  obtain ⟨w0, hw0⟩ : ∃ x, w.alloc (.cells #[.int .i64 t.rows, .int .i64 t.columns, .slice A t.heights.length q] 28) = x := ⟨_, rfl⟩
  have hbw0 : Below w.heap.size w w0 := by rw [← hw0]; exact (Below.refl _ _).alloc (Nat.le_refl _) _
  have kR : w0.cell? ⟨w.heap.size, 0, none⟩ = some (.int .i64 t.rows) := by rw [← hw0]; simp [go_sem]
  have kC : w0.cell? ⟨w.heap.size, 1, none⟩ = some (.int .i64 t.columns) := by rw [← hw0]; simp [go_sem]
  have kH : w0.cell? ⟨w.heap.size, 2, none⟩ = some (.slice A t.heights.length q) := by rw [← hw0]; simp [go_sem]
  have HA0 := hid (hA.below hbw0)
  have HBW := hid hbw0
  have HW := hid hw0
  have HPT : Hid (RdLand w0 (.agg #[.int .i64 t.rows, .int .i64 t.columns, .slice A t.heights.length q]) t) := ⟨A, q, rfl, HA0.out⟩
  have HPP : Hid (PtLand w0 w.heap.size 0 t) := ⟨A, q, ⟨kR, kC, kH⟩, HA0.out⟩
  have HX := hid (hx.below hbw0)
  clear hA hbw0 hw0 hx
  have HCO : Hid (codeOut t cs = if validL t = true then (if outOk t cs = true then 0 else 2) else 1) := rfl
  generalize codeOut t cs = cz at HCO ⊢
  by_cases hv : validL t = true
  · have HCV : Hid (cz = if outOk t cs = true then 0 else 2) := by show _ = _; rw [HCO.out, if_pos hv]
    clear HCO
    by_cases h0 : 0 < cs.length
    · have HO : Hid (outOk t cs = risesB 0 ((t.heights.length : Int) - 1) cs) := by show _ = _; unfold outOk; rw [decide_eq_true h0]; rfl
      have h0' : ((cs.length : Int) == 0) = false := beq_no (by omega)
      go_enter Try.func72, Try.ntmps72
      go_upto_region 1 with fail
      rw [HW.out]
      clear HW
      go_wp2_with fail
      refine (implValidLand _ _ _ HPT.out).mono ?_
      rintro e w1 ⟨rfl, hb⟩
      rw [hv]
      have e3 := box_cell hb kH
      have HB1 := hid (HBW.out.trans (hb.mono HBW.out.size))
      have HX1 := hid (HX.out.below hb)
      clear hb kR kC kH
      go_wp2_with (go_at_call 50; refine (sizeInts _ _ _ _ hn20).mono ?_; rintro e w' ⟨rfl, rfl⟩)
      refine (implRises _ _ _ _ _ _ HX1.out).mono ?_
      rintro e w2 ⟨rfl, rfl⟩
      rw [← HO.out]
      cases hz : outOk t cs
      all_goals
        have HZ := hid hz
        clear HO hz
        go_wp2_with fail
        go_ret
        exact ⟨ret_int (by rw [HCV.out, HZ.out]; rfl), HB1.out⟩
    · have h0' : cs.length = 0 := by omega
      have HO : Hid (outOk t cs = false) := by show _ = _; unfold outOk; rw [decide_eq_false h0]; rfl
      go_enter Try.func72, Try.ntmps72
      go_upto_region 1 with fail
      rw [HW.out]
      clear HW
      go_wp2_with fail
      refine (implValidLand _ _ _ HPT.out).mono ?_
      rintro e w1 ⟨rfl, hb⟩
      rw [hv]
      have e3 := box_cell hb kH
      have HB1 := hid (HBW.out.trans (hb.mono HBW.out.size))
      clear hb kR kC kH
      go_wp2_with fail
      go_ret
      exact ⟨ret_int (by rw [HCV.out, HO.out]; rfl), HB1.out⟩
  · have HCV : Hid (cz = 1) := by show _ = _; rw [HCO.out, if_neg hv]
    clear HCO
    rw [Bool.not_eq_true] at hv
    go_enter Try.func72, Try.ntmps72
    go_upto_region 1 with fail
    rw [HW.out]
    clear HW
    go_wp2_with fail
    refine (implValidLand _ _ _ HPT.out).mono ?_
    rintro e w1 ⟨rfl, hb⟩
    rw [hv]
    have HB1 := hid (HBW.out.trans (hb.mono HBW.out.size))
    clear hb kR kC kH
    go_wp2_with fail
    go_ret
    exact ⟨ret_int HCV.out.symm, HB1.out⟩
def surfF (t : Land) (cs : List Int) : List Int := if codeOut t cs = 0 then (surf t cs).out else []
theorem surfF_len (t : Land) (cs : List Int) : (surfF t cs).length ≤ 1048576 := by
  unfold surfF
  split
  · rename_i h
    obtain ⟨ht, ho⟩ := codeOut_ok h
    rw [(surf_inv ht (outOk_in ho)).lo]
    have := ht.le; omega
  · simp
set_option maxHeartbeats 4000000 in
theorem specSurfacesOf (v : Value) (t : Land) (A1 : Option Addr) (cs : List Int) (c1 : Nat) (w : World) (h : RdLand w v t) (hx : Rd w A1 cs) :
    Calls Try.prog 39 #[v, .slice A1 cs.length c1] w fun e w' => ∃ u, e = .returned (.tuple #[u, .int .i64 (codeOut t cs)]) ∧ Own w' w.heap.size 2 u (surfF t cs) ∧ Below w.heap.size w w' := by
  obtain ⟨A, q, rfl, hA⟩ := h
  have hn20 := hA.len
  obtain ⟨w0, hw0⟩ : ∃ x, w.alloc (.cells #[.int .i64 t.rows, .int .i64 t.columns, .slice A t.heights.length q] 28) = x := ⟨_, rfl⟩
  have hbw0 : Below w.heap.size w w0 := by rw [← hw0]; exact (Below.refl _ _).alloc (Nat.le_refl _) _
  have kR : w0.cell? ⟨w.heap.size, 0, none⟩ = some (.int .i64 t.rows) := by rw [← hw0]; simp [go_sem]
  have kC : w0.cell? ⟨w.heap.size, 1, none⟩ = some (.int .i64 t.columns) := by rw [← hw0]; simp [go_sem]
  have kH : w0.cell? ⟨w.heap.size, 2, none⟩ = some (.slice A t.heights.length q) := by rw [← hw0]; simp [go_sem]
  have HA0 := hid (hA.below hbw0)
  have HBW := hid hbw0
  have HW := hid hw0
  have HPT : Hid (RdLand w0 (.agg #[.int .i64 t.rows, .int .i64 t.columns, .slice A t.heights.length q]) t) := ⟨A, q, rfl, HA0.out⟩
  have HPP : Hid (PtLand w0 w.heap.size 0 t) := ⟨A, q, ⟨kR, kC, kH⟩, HA0.out⟩
  have HX := hid (hx.below hbw0)
  clear hA hbw0 hw0 hx
  by_cases hv : validL t = true
  · by_cases ho : outOk t cs = true
    · have ht := lok hv
      have hcd : codeOut t cs = 0 := by unfold codeOut; rw [if_pos hv, if_pos ho]
      have HF : Hid (surfF t cs = (surf t cs).out) := by show _ = _; unfold surfF; rw [if_pos hcd]
      have HC := hid hcd
      have HIN := hid (outOk_in ho)
      clear hcd
      go_enter Try.func39, Try.ntmps39
      go_upto_region 1 with fail
      rw [HW.out]
      clear HW
      go_wp2_with fail
      refine (specLandOk _ _ _ _ HPP.out).mono ?_
      rintro e w1 ⟨rfl, hb⟩
      rw [hv]
      have HB1 := hid (HBW.out.trans (hb.mono HBW.out.size))
      have HP1 := hid (HPP.out.below hb)
      have HX1 := hid (HX.out.below hb)
      clear hb kR kC kH
      go_wp2_with fail
      refine (specOutlets _ _ t _ _ _ _ HP1.out HX1.out).mono ?_
      rintro e w2 ⟨rfl, hb⟩
      rw [ho]
      have HB2 := hid (HB1.out.trans (hb.mono HB1.out.size))
      have HP2 := hid (HP1.out.below hb)
      have HX2 := hid (HX1.out.below hb)
      clear hb
      go_wp2_with fail
      refine (specSurfaces _ _ t ht _ cs _ _ HP2.out HX2.out HIN.out).mono ?_
      rintro e w3 ⟨u, v, rfl, ho1, ho2, hb⟩
      have HO := hid (ho1.mono HB2.out.size)
      have HB3 := hid (HB2.out.trans (hb.mono HB2.out.size))
      clear ho1 ho2 hb
      go_wp2_with fail
      go_ret2
      exact ⟨_, by rw [HC.out]; rfl, by rw [HF.out]; exact HO.out, HB3.out⟩
    · have hcd : codeOut t cs = 2 := by unfold codeOut; rw [if_pos hv, if_neg ho]
      have HF : Hid (surfF t cs = []) := by show _ = _; unfold surfF; rw [hcd]; rfl
      have HC := hid hcd
      rw [Bool.not_eq_true] at ho
      clear hcd
      go_enter Try.func39, Try.ntmps39
      go_upto_region 1 with fail
      rw [HW.out]
      clear HW
      go_wp2_with fail
      refine (specLandOk _ _ _ _ HPP.out).mono ?_
      rintro e w1 ⟨rfl, hb⟩
      rw [hv]
      have HB1 := hid (HBW.out.trans (hb.mono HBW.out.size))
      have HP1 := hid (HPP.out.below hb)
      have HX1 := hid (HX.out.below hb)
      clear hb kR kC kH
      go_wp2_with fail
      refine (specOutlets _ _ t _ _ _ _ HP1.out HX1.out).mono ?_
      rintro e w2 ⟨rfl, hb⟩
      rw [ho]
      have HB2 := hid (HB1.out.trans (hb.mono HB1.out.size))
      clear hb
      go_wp2_with fail
      go_ret2
      exact ⟨.slice none 0 0, by rw [HC.out]; rfl, by rw [HF.out]; exact Own.nil _ _ _, HB2.out⟩
  · have hcd : codeOut t cs = 1 := by unfold codeOut; rw [if_neg hv]
    have HF : Hid (surfF t cs = []) := by show _ = _; unfold surfF; rw [hcd]; rfl
    have HC := hid hcd
    rw [Bool.not_eq_true] at hv
    clear hcd
    go_enter Try.func39, Try.ntmps39
    go_upto_region 1 with fail
    rw [HW.out]
    clear HW
    go_wp2_with fail
    refine (specLandOk _ _ _ _ HPP.out).mono ?_
    rintro e w1 ⟨rfl, hb⟩
    rw [hv]
    have HB1 := hid (HBW.out.trans (hb.mono HBW.out.size))
    clear hb kR kC kH
    go_wp2_with fail
    go_ret2
    exact ⟨.slice none 0 0, by rw [HC.out]; rfl, by rw [HF.out]; exact Own.nil _ _ _, HB1.out⟩
set_option maxHeartbeats 4000000 in
theorem implSurfacesOf (v : Value) (t : Land) (A1 : Option Addr) (cs : List Int) (c1 : Nat) (w : World) (h : RdLand w v t) (hx : Rd w A1 cs) :
    Calls Try.prog 41 #[v, .slice A1 cs.length c1] w fun e w' => ∃ u, e = .returned (.tuple #[u, .int .i64 (codeOut t cs)]) ∧ Own w' w.heap.size 2 u (surfF t cs) ∧ Below w.heap.size w w' := by
  obtain ⟨A, q, rfl, hA⟩ := h
  have hn20 := hA.len
  obtain ⟨w0, hw0⟩ : ∃ x, w.alloc (.cells #[.int .i64 t.rows, .int .i64 t.columns, .slice A t.heights.length q] 28) = x := ⟨_, rfl⟩
  have hbw0 : Below w.heap.size w w0 := by rw [← hw0]; exact (Below.refl _ _).alloc (Nat.le_refl _) _
  have kR : w0.cell? ⟨w.heap.size, 0, none⟩ = some (.int .i64 t.rows) := by rw [← hw0]; simp [go_sem]
  have kC : w0.cell? ⟨w.heap.size, 1, none⟩ = some (.int .i64 t.columns) := by rw [← hw0]; simp [go_sem]
  have kH : w0.cell? ⟨w.heap.size, 2, none⟩ = some (.slice A t.heights.length q) := by rw [← hw0]; simp [go_sem]
  have HA0 := hid (hA.below hbw0)
  have HBW := hid hbw0
  have HW := hid hw0
  have HPT : Hid (RdLand w0 (.agg #[.int .i64 t.rows, .int .i64 t.columns, .slice A t.heights.length q]) t) := ⟨A, q, rfl, HA0.out⟩
  have HPP : Hid (PtLand w0 w.heap.size 0 t) := ⟨A, q, ⟨kR, kC, kH⟩, HA0.out⟩
  have HX := hid (hx.below hbw0)
  clear hA hbw0 hw0 hx
  by_cases h1 : codeOut t cs = 0
  · obtain ⟨ht, ho⟩ := codeOut_ok h1
    have HF : Hid (surfF t cs = (surf t cs).out) := by show _ = _; unfold surfF; rw [if_pos h1]
    have HC := hid h1
    have HIN := hid (outOk_in ho)
    clear h1 ho
    go_enter Try.func41, Try.ntmps41
    go_upto_region 1 with fail
    rw [HW.out]
    clear HW
    go_wp2_with fail
    refine (implOutlets _ t _ _ _ _ HPT.out HX.out).mono ?_
    rintro e w1 ⟨rfl, hb⟩
    rw [HC.out]
    have HB1 := hid (HBW.out.trans (hb.mono HBW.out.size))
    have HT1 := hid (HPT.out.below hb)
    have HX1 := hid (HX.out.below hb)
    have e1 := box_cell hb kR
    have e2 := box_cell hb kC
    have e3 := box_cell hb kH
    clear hb kR kC kH
    go_wp2_with fail
    refine (implSpread _ t ht _ cs _ _ HT1.out HX1.out HIN.out).mono ?_
    rintro e w2 ⟨u, v, rfl, ho1, ho2, hb⟩
    have HO := hid (ho1.mono HB1.out.size)
    have HB2 := hid (HB1.out.trans (hb.mono HB1.out.size))
    clear ho1 ho2 hb
    go_wp2_with fail
    go_ret2
    exact ⟨_, by rw [HC.out]; rfl, by rw [HF.out]; exact HO.out, HB2.out⟩
  · have HF : Hid (surfF t cs = []) := by show _ = _; unfold surfF; rw [if_neg h1]
    have h1' : (codeOut t cs != 0) = true := by simp [h1]
    have H1 := hid h1'
    clear h1'
    go_enter Try.func41, Try.ntmps41
    go_upto_region 1 with fail
    rw [HW.out]
    clear HW
    go_wp2_with fail
    refine (implOutlets _ t _ _ _ _ HPT.out HX.out).mono ?_
    rintro e w1 ⟨rfl, hb⟩
    have HB1 := hid (HBW.out.trans (hb.mono HBW.out.size))
    have h1' := H1.out
    clear hb kR kC kH H1
    generalize hz : codeOut t cs = z at h1 h1' ⊢
    have HZ := hid hz
    clear hz
    go_wp2_with fail
    go_ret2
    exact ⟨_, by rw [HZ.out]; rfl, by rw [HF.out]; exact Own.empty HB1.out.size, HB1.out.alloc HB1.out.size _⟩
end Go.Proofs.Ytpinpkpjehbfmaa
