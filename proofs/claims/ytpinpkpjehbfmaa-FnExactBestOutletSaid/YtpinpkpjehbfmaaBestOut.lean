/- The best outlet: the walks. -/
import Derived.Test.YtpinpkpjehbfmaaPond
namespace Go.Proofs.Ytpinpkpjehbfmaa
open Go.RowKit
set_option linter.unusedVariables false

def bestStep (t : Land) (b : Int) (i : Nat) : Int := if pondV t [(i : Int)] < pondV t [b] then (i : Int) else b
def bestTo (t : Land) (n : Nat) : Int := (List.range n).foldl (bestStep t) 0
theorem bestTo_next (t : Land) (n : Nat) : bestTo t (n + 1) = bestStep t (bestTo t n) n := by simp [bestTo, List.range_succ]
theorem bestTo_one (t : Land) : bestTo t 1 = 0 := by
  show bestStep t 0 0 = 0
  unfold bestStep
  split <;> rfl
theorem bestTo_in {t : Land} : ∀ n : Nat, 0 ≤ bestTo t n ∧ bestTo t n ≤ n - (if n = 0 then 0 else 1)
  | 0 => by simp [bestTo]
  | n + 1 => by
    have h := bestTo_in (t := t) n
    rw [bestTo_next]
    unfold bestStep
    split <;> split <;> (split at h <;> omega)
theorem bestTo_lt {t : Land} {n : Nat} (h : 0 < n) : 0 ≤ bestTo t n ∧ bestTo t n < n := by
  have := bestTo_in (t := t) n
  rw [if_neg (by omega)] at this
  omega
def codeBest (t : Land) : Int := if validL t = true then (if 36 < t.heights.length then 5 else 0) else 1
def bestF (t : Land) : Int × Int := if codeBest t = 0 then (bestTo t t.heights.length, 0) else (0, codeBest t)
theorem LOk.pos {t : Land} (h : LOk t) : 0 < t.heights.length := by
  have h1 := h.n
  have h2 : 1 * 1 ≤ t.rows * t.columns := Int.mul_le_mul h.r.1 h.c.1 (by omega) (by have := h.r.1; omega)
  omega
set_option maxHeartbeats 8000000 in
theorem specBestOutlet (v : Value) (t : Land) (w : World) (h : RdLand w v t) :
    Calls Try.prog 25 #[v] w fun e w' => e = .returned (.tuple #[.int .i64 (bestF t).1, .int .i64 (bestF t).2]) ∧ Below w.heap.size w w' := by
  obtain ⟨A, q, rfl, hA⟩ := h
  have hn20 := hA.len
  obtain ⟨w0, hw0⟩ : ∃ x, w.alloc (.cells #[.int .i64 t.rows, .int .i64 t.columns, .slice A t.heights.length q] 28) = x := ⟨_, rfl⟩
  have hbw0 : Below w.heap.size w w0 := by rw [← hw0]; exact (Below.refl _ _).alloc (Nat.le_refl _) _
  have kR : w0.cell? ⟨w.heap.size, 0, none⟩ = some (.int .i64 t.rows) := by rw [← hw0]; simp [go_sem]
  have kC : w0.cell? ⟨w.heap.size, 1, none⟩ = some (.int .i64 t.columns) := by rw [← hw0]; simp [go_sem]
  have kH : w0.cell? ⟨w.heap.size, 2, none⟩ = some (.slice A t.heights.length q) := by rw [← hw0]; simp [go_sem]
  have HA0 := hid (hA.below hbw0)
  have HBW := hid hbw0
  have HW := hid hw0
  have HPT : Hid (RdLand w0 (.agg #[.int .i64 t.rows, .int .i64 t.columns, .slice A t.heights.length q]) t) := ⟨A, q, rfl, HA0.out⟩
  have HPP : Hid (PtLand w0 w.heap.size 0 t) := ⟨A, q, ⟨kR, kC, kH⟩, HA0.out⟩
  clear hA hbw0 hw0
  by_cases hv : validL t = true
  · by_cases h36 : 36 < t.heights.length
    · have HF : Hid (bestF t = (0, 5)) := by show _ = _; unfold bestF codeBest; rw [if_pos hv, if_pos h36]; rfl
      generalize bestF t = z at HF ⊢
      go_enter Try.func25, Try.ntmps25
      go_upto_region 1 with fail
      rw [HW.out]
      clear HW
      go_wp2_with fail
      refine (specLandOk _ _ _ _ HPP.out).mono ?_
      rintro e w1 ⟨rfl, hb⟩
      rw [hv]
      have HB1 := hid (HBW.out.trans (hb.mono HBW.out.size))
      have e3 := box_cell hb kH
      clear hb kR kC kH
      go_wp2_with fail
      go_ret2
      exact ⟨ret_two HF.out, HB1.out⟩
    · have ht := lok hv
      have hpos := ht.pos
      have HF : Hid (bestF t = (bestTo t t.heights.length, 0)) := by show _ = _; unfold bestF codeBest; rw [if_pos hv, if_neg h36]; rfl
      generalize bestF t = z at HF ⊢
      have hstart : Hid (bestTo t 1 = 0) := bestTo_one t
      go_enter Try.func25, Try.ntmps25
      go_upto_region 1 with fail
      rw [HW.out]
      clear HW
      go_wp2_with fail
      refine (specLandOk _ _ _ _ HPP.out).mono ?_
      rintro e w1 ⟨rfl, hb⟩
      rw [hv]
      have HB1 := hid (HBW.out.trans (hb.mono HBW.out.size))
      have HP1 := hid (HPP.out.below hb)
      have e3 := box_cell hb kH
      clear hb kR kC kH
      go_wp2_with fail
      go_loopw [4, 5] (fun b i wr => ∃ k : Nat, 1 ≤ k ∧ k ≤ t.heights.length ∧ i = .int .i64 k ∧ b = .int .i64 (bestTo t k) ∧ Below w1.heap.size w1 wr) (fun _ i _ => t.heights.length - (intOf i).toNat)
      case atStart => exact ⟨1, Nat.le_refl _, hpos, rfl, by rw [hstart.out], Below.refl _ _⟩
      case round =>
        obtain ⟨k, hk1, hk, rfl, rfl, hq⟩ := hrel
        obtain ⟨wo, rfl⟩ : ∃ wo : World, wo = wr := ⟨_, rfl⟩
        have e4 := box_cell hq e3
        have HQ := hid hq
        have hbt := bestTo_lt (t := t) (n := k) (by omega)
        by_cases hlt : k < t.heights.length
        · have HN := hid (bestTo_next t k)
          have hc1 : ∀ x ∈ [(k : Int)], 0 ≤ x ∧ x < t.heights.length := one_cell (by omega) (by omega)
          have hc2 : ∀ x ∈ [bestTo t k], 0 ≤ x ∧ x < t.heights.length := one_cell hbt.1 (by omega)
          have HC1 := hid hc1
          have HC2 := hid hc2
          generalize bestTo t k = b at hbt HN HC2 ⊢
          have HPa : Hid (PtLand (wo.alloc (.cells #[.int .i64 k] 2)) w.heap.size 0 t) := (HP1.out.below hq).below ((Below.refl _ _).alloc (Nat.le_refl _) _)
          have HRa : Hid (Rd (wo.alloc (.cells #[.int .i64 k] 2)) (some ⟨wo.heap.size, 0, none⟩) [(k : Int)]) := (Own.one (w := wo) (base := wo.heap.size) (e := 2) (k : Int) (Nat.le_refl _)).rd (by simp)
          clear hq hc1 hc2
          go_wp2_with fail
          refine (specPonded _ _ t ht (some ⟨wo.heap.size, 0, none⟩) [(k : Int)] 1 _ HPa.out HRa.out HC1.out).mono ?_
          rintro e w2 ⟨rfl, hb⟩
          have HQ2 := hid ((HQ.out.alloc HQ.out.size (.cells #[.int .i64 k] 2)).trans (hb.mono (le_alloc HQ.out.size)))
          have HPb : Hid (PtLand (w2.alloc (.cells #[.int .i64 b] 2)) w.heap.size 0 t) := (HPa.out.below hb).below ((Below.refl _ _).alloc (Nat.le_refl _) _)
          have HRb : Hid (Rd (w2.alloc (.cells #[.int .i64 b] 2)) (some ⟨w2.heap.size, 0, none⟩) [b]) := (Own.one (w := w2) (base := w2.heap.size) (e := 2) b (Nat.le_refl _)).rd (by simp)
          clear hb HPa HRa e4
          go_wp2_with fail
          refine (specPonded _ _ t ht (some ⟨w2.heap.size, 0, none⟩) [b] 1 _ HPb.out HRb.out HC2.out).mono ?_
          rintro e w3 ⟨rfl, hb⟩
          have HQ3 := hid ((HQ2.out.alloc HQ2.out.size (.cells #[.int .i64 b] 2)).trans (hb.mono (le_alloc HQ2.out.size)))
          clear hb HPb HRb
          unfold bestStep at HN
          generalize pondV t [(k : Int)] = x at HN ⊢
          generalize pondV t [b] = y at HN ⊢
          by_cases hxy : x < y
          · have HN2 : Hid (bestTo t (k + 1) = k) := by show _ = _; rw [HN.out, if_pos hxy]
            clear HN
            go_wp2_with fail
            go_roundw
            case rel => exact ⟨k + 1, by omega, by omega, by go_num, by rw [HN2.out], HQ3.out⟩
            case measure => simp [intOf]; omega
          · have HN2 : Hid (bestTo t (k + 1) = b) := by show _ = _; rw [HN.out, if_neg hxy]
            clear HN
            go_wp2_with fail
            go_roundw
            case rel => exact ⟨k + 1, by omega, by omega, by go_num, by rw [HN2.out], HQ3.out⟩
            case measure => simp [intOf]; omega
        · have hkn : k = t.heights.length := by omega
          subst hkn
          generalize bestTo t t.heights.length = b at HF hbt ⊢
          clear hq
          go_wp2_with fail
          go_ret2
          exact ⟨ret_two HF.out, HB1.out.trans (HQ.out.mono HB1.out.size)⟩
  · have HF : Hid (bestF t = (0, 1)) := by show _ = _; unfold bestF codeBest; rw [if_neg hv]; rfl
    generalize bestF t = z at HF ⊢
    rw [Bool.not_eq_true] at hv
    go_enter Try.func25, Try.ntmps25
    go_upto_region 1 with fail
    rw [HW.out]
    clear HW
    go_wp2_with fail
    refine (specLandOk _ _ _ _ HPP.out).mono ?_
    rintro e w1 ⟨rfl, hb⟩
    rw [hv]
    have HB1 := hid (HBW.out.trans (hb.mono HBW.out.size))
    clear hb kR kC kH
    go_wp2_with fail
    go_ret2
    exact ⟨ret_two HF.out, HB1.out⟩
def leastTo (t : Land) (k : Nat) : Int := if k = 0 then -1 else pondV t [bestTo t k]
set_option maxHeartbeats 8000000 in
theorem implBestOutlet (v : Value) (t : Land) (w : World) (h : RdLand w v t) :
    Calls Try.prog 26 #[v] w fun e w' => e = .returned (.tuple #[.int .i64 (bestF t).1, .int .i64 (bestF t).2]) ∧ Below w.heap.size w w' := by
  obtain ⟨A, q, rfl, hA⟩ := h
  have hn20 := hA.len
  obtain ⟨w0, hw0⟩ : ∃ x, w.alloc (.cells #[.int .i64 t.rows, .int .i64 t.columns, .slice A t.heights.length q] 28) = x := ⟨_, rfl⟩
  have hbw0 : Below w.heap.size w w0 := by rw [← hw0]; exact (Below.refl _ _).alloc (Nat.le_refl _) _
  have kR : w0.cell? ⟨w.heap.size, 0, none⟩ = some (.int .i64 t.rows) := by rw [← hw0]; simp [go_sem]
  have kC : w0.cell? ⟨w.heap.size, 1, none⟩ = some (.int .i64 t.columns) := by rw [← hw0]; simp [go_sem]
  have kH : w0.cell? ⟨w.heap.size, 2, none⟩ = some (.slice A t.heights.length q) := by rw [← hw0]; simp [go_sem]
  have HA0 := hid (hA.below hbw0)
  have HBW := hid hbw0
  have HW := hid hw0
  have HPT : Hid (RdLand w0 (.agg #[.int .i64 t.rows, .int .i64 t.columns, .slice A t.heights.length q]) t) := ⟨A, q, rfl, HA0.out⟩
  have HPP : Hid (PtLand w0 w.heap.size 0 t) := ⟨A, q, ⟨kR, kC, kH⟩, HA0.out⟩
  clear hA hbw0 hw0
  by_cases hv : validL t = true
  · by_cases h36 : 36 < t.heights.length
    · have HF : Hid (bestF t = (0, 5)) := by show _ = _; unfold bestF codeBest; rw [if_pos hv, if_pos h36]; rfl
      generalize bestF t = z at HF ⊢
      go_enter Try.func26, Try.ntmps26
      go_upto_region 1 with fail
      rw [HW.out]
      clear HW
      go_wp2_with fail
      refine (implValidLand _ _ _ HPT.out).mono ?_
      rintro e w1 ⟨rfl, hb⟩
      rw [hv]
      have HB1 := hid (HBW.out.trans (hb.mono HBW.out.size))
      have e3 := box_cell hb kH
      clear hb kR kC kH
      go_wp2_with fail
      go_ret2
      exact ⟨ret_two HF.out, HB1.out⟩
    · have ht := lok hv
      have HF : Hid (bestF t = (bestTo t t.heights.length, 0)) := by show _ = _; unfold bestF codeBest; rw [if_pos hv, if_neg h36]; rfl
      generalize bestF t = z at HF ⊢
      have hstart : Hid (leastTo t 0 = -1) := rfl
      go_enter Try.func26, Try.ntmps26
      go_upto_region 1 with fail
      rw [HW.out]
      clear HW
      go_wp2_with fail
      refine (implValidLand _ _ _ HPT.out).mono ?_
      rintro e w1 ⟨rfl, hb⟩
      rw [hv]
      have HB1 := hid (HBW.out.trans (hb.mono HBW.out.size))
      have HP1 := hid (HPT.out.below hb)
      have e1 := box_cell hb kR
      have e2 := box_cell hb kC
      have e3 := box_cell hb kH
      clear hb kR kC kH
      go_wp2_with fail
      go_loopw [4, 5, 20] (fun b l i wr => ∃ k : Nat, k ≤ t.heights.length ∧ i = .int .i64 k ∧ b = .int .i64 (bestTo t k) ∧ l = .int .i64 (leastTo t k) ∧ Below w1.heap.size w1 wr) (fun _ _ i _ => t.heights.length - (intOf i).toNat)
      case atStart => exact ⟨0, Nat.zero_le _, rfl, rfl, rfl, Below.refl _ _⟩
      case round =>
        obtain ⟨k, hk, rfl, rfl, rfl, hq⟩ := hrel
        obtain ⟨wo, rfl⟩ : ∃ wo : World, wo = wr := ⟨_, rfl⟩
        have f1 := box_cell hq e1
        have f2 := box_cell hq e2
        have f3 := box_cell hq e3
        have HQ := hid hq
        by_cases hlt : k < t.heights.length
        · have hc1 : ∀ x ∈ [(k : Int)], 0 ≤ x ∧ x < t.heights.length := one_cell (by omega) (by omega)
          have hp0 := pond_pos ht hc1 (by simp)
          have hN : bestTo t (k + 1) = (if leastTo t k < 0 ∨ pondV t [(k : Int)] < leastTo t k then (k : Int) else bestTo t k) ∧ leastTo t (k + 1) = pondV t [bestTo t (k + 1)] ∧ leastTo t k = (if leastTo t k < 0 ∨ pondV t [(k : Int)] < leastTo t k then leastTo t k else pondV t [bestTo t k]) := by
            refine ⟨?_, rfl, ?_⟩
            · rw [bestTo_next]
              unfold bestStep leastTo
              by_cases hk0 : k = 0
              · subst hk0
                simp [bestTo]
              · have hbt := bestTo_lt (t := t) (n := k) (by omega)
                have hp1 := pond_pos ht (cs := [bestTo t k]) (one_cell hbt.1 (by omega)) (by simp)
                rw [if_neg hk0]
                by_cases hz : pondV t [(k : Int)] < pondV t [bestTo t k]
                · rw [if_pos hz, if_pos (.inr hz)]
                · rw [if_neg hz, if_neg (by rintro (h | h); omega; exact hz h)]
            · split
              · rfl
              · rename_i hh
                by_cases hk0 : k = 0
                · subst hk0
                  exact absurd (.inl (show (-1 : Int) < 0 by decide)) hh
                · unfold leastTo
                  rw [if_neg hk0]
          obtain ⟨hn1, hn2, hn3⟩ := hN
          have HC1 := hid hc1
          have HTa : Hid (RdLand (wo.alloc (.cells #[.int .i64 k] 2)) (.agg #[.int .i64 t.rows, .int .i64 t.columns, .slice A t.heights.length q]) t) := (HP1.out.below hq).below ((Below.refl _ _).alloc (Nat.le_refl _) _)
          have HRa : Hid (Rd (wo.alloc (.cells #[.int .i64 k] 2)) (some ⟨wo.heap.size, 0, none⟩) [(k : Int)]) := (Own.one (w := wo) (base := wo.heap.size) (e := 2) (k : Int) (Nat.le_refl _)).rd (by simp)
          generalize bestTo t k = b at hn1 hn3 ⊢
          generalize leastTo t k = l at hn1 hn3 ⊢
          have HN1 := hid hn1
          have HN2 := hid hn2
          have HN3 := hid hn3
          clear hq hc1 hn1 hn2 hn3
          go_wp2_with fail
          refine (implPonded _ t ht (some ⟨wo.heap.size, 0, none⟩) [(k : Int)] 1 _ HTa.out HRa.out HC1.out).mono ?_
          rintro e w2 ⟨rfl, hb⟩
          have HQ2 := hid ((HQ.out.alloc HQ.out.size (.cells #[.int .i64 k] 2)).trans (hb.mono (le_alloc HQ.out.size)))
          clear hb HTa HRa f1 f2 f3
          generalize hx : pondV t [(k : Int)] = x at HN1 HN3 hp0 ⊢
          have HX := hid hx
          clear hx
          by_cases hl0 : l < 0
          · have HM1 : Hid (bestTo t (k + 1) = k) := by show _ = _; rw [HN1.out, if_pos (.inl hl0)]
            have HM2 : Hid (leastTo t (k + 1) = x) := by show _ = _; rw [HN2.out, HM1.out, HX.out]
            clear HN1 HN2 HN3 HX
            go_wp2_with fail
            go_roundw
            case rel => exact ⟨k + 1, by omega, by go_num, by rw [HM1.out], by rw [HM2.out], HQ2.out⟩
            case measure => simp [intOf]; omega
          · by_cases hxl : x < l
            · have HM1 : Hid (bestTo t (k + 1) = k) := by show _ = _; rw [HN1.out, if_pos (.inr hxl)]
              have HM2 : Hid (leastTo t (k + 1) = x) := by show _ = _; rw [HN2.out, HM1.out, HX.out]
              clear HN1 HN2 HN3 HX
              go_wp2_with fail
              go_roundw
              case rel => exact ⟨k + 1, by omega, by go_num, by rw [HM1.out], by rw [HM2.out], HQ2.out⟩
              case measure => simp [intOf]; omega
            · have hno : ¬ (l < 0 ∨ x < l) := by rintro (h | h); exact hl0 h; exact hxl h
              have HM1 : Hid (bestTo t (k + 1) = b) := by show _ = _; rw [HN1.out, if_neg hno]
              have HM2 : Hid (leastTo t (k + 1) = l) := by
                show _ = _
                rw [HN2.out, HM1.out]
                have h9 := HN3.out
                rw [if_neg hno] at h9
                exact h9.symm
              clear HN1 HN2 HN3 HX hno
              go_wp2_with fail
              go_roundw
              case rel => exact ⟨k + 1, by omega, by go_num, by rw [HM1.out], by rw [HM2.out], HQ2.out⟩
              case measure => simp [intOf]; omega
        · have hkn : k = t.heights.length := by omega
          subst hkn
          generalize bestTo t t.heights.length = b at HF ⊢
          generalize leastTo t t.heights.length = l at ⊢
          clear hq
          go_wp2_with fail
          go_ret2
          exact ⟨ret_two HF.out, HB1.out.trans (HQ.out.mono HB1.out.size)⟩
  · have HF : Hid (bestF t = (0, 1)) := by show _ = _; unfold bestF codeBest; rw [if_neg hv]; rfl
    generalize bestF t = z at HF ⊢
    rw [Bool.not_eq_true] at hv
    go_enter Try.func26, Try.ntmps26
    go_upto_region 1 with fail
    rw [HW.out]
    clear HW
    go_wp2_with fail
    refine (implValidLand _ _ _ HPT.out).mono ?_
    rintro e w1 ⟨rfl, hb⟩
    rw [hv]
    have HB1 := hid (HBW.out.trans (hb.mono HBW.out.size))
    clear hb kR kC kH
    go_wp2_with fail
    go_ret2
    exact ⟨ret_two HF.out, HB1.out⟩
end Go.Proofs.Ytpinpkpjehbfmaa
