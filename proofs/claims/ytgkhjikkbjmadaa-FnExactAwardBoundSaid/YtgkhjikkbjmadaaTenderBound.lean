/- AwardBound: the walks. -/
import Derived.Test.YtgkhjikkbjmadaaTenderBest
namespace Go.Proofs.Ytgkhjikkbjmadaa
open Go.RowKit
set_option linter.unusedVariables false
def boundF (t : Tender) : Nat → Int → Int → Int × Int
  | 0, _, acc => (acc, 0)
  | n + 1, lot, acc => if best t lot (-1) < 0 then (0, 3) else boundF t n (lot + 1) (acc + offAt t.bids (best t lot (-1)))
def award (t : Tender) : Int × Int := if validTd t then boundF t t.lots.toNat 0 0 else (0, 1)
theorem bound_step {t : Tender} {n : Nat} {lot acc : Int} {k : Nat} (h : k < n) : boundF t (n - k) lot acc = if best t lot (-1) < 0 then (0, 3) else boundF t (n - (k + 1)) (lot + 1) (acc + offAt t.bids (best t lot (-1))) := by
  have : n - k = (n - (k + 1)) + 1 := by omega
  rw [this]
  rfl
theorem best_lt (t : Tender) (lot wo : Int) : -1 ≤ best t lot wo ∧ best t lot wo < t.bids.length := best_range lot wo t.bids t.bids.length

set_option maxHeartbeats 4000000 in
theorem specAwardBound (v : Value) (t : Tender) (w : World) (h : RdTender w v t) :
    Calls Try.prog 17 #[v] w fun e w' => e = .returned (.tuple #[.int .i64 (award t).1, .int .i64 (award t).2]) ∧ Below w.heap.size w w' := by
  have hb0 : ∀ o, Below w.heap.size w (w.alloc o) := fun o => (Below.refl w.heap.size w).alloc (Nat.le_refl _) o
  have HB := hid hb0
  obtain ⟨cs, rfl, hp⟩ := h.box
  have HF : Hid (award t = if validTd t then boundF t t.lots.toNat 0 0 else (0, 1)) := rfl
  clear h hb0
  generalize award t = F at HF ⊢
  go_enter Try.func17, Try.ntmps17
  go_wp2_with fail
  obtain ⟨w0, hw0⟩ : ∃ x, w.alloc (.cells cs 30) = x := ⟨_, rfl⟩
  have HB0 : Hid (Below w.heap.size w w0) := by rw [← hw0]; exact HB.out _
  rw [hw0] at hp ⊢
  clear hw0
  refine (specOkTd _ _ _ _ hp).mono ?_
  rintro e w1 ⟨rfl, hb⟩
  by_cases h1 : validTd t = true
  · have hl := valid_lots h1
    have HV : Hid (boundF t (t.lots.toNat - 0) 0 0 = F) := by have := HF.out; rw [if_pos h1] at this; exact this.symm
    rw [h1]
    clear HF
    go_wp2_with fail
    go_loopw [4, 5] (fun a i wr => ∃ (k : Nat) (z : Int), (k : Int) ≤ t.lots ∧ i = .int .i64 k ∧ a = .int .i64 z ∧ (0 ≤ z ∧ z ≤ k * 1000000) ∧ boundF t (t.lots.toNat - k) k z = F ∧ Below w0.heap.size w0 wr) (fun _ i _ => t.lots.toNat - (intOf i).toNat)
    case atStart => exact ⟨0, 0, by omega, rfl, rfl, by omega, HV.out, hb⟩
    case round =>
      obtain ⟨k, z, hk, rfl, rfl, hz, hv, hq⟩ := hrel
      have HVk := hid hv
      have HQ := hid hq
      have hp' := hp.below hq
      have hp'' := hp'
      obtain ⟨A, c, B, d, ⟨e1, e2, e3⟩, hA, hB, hd⟩ := hp''
      clear hv hA HV
      by_cases hlt : (k : Int) < t.lots
      · have hs := bound_step (t := t) (n := t.lots.toNat) (lot := (k : Int)) (acc := z) (k := k) (by omega)
        rw [HVk.out] at hs
        have hr := best_lt t k (-1)
        clear HVk
        go_wp2_with fail
        refine (specBest _ _ _ (k : Int) _ hp').mono ?_
        rintro e w2 ⟨rfl, hb2⟩
        generalize best t k (-1) = y at hs hr ⊢
        have e3' := box_cell hb2 e3
        have HQ2 := hid (hq.trans (hb2.mono hq.size))
        by_cases hy : y < 0
        · rw [if_pos hy] at hs
          have HS := hid hs
          clear hs hp hp' hb hB hb2 hq
          go_wp2_with fail
          go_ret2
          exact ⟨ret_pair HS.out, HB0.out.trans (HQ2.out.mono HB0.out.size)⟩
        · rw [if_neg hy] at hs
          obtain ⟨j, rfl⟩ : ∃ j : Nat, y = j := ⟨y.toNat, by omega⟩
          have hj : j < t.bids.length := by omega
          rw [off_get hj] at hs
          have ho := valid_offer h1 hj
          obtain ⟨b, off, rfl, c1, c2, c3⟩ := (hB.below hb2).bid hj
          have HS := hid hs
          clear hs hp hp' hb hB hb2 hq
          go_wp2_with fail
          go_roundw
          case rel => exact ⟨k + 1, _, by omega, by go_num, rfl, by constructor <;> omega, HS.out.symm, HQ2.out⟩
          case measure => simp [intOf]; omega
      · have hkl : Hid (t.lots.toNat - k = 0) := by show t.lots.toNat - k = 0; omega
        have HS : Hid (F = (z, 0)) := by have := HVk.out; rw [hkl.out] at this; exact this.symm
        clear hp hp' hb hB hq HVk
        go_wp2_with fail
        go_ret2
        exact ⟨ret_pair HS.out, HB0.out.trans (HQ.out.mono HB0.out.size)⟩
  · rw [if_neg h1] at HF
    rw [Bool.not_eq_true] at h1
    rw [h1]
    have HQ := hid hb
    clear hp hb
    go_wp2_with fail
    go_ret2
    exact ⟨ret_pair HF.out, HB0.out.trans (HQ.out.mono HB0.out.size)⟩

set_option maxHeartbeats 4000000 in
theorem implAwardBound (v : Value) (t : Tender) (w : World) (h : RdTender w v t) :
    Calls Try.prog 18 #[v] w fun e w' => e = .returned (.tuple #[.int .i64 (award t).1, .int .i64 (award t).2]) ∧ Below w.heap.size w w' := by
  have h0 := h
  obtain ⟨A, c, B, d, rfl, hA, hB, hd⟩ := h0
  have hb0 : ∀ o, Below w.heap.size w (w.alloc o) := fun o => (Below.refl w.heap.size w).alloc (Nat.le_refl _) o
  have HB := hid hb0
  have HF : Hid (award t = if validTd t then boundF t t.lots.toNat 0 0 else (0, 1)) := rfl
  clear hb0 hA hB
  generalize award t = F at HF ⊢
  go_enter Try.func18, Try.ntmps18
  go_wp2_with fail
  obtain ⟨w0, hw0⟩ : ∃ x, w.alloc (.cells #[.int .i64 t.lots, .slice A t.most.length c, .slice B t.bids.length d] 30) = x := ⟨_, rfl⟩
  have hb0 : Below w.heap.size w w0 := by rw [← hw0]; exact HB.out _
  have k0 : w0.cell? ⟨w.heap.size, 0, none⟩ = some (.int .i64 t.lots) := by rw [← hw0]; simp [go_sem]
  have k1 : w0.cell? ⟨w.heap.size, 1, none⟩ = some (.slice A t.most.length c) := by rw [← hw0]; simp [go_sem]
  have k2 : w0.cell? ⟨w.heap.size, 2, none⟩ = some (.slice B t.bids.length d) := by rw [← hw0]; simp [go_sem]
  rw [hw0]
  have hr0 := h.below hb0
  have HB0 := hid hb0
  clear hw0 hb0 h
  refine (implValidTd0 _ t _ hr0).mono ?_
  rintro e w1 ⟨rfl, hb⟩
  by_cases h1 : validTd t = true
  · have hl := valid_lots h1
    have HV : Hid (boundF t (t.lots.toNat - 0) 0 0 = F) := by have := HF.out; rw [if_pos h1] at this; exact this.symm
    rw [h1]
    clear HF
    go_wp2_with fail
    go_loopw [4, 5] (fun a i wr => ∃ (k : Nat) (z : Int), (k : Int) ≤ t.lots ∧ i = .int .i64 k ∧ a = .int .i64 z ∧ (0 ≤ z ∧ z ≤ k * 1000000) ∧ boundF t (t.lots.toNat - k) k z = F ∧ Below w0.heap.size w0 wr) (fun _ i _ => t.lots.toNat - (intOf i).toNat)
    case atStart => exact ⟨0, 0, by omega, rfl, rfl, by omega, HV.out, hb⟩
    case round =>
      obtain ⟨k, z, hk, rfl, rfl, hz, hv, hq⟩ := hrel
      have HVk := hid hv
      have HQ := hid hq
      have hp' := hr0.below hq
      have e1 := box_cell hq k0
      have e2 := box_cell hq k1
      have e3 := box_cell hq k2
      clear hv HV k0 k1 k2
      by_cases hlt : (k : Int) < t.lots
      · have hs := bound_step (t := t) (n := t.lots.toNat) (lot := (k : Int)) (acc := z) (k := k) (by omega)
        rw [HVk.out] at hs
        have hr := best_lt t k (-1)
        clear HVk
        go_wp2_with fail
        refine (implBest _ t (k : Int) (-1) _ hp').mono ?_
        rintro e w2 ⟨rfl, hb2⟩
        generalize best t k (-1) = y at hs hr ⊢
        have e3' := box_cell hb2 e3
        have HQ2 := hid (hq.trans (hb2.mono hq.size))
        by_cases hy : y < 0
        · rw [if_pos hy] at hs
          have HS := hid hs
          clear hs hp' hr0 hb hb2 hq
          go_wp2_with fail
          go_ret2
          exact ⟨ret_pair HS.out, HB0.out.trans (HQ2.out.mono HB0.out.size)⟩
        · rw [if_neg hy] at hs
          obtain ⟨j, rfl⟩ : ∃ j : Nat, y = j := ⟨y.toNat, by omega⟩
          have hj : j < t.bids.length := by omega
          rw [off_get hj] at hs
          have ho := valid_offer h1 hj
          obtain ⟨A', c', B', d', hE, _, hB', _⟩ := hp'
          injection hE with hE
          simp only [Array.mk.injEq, List.cons.injEq, Value.slice.injEq, and_true, true_and] at hE
          obtain ⟨⟨rfl, rfl⟩, rfl, rfl⟩ := hE
          obtain ⟨b, off, rfl, c1, c2, c3⟩ := (hB'.below hb2).bid hj
          have HS := hid hs
          clear hs hr0 hb hb2 hq hB'
          go_wp2_with fail
          go_roundw
          case rel => exact ⟨k + 1, _, by omega, by go_num, rfl, by constructor <;> omega, HS.out.symm, HQ2.out⟩
          case measure => simp [intOf]; omega
      · have hkl : Hid (t.lots.toNat - k = 0) := by show t.lots.toNat - k = 0; omega
        have HS : Hid (F = (z, 0)) := by have := HVk.out; rw [hkl.out] at this; exact this.symm
        clear hp' hr0 hb hq HVk
        go_wp2_with fail
        go_ret2
        exact ⟨ret_pair HS.out, HB0.out.trans (HQ.out.mono HB0.out.size)⟩
  · rw [if_neg h1] at HF
    rw [Bool.not_eq_true] at h1
    rw [h1]
    have HQ := hid hb
    clear hr0 hb
    go_wp2_with fail
    go_ret2
    exact ⟨ret_pair HF.out, HB0.out.trans (HQ.out.mono HB0.out.size)⟩
end Go.Proofs.Ytgkhjikkbjmadaa
