/- Tides below a level: the law's own plain facts. -/
import Derived.Test.YteobejgkjjhfkaaTideFull
namespace Go.Proofs.Yteobejgkjjhfkaa
open Go.RowKit
set_option linter.unusedVariables false
def inT (m : Int) : List (Int × Int) → Bool
  | [] => false
  | p :: ps => (decide (p.1 ≤ m) && decide (m ≤ p.2)) || inT m ps
theorem inT_iff (m : Int) : ∀ ps : List (Int × Int), inT m ps = true ↔ ∃ p ∈ ps, p.1 ≤ m ∧ m ≤ p.2
  | [] => by simp [inT]
  | p :: ps => by simp [inT, inT_iff m ps]
theorem in_low {low : Int → Bool} {a : Int} {j : Nat} {ps : List (Int × Int)} (h : SpTOk low a j ps) {m : Int} (hm : a ≤ m ∧ m < a + j) : inT m ps = low m := by
  rw [Bool.eq_iff_iff, inT_iff]
  constructor
  · rintro ⟨p, hp, h1, h2⟩
    exact (h.each p hp).all m h1 h2
  · exact fun hl => h.cover m hm.1 hm.2 hl
theorem low_frac {N D g P Q lv : Int} (hg : 1 ≤ g) (h1 : N * g = P) (h2 : D * g = Q) : decide (N < lv * D) = decide (P < lv * Q) := by
  rw [decide_eq_decide, ← h1, ← h2, ← Int.mul_assoc]
  constructor
  · intro h
    exact Int.mul_lt_mul_of_pos_right h (by omega)
  · intro h
    exact Int.lt_of_mul_lt_mul_right h (by omega)
theorem frac_bound {N D g P Q : Int} (hg : 1 ≤ g) (h1 : N * g = P) (h2 : D * g = Q) (hP : -1000000000000 ≤ P ∧ P ≤ 1000000000000) (hQ : 1 ≤ Q ∧ Q ≤ 1000) : (-1000000000000 ≤ N ∧ N ≤ 1000000000000) ∧ 1 ≤ D ∧ D ≤ 1000 := by
  have e1 : N.natAbs ≤ P.natAbs := by rw [← h1, Int.natAbs_mul]; exact Nat.le_mul_of_pos_right _ (by omega)
  have e2 : D.natAbs ≤ Q.natAbs := by rw [← h2, Int.natAbs_mul]; exact Nat.le_mul_of_pos_right _ (by omega)
  have e3 : 1 ≤ D := by
    apply Int.le_of_not_gt
    intro h
    have : D * g ≤ 0 := Int.mul_nonpos_of_nonpos_of_nonneg (by omega) (by omega)
    omega
  omega
/-- What the law has found of the next minute. -/
def NxI (low : Int → Bool) (st z m next R1 R2 : Int) : Prop :=
  (next = -1 ∧ nextT low (max m st) (z - max m st + 1).toNat = (R1, R2)) ∨ (0 ≤ next ∧ R1 = next ∧ R2 = 0)
theorem nx_step {low : Int → Bool} {st z m next R1 R2 : Int} (hst : 0 ≤ st ∧ st ≤ z) (hm : m ≤ z) (h : NxI low st z m next R1 R2) :
    NxI low st z (m + 1) (if low m = true ∧ st ≤ m ∧ next < 0 then m else next) R1 R2 := by
  rcases h with ⟨h1, h2⟩ | ⟨h1, h2, h3⟩
  · by_cases hs : st ≤ m
    · rw [show max m st = m by omega] at h2
      obtain ⟨n, hn⟩ : ∃ n, (z - m + 1).toNat = n + 1 := ⟨(z - m).toNat, by omega⟩
      rw [hn] at h2
      simp only [nextT] at h2
      by_cases hl : low m = true
      · rw [if_pos hl] at h2
        rw [if_pos ⟨hl, hs, by omega⟩]
        injection h2 with e1 e2
        exact .inr ⟨by omega, e1.symm, e2.symm⟩
      · rw [if_neg hl] at h2
        rw [if_neg (fun h => hl h.1)]
        refine .inl ⟨h1, ?_⟩
        rw [show max (m + 1) st = m + 1 by omega, show (z - (m + 1) + 1).toNat = n by omega]
        exact h2
    · rw [if_neg (fun h => hs h.2.1)]
      refine .inl ⟨h1, ?_⟩
      rw [show max (m + 1) st = max m st by omega]
      exact h2
  · rw [if_neg (fun h => by omega)]
    exact .inr ⟨h1, h2, h3⟩
theorem nx_end {low : Int → Bool} {st z next R1 R2 : Int} (hst : st ≤ z) (h : NxI low st z (z + 1) next R1 R2) : (next = -1 ∧ R2 = 3) ∨ (0 ≤ next ∧ R1 = next ∧ R2 = 0) := by
  rcases h with ⟨h1, h2⟩ | h
  · rw [show max (z + 1) st = z + 1 by omega, show (z - (z + 1) + 1).toNat = 0 by omega] at h2
    simp only [nextT] at h2
    injection h2 with e1 e2
    exact .inl ⟨h1, e2.symm⟩
  · exact .inr h
theorem tt_of {xs : List Tide} (h : TideDr xs) : TT xs := ⟨h.1, ⟨h.1.len, fun x hx => by have := h.2.2 x hx; omega⟩⟩
end Go.Proofs.Yteobejgkjjhfkaa
