/- Ranks and return times: the plain law. -/
import Derived.Test.YteobejgkjjhfkaaRanks
import Derived.Test.YteobejgkjjhfkaaReturn
namespace Go.Proofs.Yteobejgkjjhfkaa
open Go.RowKit
set_option linter.unusedVariables false
theorem moreThan_anti {a b : Int} (h : a ≤ b) : ∀ xs : List Int, moreThan b xs ≤ moreThan a xs
  | [] => by simp [moreThan]
  | x :: xs => by
    have := moreThan_anti h xs
    simp only [moreThan]
    split <;> split <;> omega
theorem moreThan_lt {a b : Int} (h : a < b) : ∀ xs : List Int, b ∈ xs → moreThan b xs < moreThan a xs
  | [], hm => by simp at hm
  | x :: xs, hm => by
    simp only [moreThan]
    rcases List.mem_cons.mp hm with e | hm'
    · subst e
      have := moreThan_anti (Int.le_of_lt h) xs
      rw [if_neg (Int.lt_irrefl _), if_pos h]
      omega
    · have := moreThan_lt h xs hm'
      split <;> split <;> omega
theorem moreThan_self {b : Int} : ∀ xs : List Int, b ∈ xs → moreThan b xs + 1 ≤ xs.length
  | [], hm => by simp at hm
  | x :: xs, hm => by
    simp only [moreThan, List.length_cons]
    rcases List.mem_cons.mp hm with e | hm'
    · subst e
      have := (moreThan_range b xs).2
      rw [if_neg (Int.lt_irrefl _)]
      omega
    · have := moreThan_self xs hm'
      split <;> omega
theorem rank_iff {a b : Int} {xs : List Int} (ha : a ∈ xs) (hb : b ∈ xs) : b < a ↔ rankOf xs a < rankOf xs b := by
  unfold rankOf
  constructor
  · intro h
    have := moreThan_lt h xs ha
    omega
  · intro h
    apply Int.lt_of_not_ge
    intro h2
    have := moreThan_anti h2 xs
    omega
theorem rank_range {a : Int} {xs : List Int} (ha : a ∈ xs) : 1 ≤ rankOf xs a ∧ rankOf xs a ≤ xs.length := by
  unfold rankOf
  have := moreThan_self xs ha
  have := moreThan_range a xs
  omega
theorem atLeast_anti {a b : Int} (h : a ≤ b) : ∀ xs : List Int, atLeast b xs ≤ atLeast a xs
  | [] => by simp [atLeast]
  | x :: xs => by
    have := atLeast_anti h xs
    simp only [atLeast]
    split <;> split <;> omega
/-- A fraction brought down: what it is. -/
theorem ret_spec {xs : List Int} {n : Int} (h : atLeast n xs ≠ 0) : ∃ g : Int, 1 ≤ g ∧ retNum xs n * g = (xs.length : Int) + 1 ∧ retDen xs n * g = atLeast n xs := by
  have hr := atLeast_range n xs
  refine ⟨(Nat.gcd ((xs.length : Int) + 1).toNat (atLeast n xs).toNat : Int), ?_, ?_, ?_⟩
  · have := Nat.gcd_pos_of_pos_right ((xs.length : Int) + 1).toNat (show 0 < (atLeast n xs).toNat by omega)
    omega
  · unfold retNum
    rw [if_neg h]
    refine Int.ediv_mul_cancel ?_
    have := Int.natCast_dvd_natCast.mpr (Nat.gcd_dvd_left ((xs.length : Int) + 1).toNat (atLeast n xs).toNat)
    rwa [Int.toNat_of_nonneg (by omega : (0 : Int) ≤ (xs.length : Int) + 1)] at this
  · unfold retDen
    rw [if_neg h]
    refine Int.ediv_mul_cancel ?_
    have := Int.natCast_dvd_natCast.mpr (Nat.gcd_dvd_right ((xs.length : Int) + 1).toNat (atLeast n xs).toNat)
    rwa [Int.toNat_of_nonneg hr.1] at this
theorem ret_facts {xs : List Int} {n : Int} (h : atLeast n xs ≠ 0) : 1 ≤ retDen xs n ∧ retDen xs n < retNum xs n ∧ retNum xs n ≤ (xs.length : Int) + 1 := by
  obtain ⟨g, hg, h1, h2⟩ := ret_spec h
  have hr := atLeast_range n xs
  generalize retNum xs n = p at *
  generalize retDen xs n = d at *
  refine ⟨?_, ?_, ?_⟩
  · apply Int.le_of_not_gt
    intro hd
    have : d * g ≤ 0 := Int.mul_nonpos_of_nonpos_of_nonneg (by omega) (by omega)
    omega
  · apply Int.lt_of_not_ge
    intro hd
    have := Int.mul_le_mul_of_nonneg_right hd (show 0 ≤ g by omega)
    omega
  · have hp : 0 ≤ p := by
      apply Int.le_of_not_gt
      intro hd
      have : p * g ≤ 0 := Int.mul_nonpos_of_nonpos_of_nonneg (by omega) (by omega)
      omega
    have := Int.mul_le_mul_of_nonneg_left hg hp
    omega
theorem ret_mono {xs : List Int} {n m : Int} (hnm : n ≤ m) (h : atLeast m xs ≠ 0) : retNum xs n * retDen xs m ≤ retNum xs m * retDen xs n := by
  have hr := atLeast_range m xs
  have ha := atLeast_anti hnm xs
  obtain ⟨g1, hg1, a1, b1⟩ := ret_spec (n := n) (xs := xs) (by omega)
  obtain ⟨g2, hg2, a2, b2⟩ := ret_spec h
  generalize retNum xs n = p1 at *
  generalize retDen xs n = d1 at *
  generalize retNum xs m = p2 at *
  generalize retDen xs m = d2 at *
  have hgg : 0 < g1 * g2 := Int.mul_pos (by omega) (by omega)
  refine Int.le_of_mul_le_mul_right ?_ hgg
  have e1 : p1 * d2 * (g1 * g2) = (p1 * g1) * (d2 * g2) := by ac_rfl
  have e2 : p2 * d1 * (g1 * g2) = (p2 * g2) * (d1 * g1) := by ac_rfl
  rw [e1, e2, a1, a2, b1, b2]
  exact Int.mul_le_mul_of_nonneg_left ha (by omega)
theorem Rd.ints {w : World} {A : Option Addr} {xs : List Int} (h : Rd w A xs) (hp : 0 < xs.length) : ∃ b off, A = some ⟨b, off, none⟩ ∧ ∀ k (hk : k < xs.length), w.cell? ⟨b, off + k, none⟩ = some (.int .i64 xs[k]) := by
  obtain ⟨b, off, rfl, _⟩ := h.int hp
  refine ⟨b, off, rfl, fun k hk => ?_⟩
  obtain ⟨b2, off2, e, c⟩ := h.int hk
  injection e with e
  injection e with i9 j9
  subst i9 j9
  exact c
end Go.Proofs.Yteobejgkjjhfkaa
