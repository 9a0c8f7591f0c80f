/- Dry spells: the plain law. -/
import Derived.Test.YteobejgkjjhfkaaRunoff
namespace Go.Proofs.Yteobejgkjjhfkaa
open Go.RowKit
set_option linter.unusedVariables false
/-- How many are zero. -/
def zc : List Int → Int
  | [] => 0
  | x :: xs => (if x = 0 then 1 else 0) + zc xs
theorem zc_append : ∀ xs ys : List Int, zc (xs ++ ys) = zc xs + zc ys
  | [], ys => by simp [zc]
  | x :: xs, ys => by simp only [List.cons_append, zc, zc_append xs ys]; omega
theorem zc_range : ∀ xs : List Int, 0 ≤ zc xs ∧ zc xs ≤ xs.length
  | [] => by simp [zc]
  | x :: xs => by
    have := zc_range xs
    simp only [zc, List.length_cons]
    split <;> omega
def bump (ps : List (Int × Int)) : List (Int × Int) := match ps.getLast? with
  | none => []
  | some r => ps.dropLast ++ [(r.1, r.2 + 1)]
theorem bump_last (q : List (Int × Int)) (r : Int × Int) : bump (q ++ [r]) = q ++ [(r.1, r.2 + 1)] := by simp [bump]
def spL (xs : List Int) : Nat → List (Int × Int)
  | 0 => []
  | k + 1 => if 0 < xs.getD k 0 then spL xs k else if 0 < k ∧ xs.getD (k - 1) 1 = 0 then bump (spL xs k) else spL xs k ++ [((k : Int), 1)]
def sums : List (Int × Int) → Int
  | [] => 0
  | p :: ps => p.2 + sums ps
theorem sums_append : ∀ xs ys, sums (xs ++ ys) = sums xs + sums ys
  | [], ys => by simp [sums]
  | x :: xs, ys => by simp only [List.cons_append, sums, sums_append xs ys]; omega
structure SpOne (xs : List Int) (k : Nat) (p : Int × Int) : Prop where
  pos : 0 ≤ p.1 ∧ 1 ≤ p.2 ∧ p.1 + p.2 ≤ k
  zero : ∀ j : Nat, p.1 ≤ j → (j : Int) < p.1 + p.2 → xs.getD j 0 = 0
  prev : ∀ j : Nat, (j : Int) + 1 = p.1 → xs.getD j 1 ≠ 0
  next : ∀ j : Nat, (j : Int) = p.1 + p.2 → j < k → xs.getD j 1 ≠ 0
structure SpOk (xs : List Int) (k : Nat) (ps : List (Int × Int)) : Prop where
  each : ∀ p ∈ ps, SpOne xs k p
  sum : sums ps = zc (xs.take k)
  apart : ps.Pairwise fun a b => (a.1 + a.2 : Int) < b.1
  last : 0 < k → xs.getD (k - 1) 1 = 0 → ∃ (q : List (Int × Int)) (r : Int × Int), ps = q ++ [r] ∧ r.1 + r.2 = (k : Int)
theorem getD_at {xs : List Int} {k : Nat} (h : k < xs.length) (d : Int) : xs.getD k d = xs[k] := by simp [List.getD, h]
theorem spL_ok (xs : List Int) (h0 : ∀ x ∈ xs, 0 ≤ x) : ∀ k, k ≤ xs.length → SpOk xs k (spL xs k)
  | 0, _ => ⟨by simp [spL], by simp [spL, sums, zc], by simp [spL], fun h => absurd h (by omega)⟩
  | k + 1, hk => by
    have ih := spL_ok xs h0 k (by omega)
    have hlt : k < xs.length := by omega
    have hx0 := h0 _ (List.getElem_mem hlt)
    have htk : xs.take (k + 1) = xs.take k ++ [xs[k]] := List.take_succ_eq_append_getElem hlt
    have g0 := getD_at hlt 0
    have g1 := getD_at hlt 1
    unfold spL
    rw [g0]
    generalize spL xs k = ps at ih ⊢
    by_cases hA : 0 < xs[k]
    · rw [if_pos hA]
      refine ⟨fun p hp => ?_, ?_, ih.apart, fun _ hl => ?_⟩
      · have e := ih.each p hp
        refine ⟨⟨e.pos.1, e.pos.2.1, by have := e.pos.2.2; omega⟩, e.zero, e.prev, fun j hj hlt2 => ?_⟩
        by_cases hjk : j = k
        · subst hjk; rw [g1]; omega
        · exact e.next j hj (by omega)
      · rw [ih.sum, htk, zc_append]
        simp only [zc]
        rw [if_neg (by omega)]
        omega
      · rw [Nat.add_sub_cancel, g1] at hl
        omega
    · rw [if_neg hA]
      have hz : xs[k] = 0 := by omega
      have hzc : zc (xs.take (k + 1)) = zc (xs.take k) + 1 := by
        rw [htk, zc_append]
        simp only [zc]
        rw [if_pos hz]
        omega
      by_cases hB : 0 < k ∧ xs.getD (k - 1) 1 = 0
      · rw [if_pos hB]
        obtain ⟨q, r, rfl, hr⟩ := ih.last hB.1 hB.2
        rw [bump_last]
        have hap := List.pairwise_append.mp ih.apart
        have er := ih.each r (by simp)
        have hrp := er.pos
        refine ⟨fun p hp => ?_, ?_, ?_, fun _ _ => ⟨q, (r.1, r.2 + 1), rfl, by simp only; omega⟩⟩
        · rcases List.mem_append.mp hp with hp | hp
          · have e := ih.each p (by simp [hp])
            have hlt3 := hap.2.2 p hp r (by simp)
            refine ⟨⟨e.pos.1, e.pos.2.1, by have := e.pos.2.2; omega⟩, e.zero, e.prev, fun j hj hlt2 => ?_⟩
            exact e.next j hj (by omega)
          · simp only [List.mem_singleton] at hp
            subst hp
            refine ⟨⟨hrp.1, by simp only; omega, by simp only; omega⟩, fun j h1 h2 => ?_, er.prev, fun j hj hlt2 => by simp only at hj; omega⟩
            simp only at h1 h2
            by_cases hjk : j = k
            · subst hjk; rw [g0, hz]
            · exact er.zero j h1 (by omega)
        · rw [hzc, ← ih.sum, sums_append, sums_append]
          simp only [sums]
          omega
        · refine List.pairwise_append.mpr ⟨hap.1, by simp, fun a ha b hb => ?_⟩
          simp only [List.mem_singleton] at hb
          subst hb
          exact hap.2.2 a ha r (by simp)
      · rw [if_neg hB]
        have hend : ∀ p ∈ ps, p.1 + p.2 < k := by
          intro p hp
          have e := ih.each p hp
          have hp3 := e.pos
          refine Int.lt_iff_le_and_ne.mpr ⟨hp3.2.2, fun he => ?_⟩
          have hk0 : 0 < k := by omega
          have hz2 := e.zero (k - 1) (by omega) (by omega)
          have h3 := getD_at (show k - 1 < xs.length by omega) 0
          have h4 := getD_at (show k - 1 < xs.length by omega) 1
          exact hB ⟨hk0, by rw [h4, ← h3]; exact hz2⟩
        refine ⟨fun p hp => ?_, ?_, ?_, fun _ _ => ⟨ps, ((k : Int), 1), rfl, by simp⟩⟩
        · rcases List.mem_append.mp hp with hp | hp
          · have e := ih.each p hp
            have := hend p hp
            refine ⟨⟨e.pos.1, e.pos.2.1, by omega⟩, e.zero, e.prev, fun j hj hlt2 => e.next j hj (by omega)⟩
          · simp only [List.mem_singleton] at hp
            subst hp
            refine ⟨⟨by simp, by simp, by simp⟩, fun j h1 h2 => ?_, fun j hj hc => ?_, fun j hj hlt2 => by simp only at hj; omega⟩
            · simp only at h1 h2
              have : j = k := by omega
              subst this
              rw [g0, hz]
            · simp only at hj
              exact hB ⟨by omega, by rw [show k - 1 = j by omega]; exact hc⟩
        · rw [hzc, ← ih.sum, sums_append]
          simp only [sums]
          omega
        · refine List.pairwise_append.mpr ⟨ih.apart, by simp, fun a ha b hb => ?_⟩
          simp only [List.mem_singleton] at hb
          subst hb
          exact hend a ha
/-- The greatest second. -/
def lmax (a : Int) : List (Int × Int) → Int
  | [] => a
  | p :: ps => lmax (max a p.2) ps
theorem lmax_ge : ∀ (ps : List (Int × Int)) (a : Int), a ≤ lmax a ps
  | [], a => by simp [lmax]
  | p :: ps, a => by have := lmax_ge ps (max a p.2); simp only [lmax]; omega
theorem lmax_all : ∀ (ps : List (Int × Int)) (a : Int), ∀ p ∈ ps, p.2 ≤ lmax a ps
  | [], a, p, hp => by simp at hp
  | q :: ps, a, p, hp => by
    simp only [lmax]
    rcases List.mem_cons.mp hp with rfl | hp
    · have := lmax_ge ps (max a p.2); omega
    · exact lmax_all ps _ p hp
theorem lmax_mem : ∀ (ps : List (Int × Int)) (a : Int), lmax a ps = a ∨ ∃ p ∈ ps, p.2 = lmax a ps
  | [], a => .inl rfl
  | q :: ps, a => by
    simp only [lmax]
    rcases lmax_mem ps (max a q.2) with h | ⟨p, hp, he⟩
    · by_cases hq : a < q.2
      · exact .inr ⟨q, by simp, by rw [h]; omega⟩
      · exact .inl (by rw [h]; omega)
    · exact .inr ⟨p, by simp [hp], he⟩
/-- Those that are long enough. -/
def longE (n : Int) : List (Int × Int) → List (Int × Int)
  | [] => []
  | p :: ps => if n ≤ p.2 then p :: longE n ps else longE n ps
theorem longE_all {n : Int} : ∀ {ps : List (Int × Int)}, (∀ p ∈ ps, n ≤ p.2) → longE n ps = ps
  | [], _ => rfl
  | p :: ps, h => by rw [longE, if_pos (h p (by simp)), longE_all fun q hq => h q (by simp [hq])]
theorem longE_len (n : Int) : ∀ ps : List (Int × Int), (longE n ps).length ≤ ps.length
  | [] => by simp [longE]
  | p :: ps => by
    have := longE_len n ps
    simp only [longE]
    split <;> simp <;> omega
theorem longE_some {n : Int} : ∀ {ps : List (Int × Int)}, (∃ p ∈ ps, n ≤ p.2) → 0 < (longE n ps).length
  | [], ⟨p, hp, _⟩ => by simp at hp
  | q :: ps, ⟨p, hp, h⟩ => by
    simp only [longE]
    split
    · simp
    · rename_i hq
      rcases List.mem_cons.mp hp with rfl | hp
      · exact absurd h hq
      · exact longE_some ⟨p, hp, h⟩
/-- What the law asks of the longest. -/
theorem long_iff {ps : List (Int × Int)} (h : ∀ p ∈ ps, 1 ≤ p.2) : (decide (0 < (longE (max 1 (lmax 0 ps)) ps).length)) = decide (0 < lmax 0 ps) := by
  have h0 := lmax_ge ps 0
  rcases lmax_mem ps 0 with he | ⟨p, hp, he⟩
  · have : ps = [] := by
      cases ps with
      | nil => rfl
      | cons p ps =>
        have h1 := h p (by simp)
        have h2 := lmax_all (p :: ps) 0 p (by simp)
        omega
    subst this
    simp [longE, lmax]
  · have h1 := h p hp
    have h2 := longE_some (n := max 1 (lmax 0 ps)) ⟨p, hp, by omega⟩
    rw [decide_eq_true h2, decide_eq_true (by omega)]
theorem sum_zero : ∀ ys : List Int, (∀ y ∈ ys, y = 0) → ys.sum = 0
  | [], _ => rfl
  | y :: ys, h => by
    have h1 := h y (by simp)
    have h2 := sum_zero ys fun z hz => h z (by simp [hz])
    simp [h1, h2]
theorem spell_zero {xs : List Int} {k : Nat} {p : Int × Int} (h : SpOne xs k p) (hk : k ≤ xs.length) : ∀ y ∈ (xs.drop p.1.toNat).take p.2.toNat, y = 0 := by
  intro y hy
  obtain ⟨i, hi, rfl⟩ := List.mem_iff_getElem.mp hy
  have hp := h.pos
  have hi2 : i < p.2.toNat := by simp at hi; omega
  rw [List.getElem_take, List.getElem_drop, ← getD_at _ 0]
  exact h.zero _ (by omega) (by omega)
end Go.Proofs.Yteobejgkjjhfkaa
