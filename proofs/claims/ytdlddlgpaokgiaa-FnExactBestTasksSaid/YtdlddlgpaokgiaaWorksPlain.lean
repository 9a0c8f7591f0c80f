/- The plain mathematics of works: earliest starts. -/
import Derived.Test.YtdlddlgpaokgiaaTaskValid
namespace Go.Proofs.Ytdlddlgpaokgiaa
open Go.RowKit
set_option linter.unusedVariables false
def daysAt (xs : List Task) (a : Int) : Int := (xs[a.toNat]?.map Task.days).getD 0
def startStep (xs : List Task) (out : List Int) (s a : Int) : Int := max s (out.getD a.toNat 0 + daysAt xs a)
def startOf (xs : List Task) (out l : List Int) : Int := l.foldl (startStep xs out) 0
def estep (xs : List Task) (st : List Int × Int) (t : Task) : List Int × Int := (st.1 ++ [startOf xs st.1 t.after], max st.2 (startOf xs st.1 t.after + t.days))
def early (xs : List Task) (n : Nat) : List Int × Int := (xs.take n).foldl (estep xs) ([], 0)
def EOk (xs : List Task) : Prop := xs.length ≤ 12 ∧ ∀ k, (h : k < xs.length) → (0 ≤ xs[k].days ∧ xs[k].days ≤ 2000) ∧ ∀ a ∈ xs[k].after, 0 ≤ a ∧ a < k
theorem foldl_take' {α β : Type} (f : β → α → β) (b : β) {xs : List α} {k : Nat} (hk : k < xs.length) : (xs.take (k + 1)).foldl f b = f ((xs.take k).foldl f b) xs[k] := by
  rw [take_next hk, List.foldl_append]
  rfl
theorem daysAt_eq {xs : List Task} {a : Int} (h : a.toNat < xs.length) : daysAt xs a = xs[a.toNat].days := by
  unfold daysAt
  simp [h]
theorem early_next {xs : List Task} {k : Nat} (hk : k < xs.length) : early xs (k + 1) = estep xs (early xs k) xs[k] := foldl_take' _ _ hk
theorem early_len {xs : List Task} {k : Nat} (hk : k ≤ xs.length) : (early xs k).1.length = k := by
  induction k with
  | zero => rfl
  | succ k ih => rw [early_next (by omega)]; simp [estep, ih (by omega)]
theorem daysAt_bound {xs : List Task} (h : EOk xs) (a : Int) : 0 ≤ daysAt xs a ∧ daysAt xs a ≤ 2000 := by
  by_cases ha : a.toNat < xs.length
  · rw [daysAt_eq ha]; exact (h.2 _ ha).1
  · unfold daysAt
    rw [List.getElem?_eq_none (by omega)]
    simp
theorem startOf_bound {xs : List Task} (h : EOk xs) {out : List Int} {b : Int} (hb : ∀ i : Nat, 0 ≤ out.getD i 0 ∧ out.getD i 0 ≤ b) (l : List Int) (s : Int) (h0 : 0 ≤ s) (h1 : s ≤ b + 2000) :
    0 ≤ l.foldl (startStep xs out) s ∧ l.foldl (startStep xs out) s ≤ b + 2000 := by
  induction l generalizing s with
  | nil => exact ⟨h0, h1⟩
  | cons a l ih =>
    have h2 := hb a.toNat
    have h3 := daysAt_bound h a
    exact ih _ (by unfold startStep; omega) (by unfold startStep; omega)
theorem early_bound {xs : List Task} (h : EOk xs) {k : Nat} (hk : k ≤ xs.length) : (∀ i : Nat, 0 ≤ (early xs k).1.getD i 0 ∧ (early xs k).1.getD i 0 ≤ 2000 * (k : Int)) ∧ 0 ≤ (early xs k).2 ∧ (early xs k).2 ≤ 4000 * (k : Int) := by
  induction k with
  | zero => exact ⟨fun i => by simp [early], by simp [early], by simp [early]⟩
  | succ k ih =>
    obtain ⟨i1, i2, i3⟩ := ih (by omega)
    have hs := startOf_bound h i1 (xs[k]'(by omega)).after 0 (by omega) (by omega)
    have hd := (h.2 k (by omega)).1
    rw [early_next (by omega)]
    refine ⟨fun i => ?_, ?_, ?_⟩
    · simp only [estep, startOf, List.getD_eq_getElem?_getD, List.getElem?_append]
      have := i1 i
      rw [List.getD_eq_getElem?_getD] at this
      split
      · omega
      · by_cases h0 : i - (early xs k).1.length = 0
        · rw [h0]; simp; omega
        · rw [List.getElem?_eq_none (by simp; omega)]; simp; omega
    · simp only [estep, startOf]; omega
    · simp only [estep, startOf]; omega
theorem eok_valid {xs : List Task} (h : validT xs = true) : EOk xs := by
  unfold validT at h
  rw [decide_eq_true_eq] at h
  refine ⟨h.1, fun k hk => ?_⟩
  have h1 := h.2 k hk
  unfold oneB aloneB at h1
  simp only [Bool.and_eq_true, inB_true] at h1
  obtain ⟨⟨⟨h2, _⟩, _⟩, h3⟩ := h1
  refine ⟨by omega, fun a ha => ?_⟩
  obtain ⟨i, hi, rfl⟩ := List.getElem_of_mem ha
  have := (rises_at h3 hi).1
  omega
end Go.Proofs.Ytdlddlgpaokgiaa
