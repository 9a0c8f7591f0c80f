/- Latest starts: the plain mathematics. -/
import Derived.Test.YtdlddlgpaokgiaaWorksPlain
namespace Go.Proofs.Ytdlddlgpaokgiaa
open Go.RowKit
set_option linter.unusedVariables false
set_option linter.unusedSimpArgs false
/-- Does task k stand behind task i? -/
def behind (xs : List Task) (i : Int) (k : Nat) : Bool := match xs[k]? with | some t => decide (i ∈ t.after) | none => false
def endStep (xs : List Task) (i : Int) (L : List Int) (e : Int) (k : Nat) : Int := if behind xs i k then min e (L.getD k 0) else e
def endTo (xs : List Task) (tot : Int) (L : List Int) (i : Int) (n : Nat) : Int := (List.range n).foldl (endStep xs i L) tot
def lateL (xs : List Task) (tot : Int) : Nat → List Int
  | 0 => List.replicate xs.length 0
  | m + 1 => (lateL xs tot m).set (xs.length - 1 - m) (endTo xs tot (lateL xs tot m) ((xs.length - 1 - m : Nat) : Int) xs.length - daysAt xs ((xs.length - 1 - m : Nat) : Int))
theorem behind_eq {xs : List Task} {i : Int} {k : Nat} (hk : k < xs.length) : behind xs i k = decide (i ∈ xs[k].after) := by
  simp [behind, List.getElem?_eq_getElem hk]
theorem endTo_next (xs : List Task) (tot : Int) (L : List Int) (i : Int) (n : Nat) : endTo xs tot L i (n + 1) = endStep xs i L (endTo xs tot L i n) n := by
  simp [endTo, List.range_succ]
theorem lateL_len (xs : List Task) (tot : Int) (m : Nat) : (lateL xs tot m).length = xs.length := by
  induction m with
  | zero => simp [lateL]
  | succ m ih => simp [lateL, ih]
theorem endTo_char (xs : List Task) (tot : Int) (L : List Int) (i : Int) (n : Nat) :
    endTo xs tot L i n ≤ tot ∧ (∀ k, k < n → behind xs i k = true → endTo xs tot L i n ≤ L.getD k 0) ∧ (endTo xs tot L i n = tot ∨ ∃ k, k < n ∧ behind xs i k = true ∧ endTo xs tot L i n = L.getD k 0) := by
  induction n with
  | zero => exact ⟨by simp [endTo], fun k hk => absurd hk (by omega), .inl (by simp [endTo])⟩
  | succ n ih =>
    obtain ⟨h1, h2, h3⟩ := ih
    rw [endTo_next]
    unfold endStep
    by_cases hb : behind xs i n = true
    · rw [if_pos hb]
      refine ⟨by omega, fun k hk hk2 => ?_, ?_⟩
      · by_cases hkn : k = n
        · subst hkn; omega
        · have := h2 k (by omega) hk2; omega
      · by_cases hm : endTo xs tot L i n ≤ L.getD n 0
        · rcases h3 with h3 | ⟨k, hk, hk2, h3⟩
          · exact .inl (by omega)
          · exact .inr ⟨k, by omega, hk2, by omega⟩
        · exact .inr ⟨n, by omega, hb, by omega⟩
    · rw [if_neg hb]
      refine ⟨h1, fun k hk hk2 => ?_, ?_⟩
      · by_cases hkn : k = n
        · subst hkn; exact absurd hk2 hb
        · exact h2 k (by omega) hk2
      · rcases h3 with h3 | ⟨k, hk, hk2, h3⟩
        · exact .inl h3
        · exact .inr ⟨k, by omega, hk2, h3⟩
theorem endTo_bound {xs : List Task} {tot : Int} {L : List Int} {b : Int} (i : Int) (n : Nat) (hb : b ≤ tot) (hL : ∀ k, b ≤ L.getD k 0) : b ≤ endTo xs tot L i n ∧ endTo xs tot L i n ≤ tot := by
  obtain ⟨h1, h2, h3⟩ := endTo_char xs tot L i n
  refine ⟨?_, h1⟩
  rcases h3 with h3 | ⟨k, _, _, h3⟩
  · omega
  · have := hL k; omega
theorem getD_set (L : List Int) (i j : Nat) (v : Int) : (L.set i v).getD j 0 = if i = j ∧ j < L.length then v else L.getD j 0 := by
  simp only [List.getD_eq_getElem?_getD, List.getElem?_set]
  by_cases h : i = j
  · subst h
    by_cases h2 : i < L.length
    · simp [h2]
    · simp [h2, List.getElem?_eq_none (Nat.le_of_not_lt h2)]
  · simp [h]
theorem lateL_bound {xs : List Task} (h : EOk xs) {tot : Int} (h0 : 0 ≤ tot) (m : Nat) : ∀ j, -2000 * (m : Int) ≤ (lateL xs tot m).getD j 0 ∧ (lateL xs tot m).getD j 0 ≤ tot := by
  induction m with
  | zero =>
    intro j
    have : (lateL xs tot 0).getD j 0 = 0 := by
      simp only [lateL, List.getD_eq_getElem?_getD, List.getElem?_replicate]
      split <;> simp
    omega
  | succ m ih =>
    intro j
    simp only [lateL]
    rw [getD_set]
    split
    · have h1 := endTo_bound (xs := xs) (tot := tot) (L := lateL xs tot m) (b := -2000 * (m : Int)) ((xs.length - 1 - m : Nat) : Int) xs.length (by omega) (fun k => (ih k).1)
      have h2 := daysAt_bound h ((xs.length - 1 - m : Nat) : Int)
      omega
    · have := ih j; omega

/-- What the end of task j is, if the last m tasks are known. -/
def IsEnd (xs : List Task) (tot : Int) (L : List Int) (j m : Nat) (e : Int) : Prop :=
  e ≤ tot ∧ (∀ k, xs.length - m ≤ k → k < xs.length → behind xs (j : Int) k = true → e ≤ L.getD k 0) ∧ (e = tot ∨ ∃ k, xs.length - m ≤ k ∧ k < xs.length ∧ behind xs (j : Int) k = true ∧ e = L.getD k 0)
theorem IsEnd.unique {xs : List Task} {tot : Int} {L : List Int} {j m : Nat} {e e' : Int} (h : IsEnd xs tot L j m e) (h' : IsEnd xs tot L j m e') : e = e' := by
  obtain ⟨a, b, c⟩ := h
  obtain ⟨a', b', c'⟩ := h'
  rcases c with rfl | ⟨k, k1, k2, k3, k4⟩
  · rcases c' with rfl | ⟨k', k1', k2', k3', k4'⟩
    · rfl
    · have := b k' k1' k2' k3'; omega
  · have h1 := b' k k1 k2 k3
    rcases c' with rfl | ⟨k', k1', k2', k3', k4'⟩
    · omega
    · have := b k' k1' k2' k3'; omega
theorem behind_lt {xs : List Task} (h : EOk xs) {i : Int} {k : Nat} (hb : behind xs i k = true) : 0 ≤ i ∧ i < k ∧ k < xs.length := by
  by_cases hk : k < xs.length
  · rw [behind_eq hk, decide_eq_true_eq] at hb
    have := (h.2 k hk).2 i hb
    exact ⟨this.1, this.2, hk⟩
  · simp [behind, List.getElem?_eq_none (Nat.le_of_not_lt hk)] at hb
theorem endTo_isEnd {xs : List Task} (h : EOk xs) (tot : Int) (L : List Int) {m : Nat} (hm : m < xs.length) : IsEnd xs tot L (xs.length - 1 - m) m (endTo xs tot L ((xs.length - 1 - m : Nat) : Int) xs.length) := by
  obtain ⟨h1, h2, h3⟩ := endTo_char xs tot L ((xs.length - 1 - m : Nat) : Int) xs.length
  refine ⟨h1, fun k _ hk hb => h2 k hk hb, ?_⟩
  rcases h3 with h3 | ⟨k, hk, hb, h3⟩
  · exact .inl h3
  · have := behind_lt h hb
    exact .inr ⟨k, by omega, hk, hb, h3⟩
/-- The relaxation of the ends in front of a task. -/
def relax (o : Int) (E : List Int) (a : Int) : List Int := E.set a.toNat (min (E.getD a.toNat 0) o)
theorem relax_len (o : Int) (l : List Int) (E : List Int) : (l.foldl (relax o) E).length = E.length := by
  induction l generalizing E with
  | nil => rfl
  | cons a l ih => rw [List.foldl_cons, ih]; simp [relax]
theorem relax_get (o : Int) (l : List Int) (E : List Int) (hl : ∀ a ∈ l, 0 ≤ a) (j : Nat) (hj : j < E.length) : (l.foldl (relax o) E).getD j 0 = if (j : Int) ∈ l then min (E.getD j 0) o else E.getD j 0 := by
  induction l generalizing E with
  | nil => simp
  | cons a l ih =>
    have ha := hl a (by simp)
    rw [List.foldl_cons, ih _ (fun x hx => hl x (by simp [hx])) (by simpa [relax] using hj)]
    have hr : (relax o E a).getD j 0 = if (j : Int) = a then min (E.getD j 0) o else E.getD j 0 := by
      unfold relax
      rw [getD_set]
      by_cases hja : (j : Int) = a
      · have : a.toNat = j := by omega
        rw [if_pos ⟨this, hj⟩, if_pos hja, this]
      · have : ¬ a.toNat = j := by omega
        rw [if_neg (by simp [this]), if_neg hja]
    rw [hr]
    by_cases h1 : (j : Int) = a <;> by_cases h2 : (j : Int) ∈ l <;> simp [h1, h2] <;> first | (rw [← h1]; simp [h2]; try omega) | skip
/-- The ends, as the reference keeps them. -/
def EndsOk (xs : List Task) (tot : Int) (m : Nat) (E : List Int) : Prop := E.length = xs.length ∧ ∀ j, j < xs.length - m → IsEnd xs tot (lateL xs tot m) j m (E.getD j 0)
theorem ends_zero (xs : List Task) (tot : Int) : EndsOk xs tot 0 (List.replicate xs.length tot) := by
  refine ⟨by simp, fun j hj => ?_⟩
  have : (List.replicate xs.length tot).getD j 0 = tot := by
    rw [List.getD_eq_getElem?_getD, List.getElem?_replicate, if_pos (by omega)]; rfl
  rw [this]
  exact ⟨Int.le_refl _, fun k h1 h2 => absurd h2 (by omega), .inl rfl⟩
theorem ends_at {xs : List Task} (h : EOk xs) {tot : Int} {m : Nat} {E : List Int} (hE : EndsOk xs tot m E) (hm : m < xs.length) : E.getD (xs.length - 1 - m) 0 = endTo xs tot (lateL xs tot m) ((xs.length - 1 - m : Nat) : Int) xs.length :=
  (hE.2 _ (by omega)).unique (endTo_isEnd h tot _ hm)
theorem ends_next {xs : List Task} (h : EOk xs) {tot : Int} {m : Nat} {E : List Int} (hE : EndsOk xs tot m E) (hm : m < xs.length) :
    EndsOk xs tot (m + 1) ((xs[xs.length - 1 - m]'(by omega)).after.foldl (relax (E.getD (xs.length - 1 - m) 0 - daysAt xs ((xs.length - 1 - m : Nat) : Int))) E) := by
  have hi : xs.length - 1 - m < xs.length := by omega
  refine ⟨by rw [relax_len]; exact hE.1, fun j hj => ?_⟩
  rw [relax_get _ _ _ (fun a ha => ((h.2 _ hi).2 a ha).1) _ (by rw [hE.1]; omega)]
  obtain ⟨h1, h2, h3⟩ := hE.2 j (by omega)
  have hLi : (lateL xs tot (m + 1)).getD (xs.length - 1 - m) 0 = E.getD (xs.length - 1 - m) 0 - daysAt xs ((xs.length - 1 - m : Nat) : Int) := by
    simp only [lateL]
    rw [getD_set, if_pos ⟨rfl, by rw [lateL_len]; exact hi⟩, ends_at h hE hm]
  have hLk : ∀ k, xs.length - m ≤ k → (lateL xs tot (m + 1)).getD k 0 = (lateL xs tot m).getD k 0 := fun k hk => by
    simp only [lateL]
    rw [getD_set, if_neg (by omega)]
  have hbe : behind xs (j : Int) (xs.length - 1 - m) = decide ((j : Int) ∈ xs[xs.length - 1 - m].after) := behind_eq hi
  rw [← hLi]
  by_cases hj2 : (j : Int) ∈ xs[xs.length - 1 - m].after
  · rw [if_pos hj2]
    rw [decide_eq_true hj2] at hbe
    refine ⟨by omega, fun k k1 k2 k3 => ?_, ?_⟩
    · clear h3
      by_cases hk : k = xs.length - 1 - m
      · subst hk; omega
      · rw [hLk k (by omega)]
        have := h2 k (by omega) k2 k3; omega
    · by_cases hmin : E.getD j 0 ≤ (lateL xs tot (m + 1)).getD (xs.length - 1 - m) 0
      · rw [Int.min_eq_left hmin]
        rcases h3 with h3 | ⟨k, k1, k2, k3, k4⟩
        · exact .inl h3
        · exact .inr ⟨k, Nat.le_trans (Nat.sub_le_sub_left (Nat.le_succ m) _) k1, k2, k3, by rw [hLk k k1]; exact k4⟩
      · exact .inr ⟨xs.length - 1 - m, by omega, by omega, hbe, by omega⟩
  · rw [if_neg hj2]
    rw [decide_eq_false hj2] at hbe
    refine ⟨h1, fun k k1 k2 k3 => ?_, ?_⟩
    · clear h3
      by_cases hk : k = xs.length - 1 - m
      · subst hk; rw [hbe] at k3; cases k3
      · rw [hLk k (by omega)]
        exact h2 k (by omega) k2 k3
    · rcases h3 with h3 | ⟨k, k1, k2, k3, k4⟩
      · exact .inl h3
      · exact .inr ⟨k, Nat.le_trans (Nat.sub_le_sub_left (Nat.le_succ m) _) k1, k2, k3, by rw [hLk k k1]; exact k4⟩
def late (xs : List Task) (tot : Int) : List Int := lateL xs tot xs.length

theorem late_len (xs : List Task) (tot : Int) : (late xs tot).length = xs.length := lateL_len xs tot _
end Go.Proofs.Ytdlddlgpaokgiaa
