/- FnMillSets: the plain law. -/
import Derived.Test.YteobejgkjjhfkaaSubW
namespace Go.Proofs.Yteobejgkjjhfkaa
open Go.RowKit
set_option linter.unusedVariables false
set_option linter.unusedSimpArgs false
/-! some mills -/
def partsOf (rs l : List Int) : Int := (l.map fun i => rs.getD i.toNat 0).sum
theorem partsOf_snoc (rs l : List Int) (x : Int) : partsOf rs (l ++ [x]) = partsOf rs l + rs.getD x.toNat 0 := by simp [partsOf]
theorem getD_range {rs : List Int} (h : ∀ r ∈ rs, 0 ≤ r ∧ r ≤ 1000) (k : Nat) : 0 ≤ rs.getD k 0 ∧ rs.getD k 0 ≤ 1000 := by
  rw [List.getD_eq_getElem?_getD]
  by_cases hk : k < rs.length
  · rw [List.getElem?_eq_getElem hk]; exact h _ (List.getElem_mem hk)
  · rw [List.getElem?_eq_none (by omega)]; simp
theorem partsOf_range {rs : List Int} (h : ∀ r ∈ rs, 0 ≤ r ∧ r ≤ 1000) : ∀ l : List Int, 0 ≤ partsOf rs l ∧ partsOf rs l ≤ 1000 * (l.length : Int)
  | [] => by simp [partsOf]
  | x :: l => by
    have h1 := partsOf_range h l
    have h2 := getD_range h x.toNat
    unfold partsOf at h1 ⊢
    rw [List.map_cons, List.sum_cons, List.length_cons]
    omega
def fullL (n : Nat) : List Int := (List.range n).map fun (i : Nat) => (i : Int)
theorem fullL_next (n : Nat) : fullL (n + 1) = fullL n ++ [(n : Int)] := by simp [fullL, List.range_succ]
theorem fullL_upTo (n : Nat) : UpTo (n : Int) (fullL n) := by
  refine ⟨fun a ha => ?_, ?_⟩
  · simp only [fullL, List.mem_map, List.mem_range] at ha
    obtain ⟨k, h1, rfl⟩ := ha
    omega
  · unfold fullL
    rw [List.pairwise_map]
    exact (List.pairwise_lt_range (n := n)).imp fun h => by omega
theorem parts_full (rs : List Int) : ∀ k, k ≤ rs.length → partsOf rs (fullL k) = (rs.take k).sum
  | 0, _ => by simp [partsOf, fullL]
  | k + 1, h => by
    rw [fullL_next, partsOf_snoc, parts_full rs k (by omega), take_next (by omega), List.sum_append]
    simp [show k < rs.length by omega]
/-- What FewestMills answers. -/
def FewOk (rs : List Int) (rate : Int) (few : List Int) (one : Int) : Prop :=
  (one = 0 ∧ UpTo (rs.length : Int) few ∧ rate ≤ partsOf rs few ∧ ∀ l, UpTo (rs.length : Int) l → rate ≤ partsOf rs l → few.length ≤ l.length) ∨ (one = 3 ∧ few = [] ∧ rs.sum < rate)
theorem few_hit {rs : List Int} {rate : Int} {L : List (List Int)} (hL : SubAll rs.length L) {k : Nat} (hk : k < L.length) (hno : ∀ j, j < k → (h : j < L.length) → partsOf rs L[j] < rate) (h : rate ≤ partsOf rs L[k]) : FewOk rs rate L[k] 0 := by
  refine .inl ⟨rfl, hL.up _ (List.getElem_mem hk), h, fun l hl hp => ?_⟩
  obtain ⟨j, hj, rfl⟩ := List.getElem_of_mem (hL.all l hl)
  rcases Nat.lt_trichotomy j k with q | q | q
  · have := hno j q hj; omega
  · subst q; exact Nat.le_refl _
  · rcases List.pairwise_iff_getElem.1 hL.sorted k j hk hj q with q | q
    · omega
    · omega
theorem few_none {rs : List Int} {rate : Int} {L : List (List Int)} (hL : SubAll rs.length L) (hno : ∀ j, j < L.length → (h : j < L.length) → partsOf rs L[j] < rate) : FewOk rs rate [] 3 := by
  refine .inr ⟨rfl, rfl, ?_⟩
  obtain ⟨j, hj, he⟩ := List.getElem_of_mem (hL.all _ (fullL_upTo rs.length))
  have := hno j hj hj
  rw [he, parts_full rs _ (Nat.le_refl _), List.take_length] at this
  exact this
/-! two stages -/
def sumAt (k : Int) : List Int → List Int → Int
  | r :: rs, x :: l => (if x = k then r else 0) + sumAt k rs l
  | _, _ => 0
def mn (rs l : List Int) : Int := min (sumAt 0 rs l) (sumAt 1 rs l)
def Bits (l : List Int) : Prop := ∀ x ∈ l, x = 0 ∨ x = 1
theorem sumAt_snoc (k : Int) : ∀ (rs l : List Int), rs.length = l.length → ∀ r x, sumAt k (rs ++ [r]) (l ++ [x]) = sumAt k rs l + if x = k then r else 0
  | [], [], _, r, x => by simp [sumAt]
  | a :: rs, b :: l, h, r, x => by
    simp only [List.cons_append, sumAt]
    rw [sumAt_snoc k rs l (by simpa using h)]
    omega
  | [], _ :: _, h, _, _ => by simp at h
  | _ :: _, [], h, _, _ => by simp at h
theorem sumAt_range (k : Int) : ∀ (rs l : List Int), (∀ r ∈ rs, 0 ≤ r ∧ r ≤ 1000) → 0 ≤ sumAt k rs l ∧ sumAt k rs l ≤ 1000 * (rs.length : Int)
  | [], l, _ => by simp [sumAt]
  | r :: rs, [], _ => by simp [sumAt]; omega
  | r :: rs, x :: l, h => by
    have h1 := sumAt_range k rs l fun r hr => h r (by simp [hr])
    have h2 := h r (by simp)
    simp only [sumAt, List.length_cons]
    split <;> omega
theorem sumAt_none (k : Int) : ∀ (rs l : List Int), k ∉ l → sumAt k rs l = 0
  | [], l, _ => by simp [sumAt]
  | r :: rs, [], _ => by simp [sumAt]
  | r :: rs, x :: l, h => by
    simp only [List.mem_cons, not_or] at h
    simp only [sumAt]
    rw [if_neg (fun e => h.1 e.symm), sumAt_none k rs l h.2]
    rfl
theorem mn_range {rs : List Int} (h : ∀ r ∈ rs, 0 ≤ r ∧ r ≤ 1000) (l : List Int) : 0 ≤ mn rs l ∧ mn rs l ≤ 1000 * (rs.length : Int) := by
  have h1 := sumAt_range 0 rs l h
  have h2 := sumAt_range 1 rs l h
  unfold mn
  omega
def bothB (l : List Int) : Bool := hasB l 0 && hasB l 1
def leafS (rs : List Int) (st : List Int × Int) (l : List Int) : List Int × Int := if (decide (st.2 < mn rs l) && bothB l) = true then (l, mn rs l) else st
def goS (rs : List Int) : Nat → List Int → List Int × Int → List Int × Int
  | 0, l, st => leafS rs st l
  | d + 1, l, st => goS rs d (l ++ [1]) (goS rs d (l ++ [0]) st)
theorem goS_spec (rs : List Int) : ∀ (d : Nat) (l : List Int) (st : List Int × Int), st.2 ≤ (goS rs d l st).2 ∧ (∀ x, Bits x → x.length = d → bothB (l ++ x) = true → mn rs (l ++ x) ≤ (goS rs d l st).2) ∧
    (goS rs d l st = st ∨ ∃ x, Bits x ∧ x.length = d ∧ (goS rs d l st).1 = l ++ x ∧ bothB (l ++ x) = true ∧ (goS rs d l st).2 = mn rs (l ++ x))
  | 0, l, st => by
    simp only [goS]
    unfold leafS
    by_cases h : (decide (st.2 < mn rs l) && bothB l) = true
    · rw [if_pos h]
      simp only [Bool.and_eq_true, decide_eq_true_eq] at h
      refine ⟨by simp only; omega, fun x hx hl hb => ?_, .inr ⟨[], fun x hx => absurd hx (by simp), rfl, by simp, by simpa using h.2, by simp⟩⟩
      rw [List.eq_nil_of_length_eq_zero hl]
      simp
    · rw [if_neg h]
      simp only [Bool.and_eq_true, decide_eq_true_eq, not_and, Bool.not_eq_true] at h
      refine ⟨Int.le_refl _, fun x hx hl hb => ?_, .inl rfl⟩
      rw [List.eq_nil_of_length_eq_zero hl] at hb ⊢
      rw [List.append_nil] at hb ⊢
      rcases Int.lt_or_le st.2 (mn rs l) with q | q
      · rw [h q] at hb; cases hb
      · exact q
  | d + 1, l, st => by
    simp only [goS]
    obtain ⟨a1, a2, a3⟩ := goS_spec rs d (l ++ [0]) st
    obtain ⟨b1, b2, b3⟩ := goS_spec rs d (l ++ [1]) (goS rs d (l ++ [0]) st)
    have hcat : ∀ (a : Int) (x : List Int), l ++ [a] ++ x = l ++ (a :: x) := fun a x => by simp
    have hb : ∀ (a : Int) (x : List Int), (a = 0 ∨ a = 1) → Bits x → Bits (a :: x) := fun a x ha hx y hy => by
      rcases List.mem_cons.1 hy with rfl | hy
      · exact ha
      · exact hx y hy
    refine ⟨by omega, fun x hx hl hbo => ?_, ?_⟩
    · cases x with
      | nil => simp at hl
      | cons y x =>
        have hx' : Bits x := fun z hz => hx z (by simp [hz])
        rcases hx y (by simp) with rfl | rfl
        · have := a2 x hx' (by simpa using hl) (by rw [hcat]; exact hbo)
          rw [hcat] at this
          omega
        · have := b2 x hx' (by simpa using hl) (by rw [hcat]; exact hbo)
          rw [hcat] at this
          exact this
    · rcases b3 with b3 | ⟨x, h1, h2, h3, h4, h5⟩
      · rw [b3]
        rcases a3 with a3 | ⟨x, h1, h2, h3, h4, h5⟩
        · exact .inl a3
        · rw [hcat] at h3 h4 h5
          exact .inr ⟨0 :: x, hb 0 x (.inl rfl) h1, by simp [h2], h3, h4, h5⟩
      · rw [hcat] at h3 h4 h5
        exact .inr ⟨1 :: x, hb 1 x (.inr rfl) h1, by simp [h2], h3, h4, h5⟩
/-- What BestSplit answers. -/
structure SplitOk (rs : List Int) (best : List Int) (most : Int) : Prop where
  len : best.length = rs.length
  bits : Bits best
  both : bothB best = true
  val : most = mn rs best
  top : ∀ x, Bits x → x.length = rs.length → mn rs x ≤ most
theorem split_ok {rs : List Int} (h : ∀ r ∈ rs, 0 ≤ r ∧ r ≤ 1000) (hn : 2 ≤ rs.length) : SplitOk rs (goS rs rs.length [] ([], -1)).1 (goS rs rs.length [] ([], -1)).2 := by
  obtain ⟨a1, a2, a3⟩ := goS_spec rs rs.length [] ([], -1)
  generalize goS rs rs.length [] ([], -1) = r at a1 a2 a3
  simp only [List.nil_append] at a2 a3
  have hex := a2 (0 :: 1 :: List.replicate (rs.length - 2) 0) (fun x hx => by
    simp only [List.mem_cons, List.mem_replicate] at hx
    omega) (by simp; omega) (by simp [bothB, hasB])
  have h0 := (mn_range h (0 :: 1 :: List.replicate (rs.length - 2) 0)).1
  rcases a3 with a3 | ⟨x, h1, h2, h3, h4, h5⟩
  · rw [a3] at hex
    simp only at hex
    omega
  · refine ⟨by rw [h3]; exact h2, by rw [h3]; exact h1, by rw [h3]; exact h4, by rw [h3]; exact h5, fun y hy hl => ?_⟩
    by_cases hb : bothB y = true
    · exact a2 y hy hl hb
    · have hm := (mn_range h x).1
      have hz : mn rs y ≤ 0 := by
        unfold bothB at hb
        simp only [Bool.and_eq_true, not_and, Bool.not_eq_true] at hb
        unfold mn
        by_cases g : (0 : Int) ∈ y
        · have g1 : hasB y 0 = true := by unfold hasB; exact decide_eq_true g
          have g2 := hb g1
          unfold hasB at g2
          rw [sumAt_none 1 rs y (of_decide_eq_false g2)]
          omega
        · rw [sumAt_none 0 rs y g]
          omega
      omega
end Go.Proofs.Yteobejgkjjhfkaa
