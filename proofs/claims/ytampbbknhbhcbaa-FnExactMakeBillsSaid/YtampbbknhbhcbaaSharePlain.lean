/- Shares: who gets one more: plain. -/
import Derived.Test.YtampbbknhbhcbaaSortIns
import Derived.Test.YtampbbknhbhcbaaKind
namespace Go.Proofs.Ytampbbknhbhcbaa
set_option linter.unusedVariables false
def baseAt (T S : Int) (ws : List Int) (k : Nat) : Int := (T * ws.getD k 0) / S
def remAt (T S : Int) (ws : List Int) (k : Nat) : Int := (T * ws.getD k 0) % S
/-- x gets one more ahead of y. -/
def befR (f : Nat → Int) (x y : Nat) : Prop := f y < f x ∨ (f x = f y ∧ x < y)
theorem befR_trans (f : Nat → Int) (a b c : Nat) (h1 : befR f a b) (h2 : befR f b c) : befR f a c := by
  unfold befR at *
  omega
theorem befR_asym {f : Nat → Int} {a b : Nat} (h1 : befR f a b) (h2 : befR f b a) : False := by
  unfold befR at *
  omega
theorem befR_total (f : Nat → Int) {a b : Nat} (h : a ≠ b) : befR f a b ∨ befR f b a := by
  unfold befR
  omega
def ltR (f : Nat → Int) (x y : Nat) : Bool := decide (f y < f x)
theorem bef_range (f : Nat → Int) (n : Nat) : (List.range n).Pairwise (Bef (ltR f) (befR f)) := by
  rw [List.pairwise_iff_getElem]
  intro i j hi hj hij
  simp only [List.getElem_range]
  unfold Bef ltR befR
  simp only [decide_eq_true_eq, decide_eq_false_iff_not]
  omega
def insR (f : Nat → Int) (x : Nat) : List Nat → List Nat
  | [] => [x]
  | y :: t => if f y < f x ∨ (f x = f y ∧ x < y) then x :: y :: t else y :: insR f x t
theorem insR_perm (f : Nat → Int) (x : Nat) : ∀ l, (insR f x l).Perm (x :: l)
  | [] => List.Perm.refl _
  | y :: t => by
    unfold insR
    split
    · exact List.Perm.refl _
    · exact ((List.perm_cons y).2 (insR_perm f x t)).trans (List.Perm.swap _ _ _)
theorem insR_pair (f : Nat → Int) (x : Nat) : ∀ l, l.Pairwise (befR f) → x ∉ l → (insR f x l).Pairwise (befR f)
  | [], _, _ => by simp [insR]
  | y :: t, h, hx => by
    unfold insR
    rw [List.pairwise_cons] at h
    split
    · rename_i hb
      rw [List.pairwise_cons, List.pairwise_cons]
      refine ⟨fun z hz => ?_, h⟩
      rcases List.mem_cons.1 hz with rfl | hz
      · exact hb
      · exact befR_trans f _ _ _ hb (h.1 z hz)
    · rename_i hb
      rw [List.pairwise_cons]
      refine ⟨fun z hz => ?_, insR_pair f x t h.2 (fun e => hx (by simp [e]))⟩
      rcases List.mem_cons.1 ((insR_perm f x t).mem_iff.1 hz) with rfl | hz
      · rcases befR_total f (a := z) (b := y) (fun e => hx (by simp [e])) with h1 | h1
        · exact absurd h1 hb
        · exact h1
      · exact h.1 z hz
def sortR (f : Nat → Int) : List Nat → List Nat
  | [] => []
  | x :: l => insR f x (sortR f l)
theorem sortR_perm (f : Nat → Int) : ∀ l, (sortR f l).Perm l
  | [] => List.Perm.refl _
  | x :: l => (insR_perm f x _).trans ((List.perm_cons x).2 (sortR_perm f l))
theorem sortR_pair (f : Nat → Int) : ∀ l, l.Nodup → (sortR f l).Pairwise (befR f)
  | [], _ => by simp [sortR]
  | x :: l, h => by
    rw [List.nodup_cons] at h
    exact insR_pair f x _ (sortR_pair f l h.2) (fun e => h.1 ((sortR_perm f l).mem_iff.1 e))
/-- Two sorted lists of the same elements are one. -/
theorem sorted_one {f : Nat → Int} : ∀ {l1 l2 : List Nat}, l1.Perm l2 → l1.Pairwise (befR f) → l2.Pairwise (befR f) → l1 = l2
  | [], l2, h, _, _ => by rw [List.nil_perm.1 h]
  | x :: t, [], h, _, _ => by have := h.length_eq; simp at this
  | x :: t, y :: s, h, h1, h2 => by
    rw [List.pairwise_cons] at h1 h2
    have hxy : x = y := by
      by_cases he : x = y
      · exact he
      · exfalso
        have hx : x ∈ s := by
          rcases List.mem_cons.1 (h.mem_iff.1 (List.mem_cons_self)) with e | e
          · exact absurd e he
          · exact e
        have hy : y ∈ t := by
          rcases List.mem_cons.1 (h.mem_iff.2 (List.mem_cons_self)) with e | e
          · exact absurd e.symm he
          · exact e
        exact befR_asym (h1.1 y hy) (h2.1 x hx)
    subst hxy
    rw [sorted_one ((List.perm_cons x).1 h) h1.2 h2.2]
def ordL (f : Nat → Int) (n : Nat) : List Nat := sortR f (List.range n)
theorem ordL_perm (f : Nat → Int) (n : Nat) : (ordL f n).Perm (List.range n) := sortR_perm f _
theorem ordL_pair (f : Nat → Int) (n : Nat) : (ordL f n).Pairwise (befR f) := sortR_pair f _ List.nodup_range
theorem ordL_len (f : Nat → Int) (n : Nat) : (ordL f n).length = n := by rw [(ordL_perm f n).length_eq, List.length_range]
theorem ordL_one {f : Nat → Int} {n : Nat} {l : List Nat} (h : l.Perm (List.range n)) (h2 : l.Pairwise (befR f)) : l = ordL f n := sorted_one (h.trans (ordL_perm f n).symm) h2 (ordL_pair f n)
theorem ordL_lt {f : Nat → Int} {n k : Nat} (h : k ∈ ordL f n) : k < n := List.mem_range.1 ((ordL_perm f n).mem_iff.1 h)
theorem ordL_get_lt {f : Nat → Int} {n j : Nat} (h : j < (ordL f n).length) : (ordL f n)[j] < n := ordL_lt (List.getElem_mem h)
theorem ordL_inj {f : Nat → Int} {n i j : Nat} (hi : i < (ordL f n).length) (hj : j < (ordL f n).length) (h : (ordL f n)[i] = (ordL f n)[j]) : i = j := by
  have hp := List.pairwise_iff_getElem.1 (ordL_pair f n)
  rcases Nat.lt_trichotomy i j with c | c | c
  · have := hp i j hi hj c
    rw [h] at this
    exact absurd this (fun e => befR_asym e e)
  · exact c
  · have := hp j i hj hi c
    rw [h] at this
    exact absurd this (fun e => befR_asym e e)
def sumB (T S : Int) (ws : List Int) : Nat → Int
  | 0 => 0
  | k + 1 => sumB T S ws k + baseAt T S ws k
def sumR (T S : Int) (ws : List Int) : Nat → Int
  | 0 => 0
  | k + 1 => sumR T S ws k + remAt T S ws k
def sumW (ws : List Int) : Nat → Int
  | 0 => 0
  | k + 1 => sumW ws k + ws.getD k 0
theorem sum_split (T S : Int) (ws : List Int) : ∀ k, T * sumW ws k = S * sumB T S ws k + sumR T S ws k
  | 0 => by simp [sumW, sumB, sumR]
  | k + 1 => by
    have h := sum_split T S ws k
    have h2 := Int.mul_ediv_add_emod (T * ws.getD k 0) S
    simp only [sumW, sumB, sumR, baseAt, remAt, Int.mul_add]
    omega
theorem sumR_range {T S : Int} (ws : List Int) (hS : 0 < S) : ∀ k : Nat, 0 ≤ sumR T S ws k ∧ (0 < k → sumR T S ws k < S * k)
  | 0 => by simp [sumR]
  | k + 1 => by
    obtain ⟨h1, h2⟩ := sumR_range (T := T) ws hS k
    have h3 := Int.emod_nonneg (T * ws.getD k 0) (show S ≠ 0 by omega)
    have h4 := Int.emod_lt_of_pos (T * ws.getD k 0) hS
    have e : S * ((k + 1 : Nat) : Int) = S * (k : Int) + S := by rw [show ((k + 1 : Nat) : Int) = (k : Int) + 1 by omega, Int.mul_add, Int.mul_one]
    simp only [sumR, remAt]
    refine ⟨by omega, fun _ => ?_⟩
    rw [e]
    rcases Nat.eq_zero_or_pos k with h0 | h0
    · subst h0
      have e0 : sumR T S ws 0 = 0 := rfl
      have ez : S * ((0 : Nat) : Int) = 0 := by simp
      omega
    · have := h2 h0; omega
/-- How many get one more. -/
def leftN (T S : Int) (ws : List Int) : Nat := (T - sumB T S ws ws.length).toNat
theorem left_range {T S : Int} {ws : List Int} (hS : 0 < S) (hs : sumW ws ws.length = S) (h0 : 0 < ws.length) : sumB T S ws ws.length ≤ T ∧ T - sumB T S ws ws.length < ws.length := by
  have h1 := sum_split T S ws ws.length
  obtain ⟨h2, h3⟩ := sumR_range (T := T) ws hS ws.length
  have h4 := h3 h0
  have h1' : S * T = S * sumB T S ws ws.length + sumR T S ws ws.length := by rw [← h1, hs, Int.mul_comm]
  have e : S * (T - sumB T S ws ws.length) = sumR T S ws ws.length := by rw [Int.mul_sub]; omega
  constructor
  · have h5 : 0 ≤ S * (T - sumB T S ws ws.length) := by omega
    apply Int.le_of_not_gt
    intro hc
    have := Int.mul_neg_of_pos_of_neg hS (show T - sumB T S ws ws.length < 0 by omega)
    omega
  · have h5 : S * (T - sumB T S ws ws.length) < S * ws.length := by omega
    exact Int.lt_of_mul_lt_mul_left h5 (by omega)
def bump (l : List Nat) (k : Nat) : Int := if k ∈ l then 1 else 0
def shareAt (T S : Int) (ws : List Int) (j : Nat) (k : Nat) : Int := baseAt T S ws k + bump ((ordL (remAt T S ws) ws.length).take j) k
def shareJ (T S : Int) (ws : List Int) (j : Nat) : List Int := (List.range ws.length).map (shareAt T S ws j)
/-- The shares. -/
def shareL (T S : Int) (ws : List Int) : List Int := shareJ T S ws (leftN T S ws)
theorem shareJ_len (T S : Int) (ws : List Int) (j : Nat) : (shareJ T S ws j).length = ws.length := by simp [shareJ]
theorem shareJ_get {T S : Int} {ws : List Int} {j k : Nat} (h : k < (shareJ T S ws j).length) : (shareJ T S ws j)[k] = shareAt T S ws j k := by simp [shareJ]
/-- One more of them. -/
theorem shareJ_step {T S : Int} {ws : List Int} {j : Nat} (hj : j < (ordL (remAt T S ws) ws.length).length) :
    shareJ T S ws (j + 1) = (shareJ T S ws j).set (ordL (remAt T S ws) ws.length)[j] (shareAt T S ws j (ordL (remAt T S ws) ws.length)[j] + 1) := by
  apply List.ext_getElem
  · rw [List.length_set, shareJ_len, shareJ_len]
  · intro k h1 h2
    rw [shareJ_get, List.getElem_set]
    have hb : ∀ x, bump ((ordL (remAt T S ws) ws.length).take (j + 1)) x = bump ((ordL (remAt T S ws) ws.length).take j) x + (if (ordL (remAt T S ws) ws.length)[j] = x then 1 else 0) := fun x => by
      unfold bump
      rw [List.take_succ_eq_append_getElem hj]
      by_cases hx : (ordL (remAt T S ws) ws.length)[j] = x
      · have hn : x ∉ (ordL (remAt T S ws) ws.length).take j := fun e => by
          obtain ⟨i, hi, he⟩ := List.getElem_of_mem e
          rw [List.length_take] at hi
          rw [List.getElem_take] at he
          have := ordL_inj (by omega) hj (he.trans hx.symm)
          omega
        rw [if_pos hx, if_neg hn, if_pos (List.mem_append.2 (.inr (by rw [hx]; exact List.mem_singleton.2 rfl)))]
        rfl
      · rw [if_neg hx]
        by_cases hm : x ∈ (ordL (remAt T S ws) ws.length).take j
        · rw [if_pos (List.mem_append.2 (.inl hm)), if_pos hm]; rfl
        · rw [if_neg (fun e => (List.mem_append.1 e).elim hm (fun e => hx (List.mem_singleton.1 e).symm)), if_neg hm]; rfl
    rw [shareJ_get]
    by_cases hk : (ordL (remAt T S ws) ws.length)[j] = k
    · rw [if_pos hk]
      simp only [shareAt]
      rw [hb, if_pos hk, hk]
      omega
    · rw [if_neg hk]
      simp only [shareAt]
      rw [hb, if_neg hk]
      omega
theorem share_zero (T S : Int) (ws : List Int) : shareJ T S ws 0 = (List.range ws.length).map (baseAt T S ws) := by
  unfold shareJ
  congr 1
  funext k
  simp [shareAt, bump]
theorem shareAt_range {T S : Int} {ws : List Int} {j k : Nat} (h : 0 ≤ baseAt T S ws k) : baseAt T S ws k ≤ shareAt T S ws j k ∧ shareAt T S ws j k ≤ baseAt T S ws k + 1 := by
  unfold shareAt bump
  split <;> omega
end Go.Proofs.Ytampbbknhbhcbaa
