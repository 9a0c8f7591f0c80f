/- The sum of the owners' areas is positive; what a division of a dike is. Plain. -/
import Derived.Test.YtampbbknhbhcbaaAreas
import Derived.Test.YtampbbknhbhcbaaShareSpec
namespace Go.Proofs.Ytampbbknhbhcbaa
open Go.RowKit
set_option linter.unusedVariables false
theorem sumW_addAt {l : List Int} {o n : Int} (h : o.toNat < l.length) : ∀ k, sumW (addAt l o n) k = sumW l k + if o.toNat < k then n else 0
  | 0 => by simp [sumW]
  | k + 1 => by
    have ih := sumW_addAt (n := n) h k
    simp only [sumW]
    rw [ih]
    unfold addAt
    rw [List.getD_eq_getElem?_getD, List.getElem?_set, List.getD_eq_getElem?_getD, List.getD_eq_getElem?_getD]
    by_cases h1 : o.toNat = k
    · subst h1
      rw [if_pos rfl, if_pos h, if_neg (by omega), if_pos (by omega)]
      simp only [Option.getD_some]
      omega
    · rw [if_neg h1]
      split <;> split <;> omega
def areaSum (xs : List Parcel) : Int := xs.foldr (fun x s => x.a + s) 0
theorem areaSum_bd : ∀ {xs : List Parcel}, xs.all parB = true → (xs.length : Int) ≤ areaSum xs ∧ areaSum xs ≤ 10000000 * (xs.length : Int)
  | [], _ => by simp [areaSum]
  | x :: r, h => by
    rw [List.all_cons, Bool.and_eq_true] at h
    have h1 := parB_range h.1
    have h2 := areaSum_bd h.2
    have h3 : areaSum (x :: r) = x.a + areaSum r := rfl
    rw [h3, List.length_cons]
    omega
theorem sumW_zero (n : Nat) : ∀ k, sumW (List.replicate n 0) k = 0
  | 0 => rfl
  | k + 1 => by rw [sumW, sumW_zero n k, replicate_getD]; rfl
theorem sumW_areas {xs : List Parcel} (h : xs.all parB = true) : sumW (areasL xs) 40 = areaSum xs := by
  unfold areasL
  suffices h : ∀ (ys : List Parcel) (l : List Int), ys.all parB = true → l.length = 40 → sumW (ys.foldl (fun l x => addAt l x.o x.a) l) 40 = sumW l 40 + areaSum ys by
    rw [h xs _ ‹_› (by simp), sumW_zero]; omega
  intro ys
  induction ys with
  | nil => intro l _ _; simp [areaSum]
  | cons y r ih =>
    intro l ha hl
    rw [List.all_cons, Bool.and_eq_true] at ha
    have hy := parB_range ha.1
    rw [List.foldl_cons, ih _ ha.2 (by rw [addAt_len, hl]), sumW_addAt (by omega), if_pos (by omega)]
    have h3 : areaSum (y :: r) = y.a + areaSum r := rfl
    omega
theorem areas_mem {xs : List Parcel} (h : okP xs = true) : ∀ x ∈ areasL xs, 0 ≤ x ∧ x ≤ 600000000 := by
  intro x hx
  obtain ⟨k, hk, rfl⟩ := List.getElem_of_mem hx
  have h1 := areas_bd (okP_all h) k
  have h2 := okP_len h
  rw [getD_int hk] at h1
  omega
theorem areas_share {xs : List Parcel} {T : Int} (h : okP xs = true) (h0 : xs ≠ []) (hT : 0 ≤ T ∧ T ≤ 1000000000) : ShOk T (areaSum xs) (areasL xs) := by
  have hm := areas_mem h
  have hs := areaSum_bd (okP_all h)
  have hl := okP_len h
  have h1 : 1 ≤ xs.length := List.length_pos_iff.2 h0
  refine ⟨by rw [areas_len]; omega, hT, by rw [areas_len]; exact sumW_areas (okP_all h), by omega, fun x hx => ?_, fun x hx => ?_⟩
  · have := hm x hx; omega
  · have := hm x hx
    exact Int.le_trans (Int.mul_le_mul hT.2 this.2 this.1 (by omega)) (by omega)
/-- The duties of the first k owners, and how far they reach. -/
def divAt (l : List Int) : Nat → List Duty × Int
  | 0 => ([], 0)
  | k + 1 => if 0 < l.getD k 0 then ((divAt l k).1 ++ [⟨k, (divAt l k).2, (divAt l k).2 + l.getD k 0⟩], (divAt l k).2 + l.getD k 0) else divAt l k
theorem divAt_len (l : List Int) : ∀ k, (divAt l k).1.length ≤ k
  | 0 => Nat.le_refl _
  | k + 1 => by
    have := divAt_len l k
    rw [divAt]
    split
    · simp; omega
    · omega
theorem divAt_bd {l : List Int} {m : Int} (h : ∀ i, 0 ≤ l.getD i 0 ∧ l.getD i 0 ≤ m) : ∀ k : Nat, 0 ≤ (divAt l k).2 ∧ (divAt l k).2 ≤ m * k
  | 0 => by simp [divAt]
  | k + 1 => by
    have h1 := divAt_bd h k
    have h2 := h k
    have h3 : m * ((k + 1 : Nat) : Int) = m * k + m := by rw [Int.natCast_add, Int.mul_add]; simp
    rw [divAt, h3]
    split
    · simp only; omega
    · omega
theorem base_le {T S : Int} {ws : List Int} (h : ShOk T S ws) {k : Nat} (hk : k < ws.length) : baseAt T S ws k ≤ T := by
  have h1 := (sumB_range h k (by omega)).1
  have h2 := (sumB_range h (k + 1) (by omega)).2
  have h3 := h.left.1
  rw [sumB] at h2
  omega
theorem share_bd {T S : Int} {ws : List Int} (h : ShOk T S ws) (i : Nat) : 0 ≤ (shareL T S ws).getD i 0 ∧ (shareL T S ws).getD i 0 ≤ T + 1 := by
  have hT := h.tot
  by_cases hi : i < (shareL T S ws).length
  · rw [getD_int hi]
    unfold shareL at hi ⊢
    rw [shareJ_get]
    rw [shareJ_len] at hi
    have h1 := (h.at_ hi).2.1.1
    have h2 := base_le h hi
    have h3 := shareAt_range (j := leftN T S ws) h1
    omega
  · rw [List.getD_eq_getElem?_getD, List.getElem?_eq_none (by omega), Option.getD_none]
    omega
end Go.Proofs.Ytampbbknhbhcbaa
