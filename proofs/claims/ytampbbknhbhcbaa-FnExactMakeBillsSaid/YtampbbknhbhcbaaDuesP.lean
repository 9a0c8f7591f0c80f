/- Dues and bills: plain. -/
import Derived.Test.YtampbbknhbhcbaaAreaSum
import Derived.Test.YtampbbknhbhcbaaBill
namespace Go.Proofs.Ytampbbknhbhcbaa
set_option linter.unusedVariables false
/-- The weights of parcels. -/
def wtL (xs : List Parcel) (fs : List Int) : List Int := xs.map fun x => x.a * fs.getD x.k.toNat 0
theorem wtL_len (xs : List Parcel) (fs : List Int) : (wtL xs fs).length = xs.length := by simp [wtL]
theorem wtL_next {xs : List Parcel} {fs : List Int} {k : Nat} (hk : k < xs.length) : wtL (xs.take (k + 1)) fs = wtL (xs.take k) fs ++ [xs[k].a * fs.getD xs[k].k.toNat 0] := by
  rw [wtL, take_next hk, List.map_append]; rfl
def facB (fs : List Int) : Bool := fs.all fun n => inB n 0 10
theorem facB_at {fs : List Int} (h : facB fs = true) (k : Nat) : 0 ≤ fs.getD k 0 ∧ fs.getD k 0 ≤ 10 := by
  by_cases hk : k < fs.length
  · rw [getD_int hk]
    exact inB_true.1 (List.all_eq_true.1 h _ (List.getElem_mem hk))
  · rw [List.getD_eq_getElem?_getD, List.getElem?_eq_none (by omega), Option.getD_none]; omega
theorem wt_bd {a f : Int} (ha : 1 ≤ a ∧ a ≤ 10000000) (hf : 0 ≤ f ∧ f ≤ 10) : 0 ≤ a * f ∧ a * f ≤ 100000000 := by
  refine ⟨Int.mul_nonneg (by omega) hf.1, ?_⟩
  exact Int.le_trans (Int.mul_le_mul ha.2 hf.2 hf.1 (by omega)) (by omega)
theorem wtL_mem {xs : List Parcel} {fs : List Int} (h : okP xs = true) (hf : facB fs = true) : ∀ x ∈ wtL xs fs, 0 ≤ x ∧ x ≤ 100000000 := by
  intro x hx
  obtain ⟨y, hy, rfl⟩ := List.mem_map.1 hx
  obtain ⟨-, -, ha, -⟩ := parB_range (List.all_eq_true.1 (okP_all h) y hy)
  exact wt_bd ha (facB_at hf _)
theorem sumW_bd {l : List Int} {m : Int} (h : ∀ i, 0 ≤ l.getD i 0 ∧ l.getD i 0 ≤ m) : ∀ k : Nat, 0 ≤ sumW l k ∧ sumW l k ≤ m * (k : Int)
  | 0 => by simp [sumW]
  | k + 1 => by
    have h1 := sumW_bd h k
    have h2 := h k
    have h3 : m * ((k + 1 : Nat) : Int) = m * k + m := by rw [Int.natCast_add, Int.mul_add]; simp
    rw [sumW, h3]
    omega
theorem wtL_getD {xs : List Parcel} {fs : List Int} (h : okP xs = true) (hf : facB fs = true) (i : Nat) : 0 ≤ (wtL xs fs).getD i 0 ∧ (wtL xs fs).getD i 0 ≤ 100000000 := by
  by_cases hk : i < (wtL xs fs).length
  · rw [getD_int hk]
    exact wtL_mem h hf _ (List.getElem_mem hk)
  · rw [List.getD_eq_getElem?_getD, List.getElem?_eq_none (by omega), Option.getD_none]; omega
def wtS (xs : List Parcel) (fs : List Int) : Int := sumW (wtL xs fs) (wtL xs fs).length
theorem wt_share {xs : List Parcel} {fs : List Int} {T : Int} (h : okP xs = true) (hf : facB fs = true) (h0 : wtS xs fs ≠ 0) (hT : 0 ≤ T ∧ T ≤ 1000000000) : ShOk T (wtS xs fs) (wtL xs fs) := by
  have hm := wtL_mem h hf
  have hl := okP_len h
  have hb := sumW_bd (wtL_getD h hf) (wtL xs fs).length
  have hlen := wtL_len xs fs
  have hS : wtS xs fs = sumW (wtL xs fs) (wtL xs fs).length := rfl
  have h1 : 1 ≤ (wtL xs fs).length := by
    rcases Nat.eq_zero_or_pos (wtL xs fs).length with e | e
    · exfalso; apply h0; rw [hS, e]; rfl
    · exact e
  refine ⟨by omega, hT, rfl, by rw [hS] at h0 ⊢; omega, fun x hx => ?_, fun x hx => ?_⟩
  · have := hm x hx; omega
  · have := hm x hx
    exact Int.le_trans (Int.mul_le_mul hT.2 this.2 this.1 (by omega)) (by omega)
/-- The dues of the first k parcels, by owners. -/
def dueJ (xs : List Parcel) (sh : List Int) : Nat → List Int
  | 0 => List.replicate 40 0
  | k + 1 => addAt (dueJ xs sh k) ((xs[k]?.map (·.o)).getD 0) (sh.getD k 0)
theorem dueJ_len (xs : List Parcel) (sh : List Int) : ∀ k, (dueJ xs sh k).length = 40
  | 0 => by simp [dueJ]
  | k + 1 => by rw [dueJ, addAt_len, dueJ_len xs sh k]
theorem dueJ_next {xs : List Parcel} {sh : List Int} {k : Nat} (hk : k < xs.length) : dueJ xs sh (k + 1) = (dueJ xs sh k).set xs[k].o.toNat ((dueJ xs sh k).getD xs[k].o.toNat 0 + sh.getD k 0) := by
  rw [dueJ, List.getElem?_eq_getElem hk]
  rfl
theorem dueJ_bd (xs : List Parcel) {sh : List Int} {m : Int} (hm : 0 ≤ m) (h : ∀ i, 0 ≤ sh.getD i 0 ∧ sh.getD i 0 ≤ m) : ∀ (k i : Nat), 0 ≤ (dueJ xs sh k).getD i 0 ∧ (dueJ xs sh k).getD i 0 ≤ m * (k : Int)
  | 0, i => by rw [dueJ, replicate_getD]; simp
  | k + 1, i => by
    have h3 : m * ((k + 1 : Nat) : Int) = m * k + m := by rw [Int.natCast_add, Int.mul_add]; simp
    rw [dueJ, h3]
    exact addAt_bd (h k) (dueJ_bd xs hm h k) i
def dueL (xs : List Parcel) (fs : List Int) (T : Int) : List Int := dueJ xs (shareL T (wtS xs fs) (wtL xs fs)) xs.length
theorem dueL_len (xs : List Parcel) (fs : List Int) (T : Int) : (dueL xs fs T).length = 40 := dueJ_len _ _ _
theorem dueL_bd {xs : List Parcel} {fs : List Int} {T : Int} (h : okP xs = true) (hf : facB fs = true) (h0 : wtS xs fs ≠ 0) (hT : 0 ≤ T ∧ T ≤ 1000000000) (i : Nat) : 0 ≤ (dueL xs fs T).getD i 0 ∧ (dueL xs fs T).getD i 0 ≤ 1000000001 * 60 := by
  have h1 := dueJ_bd xs (sh := shareL T (wtS xs fs) (wtL xs fs)) (m := 1000000001) (by omega) (fun i => by have h5 := share_bd (wt_share h hf h0 hT) i; exact ⟨h5.1, by have := h5.2; omega⟩) xs.length i
  have := okP_len h
  unfold dueL
  omega
def dueC (xs : List Parcel) (fs : List Int) (T : Int) : Int :=
  if okP xs = true then if fs.length = 4 ∧ facB fs = true ∧ inB T 0 1000000000 = true then if wtS xs fs = 0 then 6 else 0 else 2 else 1
theorem dueC_ok {xs : List Parcel} {fs : List Int} {T : Int} (h : dueC xs fs T = 0) : okP xs = true ∧ fs.length = 4 ∧ facB fs = true ∧ (0 ≤ T ∧ T ≤ 1000000000) ∧ wtS xs fs ≠ 0 := by
  unfold dueC at h
  split at h
  · split at h
    · split at h
      · omega
      · rename_i a b c
        exact ⟨a, b.1, b.2.1, inB_true.1 b.2.2, c⟩
    · omega
  · omega
def duesF (xs : List Parcel) (fs : List Int) (T : Int) : List Int × Int := if dueC xs fs T = 0 then (dueL xs fs T, 0) else ([], dueC xs fs T)
theorem duesF_len (xs : List Parcel) (fs : List Int) (T : Int) : (duesF xs fs T).1.length ≤ 40 := by
  unfold duesF
  split
  · simp [dueL_len]
  · simp
/-- The bills of the first k owners. -/
def billAt (l : List Int) (day : Int) : Nat → List Bill
  | 0 => []
  | k + 1 => if 0 < l.getD k 0 then billAt l day k ++ [⟨k, day, l.getD k 0, 0⟩] else billAt l day k
theorem billAt_len (l : List Int) (day : Int) : ∀ k, (billAt l day k).length ≤ k
  | 0 => Nat.le_refl _
  | k + 1 => by
    have := billAt_len l day k
    rw [billAt]
    split
    · simp; omega
    · omega
def billsF (xs : List Parcel) (fs : List Int) (T day : Int) : List Bill × Int :=
  if dueC xs fs T = 1 then ([], 1) else if inB day 0 100000 = true then if dueC xs fs T = 0 then (billAt (dueL xs fs T) day 40, 0) else ([], dueC xs fs T) else ([], 2)
theorem billsF_len (xs : List Parcel) (fs : List Int) (T day : Int) : (billsF xs fs T day).1.length ≤ 40 := by
  unfold billsF
  split
  · simp
  · split
    · split
      · exact billAt_len _ _ _
      · simp
    · simp
end Go.Proofs.Ytampbbknhbhcbaa
