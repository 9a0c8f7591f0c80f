/- Duties less shares: plain. -/
import Derived.Test.YtampbbknhbhcbaaAreaSum
import Derived.Test.YtampbbknhbhcbaaDutyPlain
namespace Go.Proofs.Ytampbbknhbhcbaa
set_option linter.unusedVariables false
/-- How many metres each owner maintains. -/
def addL (xs : List Duty) : List Int := xs.foldl (fun l x => addAt l x.o (x.t - x.f)) (List.replicate 40 0)
theorem addL_next {xs : List Duty} {k : Nat} (hk : k < xs.length) : addL (xs.take (k + 1)) = addAt (addL (xs.take k)) xs[k].o (xs[k].t - xs[k].f) := foldl_next _ _ hk
theorem addL_len (xs : List Duty) : (addL xs).length = 40 := by
  unfold addL
  suffices h : ∀ (ys : List Duty) (l : List Int), (ys.foldl (fun l x => addAt l x.o (x.t - x.f)) l).length = l.length by rw [h]; simp
  intro ys
  induction ys with
  | nil => intro l; rfl
  | cons y r ih => intro l; rw [List.foldl_cons, ih, addAt_len]
theorem addAt_getD {l : List Int} {o n : Int} (h0 : 0 ≤ o) (h : o.toNat < l.length) (k : Nat) : (addAt l o n).getD k 0 = if o = (k : Int) then l.getD k 0 + n else l.getD k 0 := by
  unfold addAt
  rw [List.getD_eq_getElem?_getD, List.getElem?_set, List.getD_eq_getElem?_getD, List.getD_eq_getElem?_getD]
  by_cases h1 : o.toNat = k
  · subst h1
    rw [if_pos rfl, if_pos h, if_pos (by omega)]
    simp only [Option.getD_some]
  · rw [if_neg h1, if_neg (by omega)]
theorem addL_getD {xs : List Duty} (h : ∀ x ∈ xs, 0 ≤ x.o ∧ x.o ≤ 39) (k : Nat) : (addL xs).getD k 0 = sumOf k xs := by
  unfold addL sumOf
  suffices h : ∀ (ys : List Duty) (l : List Int) (z : Int), (∀ x ∈ ys, 0 ≤ x.o ∧ x.o ≤ 39) → l.length = 40 → l.getD k 0 = z → (ys.foldl (fun l x => addAt l x.o (x.t - x.f)) l).getD k 0 = ys.foldl (sumStep k) z by
    exact h xs _ 0 ‹_› (by simp) (replicate_getD _ _)
  intro ys
  induction ys with
  | nil => intro l z _ _ hz; exact hz
  | cons y r ih =>
    intro l z ha hl hz
    rw [List.foldl_cons, List.foldl_cons]
    have hy := ha y (by simp)
    refine ih _ _ (fun x hx => ha x (by simp [hx])) (by rw [addAt_len, hl]) ?_
    rw [addAt_getD hy.1 (by omega), hz, sumStep]
/-- What each owner maintains, less the share. -/
def unfAt (xs : List Duty) (sh : List Int) (k : Nat) : Int := sumOf k xs - sh.getD k 0
def unfL (xs : List Duty) (sh : List Int) : List Int := (List.range 40).map (unfAt xs sh)
theorem unfL_len (xs : List Duty) (sh : List Int) : (unfL xs sh).length = 40 := by simp [unfL]
/-- The first k are less their shares already. -/
def unfJ (xs : List Duty) (sh : List Int) (k : Nat) : List Int := (List.range k).map (unfAt xs sh) ++ (addL xs).drop k
theorem unfJ_len (xs : List Duty) (sh : List Int) {k : Nat} (hk : k ≤ 40) : (unfJ xs sh k).length = 40 := by
  simp only [unfJ, List.length_append, List.length_map, List.length_range, List.length_drop, addL_len]; omega
theorem unfJ_at {xs : List Duty} (h : ∀ x ∈ xs, 0 ≤ x.o ∧ x.o ≤ 39) (sh : List Int) {k : Nat} (hk : k < 40) : (unfJ xs sh k).getD k 0 = sumOf k xs := by
  rw [← addL_getD h, unfJ, List.getD_eq_getElem?_getD, List.getElem?_append_right (by simp), List.getElem?_drop, List.getD_eq_getElem?_getD]
  simp
theorem unfJ_step (xs : List Duty) (sh : List Int) {k : Nat} (hk : k < 40) : (unfJ xs sh k).set k (unfAt xs sh k) = unfJ xs sh (k + 1) := mark_step (by rw [addL_len]; exact hk)
theorem unfJ_end (xs : List Duty) (sh : List Int) : unfJ xs sh 40 = unfL xs sh := by
  unfold unfJ unfL
  rw [List.drop_of_length_le (by rw [addL_len]; exact Nat.le_refl _), List.append_nil]
theorem unfJ_zero (xs : List Duty) (sh : List Int) : unfJ xs sh 0 = addL xs := by simp [unfJ]
def shL (xs : List Parcel) (T : Int) : List Int := shareL T (areaSum xs) (areasL xs)
theorem shL_len (xs : List Parcel) (T : Int) : (shL xs T).length = 40 := by rw [shL, shareL, shareJ_len, areas_len]
def unfair (xs : List Duty) (T : Int) (ps : List Parcel) : List Int × Int :=
  if validB xs T = true ∧ okP ps = true then if ps = [] then ([], 3) else (unfL xs (shL ps T), 0) else ([], 1)
theorem unfair_len (xs : List Duty) (T : Int) (ps : List Parcel) : (unfair xs T ps).1.length ≤ 40 := by
  unfold unfair
  split
  · split
    · simp
    · simp [unfL_len]
  · simp
/-- The duties of a division. -/
def divL (xs : List Parcel) (T : Int) : List Duty × Int :=
  if okP xs = true then if inB T 1 300000 = true then if xs = [] then ([], 3) else ((divAt (shL xs T) 40).1, 0) else ([], 2) else ([], 1)
theorem divL_len (xs : List Parcel) (T : Int) : (divL xs T).1.length ≤ 40 := by
  unfold divL
  split
  · split
    · split
      · simp
      · exact divAt_len _ _
    · simp
  · simp
end Go.Proofs.Ytampbbknhbhcbaa
