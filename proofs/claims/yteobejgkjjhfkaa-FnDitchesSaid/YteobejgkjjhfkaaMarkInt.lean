/- What the law's own helpers make of []int64: sz, to, eq, mark, held. -/
import Derived.Test.YteobejgkjjhfkaaLaw
namespace Go.Proofs.Yteobejgkjjhfkaa
open Go.RowKit
theorem elInt : El Try.prog 24 2 (0 : Int) :=
  El.mk' (z := .int .i64 0) (bytes := 8) Try.underlying24 (by kernel_rfl) (by decide) rfl (by decide)
theorem Own.int {w : World} {base : Nat} {e : TypeId} {g n c : Nat} {xs : List Int} (h : Own w base e (.slice (some ⟨g, 0, none⟩) n c) xs) {k : Nat} (hk : k < xs.length) :
    w.cell? ⟨g, k, none⟩ = some (.int .i64 xs[k]) ∧ w.frozen? ⟨g, k, none⟩ = false :=
  ⟨by simpa [Enc.size] using h.cell (j := 0) hk rfl, h.free _⟩
theorem Own.intSet {w : World} {base : Nat} {e : TypeId} {g n c : Nat} {xs : List Int} (h : Own w base e (.slice (some ⟨g, 0, none⟩) n c) xs) {k : Nat} (hk : k < xs.length) (d : Int) :
    Own (w.setCell ⟨g, k, none⟩ (.int .i64 d)) base e (.slice (some ⟨g, 0, none⟩) n c) (xs.set k d) := by
  have h1 := h.set (j := 0) (u := .int .i64 d) (y := d) hk (by decide) rfl
  simpa [Enc.size] using h1
/-- The marks k, k + 1, .. -/
def marks (k : Int) (n : Nat) : List Int := (List.range n).map fun (i : Nat) => k + (i : Int)
theorem marks_len (k : Int) (n : Nat) : (marks k n).length = n := by simp [marks]
theorem marks_get (k : Int) (n i : Nat) (h : i < (marks k n).length) : (marks k n)[i] = k + i := by simp [marks]
theorem mark_step {α : Type} {f : Nat → α} {xs : List α} {k : Nat} (hk : k < xs.length) : ((List.range k).map f ++ xs.drop k).set k (f k) = (List.range (k + 1)).map f ++ xs.drop (k + 1) := by
  rw [List.set_append_right _ _ (by simp), List.length_map, List.length_range, Nat.sub_self, List.drop_eq_getElem_cons hk, List.set_cons_zero, List.range_succ]
  simp
theorem mark_end {α : Type} {f : Nat → α} {xs : List α} {k : Nat} (hk : ¬ k < xs.length) (hk' : k ≤ xs.length) : (List.range k).map f ++ xs.drop k = (List.range xs.length).map f := by
  have : k = xs.length := by omega
  subst this
  simp

end Go.Proofs.Yteobejgkjjhfkaa
