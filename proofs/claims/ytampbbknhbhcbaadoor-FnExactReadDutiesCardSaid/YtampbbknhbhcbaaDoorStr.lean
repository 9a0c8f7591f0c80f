/- Numbers in decimal and the joining of texts: what the two sides' walks use. -/
import Derived.Test.YtampbbknhbhcbaaDoorDec
import Derived.Test.YtampbbknhbhcbaaDoorShelf
namespace Go.Proofs.YtampbbknhbhcbaaDoor
open Go.RowKit
set_option linter.unusedVariables false
/-- The table that FormatInt reads. -/
def Tab (w : World) : Prop := Lib.TabIs Tryd.prog w "internal/strconv.uint64pow10" .u64 Lib.pow10Tab
theorem tab_global : ∃ g, Tryd.prog.globalNamed "internal/strconv.uint64pow10" = some g := by
  have h : (Tryd.prog.globalNamed "internal/strconv.uint64pow10").isSome = true := by kernel_rfl
  exact Option.isSome_iff_exists.1 h
theorem Tab.below {w w' : World} (h : Tab w) (hb : Below w.heap.size w w') : Tab w' := by
  obtain ⟨g, hg⟩ := tab_global
  unfold Tab Lib.TabIs World.var? at h ⊢
  rw [hg] at h ⊢
  simp only [Option.bind_some] at h ⊢
  have hlt : g < w.heap.size := by
    rcases Nat.lt_or_ge g w.heap.size with h' | h'
    · exact h'
    · rw [Array.getElem?_eq_none h'] at h; cases h
  rw [hb.block g hlt]
  exact h
theorem Tab.more {w x : World} (h : Tab w) : Tab (w.more x) := h.below more_below
theorem Tab.drew {w : World} (h : Tab w) : Tab w.drew := h
theorem Tab.alloc {w : World} (h : Tab w) (o : Obj) : Tab (w.alloc o) := h.below ((Below.refl _ _).alloc (Nat.le_refl _) o)
/-- Two texts joined. -/
theorem cat {x y z : List UInt8} (hz : x ++ y = z) (hx : x.length ≤ 8000000) (hy : y.length ≤ 8000000) (w : World) :
    (Op.stringOp .add ⟨x.toArray⟩ ⟨y.toArray⟩).run Tryd.prog w = .ok (.string ⟨z.toArray⟩) w := by
  subst hz
  exact run_string_add_lists w x y (by omega) (by omega)
theorem below_lib (w : World) (k : Nat) (os : Array Obj) : Below w.heap.size w (Go.Sort.grow (w.drewN k) os) :=
  ⟨rfl, rfl, rfl, by show w.heap.size ≤ (w.heap ++ os).size; rw [Array.size_append]; omega, fun j hj => by
    show (w.heap ++ os)[j]? = w.heap[j]?
    exact Array.getElem?_append_left hj⟩
theorem specDecE (n : Int) (L : List UInt8) (h0 : -9223372036854775808 ≤ n) (h1 : n ≤ 9223372036854775807) (hL : Hid (Lib.itoa n = L)) (w : World) :
    Calls Tryd.prog 41 #[.int .i64 n] w fun e w' => e = .returned (.string ⟨L.toArray⟩) ∧ Below w.heap.size w w' := by
  rw [← hL.out]
  exact specDec n h0 h1 w
theorem implDecE (n : Int) (L : List UInt8) (h0 : -9223372036854775808 ≤ n) (h1 : n ≤ 9223372036854775807) (hL : Hid (Lib.itoa n = L)) (w : World) (ht : Tab w) :
    Calls Tryd.prog 32 #[.int .i64 n] w fun e w' => e = .returned (.string ⟨L.toArray⟩) ∧ Below w.heap.size w w' := by
  have HC := hid (Tryd.strconv_FormatInt_10 n h0 h1 w ht)
  rw [hL.out] at HC
  clear hL
  go_enter Tryd.func32, Tryd.ntmps32
  go_wp2_with (refine HC.out.mono ?_; rintro e w' ⟨rfl, k, os, rfl⟩; refine keep_ ?_)
  refine go_ ?_
  go_wp2_with fail
  go_ret
  exact ⟨rfl, below_lib _ _ _⟩
end Go.Proofs.YtampbbknhbhcbaaDoor
