/- What lies in a range of blocks; a change of such a range alone. -/
import Derived.Test.YteobejgkjjhfkaaMarkInt
import Derived.Test.YteobejgkjjhfkaaLaw
namespace Go.Proofs.Yteobejgkjjhfkaa
open Go.RowKit
/-- Of w's blocks only those from lo to below hi may have changed. -/
structure Span (w w' : World) (lo hi : Nat) : Prop where
  os : w'.os = w.os
  tape : w'.tape = w.tape
  output : w'.output = w.output
  size : w.heap.size ≤ w'.heap.size
  block : ∀ k, k < w.heap.size → (k < lo ∨ hi ≤ k) → w'.heap[k]? = w.heap[k]?
section
variable {w w' w1 w2 x : World} {lo hi : Nat}
theorem Span.refl (w : World) (lo hi : Nat) : Span w w lo hi := ⟨rfl, rfl, rfl, Nat.le_refl _, fun _ _ _ => rfl⟩
theorem Span.trans (h1 : Span w w1 lo hi) (h2 : Span w1 w2 lo hi) : Span w w2 lo hi :=
  ⟨h2.os.trans h1.os, h2.tape.trans h1.tape, h2.output.trans h1.output, Nat.le_trans h1.size h2.size, fun k hk hd => (h2.block k (Nat.lt_of_lt_of_le hk h1.size) hd).trans (h1.block k hk hd)⟩
theorem Span.of_grown {u : Value} (h : w.grownBy w' u.ownBlock) (hr : ∀ g, u.ownBlock = some g → lo ≤ g ∧ g < hi) : Span w w' lo hi :=
  ⟨h.os, h.tape, h.output, h.size, fun k hk hd => h.block k hk (fun e => by have := hr k e.symm; omega)⟩
theorem Span.of_below {B : Nat} (h : Below B w w') (hB : w.heap.size ≤ B) : Span w w' lo hi :=
  ⟨h.os, h.tape, h.output, h.size, fun k hk _ => h.block k (by omega)⟩
theorem Span.wide {l2 h2 : Nat} (h : Span w w' lo hi) (h1 : l2 ≤ lo) (h3 : hi ≤ h2) : Span w w' l2 h2 :=
  ⟨h.os, h.tape, h.output, h.size, fun k hk hd => h.block k hk (by omega)⟩
theorem below_span {B : Nat} {a : World} (h : Below B a w) (hs : Span w w' lo hi) (hB : B ≤ lo) (hsz : B ≤ w.heap.size) : Below B a w' :=
  h.trans ⟨hs.os, hs.tape, hs.output, hs.size, fun k hk => hs.block k (by omega) (by omega)⟩
theorem span_cell (hs : Span w w' lo hi) {p : Addr} {v : Value} (h : w.cell? p = some v) (hp : p.block < lo ∨ hi ≤ p.block) : w'.cell? p = some v :=
  (World.cell?_of_block (hs.block p.block (World.block_lt_of_cell? w p h) hp)).trans h
theorem span_set (h : Span w w' lo hi) {p : Addr} (hp : lo ≤ p.block ∧ p.block < hi) (u : Value) : Span w (w'.setCell p u) lo hi :=
  ⟨h.os, h.tape, h.output, by simpa [World.setCell] using h.size, fun k hk hd => (Below.heap_setCell w' p u k (by omega)).trans (h.block k hk hd)⟩
theorem undrew {W W' : World} (h : Below W.drew.heap.size W.drew W') : Below W.heap.size W W' := ⟨h.os, h.tape, h.output, h.size, h.block⟩
/-- A row of the call's own in blocks from lo to below hi. -/
def Lies {α : Type} [Enc α] (w : World) (lo hi : Nat) (e : TypeId) (v : Value) (xs : List α) : Prop :=
  Own w lo e v xs ∧ hi ≤ w.heap.size ∧ ∀ g, v.ownBlock = some g → g < hi
variable {α : Type} [Enc α] {e : TypeId} {v : Value} {xs : List α}
theorem Own.cap {A : Option Addr} {n c : Nat} (h : Own w lo e (.slice A n c) xs) : n ≤ c := by
  rcases h.2 with ⟨h0, _⟩ | ⟨g, cap, cur, hv, _, _, hc, _⟩
  · injection h0 with _ a b
    omega
  · injection hv with _ a b
    omega
theorem Lies.of (h : Own w lo e v xs) : Lies w lo w.heap.size e v xs := ⟨h, Nat.le_refl _, fun g hg => (h.block g hg).2⟩
theorem Lies.form (h : Lies w lo hi e v xs) : ∃ A c, v = .slice A xs.length c := h.1.form
theorem Lies.below (h : Lies w lo hi e v xs) (hb : Below w.heap.size w w') : Lies w' lo hi e v xs := ⟨h.1.below hb, Nat.le_trans h.2.1 hb.size, h.2.2⟩
theorem Lies.more (h : Lies w lo hi e v xs) : Lies (w.more x) lo hi e v xs := h.below more_below
theorem Lies.wide {l2 h2 : Nat} (h : Lies w lo hi e v xs) (h1 : l2 ≤ lo) (h3 : hi ≤ h2) (h4 : h2 ≤ w.heap.size) : Lies w l2 h2 e v xs := ⟨h.1.mono h1, h4, fun g hg => by have := h.2.2 g hg; omega⟩
theorem Lies.rd {A : Option Addr} {n c : Nat} (h : Lies w lo hi e (.slice A n c) xs) (hl : xs.length ≤ 1048576) : Rd w A xs := h.1.rd hl
theorem Lies.span {l2 h2 : Nat} (h : Lies w lo hi e v xs) (hs : Span w w' l2 h2) (hd : hi ≤ l2 ∨ h2 ≤ lo) : Lies w' lo hi e v xs := by
  refine ⟨⟨h.1.1, ?_⟩, Nat.le_trans h.2.1 hs.size, h.2.2⟩
  rcases h.1.2 with hn | ⟨g, cap, cur, rfl, hb, hgg, rest⟩
  · exact .inl hn
  · refine .inr ⟨g, cap, cur, rfl, hb, ?_, rest⟩
    have hg := h.2.2 g rfl
    rw [hs.block g (Array.getElem?_eq_some_iff.1 hgg).1 (by omega)]
    exact hgg
/-- The same row, its contents new. -/
theorem Lies.marked {ys : List α} (h : Lies w lo hi e v xs) (ho : Own w' lo e v ys) (hs : w.heap.size ≤ w'.heap.size) : Lies w' lo hi e v ys := ⟨ho, Nat.le_trans h.2.1 hs, h.2.2⟩
theorem Lies.spans (h : Lies w lo hi e v xs) (hg : w.grownBy w' v.ownBlock) : Span w w' lo hi := Span.of_grown hg fun g hg' => ⟨(h.1.block g hg').1, h.2.2 g hg'⟩
end
theorem Rd.take {α : Type} [Enc α] {w : World} {A : Option Addr} {xs : List α} (h : Rd w A xs) (k : Nat) : Rd w A (xs.take k) := by
  refine ⟨by have := h.1; rw [List.length_take]; omega, fun i hi => ?_⟩
  have hi' : i < k ∧ i < xs.length := by rw [List.length_take] at hi; omega
  obtain ⟨b, off, hA, hc⟩ := h.2 i hi'.2
  refine ⟨b, off, hA, fun j v hv => hc j v ?_⟩
  rw [← hv]
  congr 2
  rw [List.getElem_take]
section
open Go.ChangeShapes Go.WideShapes Go.ChangeAt Go.Deep
variable {H : Type} {enc : TypeId × Value → H} {P : Program} {W : World} {base b0 : Nat} {spare : Nat → Bool} {held : Bool} {r : Reach} {α : Type} [Enc α] [OfInts α]
/-- []T, T a struct of whole numbers, one cell of something greater. -/
theorem open_structs_cell {t e : TypeId} {fs : Array Field} {fuel : Nat} {v : Value} {x : DataW H × List MemPlace} (ht : P.underlying t = some (.slice e)) (he : P.underlying e = some (.struct fs)) (hone : oneCellFields P fs = true) (hC : P.cellsOf e = fs.size)
    (hsz : fs.size = Enc.size α) (hpos : 0 < Enc.size α) (hf : (fs.all fun f => P.underlying f.type matches some (.int .i64)) = true) (h : DataW.trod enc P W base spare held fuel t [v] = some x) :
    ∃ A n c, v = .slice A n c ∧ Arg α W A n := by
  rcases open_slice ht h with ⟨h0, _⟩ | ⟨a, len, cap, m, n', D, Pl, hcs, hb, hl, hm, hmm, hx, hi⟩
  · simp at h0
    subst h0
    exact ⟨_, _, _, rfl, arg_nil⟩
  · simp at hcs
    subst hcs
    refine ⟨_, _, _, rfl, arg_of_cells (by omega) hpos fun i hil => ?_⟩
    obtain ⟨cs', hc, ht'⟩ := hi i (by rw [hmm]; split <;> omega)
    obtain ⟨ys, n2, _, _, _, hyl, hfd⟩ := DataW.trod_struct he ht'
    obtain ⟨_, hcl, hat⟩ := World.cells?_some hc
    have key : ∀ j, j < Enc.size α → ∃ z : Int, W.cell? (a.add (i * Enc.size α + j)) = some (.int .i64 z) ∧ (Lit.int .i64 z).wf = true := fun j hj => by
      have hj' : j < fs.size := by omega
      have h1 := hfd j fs[j] (Array.getElem?_eq_getElem hj')
      obtain ⟨ho, hk⟩ := hone_of hone j fs[j] (Array.getElem?_eq_getElem hj')
      rw [ho, hk] at h1
      have hjc : j < cs'.length := by omega
      have hone' : (cs'.drop j).take 1 = [cs'[j]] := by
        rw [List.drop_eq_getElem_cons hjc]
        rfl
      rw [hone'] at h1
      have hu : P.underlying fs[j].type = some (.int .i64) := by
        have := (Array.all_eq_true.1 hf) j hj'
        revert this
        generalize P.underlying fs[j].type = o
        intro this
        split at this
        · rfl
        · simp at this
      obtain ⟨z, hz1, _, hz3⟩ := DataW.trod_int hu (h1.trans (List.getElem?_eq_getElem (show j < ys.length by omega)))
      refine ⟨z, ?_, hz3⟩
      have := hat j (by omega)
      rw [add_add, hC, hsz] at this
      rw [this, List.getElem?_eq_getElem hjc]
      injection hz1 with hz1
      rw [hz1]
    obtain ⟨g, hg⟩ := choose_lt key
    exact ⟨g, hg⟩
end
end Go.Proofs.Yteobejgkjjhfkaa
