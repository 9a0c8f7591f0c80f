/- Words for memory that all walks of this seat use: a world that has grown, a slice that reads as a list, rows of one cell and of several. -/
import Derived.Test.YteobejgkjjhfkaaRows
import Derived.WalkKit
import Derived.WalkSpells
import Derived.WalkLawsBesides
import Derived.Deep.QuietTactic
import Derived.Deep.AppendLies
import Derived.Deep.LoopGhost
import Derived.BigQuiet
import Derived.Outline
import Derived.Laws.StructEq
import Derived.Laws.OwnMore
namespace Go.Proofs.Yteobejgkjjhfkaa
open Go.RowKit

/-- To stop a walk: the goal behind a name. -/
def Kept (p : Prop) : Prop := p
theorem keep_ {p : Prop} (h : Kept p) : p := h
theorem go_ {p : Prop} (h : p) : Kept p := h
theorem hid {p : Prop} (h : p) : Hid p := h

theorem addr_add (b off j : Nat) : (⟨b, off, none⟩ : Addr).add j = ⟨b, off + j, none⟩ := by
  unfold Addr.add
  split <;> simp_all

/-- The world 'x', but below the size of w's heap it is w. -/
def _root_.Go.World.more (w x : World) : World := { x with heap := w.heap ++ x.heap.extract w.heap.size x.heap.size, tape := w.tape, os := w.os, output := w.output }

section
variable {w x : World}
theorem more_block (k : Nat) (h : k < w.heap.size) : (w.more x).heap[k]? = w.heap[k]? := by
  simp [World.more, Array.getElem?_append, h]
theorem more_size : w.heap.size ≤ (w.more x).heap.size := by simp [World.more]
theorem more_below : Below w.heap.size w (w.more x) := ⟨rfl, rfl, rfl, more_size, fun k h => more_block k h⟩
theorem block_lt {a : Addr} (h : (w.cell? a).isSome = true) : a.block < w.heap.size := by
  obtain ⟨v, hv⟩ := Option.isSome_iff_exists.1 h
  exact World.block_lt_of_cell? w a hv
@[go_sem] theorem cell?_more {a : Addr} (h : (w.cell? a).isSome = true) : (w.more x).cell? a = w.cell? a := more_below.cell (block_lt h)
@[go_sem] theorem frozen?_more {a : Addr} (h : (w.cell? a).isSome = true) : (w.more x).frozen? a = w.frozen? a := more_below.frozen (block_lt h)
@[go_sem] theorem cell?_alloc_more {a : Addr} (o : Obj) (h : (w.cell? a).isSome = true) : (w.alloc o).cell? a = w.cell? a := World.cell?_alloc_lt _ _ _ (block_lt h)
@[go_sem] theorem frozen?_alloc_more {a : Addr} (o : Obj) (h : (w.cell? a).isSome = true) : (w.alloc o).frozen? a = w.frozen? a :=
  World.frozen?_of_block (Below.heap_alloc _ _ _ (block_lt h))
theorem below_more (h : Below w.heap.size w x) : x = w.more x := by
  obtain ⟨heap, tape, drawn, os, output⟩ := x
  obtain ⟨h1, h2, h3, h4, h5⟩ := h
  simp only [World.more]
  simp only at h1 h2 h3 h4 h5
  subst h1 h2 h3
  congr 1
  apply Array.ext'
  apply List.ext_getElem?
  intro i
  simp only [Array.getElem?_toList, Array.getElem?_append]
  split
  · rename_i h; exact h5 i h
  · rename_i h; rw [Array.getElem?_extract]; split
    · congr 1; omega
    · rw [Array.getElem?_eq_none]; omega
theorem below_ex (h : Below w.heap.size w x) : ∃ y, x = w.more y := ⟨x, below_more h⟩
theorem below_go {B : Nat} {a : World} (h : Below B a w) (hB : B ≤ w.heap.size) : Below B a (w.more x) := h.trans (more_below.mono hB)
theorem below_next {a : World} (h : Below a.heap.size a w) : Below a.heap.size a (w.more x) := below_go h h.size
theorem le_more {B : Nat} (h : B ≤ w.heap.size) : B ≤ (w.more x).heap.size := Nat.le_trans h more_size
theorem le_alloc {B : Nat} {o : Obj} (h : B ≤ w.heap.size) : B ≤ (w.alloc o).heap.size := by simp; omega
theorem le_set {B : Nat} {p : Addr} {u : Value} (h : B ≤ w.heap.size) : B ≤ (w.setCell p u).heap.size := by simpa [World.setCell] using h
theorem more_drew : ∃ y, w.drew = w.more y := below_ex (Below.refl _ _).drew
theorem more_trans {y : World} : ∃ z, (w.more x).more y = w.more z := below_ex (below_go more_below more_size)
theorem more_self : ∃ y, w = w.more y := below_ex (Below.refl _ _)
end

theorem _root_.Go.RowKit.Below.drewN {B : Nat} {a w : World} (h : Below B a w) (n : Nat) : Below B a (w.drewN n) := ⟨h.os, h.tape, h.output, h.size, h.block⟩
attribute [irreducible] World.more
theorem box_cell {W w1 : World} (hb : Below W.heap.size W w1) {p : Addr} {v : Value} (h : W.cell? p = some v) : w1.cell? p = some v := (hb.cell (World.block_lt_of_cell? W p h)).trans h
theorem box_free {W w1 : World} (hb : Below W.heap.size W w1) {p : Addr} (h : (W.cell? p).isSome = true) (hf : W.frozen? p = false) : w1.frozen? p = false := (hb.frozen (block_lt h)).trans hf
/-- A callee's contract met in a grown world. -/
theorem quiet_below {P : Program} {f : FuncId} {args : Array Value} {w x : World} {v : Value}
    (h : Calls P f args (w.more x) fun e w' => e = .returned v ∧ Below (w.more x).heap.size (w.more x) w') : Calls P f args (w.more x) fun e w'' => e = .returned v ∧ ∃ m, w'' = w.more m :=
  h.mono fun _ _ ⟨he, hm⟩ => ⟨he, below_ex (more_below.trans (hm.mono more_size))⟩
theorem quiet_same {P : Program} {f : FuncId} {args : Array Value} {w x : World} {v : Value}
    (h : Calls P f args (w.more x) fun e w' => e = .returned v ∧ w.more x = w') : Calls P f args (w.more x) fun e w'' => e = .returned v ∧ ∃ m, w'' = w.more m :=
  h.mono fun _ _ ⟨he, hm⟩ => ⟨he, x, hm.symm⟩
theorem wp_region_more {P : Program} {id : Nat} {Q : Exit → Act → World → Prop} {a : Act} {w : World} {l : List Oper} (hm : P.follows .mixedOrders = true) (hB : Region.lexB .any l.toArray = true)
    (h : wpQuiet P l.toArray (fun w' => ∃ n, w' = w.more n) (fun a' => ∀ w', (∃ n, w' = w.more n) → Q .normal a' w') l a) : (Code.region id l.toArray true).wp P Q a w :=
  wp_region_quiet (C := fun w' => ∃ n, w' = w.more n) hm hB more_drew (by simpa using h)

/-- What an element of a slice is in cells. -/
class Enc (α : Type) where
  size : Nat
  enc : α → List Value
  len : ∀ a, (enc a).length = size
  one : ∀ a, ∀ u ∈ enc a, u.oneCell' = true
instance : Enc Int := ⟨1, fun n => [.int .i64 n], fun _ => rfl, fun _ u h => by simp at h; subst h; rfl⟩
instance : Enc Bool := ⟨1, fun n => [.bool n], fun _ => rfl, fun _ u h => by simp at h; subst h; rfl⟩

def flat {α : Type} [Enc α] (xs : List α) : List Value := xs.flatMap Enc.enc
section
variable {α : Type} [Enc α]
theorem flat_nil : flat ([] : List α) = [] := rfl
theorem flat_cons (x : α) (xs : List α) : flat (x :: xs) = Enc.enc x ++ flat xs := rfl
theorem flat_append (xs ys : List α) : flat (xs ++ ys) = flat xs ++ flat ys := by simp [flat]
theorem flat_one (x : α) : flat [x] = Enc.enc x := by simp [flat]
theorem flat_len (xs : List α) : (flat xs).length = xs.length * Enc.size α := by
  induction xs with
  | nil => simp [flat_nil]
  | cons x xs ih => rw [flat_cons, List.length_append, ih, Enc.len, List.length_cons, Nat.add_mul]; omega
theorem flat_get (xs : List α) (k j : Nat) (hk : k < xs.length) (hj : j < Enc.size α) : (flat xs)[k * Enc.size α + j]? = (Enc.enc xs[k])[j]? := by
  induction xs generalizing k with
  | nil => simp at hk
  | cons x xs ih =>
    rw [flat_cons]
    cases k with
    | zero => rw [List.getElem?_append_left (by rw [Enc.len]; omega)]; simp
    | succ k =>
      rw [List.getElem?_append_right (by rw [Enc.len, Nat.add_mul]; omega), Enc.len]
      have : (k + 1) * Enc.size α + j - Enc.size α = k * Enc.size α + j := by rw [Nat.add_mul]; omega
      rw [this, ih k (by simpa using hk)]
      simp
theorem flat_take (xs : List α) (k : Nat) : flat (xs.take k) = (flat xs).take (k * Enc.size α) := by
  induction xs generalizing k with
  | nil => simp [flat_nil]
  | cons x xs ih =>
    cases k with
    | zero => simp [flat_nil]
    | succ k =>
      have h1 : (Enc.enc x).length ≤ (k + 1) * Enc.size α := by rw [Enc.len, Nat.add_mul]; omega
      have h2 : (k + 1) * Enc.size α - Enc.size α = k * Enc.size α := by rw [Nat.add_mul]; omega
      rw [List.take_succ_cons, flat_cons, flat_cons, ih, List.take_append, List.take_of_length_le h1, Enc.len, h2]
theorem flat_one' (xs : List α) : ∀ u ∈ flat xs, u.oneCell' = true := by
  intro u hu
  obtain ⟨a, _, h⟩ := List.mem_flatMap.1 hu
  exact Enc.one a u h

/-- The slice at A reads as the list xs, which is not too long. -/
def Rd (w : World) (A : Option Addr) (xs : List α) : Prop :=
  xs.length ≤ 1048576 ∧ ∀ k, (hk : k < xs.length) → ∃ b off, A = some ⟨b, off, none⟩ ∧ ∀ j v, (Enc.enc xs[k])[j]? = some v → w.cell? ⟨b, off + (k * Enc.size α + j), none⟩ = some v

section
variable {w w' x : World} {A : Option Addr} {xs : List α}
theorem Rd.len (h : Rd w A xs) : xs.length ≤ 1048576 := h.1
theorem Rd.nil : Rd w A ([] : List α) := ⟨by simp, fun k hk => absurd hk (by simp)⟩
theorem Rd.keep (h : Rd w A xs) (hk : ∀ a v, w.cell? a = some v → w'.cell? a = some v) : Rd w' A xs :=
  ⟨h.1, fun k hlt => by
    obtain ⟨b, off, rfl, hc⟩ := h.2 k hlt
    exact ⟨b, off, rfl, fun j v hv => hk _ _ (hc j v hv)⟩⟩
theorem Rd.below (h : Rd w A xs) (hb : Below w.heap.size w w') : Rd w' A xs := h.keep fun a _ hv => (hb.cell (World.block_lt_of_cell? w a hv)).trans hv
theorem Rd.more (h : Rd w A xs) : Rd (w.more x) A xs := h.below more_below
theorem Rd.alloc (h : Rd w A xs) (o : Obj) : Rd (w.alloc o) A xs := h.below ((Below.refl _ _).alloc (Nat.le_refl _) o)
theorem Rd.drew (h : Rd w A xs) : Rd w.drew A xs := h
theorem Rd.drewN (h : Rd w A xs) (n : Nat) : Rd (w.drewN n) A xs := h
theorem Rd.of_own {base : Nat} {e : TypeId} {c n : Nat} (h : w.ownsRow base e (Enc.size α) (.slice A n c) n (flat xs)) (hn : n = xs.length) (hl : xs.length ≤ 1048576) : Rd w A xs := by
  refine ⟨hl, fun k hk => ?_⟩
  rcases h.2 with ⟨_, h0⟩ | ⟨g, cap, cur, hv, _⟩
  · omega
  · injection hv with hA _ _
    subst hA
    refine ⟨g, 0, rfl, fun j v hv => ?_⟩
    have hj : j < Enc.size α := by
      have := (List.getElem?_eq_some_iff.1 hv).1
      rwa [Enc.len] at this
    have := h.cells (g := g) rfl (k * Enc.size α + j) v (by rw [flat_get _ _ _ hk hj]; exact hv)
    rw [← this, Nat.zero_add]
    congr 1
    unfold Addr.add
    split <;> simp_all
end
theorem Rd.int {w : World} {A : Option Addr} {xs : List Int} (h : Rd w A xs) {k : Nat} (hk : k < xs.length) : ∃ b off, A = some ⟨b, off, none⟩ ∧ w.cell? ⟨b, off + k, none⟩ = some (.int .i64 xs[k]) := by
  obtain ⟨b, off, hA, hc⟩ := h.2 k hk
  exact ⟨b, off, hA, by simpa [Enc.size] using hc 0 _ rfl⟩
theorem Rd.bool {w : World} {A : Option Addr} {xs : List Bool} (h : Rd w A xs) {k : Nat} (hk : k < xs.length) : ∃ b off, A = some ⟨b, off, none⟩ ∧ w.cell? ⟨b, off + k, none⟩ = some (.bool xs[k]) := by
  obtain ⟨b, off, hA, hc⟩ := h.2 k hk
  exact ⟨b, off, hA, by simpa [Enc.size] using hc 0 _ rfl⟩
end
section
variable {β : Type} [DecidableEq β]
omit [DecidableEq β] in
theorem same_step {xs ys : List β} {k : Nat} (h1 : k < xs.length) (h2 : k < ys.length) (ht : xs.take k = ys.take k) (he : xs[k] = ys[k]) : xs.take (k + 1) = ys.take (k + 1) := by
  rw [List.take_succ_eq_append_getElem h1, List.take_succ_eq_append_getElem h2, ht, he]
theorem same_no {xs ys : List β} {k : Nat} (h1 : k < xs.length) (h2 : k < ys.length) (he : ¬ xs[k] = ys[k]) : false = (xs == ys) := by
  symm
  rw [beq_eq_false_iff_ne]
  rintro rfl
  exact he rfl
theorem same_short {xs ys : List β} (hl : ¬ xs.length = ys.length) : false = (xs == ys) := by
  symm
  rw [beq_eq_false_iff_ne]
  rintro rfl
  exact hl rfl
theorem same_all {xs ys : List β} {k : Nat} (hl : xs.length = ys.length) (hk : ¬ k < xs.length) (ht : xs.take k = ys.take k) : true = (xs == ys) := by
  rw [List.take_of_length_le (by omega), List.take_of_length_le (by omega)] at ht
  simp [ht]
end
theorem beq_no {β : Type} [BEq β] [LawfulBEq β] {a b : β} (h : ¬ a = b) : (a == b) = false := beq_eq_false_iff_ne.2 h
theorem ret_int {k : IntKind} {a b : Int} (h : a = b) : Ending.returned (.int k a) = .returned (.int k b) := by rw [h]
theorem ret_bool {a b : Bool} (h : a = b) : Ending.returned (.bool a) = .returned (.bool b) := by rw [h]
theorem val_int {k : IntKind} {a b : Int} (h : a = b) : Value.int k a = .int k b := by rw [h]
end Go.Proofs.Yteobejgkjjhfkaa
