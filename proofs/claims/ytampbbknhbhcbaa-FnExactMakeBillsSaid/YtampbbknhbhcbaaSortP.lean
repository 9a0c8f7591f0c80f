/- A row that is sorted in place: lists and exchanges, plain. -/
import Derived.Test.YtampbbknhbhcbaaBase
import Derived.Shelf.GgSortFunc.LotD
import Derived.Shelf.GgSortFunc.Small
namespace Go.Proofs.Ytampbbknhbhcbaa
open Go.RowKit Go.Sort Go.Lib
set_option linter.unusedVariables false
set_option linter.unusedSectionVars false
section
variable {α : Type} [Inhabited α]
theorem get_at {l p s : List α} {x : α} {i : Nat} (hl : l = p ++ x :: s) (hi : i = p.length) : l.toArray[i]! = x := by
  subst hl hi
  simp
theorem swp_at {l p q r : List α} {x y : α} {i j : Nat} (hl : l = p ++ x :: (q ++ y :: r)) (hi : i = p.length) (hj : j = p.length + 1 + q.length) :
    swp l.toArray i j = (p ++ y :: (q ++ x :: r)).toArray := by
  have h1 : l.toArray[i]! = x := get_at hl hi
  have h2 : l.toArray[j]! = y := get_at (p := p ++ x :: q) (s := r) (by rw [hl]; simp) (by rw [hj]; simp; omega)
  unfold swp
  rw [h1, h2]
  simp only [List.setIfInBounds_toArray]
  congr 1
  rw [hl, hi, List.set_append_right _ _ (Nat.le_refl _), Nat.sub_self, List.set_cons_zero, List.set_append_right _ _ (by omega)]
  rw [show j - p.length = q.length + 1 by omega, List.set_cons_succ, List.set_append_right _ _ (Nat.le_refl _), Nat.sub_self, List.set_cons_zero]
theorem swp_comm' (d : Array α) (i j : Nat) (hi : i < d.size) (hj : j < d.size) (hij : i ≠ j) : swp d j i = swp d i j := by
  unfold swp
  exact Array.setIfInBounds_comm _ _ (fun e => hij e.symm)
theorem swp_back {l p q r : List α} {x y : α} {i j : Nat} (hl : l = p ++ x :: (q ++ y :: r)) (hi : i = p.length) (hj : j = p.length + 1 + q.length) :
    swp l.toArray j i = (p ++ y :: (q ++ x :: r)).toArray := by
  rw [swp_comm' _ _ _ (by rw [hl]; simp; omega) (by rw [hl]; simp; omega) (by omega)]
  exact swp_at hl hi hj
/-! worlds -/
variable {enc : α → Value} {w0 W w1 : World} {blk off : Nat} {dk dk' : Array α}
theorem SWx.trans (h : SW enc W blk off dk w1) (h2 : SW enc w1 blk off dk' w0) (hblk : blk < W.heap.size) (hs : dk'.size = dk.size) : SW enc W blk off dk' w0 := by
  obtain ⟨n, os, rfl⟩ := h
  obtain ⟨m, os', rfl⟩ := h2
  exact ⟨n + m, os ++ os', sortWorld_on enc W blk off n m dk dk' os os' hblk hs⟩
theorem SWx.unalloc {o : Obj} (h : SW enc (W.alloc o) blk off dk w1) (hblk : blk < W.heap.size) : SW enc W blk off dk w1 := by
  obtain ⟨n, os, rfl⟩ := h
  exact ⟨n, #[o] ++ os, sortWorld_alloc enc W o blk off n dk os hblk⟩
theorem SWx.cell (h : SW enc W blk off dk w1) {p : Addr} {v : Value} (hp : p.block ≠ blk) (hc : W.cell? p = some v) : w1.cell? p = some v := by
  obtain ⟨n, os, rfl⟩ := h
  have hb := World.block_lt_of_cell? W p hc
  unfold sortWorld
  rw [cell?_grow _ _ _ (by rw [size_putRow]; exact hb), cell?_putRow_other enc _ blk off dk p (Or.inl hp)]
  exact hc
end
/-- What is known of a sort that runs: 'less', 'swap', the row. -/
structure SEnv {α : Type} [Inhabited α] (enc : α → Value) (lt : α → α → Bool) (g : Nat) (lb : Array Value) (sf : Nat) (sb : Array Value) (blk off size : Nat) (w0 : World) : Prop where
  eg : ∀ args w, (callFunc g args).run Try.prog w = .ok (.enter g args) w
  less : LessReads Try.prog g lb enc lt blk off size w0
  swap : SwapSwaps Try.prog sf sb enc blk off size
  lt : blk < w0.heap.size
  le : size ≤ 1000
  holds : ∃ d0 : Array α, d0.size = size ∧ Holds enc w0 blk off d0
section
variable {α : Type} [Inhabited α] {enc : α → Value} {lt : α → α → Bool} {g : Nat} {lb : Array Value} {sf : Nat} {sb : Array Value} {blk off size : Nat} {w0 W : World}
theorem SEnv.swaps (E : SEnv enc lt g lb sf sb blk off size w0) {l : List α} (hW : SW enc w0 blk off l.toArray W) (hl : l.length = size) {i j : Nat} (hi : i < size) (hj : j < size) {x y : α} (hx : l.toArray[i]! = x) (hy : l.toArray[j]! = y) :
    (callFunc sf (#[.int .i64 i, .int .i64 j] ++ sb)).run Try.prog W = .ok (.value (.tuple #[])) ((W.setCell ⟨blk, off + i, none⟩ (enc y)).setCell ⟨blk, off + j, none⟩ (enc x)) ∧
    SW enc w0 blk off (swp l.toArray i j) ((W.setCell ⟨blk, off + i, none⟩ (enc y)).setCell ⟨blk, off + j, none⟩ (enc x)) := by
  obtain ⟨d0, hd, hH⟩ := E.holds
  rw [← hx, ← hy]
  exact ⟨E.swap W l.toArray (hW.holds E.lt hH (by rw [List.size_toArray]; omega)) (by rw [List.size_toArray]; omega) i j hi hj, hW.swap E.lt i j (by rw [List.size_toArray]; omega) (by rw [List.size_toArray]; omega)⟩
theorem set2_cell {w : World} {a b c : Addr} {u v z : Value} (ha : c.block ≠ a.block) (hb : c.block ≠ b.block) (h : w.cell? c = some z) : ((w.setCell a u).setCell b v).cell? c = some z := by
  rw [World.cell?_setCell_other, World.cell?_setCell_other]
  · exact h
  all_goals (first | exact ha | exact hb | (intro e; first | exact ha (by rw [e]) | exact hb (by rw [e])) | (simp; omega))
/-- An exchange, by lists. -/
theorem SEnv.swapAt (E : SEnv enc lt g lb sf sb blk off size w0) {l p q r : List α} {x y : α} {i j : Nat} (hW : SW enc w0 blk off l.toArray W) (hl : l.length = size) (he : l = p ++ x :: (q ++ y :: r)) (hi : i = p.length) (hj : j = p.length + 1 + q.length) :
    ∃ W2, (callFunc sf (#[.int .i64 i, .int .i64 j] ++ sb)).run Try.prog W = .ok (.value (.tuple #[])) W2 ∧ SW enc w0 blk off (p ++ y :: (q ++ x :: r)).toArray W2 ∧ ∀ (c : Addr) (v : Value), c.block ≠ blk → W.cell? c = some v → W2.cell? c = some v := by
  have hlen : l.length = p.length + 1 + q.length + 1 + r.length := by rw [he]; simp only [List.length_append, List.length_cons]; omega
  obtain ⟨h1, h2⟩ := E.swaps hW hl (i := i) (j := j) (by omega) (by omega) (get_at he hi) (get_at (p := p ++ x :: q) (s := r) (x := y) (by rw [he]; simp only [List.append_assoc, List.cons_append]) (by simp only [List.length_append, List.length_cons]; omega))
  rw [swp_at he hi hj] at h2
  exact ⟨_, h1, h2, fun c v hc h => set2_cell hc hc h⟩
theorem SEnv.swapBack (E : SEnv enc lt g lb sf sb blk off size w0) {l p q r : List α} {x y : α} {i j : Nat} (hW : SW enc w0 blk off l.toArray W) (hl : l.length = size) (he : l = p ++ x :: (q ++ y :: r)) (hi : i = p.length) (hj : j = p.length + 1 + q.length) :
    ∃ W2, (callFunc sf (#[.int .i64 j, .int .i64 i] ++ sb)).run Try.prog W = .ok (.value (.tuple #[])) W2 ∧ SW enc w0 blk off (p ++ y :: (q ++ x :: r)).toArray W2 ∧ ∀ (c : Addr) (v : Value), c.block ≠ blk → W.cell? c = some v → W2.cell? c = some v := by
  have hlen : l.length = p.length + 1 + q.length + 1 + r.length := by rw [he]; simp only [List.length_append, List.length_cons]; omega
  obtain ⟨h1, h2⟩ := E.swaps hW hl (i := j) (j := i) (by omega) (by omega) (get_at (p := p ++ x :: q) (s := r) (x := y) (by rw [he]; simp only [List.append_assoc, List.cons_append]) (by simp only [List.length_append, List.length_cons]; omega)) (get_at he hi)
  rw [swp_back he hi hj] at h2
  exact ⟨_, h1, h2, fun c v hc h => set2_cell hc hc h⟩
theorem SEnv.lessAt (E : SEnv enc lt g lb sf sb blk off size w0) {l : List α} (hW : SW enc w0 blk off l.toArray W) (hl : l.length = size) {i j : Nat} (hi : i < size) (hj : j < size) {x y : α} (hx : l.toArray[i]! = x) (hy : l.toArray[j]! = y) :
    Calls Try.prog g (#[.int .i64 i, .int .i64 j] ++ lb) W fun e w' => e = .returned (.bool (lt x y)) ∧ ∃ q, w' = W.drewN q := by
  have h := hW.less E.less (by rw [List.size_toArray]; omega) i j hi hj
  rw [hx, hy] at h
  exact h
/-- The same run, seen from a later world. -/
theorem SEnv.at_ (E : SEnv enc lt g lb sf sb blk off size w0) {l : List α} (hW : SW enc w0 blk off l.toArray W) (hl : l.length = size) : SEnv enc lt g lb sf sb blk off size W := by
  obtain ⟨d0, hd, hH⟩ := E.holds
  exact ⟨E.eg, hW.lessReads E.less E.lt (by rw [List.size_toArray]; omega), E.swap, hW.lt E.lt, E.le, ⟨l.toArray, by rw [List.size_toArray]; omega, hW.holds E.lt hH (by rw [List.size_toArray]; omega)⟩⟩
theorem SEnv.here (E : SEnv enc lt g lb sf sb blk off size w0) {l : List α} (hW : SW enc w0 blk off l.toArray W) (hl : l.length = size) : SW enc W blk off l.toArray W := by
  obtain ⟨d0, hd, hH⟩ := E.holds
  exact SW.start (hW.holds E.lt hH (by rw [List.size_toArray]; omega))
/-- The rest of a run behind a call. -/
theorem SEnv.then_ (E : SEnv enc lt g lb sf sb blk off size w0) {l l2 : List α} {w2 : World} (hW : SW enc w0 blk off l.toArray W) (hl : l.length = size) (h2 : SW enc W blk off l2.toArray w2) (hl2 : l2.length = size) : SW enc w0 blk off l2.toArray w2 :=
  SWx.trans hW h2 E.lt (by rw [List.size_toArray, List.size_toArray]; omega)
theorem SEnv.start (E : SEnv enc lt g lb sf sb blk off size W) {l : List α} (hH : Holds enc W blk off l.toArray) : SW enc W blk off l.toArray W := SW.start hH
end
end Go.Proofs.Ytampbbknhbhcbaa
