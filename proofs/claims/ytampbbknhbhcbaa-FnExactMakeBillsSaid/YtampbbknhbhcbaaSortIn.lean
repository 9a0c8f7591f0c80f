/- sort.SliceStable over []int, whatever 'less' reads: by its parts. -/
import Derived.Test.YtampbbknhbhcbaaSortStab
import Derived.Test.YtampbbknhbhcbaaSortLay
import Derived.Test.YtampbbknhbhcbaaKind
namespace Go.Proofs.Ytampbbknhbhcbaa
open Go.RowKit Go.Sort Go.Lib Go.Shelf
set_option linter.unusedVariables false
set_option linter.unusedSimpArgs false
noncomputable def siT : TypeInfo := (Try.prog.info? 81).get (by kernel_rfl)
noncomputable def siE : TypeInfo := (Try.prog.info? 3).get (by kernel_rfl)
theorem siK (n : Nat) (h2 : 2 ≤ n) : Lib.swapperK n siE 2 = 5 := by
  have a : siE.hasPointers = false := by kernel_rfl
  have b : siE.bytes = 8 := by kernel_rfl
  have c : (n == 0) = false := by simp; omega
  have d : (n == 1) = false := by simp; omega
  simp [Lib.swapperK, a, b, c, d]
set_option maxHeartbeats 4000000 in
set_option maxRecDepth 100000 in
theorem sliceStable_ {α : Type} [Inhabited α] (enc : α → Value) (h1c : ∀ x, (enc x).oneCell' = true) (lt : α → α → Bool) (R : α → α → Prop) (ht : ∀ a b c, R a b → R b c → R a c) (g : Nat) (lb : Array Value) (eg : ∀ args w, (callFunc g args).run Try.prog w = .ok (.enter g args) w)
    (blk off c : Nat) (l : List α) (hl : 2 ≤ l.length ∧ l.length ≤ 1000) (hb : l.Pairwise (Bef lt R)) (w : World) (hless : LessReads Try.prog g lb enc lt blk off l.length w) (hH : Holds enc w blk off l.toArray) (hblk : blk < w.heap.size) :
    Calls Try.prog 60 #[.iface 81 (.slice (some ⟨blk, off, none⟩) l.length c), .func (.func g) #[] lb] w fun e w' =>
      e = .returned (.tuple #[]) ∧ ∃ l' : List α, l'.Perm l ∧ l'.Pairwise R ∧ SW enc w blk off l'.toArray w' := by
  refine Any.sort_SliceStable_of_stable Try.laysGt8 81 3 siT siE (by kernel_rfl) (by kernel_rfl) (by kernel_rfl) (by kernel_rfl) 2 (fun _ => by kernel_rfl) _ l.length c (by omega) 82 (by rw [siK _ hl.1]; kernel_rfl) (.func g) #[] lb w _ ?_
  have hB : sliceBound Try.prog 3 siE 2 (some ⟨blk, off, none⟩) l.length c = #[.slice (some ⟨blk, off, none⟩) l.length c, typeHandle Try.prog 3] := by
    unfold sliceBound; rw [if_neg (swapperK_gt _ _ _ hl.1)]
  have hW : stableWorld Try.prog Try.laysGt8_ren 81 (some ⟨blk, off, none⟩) l.length c w = grow w #[.cells #[.slice (some ⟨blk, off, none⟩) l.length c] 81, .cells #[.pointer (some ⟨Try.prog.globals.size, 81, none⟩), .pointer (some ⟨w.heap.size, 0, none⟩), .int .u64 151] (Try.laysGt8_ren.t 36)] := by
    unfold stableWorld; rw [alloc_eq_grow, alloc_eq_grow, grow_grow]; rfl
  generalize (#[.cells #[.slice (some ⟨blk, off, none⟩) l.length c] 81, .cells #[.pointer (some ⟨Try.prog.globals.size, 81, none⟩), .pointer (some ⟨w.heap.size, 0, none⟩), .int .u64 151] (Try.laysGt8_ren.t 36)] : Array Obj) = os0 at hW
  rw [hB, hW]
  have hHg : Holds enc (grow w os0) blk off l.toArray := holds_grow enc w _ blk off l.toArray hblk hH
  have E : SEnv enc lt g lb 82 #[.slice (some ⟨blk, off, none⟩) l.length c, typeHandle Try.prog 3] blk off l.length (grow w os0) := by
    refine ⟨eg, ?_, ?_, by rw [size_grow]; omega, hl.2, ⟨l.toArray, by simp, hHg⟩⟩
    · exact hless.grow hblk os0
    · exact swapSwaps_of_literal true 82 (fun args W => run_callFunc_extern Try.func82 (by kernel_rfl) (by kernel_rfl) (by kernel_rfl) (e := Extern.ReflectliteSwapper.swap true) (by kernel_rfl) args W) 3 siE (by kernel_rfl) (by kernel_rfl) (fun _ => by kernel_rfl) enc h1c blk off l.length c
  have hp := stable_ (size := l.length) E R ht l (SW.start hHg) rfl hb
  refine Calls.mono hp ?_
  rintro e w' ⟨rfl, l', p1, p2, h3⟩
  refine ⟨rfl, l', p1, p2, ?_⟩
  obtain ⟨n, os, rfl⟩ := h3
  exact ⟨n, os0 ++ os, by unfold sortWorld; rw [ahead_grow, putRow_grow enc (Sort.ahead w n) _ blk off _ hblk, grow_grow]⟩
/-- Behind a sort: the row reads in its new order, all else is as it was. -/
theorem SWx.span {α : Type} [Inhabited α] {enc : α → Value} {w w' : World} {blk off : Nat} {l : List α} (h : SW enc w blk off l.toArray w') : Span w w' blk (blk + 1) := by
  obtain ⟨n, os, rfl⟩ := h
  refine ⟨rfl, rfl, rfl, by unfold sortWorld; rw [size_grow, Sort.size_putRow]; show w.heap.size ≤ w.heap.size + _; omega, fun k hk hd => ?_⟩
  unfold sortWorld grow putRow mapBlock
  simp only [heap_ahead]
  rw [Array.getElem?_append_left (by simpa using hk), Array.getElem?_modify, if_neg (by omega)]
theorem SWx.cells {α : Type} [Inhabited α] {enc : α → Value} {w w' : World} {blk off : Nat} {l d0 : List α} (h : SW enc w blk off l.toArray w') (hblk : blk < w.heap.size) (h0 : Holds enc w blk off d0.toArray) (hs : l.length = d0.length) {j : Nat} (hj : j < l.length) : w'.cell? ⟨blk, off + j, none⟩ = some (enc l[j]) := by
  have h1 := h.holds hblk h0 (by simp [hs])
  have h2 := (h1 j (by simpa using hj)).1
  rw [h2]
  simp [hj]
end Go.Proofs.Ytampbbknhbhcbaa
