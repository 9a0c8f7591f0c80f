/- impl.Net.reached: what one ditch adds (plain), and the boxes in a world that has grown. -/
import Derived.Test.YteobejgkjjhfkaaDitchLaw
namespace Go.Proofs.Yteobejgkjjhfkaa
open Go.RowKit
set_option linter.unusedVariables false
set_option linter.unusedSimpArgs false
theorem Bxs.next {w w' : World} {base pm pl mb : Nat} {L : Value} {bl : List (Int × Int)} (h : Bxs w base pm pl mb L bl) (hb : Below w.heap.size w w') : Bxs w' base pm pl mb L bl :=
  ⟨box_cell hb h.m, box_cell hb h.l, box_free hb (by rw [h.m]; rfl) h.mf, box_free hb (by rw [h.l]; rfl) h.lf, h.mp.below hb, h.own.below hb, h.lo, h.ne, h.nl⟩
theorem oth_cell {w w' : World} {pl mb : Nat} {L : Value} (h : Oth w w' pl mb L) {p : Addr} {v : Value} (hc : w.cell? p = some v) (h1 : p.block ≠ pl) (h2 : p.block ≠ mb) (h3 : L.ownBlock ≠ some p.block) : w'.cell? p = some v :=
  (World.cell?_of_block (h p.block (World.block_lt_of_cell? w p hc) h1 h2 h3)).trans hc
/-- The entries when a junction has been told. -/
def addI (bl : List (Int × Int)) (v k : Int) : List (Int × Int) := if hasI bl v = true then bl else bl ++ [(v, k)]
/-- How far the walk over the junctions has come. -/
structure At (ds : List Ditch) (fs : List Int) (fr J : Int) (bl : List (Int × Int)) (i k : Nat) (u : Int) : Prop where
  tree : Tree ds fs fr bl
  inj : InJ bl J
  done : Done ds fs bl i k
  at_ : ∃ j, bl[i]? = some (u, j)
theorem At.lt {ds : List Ditch} {fs : List Int} {fr J u : Int} {bl : List (Int × Int)} {i k : Nat} (h : At ds fs fr J bl i k u) : i < bl.length := by
  obtain ⟨j, hj⟩ := h.at_
  exact (List.getElem?_eq_some_iff.1 hj).1
theorem At.key {ds : List Ditch} {fs : List Int} {fr J u : Int} {bl : List (Int × Int)} {i k : Nat} (h : At ds fs fr J bl i k u) (hl : i < (bl.map Prod.fst).length) : (bl.map Prod.fst)[i] = u := by
  obtain ⟨j, hj⟩ := h.at_
  rw [List.getElem_map, (List.getElem?_eq_some_iff.1 hj).2]
theorem At.few {ds : List Ditch} {fs : List Int} {fr J u : Int} {bl : List (Int × Int)} {i k : Nat} (h : At ds fs fr J bl i k u) : bl.length ≤ J.toNat := bl_few h.tree.nodup h.inj
/-- A ditch that adds nothing. -/
theorem At.skip {ds : List Ditch} {fs : List Int} {fr J u : Int} {bl : List (Int × Int)} {i k : Nat} (h : At ds fs fr J bl i k u) (hk : k < ds.length) (hf : k < fs.length) (h1 : ¬ (ds[k].a = u ∧ fs[k] < ds[k].c)) (h2 : ¬ (ds[k].b = u ∧ 0 < fs[k])) :
    At ds fs fr J bl i (k + 1) u := by
  obtain ⟨j, hj⟩ := h.at_
  exact ⟨h.tree, h.inj, h.done.step hj (List.getElem?_eq_getElem hk) (List.getElem?_eq_getElem hf) ⟨[], by simp⟩ (fun a b => absurd ⟨a, b⟩ h1) (fun a b => absurd ⟨a, b⟩ h2), j, hj⟩
theorem addI_key (bl : List (Int × Int)) (v k : Int) : v ∈ (addI bl v k).map Prod.fst := by
  unfold addI hasI
  split
  · rename_i h; exact of_decide_eq_true h
  · simp
theorem addI_pre (bl : List (Int × Int)) (v k : Int) : ∃ t, addI bl v k = bl ++ t := by
  unfold addI
  split
  · exact ⟨[], by simp⟩
  · exact ⟨_, rfl⟩
/-- A ditch that leads on. -/
theorem At.add {ds : List Ditch} {fs : List Int} {fr J u v : Int} {bl : List (Int × Int)} {i k : Nat} (h : At ds fs fr J bl i k u) (hk : k < ds.length) (hf : k < fs.length) (hv : 0 ≤ v ∧ v ≤ J - 1) (he : Edge ds fs u v (k : Int))
    (h1 : ds[k].a = u → fs[k] < ds[k].c → ds[k].b = v) (h2 : ds[k].b = u → 0 < fs[k] → ds[k].a = v) : At ds fs fr J (addI bl v (k : Int)) i (k + 1) u := by
  obtain ⟨j, hj⟩ := h.at_
  obtain ⟨t, ht⟩ := addI_pre bl v (k : Int)
  have hil := h.lt
  refine ⟨?_, ?_, h.done.step hj (List.getElem?_eq_getElem hk) (List.getElem?_eq_getElem hf) ⟨t, ht⟩ (fun a b => by rw [h1 a b]; exact addI_key _ _ _) (fun a b => by rw [h2 a b]; exact addI_key _ _ _), j, by rw [ht, List.getElem?_append_left hil]; exact hj⟩
  · unfold addI
    split
    · exact h.tree
    · rename_i hn
      exact h.tree.snoc hj he (fun hm => hn (decide_eq_true hm))
  · unfold addI
    split
    · exact h.inj
    · intro x hx
      rw [List.map_append, List.mem_append] at hx
      rcases hx with hx | hx
      · exact h.inj x hx
      · simp only [List.map_cons, List.map_nil, List.mem_singleton] at hx
        rw [hx]
        exact hv
theorem edge_on {ds : List Ditch} {fs : List Int} {k : Nat} (hk : k < ds.length) (hf : k < fs.length) (h : fs[k] < ds[k].c) : Edge ds fs ds[k].a ds[k].b (k : Int) :=
  ⟨by omega, ds[k], fs[k], by rw [Int.toNat_natCast]; exact List.getElem?_eq_getElem hk, by rw [Int.toNat_natCast]; exact List.getElem?_eq_getElem hf, .inl ⟨rfl, rfl, h⟩⟩
theorem edge_back {ds : List Ditch} {fs : List Int} {k : Nat} (hk : k < ds.length) (hf : k < fs.length) (h : 0 < fs[k]) : Edge ds fs ds[k].b ds[k].a (k : Int) :=
  ⟨by omega, ds[k], fs[k], by rw [Int.toNat_natCast]; exact List.getElem?_eq_getElem hk, by rw [Int.toNat_natCast]; exact List.getElem?_eq_getElem hf, .inr ⟨rfl, rfl, h⟩⟩
/-- One junction has been looked at. -/
theorem At.row {ds : List Ditch} {fs : List Int} {fr J u : Int} {bl : List (Int × Int)} {i k : Nat} (h : At ds fs fr J bl i k u) (hk : ds.length ≤ k) : Done ds fs bl (i + 1) 0 := h.done.row hk
end Go.Proofs.Yteobejgkjjhfkaa
