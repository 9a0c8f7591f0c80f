/- FnDitches: the plain law, put together. -/
import Derived.Test.YteobejgkjjhfkaaDitchWh
import Derived.Test.YteobejgkjjhfkaaDitchCut
namespace Go.Proofs.Yteobejgkjjhfkaa
open Go.RowKit
set_option linter.unusedVariables false
set_option linter.unusedSimpArgs false
theorem sub_len : ∀ {S D : List Int}, S.Nodup → (∀ x ∈ S, x ∈ D) → S.length ≤ D.length
  | [], D, _, _ => Nat.zero_le _
  | a :: S, D, hn, hs => by
    rw [List.nodup_cons] at hn
    have ha := hs a (by simp)
    have := sub_len (S := S) (D := D.erase a) hn.2 fun x hx => by
      have hne : x ≠ a := fun e => hn.1 (e ▸ hx)
      rw [List.mem_erase_of_ne hne]
      exact hs x (by simp [hx])
    rw [List.length_erase_of_mem ha] at this
    have := List.length_pos_of_mem ha
    rw [List.length_cons]
    omega
theorem mem_where {p : Nat → Bool} {n : Nat} {x : Int} : x ∈ whereTo p n ↔ ∃ k, k < n ∧ p k = true ∧ x = (k : Int) := by
  unfold whereTo
  simp only [List.mem_map, List.mem_filter, List.mem_range]
  constructor
  · rintro ⟨k, ⟨h1, h2⟩, rfl⟩
    exact ⟨k, h1, h2, rfl⟩
  · rintro ⟨k, h1, h2, rfl⟩
    exact ⟨k, ⟨h1, h2⟩, rfl⟩
/-- The junctions that have been reached, in order. -/
def sideL (bl : List (Int × Int)) (J : Int) : List Int := whereTo (fun k => hasB (bl.map Prod.fst) (k : Int)) J.toNat
def InJ (bl : List (Int × Int)) (J : Int) : Prop := ∀ x ∈ bl.map Prod.fst, 0 ≤ x ∧ x ≤ J - 1
theorem side_has {bl : List (Int × Int)} {J : Int} (h : InJ bl J) : hasB (sideL bl J) = hasB (bl.map Prod.fst) := by
  funext j
  unfold hasB
  rw [decide_eq_decide]
  unfold sideL
  rw [mem_where]
  constructor
  · rintro ⟨k, _, h2, rfl⟩
    exact of_decide_eq_true h2
  · intro hm
    have := h j hm
    exact ⟨j.toNat, by omega, by unfold hasB; rw [show ((j.toNat : Nat) : Int) = j by omega]; exact decide_eq_true hm, by omega⟩
theorem where_pair (p : Nat → Bool) : ∀ n, (whereTo p n).Pairwise (· < ·) ∧ ∀ x ∈ whereTo p n, x < (n : Int)
  | 0 => by simp [whereTo]
  | n + 1 => by
    obtain ⟨h1, h2⟩ := where_pair p n
    rw [whereTo_next]
    split
    · refine ⟨List.pairwise_append.2 ⟨h1, by simp, fun a ha b hb => ?_⟩, fun x hx => ?_⟩
      · rw [List.mem_singleton.1 hb]
        exact h2 a ha
      · rcases List.mem_append.1 hx with hx | hx
        · have := h2 x hx; omega
        · rw [List.mem_singleton.1 hx]; omega
    · exact ⟨h1, fun x hx => by have := h2 x hx; omega⟩
theorem side_nodup (bl : List (Int × Int)) (J : Int) : (sideL bl J).Nodup := by
  have := (where_pair (fun k => hasB (bl.map Prod.fst) (k : Int)) J.toNat).1
  exact List.Pairwise.imp (fun h e => by omega) this
theorem side_rises {bl : List (Int × Int)} {J : Int} : risesB 0 (J - 1) (sideL bl J) = true := by
  have hp := (where_pair (fun k => hasB (bl.map Prod.fst) (k : Int)) J.toNat).1
  unfold risesB
  rw [decide_eq_true_eq]
  intro k hk
  have hm := List.getElem_mem hk
  obtain ⟨i, h1, _, h3⟩ := mem_where.1 (show _ ∈ whereTo _ _ from hm)
  refine ⟨by omega, fun h' h0 => List.pairwise_iff_getElem.1 hp (k - 1) k h' hk (by omega)⟩
theorem bl_few {bl : List (Int × Int)} {J : Int} (hn : (bl.map Prod.fst).Nodup) (h : InJ bl J) : bl.length ≤ J.toNat := by
  have := sub_len (D := (List.range J.toNat).map fun (i : Nat) => (i : Int)) hn fun x hx => by
    have := h x hx
    exact List.mem_map.2 ⟨x.toNat, List.mem_range.2 (by omega), by omega⟩
  simpa using this
/-- What a side that is reached by the greatest flows is. -/
theorem narrow {ds : List Ditch} {fs : List Int} {fr J tot : Int} {bl : List (Int × Int)} (hm : MaxP ds fr fs tot) (ht : Tree ds fs fr bl) (hd : Done ds fs bl bl.length 0) (hj : InJ bl J) :
    hasB (sideL bl J) fr = true ∧ hasB (sideL bl J) 0 = false ∧ cutT (hasB (sideL bl J)) ds = tot ∧
      ∀ D : List Int, hasB D fr = true → hasB D 0 = false → tot ≤ cutT (hasB D) ds ∧ (cutT (hasB D) ds = tot → (sideL bl J).length ≤ D.length) := by
  have hc : ClosedT (hasB (bl.map Prod.fst)) ds fs := hd.closed (Nat.le_refl _)
  have hin : ∀ T : Int → Bool, T fr = true → ClosedT T ds fs → ∀ x ∈ bl.map Prod.fst, T x = true := fun T h1 h2 x hx => by
    obtain ⟨⟨v, k⟩, hb, rfl⟩ := List.mem_map.1 hx
    obtain ⟨p, hp, he⟩ := List.mem_iff_getElem.1 hb
    exact ht.inside h1 h2 p v k (by rw [List.getElem?_eq_getElem hp, he])
  have h1 : hasB (bl.map Prod.fst) fr = true := decide_eq_true (List.mem_map.2 ⟨(fr, -1), List.mem_of_getElem? ht.first, rfl⟩)
  have h2 : hasB (bl.map Prod.fst) 0 = false := by
    obtain ⟨T, t1, t2, t3⟩ := hm.2.2
    refine decide_eq_false fun h0 => ?_
    rw [hin T t1 t3 0 h0] at t2
    cases t2
  rw [side_has hj]
  refine ⟨h1, h2, (hm.cut h1 h2).2 hc, fun D d1 d2 => ⟨hm.le d1 d2, fun he => ?_⟩⟩
  have hD := (hm.cut d1 d2).1 he
  refine sub_len (side_nodup bl J) fun x hx => ?_
  have hx2 : hasB (bl.map Prod.fst) x = true := by rw [← side_has hj]; exact decide_eq_true hx
  exact of_decide_eq_true (hin _ d1 hD x (of_decide_eq_true hx2))
/-- Where nothing flows yet and the outlet is not reached, nothing can flow. -/
theorem no_flow {ds : List Ditch} {fs : List Int} {fr tot : Int} {bl : List (Int × Int)} (hm : MaxP ds fr fs tot) (hb : Bd ds (List.replicate ds.length 0)) (ht : Tree ds (List.replicate ds.length 0) fr bl) (hd : Done ds (List.replicate ds.length 0) bl bl.length 0)
    (h0 : hasB (bl.map Prod.fst) 0 = false) : tot = 0 := by
  have hc : ClosedT (hasB (bl.map Prod.fst)) ds (List.replicate ds.length 0) := hd.closed (Nat.le_refl _)
  have h1 : hasB (bl.map Prod.fst) fr = true := decide_eq_true (List.mem_map.2 ⟨(fr, -1), List.mem_of_getElem? ht.first, rfl⟩)
  have hz : MaxP ds fr (List.replicate ds.length 0) 0 := ⟨hb, fun T _ _ => net_zero T ds _, _, h1, h0, hc⟩
  exact hm.same hz
theorem bd_zero {J : Int} : ∀ {ds : List Ditch}, (∀ d ∈ ds, DOk J d) → Bd ds (List.replicate ds.length 0)
  | [], _ => trivial
  | d :: ds, h => ⟨⟨Int.le_refl _, (h d (by simp)).c.1⟩, bd_zero fun x hx => h x (by simp [hx])⟩
end Go.Proofs.Yteobejgkjjhfkaa
