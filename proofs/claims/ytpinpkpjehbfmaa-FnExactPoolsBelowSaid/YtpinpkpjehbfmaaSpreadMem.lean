/- The spread over a land: how its state lies in memory. -/
import Derived.Test.YtpinpkpjehbfmaaFlooded
import Derived.Test.YtpinpkpjehbfmaaMapB
namespace Go.Proofs.Ytpinpkpjehbfmaa
open Go.RowKit
set_option linter.unusedVariables false
/-- Three rows of N cells and a growing one, in this order. -/
structure SpM (W0 : World) (gS gK gD base N : Nat) (wr : World) (s : Sp) (u : Value) : Prop where
  below : Below W0.heap.size W0 wr
  o0 : W0.heap.size ≤ gS
  o1 : gS < gK
  o2 : gK < gD
  o3 : gD < base
  hS : Own wr gS 2 (.slice (some ⟨gS, 0, none⟩) N N) s.out
  hK : Own wr gK 4 (.slice (some ⟨gK, 0, none⟩) N N) s.known
  hD : Own wr gD 4 (.slice (some ⟨gD, 0, none⟩) N N) s.done
  hO : Own wr base 2 u s.order
  sz : base ≤ wr.heap.size
theorem self_grown {w : World} {g n c j : Nat} {u : Value} : w.grownBy (w.setCell ⟨g, j, none⟩ u) (Value.slice (some ⟨g, 0, none⟩) n c).ownBlock := grown_set (World.grownBy.refl _ _)
theorem Own.other {α : Type} [Enc α] {w : World} {base : Nat} {e : TypeId} {g n c g2 j : Nat} {xs : List α} (h : Own w base e (.slice (some ⟨g, 0, none⟩) n c) xs) (hne : g ≠ g2) (u : Value) : Own (w.setCell ⟨g2, j, none⟩ u) base e (.slice (some ⟨g, 0, none⟩) n c) xs :=
  h.beside (self_grown (n := 0) (c := 0)) fun a b h1 h2 => by simp only [Value.ownBlock, Option.some.injEq] at h1 h2; omega
section
variable {W0 : World} {gS gK gD base N : Nat} {wr w' : World} {s : Sp} {u : Value}
theorem SpM.step (h : SpM W0 gS gK gD base N wr s u) (hb : Below wr.heap.size wr w') : SpM W0 gS gK gD base N w' s u :=
  ⟨h.below.trans (hb.mono h.below.size), h.o0, h.o1, h.o2, h.o3, h.hS.below hb, h.hK.below hb, h.hD.below hb, h.hO.below hb, Nat.le_trans h.sz hb.size⟩
theorem SpM.drewN (h : SpM W0 gS gK gD base N wr s u) (n : Nat) : SpM W0 gS gK gD base N (wr.drewN n) s u := h.step ((Below.refl _ _).drewN n)
theorem SpM.setOut (h : SpM W0 gS gK gD base N wr s u) {k : Nat} (hk : k < s.out.length) (v : Int) : SpM W0 gS gK gD base N (wr.setCell ⟨gS, k, none⟩ (.int .i64 v)) { s with out := s.out.set k v } u :=
  ⟨h.below.setCell h.o0 _, h.o0, h.o1, h.o2, h.o3, h.hS.intSet hk v, h.hK.other (by have := h.o1; omega) _, h.hD.other (by have := h.o1; have := h.o2; omega) _, h.hO.past (by have := h.o1; have := h.o2; have := h.o3; simp only; omega) _, le_set h.sz⟩
theorem SpM.setKnown (h : SpM W0 gS gK gD base N wr s u) {k : Nat} (hk : k < s.known.length) : SpM W0 gS gK gD base N (wr.setCell ⟨gK, k, none⟩ (.bool true)) { s with known := s.known.set k true } u :=
  ⟨h.below.setCell (by have := h.o0; have := h.o1; simp only; omega) _, h.o0, h.o1, h.o2, h.o3, h.hS.other (by have := h.o1; omega) _, h.hK.boolSet hk true, h.hD.other (by have := h.o2; omega) _, h.hO.past (by have := h.o2; have := h.o3; simp only; omega) _, le_set h.sz⟩
theorem SpM.setDone (h : SpM W0 gS gK gD base N wr s u) {k : Nat} (hk : k < s.done.length) : SpM W0 gS gK gD base N (wr.setCell ⟨gD, k, none⟩ (.bool true)) { s with done := s.done.set k true } u :=
  ⟨h.below.setCell (by have := h.o0; have := h.o1; have := h.o2; simp only; omega) _, h.o0, h.o1, h.o2, h.o3, h.hS.other (by have := h.o1; have := h.o2; omega) _, h.hK.other (by have := h.o2; omega) _, h.hD.boolSet hk true, h.hO.past (by have := h.o3; simp only; omega) _, le_set h.sz⟩
/-- The order has grown. -/
theorem SpM.push (h : SpM W0 gS gK gD base N wr s u) {u' : Value} {b : Int} (ho : Own w' base 2 u' (s.order ++ [b])) (hg : wr.grownBy w' u.ownBlock) : SpM W0 gS gK gD base N w' { s with order := s.order ++ [b] } u' := by
  have hb := fun g hg' => (h.hO.block g hg').1
  have h1 := h.o1
  have h2 := h.o2
  have h3 := h.o3
  have h0 := h.o0
  refine ⟨below_own h.below h.hO hg (by omega) h.below.size, h.o0, h.o1, h.o2, h.o3, h.hS.beside hg ?_, h.hK.beside hg ?_, h.hD.beside hg ?_, ho, Nat.le_trans h.sz hg.size⟩
  all_goals
    intro a b e1 e2
    have := hb b e2
    simp only [Value.ownBlock, Option.some.injEq] at e1
    omega
theorem SpM.outAt (h : SpM W0 gS gK gD base N wr s u) {c : Int} (hc : c.toNat < s.out.length) : wr.cell? ⟨gS, c.toNat, none⟩ = some (.int .i64 (outAt s.out c)) ∧ wr.frozen? ⟨gS, c.toNat, none⟩ = false := by
  have := h.hS.int hc
  rw [show Go.Proofs.Ytpinpkpjehbfmaa.outAt s.out c = s.out[c.toNat] by simp [Go.Proofs.Ytpinpkpjehbfmaa.outAt, hc]]
  exact this
theorem SpM.knownAt (h : SpM W0 gS gK gD base N wr s u) {c : Int} (hc : c.toNat < s.known.length) : wr.cell? ⟨gK, c.toNat, none⟩ = some (.bool (seenAt s.known c)) ∧ wr.frozen? ⟨gK, c.toNat, none⟩ = false := by
  have := h.hK.bool hc
  rw [seenAt_get hc]
  exact this
theorem SpM.doneAt (h : SpM W0 gS gK gD base N wr s u) {c : Int} (hc : c.toNat < s.done.length) : wr.cell? ⟨gD, c.toNat, none⟩ = some (.bool (seenAt s.done c)) ∧ wr.frozen? ⟨gD, c.toNat, none⟩ = false := by
  have := h.hD.bool hc
  rw [seenAt_get hc]
  exact this
end
theorem relax_take {t : Land} {b : Int} {s : Sp} {ns : List Int} {k : Nat} (hk : k < ns.length) : (ns.take (k + 1)).foldl (relaxS t b) s = relaxS t b ((ns.take k).foldl (relaxS t b) s) ns[k] := by
  rw [take_next hk, List.foldl_append]; rfl
theorem from_take {t : Land} {s : Sp} {cs : List Int} {k : Nat} (hk : k < cs.length) : (cs.take (k + 1)).foldl (spFrom t) s = spFrom t ((cs.take k).foldl (spFrom t) s) cs[k] := by
  rw [take_next hk, List.foldl_append]; rfl
def lenV : Value → Nat
  | .slice _ n _ => n
  | _ => 0
/-! the start -/
theorem spInit_ok (t : Land) : SOk t (spInit t) := by
  refine ⟨by simp [spInit], by simp [spInit], by simp [spInit], fun c _ _ => ?_, by simp [spInit]⟩
  have : outAt (spInit t).out c = 0 := by
    unfold outAt spInit
    rw [List.getD_eq_getElem?_getD, List.getElem?_replicate]
    split <;> rfl
  omega
theorem seen_rep0 (n : Nat) (c : Int) : seenAt (List.replicate n false) c = false := by
  unfold seenAt
  rw [List.getD_eq_getElem?_getD, List.getElem?_replicate]
  split <;> rfl
theorem spInit_inv (t : Land) : SInv t (spInit t) := by
  refine ⟨spInit_ok t, fun c _ _ h => ?_, fun d o _ _ _ _ h _ => ?_, fun c _ _ h => ?_, fun c _ _ h => ?_⟩
  all_goals
    simp only [spInit, seen_rep0] at h
    cases h
/-- A cell is laid open at the start: nothing is done yet. -/
theorem SInv.from {t : Land} (ht : LOk t) {s : Sp} (h : SInv t s) (hd : ∀ x, seenAt s.done x = false) {c : Int} (h0 : 0 ≤ c) (h1 : c < t.heights.length) : SInv t (spFrom t s c) ∧ ∀ x, seenAt (spFrom t s c).done x = false := by
  have e1 : ∀ x : Int, 0 ≤ x → outAt (s.out.set c.toNat (hAt t c)) x = if x = c then hAt t c else outAt s.out x := fun x hx => outAt_set h0 (by rw [h.lo]; exact h1) hx
  have e2 : ∀ x : Int, 0 ≤ x → seenAt (s.known.set c.toNat true) x = if x = c then true else seenAt s.known x := fun x hx => seenAt_set h0 (by rw [h.lk]; exact h1) hx
  refine ⟨⟨⟨by simpa [spFrom] using h.lo, by simpa [spFrom] using h.lk, h.ld, fun x x0 x1 => ?_, h.ord⟩, fun x _ _ hx => ?_, fun d o _ _ _ _ hx _ => ?_, fun x x0 x1 hx => ?_, fun x _ _ hx => ?_⟩, hd⟩
  · simp only [spFrom]
    rw [e1 x x0]
    have := h.rng x x0 x1
    have := hAt_bound ht c
    split <;> omega
  · simp only [spFrom] at hx; rw [hd] at hx; cases hx
  · simp only [spFrom] at hx; rw [hd] at hx; cases hx
  · simp only [spFrom] at hx ⊢
    rw [e2 x x0] at hx
    rw [e1 x x0]
    by_cases hxc : x = c
    · subst hxc; rw [if_pos rfl]; omega
    · rw [if_neg hxc] at hx ⊢
      exact h.ge x x0 x1 hx
  · simp only [spFrom] at hx; rw [hd] at hx; cases hx
theorem start_inv {t : Land} (ht : LOk t) : ∀ (cs : List Int) {s : Sp}, SInv t s → (∀ x, seenAt s.done x = false) → (∀ c ∈ cs, 0 ≤ c ∧ c < t.heights.length) → SInv t (cs.foldl (spFrom t) s) ∧ ∀ x, seenAt (cs.foldl (spFrom t) s).done x = false
  | [], s, h, hd, _ => ⟨h, hd⟩
  | c :: cs, s, h, hd, hc => by
    rw [List.foldl_cons]
    obtain ⟨h1, h2⟩ := hc c (by simp)
    obtain ⟨g1, g2⟩ := h.from ht hd h1 h2
    exact start_inv ht cs g1 g2 fun x hx => hc x (by simp [hx])
end Go.Proofs.Ytpinpkpjehbfmaa
