/- The other spread: how its state lies in memory. -/
import Derived.Test.YtpinpkpjehbfmaaSurf
namespace Go.Proofs.Ytpinpkpjehbfmaa
open Go.RowKit
set_option linter.unusedVariables false

/-! plain -/
theorem nodup_le : ∀ (n : Nat) (xs : List Int), xs.Nodup → (∀ x ∈ xs, 0 ≤ x ∧ x < n) → xs.length ≤ n
  | 0, [], _, _ => Nat.le_refl _
  | 0, x :: xs, _, h => by have := h x (by simp); omega
  | n + 1, xs, hn, h => by
    have h1 := nodup_le n (xs.erase n) (hn.erase _) fun x hx => by
      have h2 := h x (List.mem_of_mem_erase hx)
      have h3 : x ≠ n := ((hn.mem_erase_iff).1 hx).1
      omega
    by_cases hm : (n : Int) ∈ xs
    · rw [List.length_erase_of_mem hm] at h1; omega
    · rw [List.erase_of_not_mem hm] at h1; omega
theorem open_set {s : Sp} {c : Int} {v : List Int} (h0 : 0 ≤ c) (h1 : c < s.known.length) (hd : seenAt s.done c = false) {x : Int} (hx : 0 ≤ x) :
    openAt { s with out := v, known := s.known.set c.toNat true } x = true ↔ x = c ∨ openAt s x = true := by
  unfold openAt
  simp only
  rw [seenAt_set h0 h1 hx]
  by_cases h : x = c
  · subst h; simp [hd]
  · simp [h]
theorem open_done {s : Sp} {b : Int} {o : List Int} (h0 : 0 ≤ b) (h1 : b < s.done.length) {x : Int} (hx : 0 ≤ x) :
    openAt { s with done := s.done.set b.toNat true, order := o } x = true ↔ x ≠ b ∧ openAt s x = true := by
  unfold openAt
  simp only
  rw [seenAt_set h0 h1 hx]
  by_cases h : x = b
  · subst h; simp
  · simp [h]
theorem done_set {s : Sp} {b : Int} (h0 : 0 ≤ b) (h1 : b < s.done.length) {x : Int} (hx : 0 ≤ x) : seenAt (s.done.set b.toNat true) x = true ↔ x = b ∨ seenAt s.done x = true := by
  rw [seenAt_set h0 h1 hx]
  by_cases h : x = b
  · subst h; simp
  · simp [h]
/-- Block b is a map that holds the cells with p. -/
def MpC (w : World) (b N : Nat) (p : Int → Bool) : Prop := ∃ ks, MpB w b ks ∧ ∀ c, c ∈ ks ↔ (0 ≤ c ∧ c < N ∧ p c = true)
section
variable {w w' : World} {b N : Nat} {p q : Int → Bool}
theorem MpC.kept {row : Option Nat} (h : MpC w b N p) (hg : w.grownBy w' row) (hne : some b ≠ row) : MpC w' b N p := by
  obtain ⟨ks, h1, h2⟩ := h
  exact ⟨ks, h1.kept hg hne, h2⟩
theorem MpC.below (h : MpC w b N p) (hb : Below w.heap.size w w') : MpC w' b N p := h.kept (below_grown hb (Nat.le_refl _)) (by simp)
theorem MpC.setCell (h : MpC w b N p) {a : Addr} (ha : b ≠ a.block) (u : Value) : MpC (w.setCell a u) b N p := by
  obtain ⟨ks, h1, h2⟩ := h
  exact ⟨ks, h1.setCell ha u, h2⟩
theorem MpC.lt (h : MpC w b N p) : b < w.heap.size := by obtain ⟨ks, h1, _⟩ := h; exact h1.lt
/-- What the map's keys say. -/
theorem MpC.keys (h : MpC w b N p) (hN : N ≤ 144) : ∃ ks, MpB w b ks ∧ (∀ c, c ∈ ks ↔ (0 ≤ c ∧ c < N ∧ p c = true)) ∧ ks.length ≤ 144 := by
  obtain ⟨ks, h1, h2⟩ := h
  exact ⟨ks, h1, h2, Nat.le_trans (nodup_le N ks h1.nd fun x hx => ⟨((h2 x).1 hx).1, ((h2 x).1 hx).2.1⟩) hN⟩
end
theorem dec_mem {ks : List Int} {N : Nat} {p : Int → Bool} (h : ∀ c, c ∈ ks ↔ (0 ≤ c ∧ c < N ∧ p c = true)) {c : Int} (h0 : 0 ≤ c) (h1 : c < N) : decide (c ∈ ks) = p c := by
  cases hp : p c with
  | true => exact decide_eq_true ((h c).2 ⟨h0, h1, hp⟩)
  | false => exact decide_eq_false fun hm => by rw [((h c).1 hm).2.2] at hp; cases hp
theorem MpC.add {w' : World} {b N : Nat} {p q : Int → Bool} {ks : List Int} {c : Int} (h : ∀ c, c ∈ ks ↔ (0 ≤ c ∧ c < N ∧ p c = true)) (hm : MpB w' b (addK ks c)) (h0 : 0 ≤ c) (h1 : c < N)
    (hq : ∀ x : Int, 0 ≤ x → x < N → (q x = true ↔ x = c ∨ p x = true)) : MpC w' b N q :=
  ⟨_, hm, fun x => by
    rw [mem_addK, h x]
    constructor
    · rintro (rfl | ⟨a, b, e⟩)
      · exact ⟨h0, h1, (hq _ h0 h1).2 (.inl rfl)⟩
      · exact ⟨a, b, (hq _ a b).2 (.inr e)⟩
    · rintro ⟨a, b, e⟩
      rcases (hq _ a b).1 e with e | e
      · exact .inl e
      · exact .inr ⟨a, b, e⟩⟩
theorem MpC.sub {w' : World} {b N : Nat} {p q : Int → Bool} {ks : List Int} {c : Int} (h : ∀ c, c ∈ ks ↔ (0 ≤ c ∧ c < N ∧ p c = true)) (hn : ks.Nodup) (hm : MpB w' b (ks.erase c))
    (hq : ∀ x : Int, 0 ≤ x → x < N → (q x = true ↔ x ≠ c ∧ p x = true)) : MpC w' b N q :=
  ⟨_, hm, fun x => by
    rw [hn.mem_erase_iff, h x]
    constructor
    · rintro ⟨hne, a, b, e⟩
      exact ⟨a, b, (hq _ a b).2 ⟨hne, e⟩⟩
    · rintro ⟨a, b, e⟩
      obtain ⟨hne, e⟩ := (hq _ a b).1 e
      exact ⟨hne, a, b, e⟩⟩
theorem MpC.same {w : World} {b N : Nat} {p q : Int → Bool} (h : MpC w b N p) (hq : ∀ x : Int, 0 ≤ x → x < N → p x = q x) : MpC w b N q := by
  obtain ⟨ks, h1, h2⟩ := h
  refine ⟨ks, h1, fun x => ?_⟩
  rw [h2 x]
  constructor
  · rintro ⟨a, b, e⟩; exact ⟨a, b, by rw [← hq x a b]; exact e⟩
  · rintro ⟨a, b, e⟩; exact ⟨a, b, by rw [hq x a b]; exact e⟩
/-- A map is open for more iff a cell can be picked. -/
theorem pick_keys {ks : List Int} {s : Sp} {N : Nat} (h : ∀ c, c ∈ ks ↔ (0 ≤ c ∧ c < N ∧ openAt s c = true)) : (0 < ks.length) ↔ ¬ pick s N < 0 := by
  rcases pick_spec s N with ⟨h1, h2⟩ | ⟨h1, h2, h3, _⟩
  · constructor
    · intro hl
      obtain ⟨x, hx⟩ := List.exists_mem_of_length_pos hl
      obtain ⟨a, b, e⟩ := (h x).1 hx
      have h9 := h2 x.toNat (by omega)
      rw [show ((x.toNat : Nat) : Int) = x by omega, e] at h9
      cases h9
    · intro h9; omega
  · constructor
    · intro _; omega
    · intro _; exact List.length_pos_of_mem ((h _).2 ⟨h1, h2, h3⟩)
/-- The state of the other spread. -/
structure SpI (W0 : World) (gS gD gO base N : Nat) (wr : World) (s : Sp) (u : Value) : Prop where
  below : Below W0.heap.size W0 wr
  o0 : W0.heap.size ≤ gS
  o1 : gS < gD
  o2 : gD < gO
  o3 : gO < base
  hS : Own wr gS 2 (.slice (some ⟨gS, 0, none⟩) N N) s.out
  hD : MpC wr gD N (seenAt s.done)
  hK : MpC wr gO N (openAt s)
  hO : Own wr base 2 u s.order
  sz : base ≤ wr.heap.size
section
variable {W0 : World} {gS gD gO base N : Nat} {wr w' : World} {s s' : Sp} {u : Value}
theorem SpI.base0 (h : SpI W0 gS gD gO base N wr s u) : W0.heap.size ≤ base := by have := h.o0; have := h.o1; have := h.o2; have := h.o3; omega
theorem SpI.step (h : SpI W0 gS gD gO base N wr s u) (hb : Below wr.heap.size wr w') : SpI W0 gS gD gO base N w' s u :=
  ⟨h.below.trans (hb.mono h.below.size), h.o0, h.o1, h.o2, h.o3, h.hS.below hb, h.hD.below hb, h.hK.below hb, h.hO.below hb, Nat.le_trans h.sz hb.size⟩
theorem SpI.setOut (h : SpI W0 gS gD gO base N wr s u) {k : Nat} (hk : k < s.out.length) (v : Int) : SpI W0 gS gD gO base N (wr.setCell ⟨gS, k, none⟩ (.int .i64 v)) { s with out := s.out.set k v } u :=
  ⟨h.below.setCell h.o0 _, h.o0, h.o1, h.o2, h.o3, h.hS.intSet hk v, h.hD.setCell (by have := h.o1; simp only; omega) _, (h.hK.setCell (by have := h.o1; have := h.o2; simp only; omega) _).same fun _ _ _ => rfl, h.hO.past (by have := h.o1; have := h.o2; have := h.o3; simp only; omega) _, le_set h.sz⟩
/-- The map of the open cells has turned. -/
theorem SpI.turnK (h : SpI W0 gS gD gO base N wr s u) (hm : MpC w' gO N (openAt s')) (hg : wr.grownBy w' (some gO)) (he : s'.out = s.out ∧ s'.order = s.order ∧ s'.done = s.done) : SpI W0 gS gD gO base N w' s' u := by
  obtain ⟨e1, e2, e3⟩ := he
  have h1 := h.o1
  have h2 := h.o2
  have h3 := h.o3
  refine ⟨h.below.grown hg h.below.size (fun k hk => by injection hk with hk; have := h.o0; omega), h.o0, h.o1, h.o2, h.o3, ?_, ?_, hm, ?_, Nat.le_trans h.sz hg.size⟩
  · rw [e1]; exact h.hS.grown hg (.inr (by simp only [Value.ownBlock, ne_eq, Option.some.injEq]; omega))
  · rw [e3]; exact h.hD.kept hg (by simp only [ne_eq, Option.some.injEq]; omega)
  · rw [e2]; refine h.hO.grown hg (.inr fun e => ?_)
    have := (h.hO.block gO e).1
    omega
/-- The maps of the open and of the done cells have turned. -/
theorem SpI.turn2 {w2 : World} (h : SpI W0 gS gD gO base N wr s u) (hg : wr.grownBy w' (some gO)) {p : Int → Bool} (hm : MpC w' gO N p) (hg2 : w'.grownBy w2 (some gD)) (hd : MpC w2 gD N (seenAt s'.done)) (hp : ∀ x : Int, 0 ≤ x → x < N → p x = openAt s' x)
    (he : s'.out = s.out ∧ s'.order = s.order) : SpI W0 gS gD gO base N w2 s' u := by
  obtain ⟨e1, e2⟩ := he
  have h1 := h.o1
  have h2 := h.o2
  have h3 := h.o3
  have hb := (h.below.grown hg h.below.size (fun k hk => by injection hk with hk; have := h.o0; omega))
  refine ⟨hb.grown hg2 hb.size (fun k hk => by injection hk with hk; have := h.o0; omega), h.o0, h.o1, h.o2, h.o3, ?_, hd, (hm.kept hg2 (by simp only [ne_eq, Option.some.injEq]; omega)).same hp, ?_, Nat.le_trans (Nat.le_trans h.sz hg.size) hg2.size⟩
  · rw [e1]; exact (h.hS.grown hg (.inr (by simp only [Value.ownBlock, ne_eq, Option.some.injEq]; omega))).grown hg2 (.inr (by simp only [Value.ownBlock, ne_eq, Option.some.injEq]; omega))
  · rw [e2]; refine (h.hO.grown hg (.inr fun e => ?_)).grown hg2 (.inr fun e => ?_)
    · have := (h.hO.block gO e).1
      omega
    · have := (h.hO.block gD e).1
      omega
theorem SpI.push (h : SpI W0 gS gD gO base N wr s u) {u' : Value} {b : Int} (ho : Own w' base 2 u' (s.order ++ [b])) (hg : wr.grownBy w' u.ownBlock) : SpI W0 gS gD gO base N w' { s with order := s.order ++ [b] } u' := by
  have hb := fun g hg' => (h.hO.block g hg').1
  have h1 := h.o1
  have h2 := h.o2
  have h3 := h.o3
  refine ⟨below_own h.below h.hO hg h.base0 h.below.size, h.o0, h.o1, h.o2, h.o3, h.hS.beside hg ?_, h.hD.kept hg ?_, (h.hK.kept hg ?_).same fun _ _ _ => rfl, ho, Nat.le_trans h.sz hg.size⟩
  · intro a b e1 e2
    have := hb b e2
    simp only [Value.ownBlock, Option.some.injEq] at e1
    omega
  · intro e
    have := hb gD e.symm
    omega
  · intro e
    have := hb gO e.symm
    omega
theorem SpI.outAt (h : SpI W0 gS gD gO base N wr s u) {c : Int} (hc : c.toNat < s.out.length) : wr.cell? ⟨gS, c.toNat, none⟩ = some (.int .i64 (outAt s.out c)) ∧ wr.frozen? ⟨gS, c.toNat, none⟩ = false := by
  have := h.hS.int hc
  rw [show Go.Proofs.Ytpinpkpjehbfmaa.outAt s.out c = s.out[c.toNat] by simp [Go.Proofs.Ytpinpkpjehbfmaa.outAt, hc]]
  exact this
end
theorem SpI.start {w wa : World} {N : Nat} {u : Value} {o : Obj}
    (hoa : Own wa w.heap.size 2 (.slice (some ⟨w.heap.size, 0, none⟩) N N) (List.replicate N (0 : Int))) (hba : Below w.heap.size w wa) {t : Land} (hN : t.heights.length = N) {wz : World} (hz : Below wa.heap.size wa wz)
    (h1 : MpB wz wa.heap.size []) (h2 : MpB wz (wa.heap.size + 1) []) {base : Nat} (hb : wa.heap.size + 1 < base) (hs : base ≤ wz.heap.size) (ho : Own wz base 2 u ([] : List Int)) :
    SpI w w.heap.size wa.heap.size (wa.heap.size + 1) base N wz (spInit t) u := by
  subst hN
  have g1 := (hoa.block _ rfl).2
  refine ⟨hba.trans (hz.mono hba.size), Nat.le_refl _, g1, Nat.lt_succ_self _, hb, hoa.below hz, ⟨_, h1, fun c => ?_⟩, ⟨_, h2, fun c => ?_⟩, ho, hs⟩
  · simp only [spInit, seen_rep0]; simp
  · simp only [openAt, spInit, seen_rep0]; simp
end Go.Proofs.Ytpinpkpjehbfmaa
