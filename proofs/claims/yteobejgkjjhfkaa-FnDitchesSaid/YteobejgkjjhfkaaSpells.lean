/- Dry spells: a slice of pairs in memory, and the walks. -/
import Derived.Test.YteobejgkjjhfkaaSpPlain
import Derived.Deep.CutBlock
namespace Go.Proofs.Yteobejgkjjhfkaa
open Go.RowKit
set_option linter.unusedVariables false
/-- A slice value as an element. -/
structure SlC where
  A : Option Addr
  n : Nat
  c : Nat
instance : Enc SlC := ⟨1, fun s => [.slice s.A s.n s.c], fun _ => rfl, fun _ u h => by simp at h; subst h; rfl⟩
theorem elSl : El Try.prog 32 24 (⟨none, 0, 0⟩ : SlC) :=
  El.mk' (z := .slice none 0 0) (bytes := 24) Try.underlying32 (by kernel_rfl) (by decide) rfl (by decide)
def prA (g : Nat) : SlC := ⟨some ⟨g, 0, none⟩, 2, 2⟩
def pv (g : Nat) : Value := .slice (some ⟨g, 0, none⟩) 2 2
theorem Rd.slc {w : World} {A : Option Addr} {xs : List SlC} (h : Rd w A xs) {k : Nat} (hk : k < xs.length) : ∃ b off, A = some ⟨b, off, none⟩ ∧ w.cell? ⟨b, off + k, none⟩ = some (.slice xs[k].A xs[k].n xs[k].c) := by
  obtain ⟨b, off, hA, hc⟩ := h.2 k hk
  exact ⟨b, off, hA, by simpa [Enc.size] using hc 0 _ rfl⟩
/-- Slices that read as pairs. -/
def SlAll (w : World) : List SlC → List (Int × Int) → Prop
  | [], [] => True
  | s :: ss, p :: ps => (s.n = 2 ∧ Rd w s.A [p.1, p.2]) ∧ SlAll w ss ps
  | _, _ => False
theorem SlAll.len {w : World} : ∀ {ss : List SlC} {ps : List (Int × Int)}, SlAll w ss ps → ss.length = ps.length
  | [], [], _ => rfl
  | s :: ss, p :: ps, h => by simp [SlAll.len h.2]
  | [], p :: ps, h => h.elim
  | s :: ss, [], h => h.elim
theorem SlAll.below {w w' : World} (hb : Below w.heap.size w w') : ∀ {ss : List SlC} {ps : List (Int × Int)}, SlAll w ss ps → SlAll w' ss ps
  | [], [], _ => trivial
  | s :: ss, p :: ps, h => ⟨⟨h.1.1, h.1.2.below hb⟩, SlAll.below hb h.2⟩
  | [], p :: ps, h => h.elim
  | s :: ss, [], h => h.elim
theorem SlAll.at_ {w : World} : ∀ {ss : List SlC} {ps : List (Int × Int)}, SlAll w ss ps → ∀ k, (h1 : k < ss.length) → (h2 : k < ps.length) → ss[k].n = 2 ∧ Rd w ss[k].A [ps[k].1, ps[k].2]
  | s :: ss, p :: ps, h, 0, _, _ => h.1
  | s :: ss, p :: ps, h, k + 1, h1, h2 => SlAll.at_ h.2 k (by simpa using h1) (by simpa using h2)
  | [], [], _, k, h1, _ => absurd h1 (by simp)
  | [], p :: ps, h, _, _, _ => h.elim
  | s :: ss, [], h, _, _, _ => h.elim
theorem SlAll.push {w : World} {s : SlC} {p : Int × Int} (h1 : s.n = 2 ∧ Rd w s.A [p.1, p.2]) : ∀ {ss : List SlC} {ps : List (Int × Int)}, SlAll w ss ps → SlAll w (ss ++ [s]) (ps ++ [p])
  | [], [], _ => ⟨h1, trivial⟩
  | s :: ss, p :: ps, h => ⟨h.1, SlAll.push h1 h.2⟩
  | [], p :: ps, h => h.elim
  | s :: ss, [], h => h.elim
def RdP (w : World) (A : Option Addr) (ps : List (Int × Int)) : Prop := ∃ ss : List SlC, Rd w A ss ∧ SlAll w ss ps
theorem RdP.below {w w' : World} {A : Option Addr} {ps : List (Int × Int)} (h : RdP w A ps) (hb : Below w.heap.size w w') : RdP w' A ps := by
  obtain ⟨ss, h1, h2⟩ := h
  exact ⟨ss, h1.below hb, h2.below hb⟩
theorem RdP.len {w : World} {A : Option Addr} {ps : List (Int × Int)} (h : RdP w A ps) : ps.length ≤ 1048576 := by
  obtain ⟨ss, h1, h2⟩ := h
  rw [← h2.len]
  exact h1.len
theorem RdP.at_ {w : World} {A : Option Addr} {ps : List (Int × Int)} (h : RdP w A ps) {k : Nat} (hk : k < ps.length) : ∃ b off g o q, A = some ⟨b, off, none⟩ ∧
    w.cell? ⟨b, off + k, none⟩ = some (.slice (some ⟨g, o, none⟩) 2 q) ∧ w.cell? ⟨g, o, none⟩ = some (.int .i64 ps[k].1) ∧ w.cell? ⟨g, o + 1, none⟩ = some (.int .i64 ps[k].2) := by
  obtain ⟨ss, h1, h2⟩ := h
  have hk' : k < ss.length := by rw [h2.len]; exact hk
  obtain ⟨b, off, hA, hc⟩ := h1.slc hk'
  obtain ⟨e1, e2⟩ := h2.at_ k hk' hk
  obtain ⟨g, o, e3, c0⟩ := e2.int (k := 0) (by simp)
  obtain ⟨g', o', e4, c1⟩ := e2.int (k := 1) (by simp)
  rw [e3] at e4
  injection e4 with e4
  injection e4 with i9 j9
  subst i9 j9
  refine ⟨b, off, g, o, ss[k].c, hA, ?_, c0, c1⟩
  rw [hc, e1, e3]
theorem RdP.slice {w : World} {A : Option Addr} {ps : List (Int × Int)} (h : RdP w A ps) {k : Nat} (hk : k < ps.length) : ∃ s : SlC, s.n = 2 ∧ Rd w s.A [ps[k].1, ps[k].2] ∧ ∃ b off g o, A = some ⟨b, off, none⟩ ∧ s.A = some ⟨g, o, none⟩ ∧
    w.cell? ⟨b, off + k, none⟩ = some (.slice (some ⟨g, o, none⟩) 2 s.c) ∧ w.cell? ⟨g, o, none⟩ = some (.int .i64 ps[k].1) ∧ w.cell? ⟨g, o + 1, none⟩ = some (.int .i64 ps[k].2) := by
  obtain ⟨ss, h1, h2⟩ := h
  have hk' : k < ss.length := by rw [h2.len]; exact hk
  obtain ⟨b, off, hA, hc⟩ := h1.slc hk'
  obtain ⟨e1, e2⟩ := h2.at_ k hk' hk
  obtain ⟨g, o, e3, c0⟩ := e2.int (k := 0) (by simp)
  obtain ⟨g', o', e4, c1⟩ := e2.int (k := 1) (by simp)
  rw [e3] at e4
  injection e4 with e4
  injection e4 with i9 j9
  subst i9 j9
  refine ⟨ss[k], e1, e2, b, off, g, o, hA, e3, ?_, c0, c1⟩
  rw [hc, e1, e3]
/-- The pairs are the call's own rows. -/
def PrAll (w : World) (base : Nat) : List Nat → List (Int × Int) → Prop
  | [], [] => True
  | g :: gs, p :: ps => Own w base 2 (pv g) [p.1, p.2] ∧ PrAll w base gs ps
  | _, _ => False
section
variable {w w' : World} {base : Nat}
theorem PrAll.len : ∀ {gs : List Nat} {ps : List (Int × Int)}, PrAll w base gs ps → gs.length = ps.length
  | [], [], _ => rfl
  | g :: gs, p :: ps, h => by simp [PrAll.len h.2]
  | [], p :: ps, h => h.elim
  | g :: gs, [], h => h.elim
theorem PrAll.push {g : Nat} {p : Int × Int} (h1 : Own w base 2 (pv g) [p.1, p.2]) : ∀ {gs : List Nat} {ps : List (Int × Int)}, PrAll w base gs ps → PrAll w base (gs ++ [g]) (ps ++ [p])
  | [], [], _ => ⟨h1, trivial⟩
  | g :: gs, p :: ps, h => ⟨h.1, PrAll.push h1 h.2⟩
  | [], p :: ps, h => h.elim
  | g :: gs, [], h => h.elim
theorem PrAll.split : ∀ {gs : List Nat} {ps : List (Int × Int)} {p : Int × Int}, PrAll w base gs (ps ++ [p]) → ∃ gs' g, gs = gs' ++ [g] ∧ PrAll w base gs' ps ∧ Own w base 2 (pv g) [p.1, p.2]
  | [], [], p, h => h.elim
  | [g], [], p, h => ⟨[], g, rfl, trivial, h.1⟩
  | g :: g2 :: gs, [], p, h => h.2.elim
  | [], q :: ps, p, h => h.elim
  | g :: gs, q :: ps, p, h => by
    obtain ⟨gs', g', rfl, h1, h2⟩ := PrAll.split (gs := gs) (ps := ps) h.2
    exact ⟨g :: gs', g', rfl, ⟨h.1, h1⟩, h2⟩
theorem PrAll.imp {base' : Nat} (hb : ∀ g xs, Own w base 2 (pv g) (xs : List Int) → Own w' base' 2 (pv g) xs) : ∀ {gs : List Nat} {ps : List (Int × Int)}, PrAll w base gs ps → PrAll w' base' gs ps
  | [], [], _ => trivial
  | g :: gs, p :: ps, h => ⟨hb _ _ h.1, PrAll.imp hb h.2⟩
  | [], p :: ps, h => h.elim
  | g :: gs, [], h => h.elim
theorem PrAll.impM : ∀ {gs : List Nat} {ps : List (Int × Int)}, (∀ g ∈ gs, ∀ xs : List Int, Own w base 2 (pv g) xs → Own w' base 2 (pv g) xs) → PrAll w base gs ps → PrAll w' base gs ps
  | [], [], _, _ => trivial
  | g :: gs, p :: ps, hb, h => ⟨hb g (by simp) _ h.1, PrAll.impM (fun g' hg => hb g' (by simp [hg])) h.2⟩
  | [], p :: ps, _, h => h.elim
  | g :: gs, [], _, h => h.elim
theorem PrAll.lt : ∀ {gs : List Nat} {ps : List (Int × Int)}, PrAll w base gs ps → ∀ g ∈ gs, base ≤ g ∧ g < w.heap.size
  | [], [], _, g, hg => by simp at hg
  | g :: gs, p :: ps, h, g', hg => by
    rcases List.mem_cons.mp hg with rfl | hg
    · exact h.1.block g' rfl
    · exact PrAll.lt h.2 g' hg
  | [], p :: ps, h, _, _ => h.elim
  | g :: gs, [], h, _, _ => h.elim
theorem PrAll.sl : ∀ {gs : List Nat} {ps : List (Int × Int)}, PrAll w base gs ps → SlAll w (gs.map prA) ps
  | [], [], _ => trivial
  | g :: gs, p :: ps, h => ⟨⟨rfl, h.1.rd (by simp)⟩, PrAll.sl h.2⟩
  | [], p :: ps, h => h.elim
  | g :: gs, [], h => h.elim
end
theorem alloc_new2 (w : World) (o o2 : Obj) : ((w.alloc o).alloc o2).heap[w.heap.size + 1]? = some o2 := by
  have h := heap_alloc_new (w.alloc o) o2
  rwa [show (w.alloc o).heap.size = w.heap.size + 1 from by simp] at h
theorem Own.pair {w : World} {base : Nat} (a b : Int) (hb : base ≤ w.heap.size) : Own (w.alloc (.cells #[.int .i64 a, .int .i64 b] 2)) base 2 (pv w.heap.size) [a, b] :=
  ⟨by simp [flat, Enc.enc, Enc.size], .inr ⟨w.heap.size, 2, _, rfl, hb, heap_alloc_new w _, Nat.le_refl _, by simp [maxLen], by simp [Enc.size], by simp [flat, Enc.enc, Enc.size]⟩⟩
/-- A slice of pairs that the call has made. -/
structure Prs (w : World) (base : Nat) (ov : Value) (gs : List Nat) (ps : List (Int × Int)) : Prop where
  own : Own w base 24 ov (gs.map prA)
  all : PrAll w base gs ps
  asc : gs.Pairwise (· < ·)
  off : ∀ g ∈ gs, ov.ownBlock ≠ some g
section
variable {w w' : World} {base : Nat} {ov : Value} {gs : List Nat} {ps : List (Int × Int)}
theorem Prs.drewN (h : Prs w base ov gs ps) (n : Nat) : Prs (w.drewN n) base ov gs ps := ⟨h.own.drewN n, h.all.imp fun g xs ho => ho.drewN n, h.asc, h.off⟩
theorem Prs.len (h : Prs w base ov gs ps) : gs.length = ps.length := h.all.len
theorem Prs.nil (hb : base ≤ w.heap.size) : Prs (w.alloc (.cells #[] 24)) base (.slice (some ⟨w.heap.size, 0, none⟩) 0 0) [] [] := ⟨Own.empty hb, trivial, by simp, by simp⟩
theorem Prs.form (h : Prs w base ov gs ps) : ∃ A c, ov = .slice A ps.length c := by
  obtain ⟨A, c, hv⟩ := h.own.form
  rw [List.length_map, h.len] at hv
  exact ⟨A, c, hv⟩
theorem Prs.rdp {A : Option Addr} {n c : Nat} (h : Prs w base (.slice A n c) gs ps) (hl : ps.length ≤ 1048576) : RdP w A ps :=
  ⟨gs.map prA, h.own.rd (by rw [List.length_map, h.len]; exact hl), h.all.sl⟩
theorem PrAll.at_ : ∀ {gs : List Nat} {ps : List (Int × Int)}, PrAll w base gs ps → ∀ k, (h1 : k < gs.length) → (h2 : k < ps.length) → Own w base 2 (pv gs[k]) [ps[k].1, ps[k].2]
  | g :: gs, p :: ps, h, 0, _, _ => h.1
  | g :: gs, p :: ps, h, k + 1, h1, h2 => PrAll.at_ h.2 k (by simpa using h1) (by simpa using h2)
  | [], [], _, k, h1, _ => absurd h1 (by simp)
  | [], p :: ps, h, _, _, _ => h.elim
  | g :: gs, [], h, _, _, _ => h.elim
theorem Prs.at_ {V : Option Addr} {n c : Nat} (h : Prs w base (.slice V n c) gs ps) {k : Nat} (hk : k < ps.length) : ∃ b g, V = some ⟨b, 0, none⟩ ∧ base ≤ b ∧ base ≤ g ∧
    w.cell? ⟨b, k, none⟩ = some (.slice (some ⟨g, 0, none⟩) 2 2) ∧ w.cell? ⟨g, 1, none⟩ = some (.int .i64 ps[k].2) ∧ Own w base 2 (pv g) [ps[k].1, ps[k].2] := by
  have hlen := h.len
  have ho := h.all.at_ k (by omega) hk
  obtain ⟨b, hb, hbb, _⟩ := h.own.addr (k := k) (by simp; omega)
  subst hb
  have hc := h.own.cell (k := k) (j := 0) (by simp; omega) (u := .slice (some ⟨gs[k], 0, none⟩) 2 2) (by simp [prA]; rfl)
  have hr := ho.cell (k := 1) (j := 0) (by simp) (u := .int .i64 ps[k].2) rfl
  exact ⟨b, gs[k], rfl, hbb, (ho.block gs[k] rfl).1, by simpa [Enc.size] using hc, by simpa [Enc.size] using hr, ho⟩
theorem Span.grown2 {W : World} {lo hi : Nat} {u : Value} (h : Span W w lo hi) (hg : w.grownBy w' u.ownBlock) (hu : ∀ g, u.ownBlock = some g → (lo ≤ g ∧ g < hi) ∨ W.heap.size ≤ g) : Span W w' lo hi :=
  ⟨hg.os.trans h.os, hg.tape.trans h.tape, hg.output.trans h.output, Nat.le_trans h.size hg.size, fun k hk ho => by
    rw [hg.block k (Nat.lt_of_lt_of_le hk h.size) (fun e => by have := hu k e.symm; omega)]
    exact h.block k hk ho⟩
/-- A pair is added. -/
theorem Prs.push {v' : Value} {p : Int × Int} {G : Nat} {wa : World} (h : Prs w base ov gs ps) (hG : G = w.heap.size) (hwa : Below w.heap.size w wa) (hsz : G < wa.heap.size) (ho : Own wa base 2 (pv G) [p.1, p.2])
    (hown : Own w' base 24 v' (gs.map prA ++ [prA G])) (hg : wa.grownBy w' ov.ownBlock) (hat : v'.ownBlock = ov.ownBlock ∨ v'.ownBlock = some wa.heap.size) : Prs w' base v' (gs ++ [G]) (ps ++ [p]) := by
  have hov : ∀ k, ov.ownBlock = some k → k < w.heap.size := fun k hk => (h.own.block k hk).2
  refine ⟨by rw [List.map_append]; exact hown, PrAll.push ?_ (h.all.impM fun g hgm xs ho => ?_), ?_, ?_⟩
  · refine ho.grown hg ?_
    right
    intro e
    have := hov G (by rw [← e]; rfl)
    omega
  · refine (ho.below hwa).grown hg ?_
    right
    intro e
    exact h.off g hgm e.symm
  · refine List.pairwise_append.mpr ⟨h.asc, by simp, fun a ha b hb => ?_⟩
    simp only [List.mem_singleton] at hb
    subst hb
    have := (h.all.lt a ha).2
    omega
  · intro g hgm
    rcases hat with e | e
    · rw [e]
      rcases List.mem_append.mp hgm with hgm | hgm
      · exact h.off g hgm
      · simp only [List.mem_singleton] at hgm
        subst hgm
        intro e2
        have := hov g e2
        omega
    · rw [e]
      intro e2
      injection e2 with e2
      rcases List.mem_append.mp hgm with hgm | hgm
      · have := (h.all.lt g hgm).2
        have := hwa.size
        omega
      · simp only [List.mem_singleton] at hgm
        omega
/-- The last pair: its cells, and what a store into it makes. -/
theorem Prs.last {V : Option Addr} {n c : Nat} {q : List (Int × Int)} {r : Int × Int} (h : Prs w base (.slice V n c) gs (q ++ [r])) : ∃ b g, V = some ⟨b, 0, none⟩ ∧ base ≤ g ∧
    w.cell? ⟨b, q.length, none⟩ = some (.slice (some ⟨g, 0, none⟩) 2 2) ∧ w.cell? ⟨g, 1, none⟩ = some (.int .i64 r.2) ∧ w.frozen? ⟨g, 1, none⟩ = false ∧
    ∀ z, Prs (w.setCell ⟨g, 1, none⟩ (.int .i64 z)) base (.slice V n c) gs (q ++ [(r.1, z)]) := by
  obtain ⟨gs', g, rfl, ha, ho⟩ := h.all.split
  have hlen := ha.len
  obtain ⟨b, hb, _, _⟩ := h.own.addr (k := q.length) (by simp [hlen])
  subst hb
  have hc := h.own.cell (k := q.length) (j := 0) (by simp [hlen]) (u := .slice (some ⟨g, 0, none⟩) 2 2) (by simp [hlen, prA]; rfl)
  have hr := ho.cell (k := 1) (j := 0) (by simp) (u := .int .i64 r.2) rfl
  have hf := ho.free 1
  have hbg : base ≤ g := (ho.block g rfl).1
  refine ⟨b, g, rfl, hbg, by simpa [Enc.size] using hc, by simpa [Enc.size] using hr, hf, fun z => ?_⟩
  have hst := ho.set (k := 1) (j := 0) (u := .int .i64 z) (y := z) (by simp) (by simp [Enc.size]) rfl
  have hgr : w.grownBy (w.setCell ⟨g, 1, none⟩ (.int .i64 z)) (some g) := (World.ownsRow.stored ho 1 _).2
  have hst2 : Own (w.setCell ⟨g, 1, none⟩ (.int .i64 z)) base 2 (pv g) [r.1, z] := by simpa [Enc.size, pv] using hst
  refine ⟨h.own.grown hgr (.inr ?_), PrAll.push hst2 (ha.impM fun g' hgm xs ho' => ho'.grown hgr (.inr ?_)), h.asc, h.off⟩
  · exact h.off g (by simp)
  · intro e
    have e : some g' = some g := e
    injection e with e
    have := (List.pairwise_append.mp h.asc).2.2 g' hgm g (by simp)
    omega
end
set_option maxHeartbeats 4000000 in
theorem spells_ (A : Option Addr) (xs : List Int) (c : Nat) (w : World) (hx : Rd w A xs) (h : RainOk xs) :
    Calls Try.prog 61 #[.slice A xs.length c] w fun e w' => ∃ V q gs, e = .returned (.slice V (spL xs xs.length).length q) ∧ Prs w' w.heap.size (.slice V (spL xs xs.length).length q) gs (spL xs xs.length) ∧ Below w.heap.size w w' := by
  have hn := hx.len
  have HX := hid hx
  have HO := hid h
  have hx16 : xs.length ≤ 16 := h.2.1
  clear hx h
  go_enter Try.func61, Try.ntmps61
  go_wp2_with fail
  go_loopw [3, 9] (fun ov i wr => ∃ (k : Nat) (gs : List Nat), k ≤ xs.length ∧ i = .int .i64 k ∧ (spL xs k).length ≤ k ∧ Prs wr w.heap.size ov gs (spL xs k) ∧ Below w.heap.size w wr) (fun _ i _ => xs.length - (intOf i).toNat)
  case atStart => exact ⟨0, [], Nat.zero_le _, rfl, Nat.le_refl _, Prs.nil (Nat.le_refl _), (Below.refl _ _).alloc (Nat.le_refl _) _⟩
  case round =>
    obtain ⟨k, gs, hk, rfl, hkl, hp, hq⟩ := hrel
    obtain ⟨wo, rfl⟩ : ∃ wo : World, wo = wr := ⟨_, rfl⟩
    obtain ⟨V, vq, rfl⟩ := hp.form
    have HQ := hid hq
    have HP := hid hp
    have HX2 := hid (HX.out.below hq)
    have HKL := hid hkl
    by_cases hlt : k < xs.length
    · obtain ⟨g, off, rfl, c1⟩ := HX2.out.int hlt
      have hx0 := (HO.out.2.2 _ (List.getElem_mem hlt)).1
      have hstep : spL xs (k + 1) = if 0 < xs[k] then spL xs k else if 0 < k ∧ xs.getD (k - 1) 1 = 0 then bump (spL xs k) else spL xs k ++ [((k : Int), 1)] := by rw [spL, getD_at hlt]
      have HSP := hid (spL_ok xs (fun x hx => (HO.out.2.2 x hx).1) k (by omega))
      generalize xs[k] = x at c1 hx0 hstep
      have HST := hid hstep
      clear hstep hp hq hkl
      by_cases hA : 0 < x
      · rw [if_pos hA] at HST
        go_wp2_with fail
        go_roundw
        case rel => exact ⟨k + 1, gs, by omega, by go_num, by rw [HST.out]; have := HKL.out; omega, by rw [HST.out]; exact HP.out, HQ.out⟩
        case measure => simp [intOf]; omega
      · rw [if_neg hA] at HST
        by_cases hB : 0 < k ∧ xs.getD (k - 1) 1 = 0
        · rw [if_pos hB] at HST
          obtain ⟨hk0, hB2⟩ := hB
          have hk1 : k - 1 < xs.length := by omega
          obtain ⟨g2, off2, hA2, c2⟩ := HX2.out.int hk1
          injection hA2 with hA2
          injection hA2 with i9 j9
          subst i9 j9
          obtain ⟨q, r, hqr, hr⟩ := HSP.out.last hk0 hB2
          rw [getD_at hk1] at hB2
          rw [hB2] at c2
          obtain ⟨k', rfl⟩ : ∃ k', k = k' + 1 := ⟨k - 1, by omega⟩
          rw [Nat.add_sub_cancel] at c2
          have hstq : spL xs (k' + 1 + 1) = q ++ [(r.1, r.2 + 1)] := by rw [HST.out, hqr, bump_last]
          have hpr := HP.out
          rw [hqr] at hpr
          obtain ⟨b, gg, hV, hbg, d1, d2, d3, hset⟩ := hpr.last
          subst hV
          have hql : (spL xs (k' + 1)).length = q.length + 1 := by rw [hqr]; simp
          have HKL2 := HKL.out
          rw [hql] at HKL2
          have hqn : q.length ≤ 16 := by omega
          rw [hql]
          have hrr := (HSP.out.each r (by rw [hqr]; simp)).pos
          have hr1 : 0 ≤ r.2 ∧ r.2 ≤ 16 := by omega
          rw [show (q ++ [r]).length = q.length + 1 from by simp] at hset
          have HSET := hid hset
          have HSTQ := hid hstq
          clear hpr hset hstq hr hrr HST HSP hB2 hqr hql
          have H2 := hid HKL2
          clear HKL2 HKL
          go_wp2_with fail
          go_roundw
          case rel => exact ⟨k' + 1 + 1, gs, by omega, by go_num, by rw [HSTQ.out, List.length_append]; simp only [List.length_cons, List.length_nil]; have := H2.out; omega, by rw [HSTQ.out]; exact HSET.out _, HQ.out.setCell hbg _⟩
          case measure => simp [intOf]; omega
        · rw [if_neg hB] at HST
          have HB : Hid (∀ n : Nat, n + 1 = k → ¬ xs.getD n 1 = 0) := fun n hn hc => hB ⟨by omega, by rw [show k - 1 = n by omega]; exact hc⟩
          have HSZ := hid HP.out.own.block
          have hkl := HKL.out
          clear hB
          rcases Nat.eq_zero_or_pos k with hk0 | hk0
          · subst hk0
            rw [Nat.add_zero] at c1
            go_wp2_with (first | fail | (at_builtin; refine wpList_push elSl _ rfl (.tmp 14) (.tmp 17) rfl w.heap.size _ (gs.map prA) (prA wo.heap.size) rfl (Own.alloc (Own.alloc HP.out.own _) _) _ rfl (alloc_new2 _ _ _) (by rw [List.length_map, HP.out.len]; omega) (le_alloc (le_alloc HQ.out.size)) ?_; intro v' w' hown' hg' hat'; refine keep_ ?_))
            have hbn := below_own ((HQ.out.alloc HQ.out.size _).alloc (le_alloc HQ.out.size) _) (Own.alloc (Own.alloc HP.out.own _) _) hg' (Nat.le_refl _) (le_alloc (le_alloc HQ.out.size))
            have hpn := HP.out.push (p := (((0 : Nat) : Int), 1)) rfl (((Below.refl _ _).alloc (Nat.le_refl _) _).alloc (by simp) _) (by simp; omega) ((Own.pair _ _ HQ.out.size).alloc _) hown' hg' hat'
            have Z1 := hid hbn
            have Z2 := hid hpn
            clear hbn hpn hown' hg' hat'
            refine go_ ?_
            go_wp2_with fail
            go_roundw
            case rel => exact ⟨0 + 1, _, by omega, by go_num, by rw [HST.out, List.length_append]; simp only [List.length_cons, List.length_nil]; omega, by rw [HST.out]; exact Z2.out, Z1.out⟩
            case measure => simp [intOf]; omega
          · obtain ⟨k', rfl⟩ : ∃ k', k = k' + 1 := ⟨k - 1, by omega⟩
            have hk1 : k' < xs.length := by omega
            obtain ⟨g2, off2, hA2, c2⟩ := HX2.out.int hk1
            injection hA2 with hA2
            injection hA2 with i9 j9
            subst i9 j9
            have hne := HB.out k' rfl
            rw [getD_at hk1] at hne
            generalize xs[k'] = y at hne c2
            go_wp2_with (first | fail | (at_builtin; refine wpList_push elSl _ rfl (.tmp 14) (.tmp 17) rfl w.heap.size _ (gs.map prA) (prA wo.heap.size) rfl (Own.alloc (Own.alloc HP.out.own _) _) _ rfl (alloc_new2 _ _ _) (by rw [List.length_map, HP.out.len]; omega) (le_alloc (le_alloc HQ.out.size)) ?_; intro v' w' hown' hg' hat'; refine keep_ ?_))
            have hbn := below_own ((HQ.out.alloc HQ.out.size _).alloc (le_alloc HQ.out.size) _) (Own.alloc (Own.alloc HP.out.own _) _) hg' (Nat.le_refl _) (le_alloc (le_alloc HQ.out.size))
            have hpn := HP.out.push (p := (((k' + 1 : Nat) : Int), 1)) rfl (((Below.refl _ _).alloc (Nat.le_refl _) _).alloc (by simp) _) (by simp; omega) ((Own.pair _ _ HQ.out.size).alloc _) hown' hg' hat'
            have Z1 := hid hbn
            have Z2 := hid hpn
            clear hbn hpn hown' hg' hat'
            refine go_ ?_
            go_wp2_with fail
            go_roundw
            case rel => exact ⟨k' + 1 + 1, _, by omega, by go_num, by rw [HST.out, List.length_append]; simp only [List.length_cons, List.length_nil]; omega, by rw [HST.out]; exact Z2.out, Z1.out⟩
            case measure => simp [intOf]; omega
    · have hke : k = xs.length := by omega
      subst hke
      clear hp hq hkl
      go_wp2_with fail
      go_ret
      exact ⟨_, _, gs, rfl, HP.out, HQ.out⟩
end Go.Proofs.Yteobejgkjjhfkaa
