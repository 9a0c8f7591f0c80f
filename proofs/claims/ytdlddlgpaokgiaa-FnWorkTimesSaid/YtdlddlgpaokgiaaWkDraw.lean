/- Tasks that are drawn: walked. -/
import Derived.Test.YtdlddlgpaokgiaaSrc
import Derived.Test.YtdlddlgpaokgiaaTask
import Derived.Deep.RegionWith
namespace Go.Proofs.Ytdlddlgpaokgiaa
open Go.RowKit
set_option linter.unusedVariables false
section
variable {W w w' : World} {lo hi g m : Nat}
theorem wk_grownBy (h : Span w w' g (g + 1)) : w.grownBy w' (some g) :=
  ⟨h.os, h.tape, h.output, h.size, fun k hk hne => h.block k hk (by have : ¬ k = g := fun e => hne (by rw [e]); omega)⟩
theorem wk_new (h : Span w w' lo hi) {p : Addr} (hp : w.heap.size ≤ p.block) (u : Value) : Span w (w'.setCell p u) lo hi :=
  ⟨h.os, h.tape, h.output, by simpa [World.setCell] using h.size, fun k hk ho => (Below.heap_setCell w' p u k (by omega)).trans (h.block k hk ho)⟩
theorem wk_alloc (h : Span w w' lo hi) (o : Obj) : Span w (w'.alloc o) lo hi := h.trans (Span.of_below ((Below.refl _ _).alloc (Nat.le_refl _) o) (Nat.le_refl _))
theorem wk_grown {u : Value} (h : Span W w lo hi) (hg : w.grownBy w' u.ownBlock) (hu : ∀ g, u.ownBlock = some g → (lo ≤ g ∧ g < hi) ∨ W.heap.size ≤ g) : Span W w' lo hi :=
  ⟨hg.os.trans h.os, hg.tape.trans h.tape, hg.output.trans h.output, Nat.le_trans h.size hg.size, fun k hk ho => by
    rw [hg.block k (Nat.lt_of_lt_of_le hk h.size) (fun e => by have := hu k e.symm; omega)]
    exact h.block k hk ho⟩
theorem wk_store {W0 : World} (h : SrcOk W0 w g m) {p : Addr} (hg : g < p.block) (u : Value) : SrcOk W0 (w.setCell p u) g m :=
  h.span (lo := p.block) (hi := p.block + 1) (span_set (Span.refl _ _ _) ⟨Nat.le_refl _, Nat.lt_succ_self _⟩ u) (.inl hg) (by have := h.base; omega)
theorem wk_src {W0 : World} {u : Value} (h : SrcOk W0 w g m) (hg : w.grownBy w' u.ownBlock) (hu : ∀ k, u.ownBlock = some k → g < k) : SrcOk W0 w' g m := by
  have hb := h.base
  cases hv : u.ownBlock with
  | none => exact h.span (lo := g + 1) (hi := g + 2) (Span.of_grown hg fun q hq => by rw [hv] at hq; cases hq) (.inl (Nat.lt_succ_self _)) (by omega)
  | some k =>
    have := hu k hv
    exact h.span (lo := k) (hi := k + 1) (Span.of_grown hg fun q hq => by rw [hv] at hq; injection hq with hq; omega) (.inl this) (by omega)
end
/-- The four cells of a task's variable. -/
structure BoxT (w : World) (G : Nat) (a b c : Int) (u : Value) : Prop where
  f0 : w.frozen? ⟨G, 0, none⟩ = false
  f1 : w.frozen? ⟨G, 1, none⟩ = false
  f2 : w.frozen? ⟨G, 2, none⟩ = false
  f3 : w.frozen? ⟨G, 3, none⟩ = false
  c0 : w.cell? ⟨G, 0, none⟩ = some (.int .i64 a)
  c1 : w.cell? ⟨G, 1, none⟩ = some (.int .i64 b)
  c2 : w.cell? ⟨G, 2, none⟩ = some (.int .i64 c)
  c3 : w.cell? ⟨G, 3, none⟩ = some u
section
variable {w w' : World} {G lo hi : Nat} {a b c : Int} {u : Value}
theorem BoxT.new (w : World) (e : TypeId) (a b c : Int) (u : Value) : BoxT (w.alloc (.cells #[.int .i64 a, .int .i64 b, .int .i64 c, u] e)) w.heap.size a b c u := by
  constructor <;> simp [go_sem]
theorem BoxT.lt (h : BoxT w G a b c u) : G < w.heap.size := World.block_lt_of_cell? w _ h.c0
theorem BoxT.span (h : BoxT w G a b c u) (hs : Span w w' lo hi) (hG : G < lo ∨ hi ≤ G) : BoxT w' G a b c u := by
  have hf : ∀ j, w'.frozen? ⟨G, j, none⟩ = w.frozen? ⟨G, j, none⟩ := fun j => World.frozen?_of_block (hs.block G h.lt hG)
  exact ⟨(hf 0).trans h.f0, (hf 1).trans h.f1, (hf 2).trans h.f2, (hf 3).trans h.f3, span_cell hs h.c0 hG, span_cell hs h.c1 hG, span_cell hs h.c2 hG, span_cell hs h.c3 hG⟩
theorem BoxT.grown {v : Value} (h : BoxT w G a b c u) (hg : w.grownBy w' v.ownBlock) (hv : ∀ k, v.ownBlock = some k → G < k) : BoxT w' G a b c u := by
  cases hb : v.ownBlock with
  | none => exact h.span (lo := G + 1) (hi := G + 2) (Span.of_grown hg fun q hq => by rw [hb] at hq; cases hq) (.inl (Nat.lt_succ_self _))
  | some k =>
    have := hv k hb
    exact h.span (lo := k) (hi := k + 1) (Span.of_grown hg fun q hq => by rw [hb] at hq; injection hq with hq; omega) (.inl this)
theorem BoxT.alloc (h : BoxT w G a b c u) (o : Obj) : BoxT (w.alloc o) G a b c u := h.span (lo := G + 1) (hi := G + 2) (wk_alloc (Span.refl _ _ _) o) (.inl (Nat.lt_succ_self _))
theorem BoxT.set1 (h : BoxT w G a b c u) (z : Int) : BoxT (w.setCell ⟨G, 1, none⟩ (.int .i64 z)) G a z c u := by
  obtain ⟨f0, f1, f2, f3, c0, c1, c2, c3⟩ := h
  constructor <;> simp [go_sem, f0, f1, f2, f3, c0, c1, c2, c3]
theorem BoxT.set2 (h : BoxT w G a b c u) (z : Int) : BoxT (w.setCell ⟨G, 2, none⟩ (.int .i64 z)) G a b z u := by
  obtain ⟨f0, f1, f2, f3, c0, c1, c2, c3⟩ := h
  constructor <;> simp [go_sem, f0, f1, f2, f3, c0, c1, c2, c3]
theorem BoxT.set3 (h : BoxT w G a b c u) (v : Value) : BoxT (w.setCell ⟨G, 3, none⟩ v) G a b c v := by
  obtain ⟨f0, f1, f2, f3, c0, c1, c2, c3⟩ := h
  constructor <;> simp [go_sem, f0, f1, f2, f3, c0, c1, c2, c3]
end
/-- A slice of tasks of the call's own, each inner slice of its own too and apart from the outer one. -/
structure Tsk (w : World) (base : Nat) (v : Value) (ts : List TaskC) (xs : List Task) : Prop where
  own : Own w base 44 v ts
  len : ts.length = xs.length
  all : ∀ k, (h : k < ts.length) → (h' : k < xs.length) → (ts[k].d = xs[k].days ∧ ts[k].c = xs[k].cost ∧ ts[k].y = xs[k].clay ∧ ts[k].n = xs[k].after.length) ∧ Own w base 2 (.slice ts[k].A ts[k].n ts[k].q) xs[k].after ∧
    ∀ b, (Value.slice ts[k].A ts[k].n ts[k].q).ownBlock = some b → v.ownBlock ≠ some b
section
variable {w w' : World} {base g : Nat} {v : Value} {ts : List TaskC} {xs : List Task}
theorem Tsk.form (h : Tsk w base v ts xs) : ∃ A c, v = .slice A xs.length c := by
  rw [← h.len]; exact h.own.form
theorem Tsk.span (h : Tsk w base v ts xs) (hs : Span w w' g (g + 1)) (hg : g < base) : Tsk w' base v ts xs := by
  have hgr := wk_grownBy hs
  refine ⟨h.own.grown hgr (.inr fun e => by have := (h.own.block g e).1; omega), h.len, fun k h1 h2 => ?_⟩
  obtain ⟨e1, e2, e3⟩ := h.all k h1 h2
  exact ⟨e1, e2.grown hgr (.inr fun e => by have := (e2.block g e).1; omega), e3⟩
theorem Tsk.rdt {A : Option Addr} {n c : Nat} (h : Tsk w base (.slice A n c) ts xs) (hl : xs.length ≤ 1048576) (hi : ∀ x ∈ xs, x.after.length ≤ 1048576) : RdT w A xs := by
  refine ⟨ts, h.own.rd (by rw [h.len]; exact hl), h.len, fun k h1 h2 => ?_⟩
  obtain ⟨⟨e1, e2, e3, e4⟩, e5, _⟩ := h.all k h1 h2
  exact ⟨e1, e2, e3, e4, e5.rd (hi _ (List.getElem_mem h2))⟩
/-- A task is added: 'wa' is the old world with new blocks, among them the task's inner slice. -/
theorem Tsk.push {lo : Nat} {v' : Value} {x : Task} {t : TaskC} {wa : World} (h : Tsk wa base v ts xs) (hlow : ∀ b, v.ownBlock = some b → b < lo) (ht : t.d = x.days ∧ t.c = x.cost ∧ t.y = x.clay ∧ t.n = x.after.length)
    (ho : Own wa base 2 (.slice t.A t.n t.q) x.after) (hlo : ∀ b, (Value.slice t.A t.n t.q).ownBlock = some b → lo ≤ b)
    (hown : Own w' base 44 v' (ts ++ [t])) (hg : wa.grownBy w' v.ownBlock) (hat : v'.ownBlock = v.ownBlock ∨ v'.ownBlock = some wa.heap.size) : Tsk w' base v' (ts ++ [t]) (xs ++ [x]) := by
  have hne : ∀ b, (Value.slice t.A t.n t.q).ownBlock = some b → v.ownBlock ≠ some b := fun b hb e => by
    have := hlow b e
    have := hlo b hb
    omega
  have key : ∀ (s : TaskC) (l : List Int), Own wa base 2 (.slice s.A s.n s.q) l → (∀ b, (Value.slice s.A s.n s.q).ownBlock = some b → v.ownBlock ≠ some b) →
      Own w' base 2 (.slice s.A s.n s.q) l ∧ ∀ b, (Value.slice s.A s.n s.q).ownBlock = some b → v'.ownBlock ≠ some b := fun s l h1 h2 => by
    refine ⟨h1.grown hg ?_, fun b hb e => ?_⟩
    · cases hs : (Value.slice s.A s.n s.q).ownBlock with
      | none => exact .inl rfl
      | some b => exact .inr fun e => h2 b hs e.symm
    · rcases hat with e' | e'
      · rw [e'] at e; exact h2 b hb e
      · rw [e'] at e
        injection e with e
        have := (h1.block b hb).2
        omega
  refine ⟨hown, by simp [h.len], fun k h1 h2 => ?_⟩
  by_cases hk : k < ts.length
  · have hk' : k < xs.length := by rw [← h.len]; exact hk
    rw [List.getElem_append_left hk, List.getElem_append_left hk']
    obtain ⟨e1, e2, e3⟩ := h.all k hk hk'
    exact ⟨e1, key _ _ e2 e3⟩
  · have hk' : k = ts.length := by simp at h1; omega
    subst hk'
    have e1 : (ts ++ [t])[ts.length] = t := by simp
    have e2 : (xs ++ [x])[ts.length] = x := by simp [h.len]
    rw [e1, e2]
    exact ⟨ht, key _ _ ho hne⟩
end
/-- What is drawn. -/
structure DrawnT (k : Nat) (x : Task) : Prop where
  d : 1 ≤ x.days ∧ x.days ≤ 20
  c : 0 ≤ x.cost ∧ x.cost ≤ 2900
  y : 0 ≤ x.clay ∧ x.clay ≤ 49
  n : x.after.length ≤ k
  a : ∀ a ∈ x.after, 0 ≤ a ∧ a < k
  s : x.after.Pairwise (· < ·)
def DrawnTs (xs : List Task) : Prop := xs.length ≤ 7 ∧ ∀ k, (h : k < xs.length) → DrawnT k xs[k]
theorem drawn_push {xs : List Task} {x : Task} (h : ∀ k, (h : k < xs.length) → DrawnT k xs[k]) (hx : DrawnT xs.length x) : ∀ k, (h : k < (xs ++ [x]).length) → DrawnT k (xs ++ [x])[k] := fun k hk => by
  by_cases h1 : k < xs.length
  · rw [List.getElem_append_left h1]; exact h k h1
  · have : k = xs.length := by simp at hk; omega
    subst this
    have e : (xs ++ [x])[xs.length] = x := by simp
    rw [e]; exact hx
set_option maxRecDepth 100000 in
set_option maxHeartbeats 8000000 in
theorem drawTasks (W0 w : World) (g m : Nat) (h : SrcOk W0 w g m) (hm : m ≤ 10000) :
    Calls Try.prog 41 #[.pointer (some ⟨g, 0, none⟩)] w fun e w' => ∃ u ts xs, e = .returned u ∧ Tsk w' w.heap.size u ts xs ∧ DrawnTs xs ∧ SrcOk W0 w' g (m + 400) ∧ Span w w' g (g + 1) := by
  have hlt := h.lt
  have HS := hid (h.next ((Below.refl _ _).alloc (Nat.le_refl _) (.cells #[] 44)))
  have HO := hid (Own.empty (α := TaskC) (w := w) (base := w.heap.size) (e := 44) (Nat.le_refl _))
  have HP := hid (wk_alloc (Span.refl w g (g + 1)) (.cells #[] 44))
  clear h
  go_enter Try.func41, Try.ntmps41
  go_wp2_with fail
  refine (srcPick W0 _ g m 8 HS.out (by omega) (by omega)).mono ?_
  rintro e w1 ⟨r, rfl, hr, hs, hp⟩
  have HS1 := hid hs
  have HO1 := hid (HO.out.grown (wk_grownBy hp) (.inr (by simp only [Value.ownBlock, ne_eq, Option.some.injEq]; omega)))
  have HP1 := hid (HP.out.trans hp)
  have hz1 := hp.size
  simp at hz1
  clear hs hp HO HS HP
  go_wp2_with fail
  go_loopw [3, 4] (fun u i wr => ∃ (j : Nat) (ts : List TaskC) (xs : List Task), i = .int .i64 j ∧ xs.length + j = r.toNat ∧ Tsk wr w.heap.size u ts xs ∧ (∀ k, (h : k < xs.length) → DrawnT k xs[k]) ∧ SrcOk W0 wr g (m + 2 + 50 * xs.length) ∧ Span w wr g (g + 1)) (fun _ i _ => (intOf i).toNat)
  case atStart => exact ⟨r.toNat, [], [], val_int (by omega), by simp, ⟨HO1.out, rfl, fun k h1 => absurd h1 (by simp)⟩, fun k h1 => absurd h1 (by simp), HS1.out, HP1.out⟩
  case round =>
    obtain ⟨j, ts, xs, rfl, hj, ho, hx, hs, hsp⟩ := hrel
    obtain ⟨wo, rfl⟩ : ∃ wo : World, wo = wr := ⟨_, rfl⟩
    have hlen := ho.len
    have hgo := hs.lt
    have HO := hid ho
    have HX := hid hx
    have HS := hid hs
    have HSP := hid hsp
    obtain ⟨V, vq, rfl⟩ := ho.form
    have HLEN := hid hlen
    have hlow := hid (fun b (hb : (Value.slice V xs.length vq).ownBlock = some b) => (ho.own.block b hb).2)
    clear ho hx hs hsp HO1 HS1 hlen
    by_cases hj0 : 0 < j
    · go_wp2_with fail
      refine (srcPick W0 _ g _ 20 HS.out (by omega) (by omega)).mono ?_
      rintro e w1 ⟨r1, rfl, hr1, hs, hp⟩
      have HS1 := hid hs
      have HP1 := hid hp
      have hzo := hp.size
      clear hs hp HS
      go_upto_region 6 with fail
      obtain ⟨G, hG⟩ : ∃ G, w1.heap.size = G := ⟨_, rfl⟩
      have e1 : IntKind.i64.wrap (1 + r1) = 1 + r1 := IntWalk.i64_in _ (by omega)
      obtain ⟨w2, hw2⟩ : ∃ x, w1.alloc (.cells #[.int .i64 (1 + r1), .int .i64 0, .int .i64 0, .slice none 0 0] 44) = x := ⟨_, rfl⟩
      have C2 : Hid (BoxT w2 G (1 + r1) 0 0 (.slice none 0 0)) := by rw [← hw2, ← hG]; exact BoxT.new _ _ _ _ _ _
      have HS2 := hid (HS1.out.next ((Below.refl _ _).alloc (Nat.le_refl _) (.cells #[.int .i64 (1 + r1), .int .i64 0, .int .i64 0, .slice none 0 0] 44)))
      have HP2 := hid (wk_alloc HP1.out (.cells #[.int .i64 (1 + r1), .int .i64 0, .int .i64 0, .slice none 0 0] 44))
      rw [hw2] at HS2 HP2
      have hgG : g < G := by omega
      have hoG : wo.heap.size ≤ G := by omega
      rw [hw2, hG]
      clear hw2 HS1 HP1 hG
      go_wp2_with fail
      refine (srcPick W0 _ g _ 30 HS2.out (by omega) (by omega)).mono ?_
      rintro e w3 ⟨r2, rfl, hr2, hs, hp⟩
      have HS3 := hid hs
      have HP3 := hid (HP2.out.trans hp)
      have C3 := hid (C2.out.span hp (by omega))
      have c1 := C3.out.c1
      have f1 := C3.out.f1
      have e2 : IntKind.i64.wrap (100 * r2) = 100 * r2 := IntWalk.i64_in _ (by omega)
      clear hs hp HS2 HP2 C2
      go_upto_region 7 with fail
      obtain ⟨w4, hw4⟩ : ∃ x, w3.setCell ⟨G, 1, none⟩ (.int .i64 (100 * r2)) = x := ⟨_, rfl⟩
      have C4 : Hid (BoxT w4 G (1 + r1) (100 * r2) 0 (.slice none 0 0)) := by rw [← hw4]; exact C3.out.set1 _
      have HS4 := hid (wk_store HS3.out (p := ⟨G, 1, none⟩) hgG (.int .i64 (100 * r2)))
      have HP4 := hid (wk_new HP3.out (p := ⟨G, 1, none⟩) hoG (.int .i64 (100 * r2)))
      rw [hw4] at HS4 HP4 ⊢
      clear hw4 HS3 HP3 C3 c1 f1 e2
      go_wp2_with fail
      refine (srcPick W0 _ g _ 50 HS4.out (by omega) (by omega)).mono ?_
      rintro e w5 ⟨r3, rfl, hr3, hs, hp⟩
      have HS5 := hid hs
      have HP5 := hid (HP4.out.trans hp)
      have C5 := hid (C4.out.span hp (by omega))
      have c2 := C5.out.c2
      have f2 := C5.out.f2
      clear hs hp HS4 HP4 C4
      go_upto_region 8 with fail
      obtain ⟨w6, hw6⟩ : ∃ x, w5.setCell ⟨G, 2, none⟩ (.int .i64 r3) = x := ⟨_, rfl⟩
      have C6 : Hid (BoxT w6 G (1 + r1) (100 * r2) r3 (.slice none 0 0)) := by rw [← hw6]; exact C5.out.set2 _
      have HS6 := hid (wk_store HS5.out (p := ⟨G, 2, none⟩) hgG (.int .i64 r3))
      have HP6 := hid (wk_new HP5.out (p := ⟨G, 2, none⟩) hoG (.int .i64 r3))
      rw [hw6] at HS6 HP6 ⊢
      clear hw6 HS5 HP5 C5 c2 f2
      obtain ⟨M, hM⟩ : ∃ M, m + 2 + 50 * xs.length + 2 + 2 + 2 = M := ⟨_, rfl⟩
      rw [hM] at HS6
      have hxl : xs.length ≤ 7 := by omega
      go_wp2_with fail
      go_loopw [6] (fun i wr => ∃ (q : Nat) (u : Value) (L : List Int), i = .int .i64 q ∧ q ≤ xs.length ∧ BoxT wr G (1 + r1) (100 * r2) r3 u ∧ Own wr (G + 1) 2 u L ∧ ((∀ a ∈ L, 0 ≤ a ∧ a < q) ∧ L.Pairwise (· < ·) ∧ L.length ≤ q) ∧ SrcOk W0 wr g (M + 2 * q) ∧ Span wo wr g (g + 1)) (fun i _ => xs.length - (intOf i).toNat)
      case atStart => exact ⟨0, _, [], rfl, Nat.zero_le _, C6.out, Own.nil _ _ _, ⟨by simp, by simp, by simp⟩, HS6.out, HP6.out⟩
      case round =>
        obtain ⟨q, u, L, rfl, hq, hc, hu, hL, hs, hsp⟩ := hrel
        obtain ⟨wi, rfl⟩ : ∃ wi : World, wi = wr := ⟨_, rfl⟩
        have CC := hid hc
        have HU := hid hu
        have HL := hid hL
        have HSI := hid hs
        have HPI := hid hsp
        obtain ⟨A, c, rfl⟩ := hu.form
        have hLl := hid hL.2.2
        clear hc hu hL hs hsp C6 HS6 HP6
        by_cases hql : q < xs.length
        · go_wp2_with fail
          refine (srcOne W0 _ g _ 3 HSI.out (by omega) (by omega)).mono ?_
          rintro e w7 ⟨b, rfl, hs, hp⟩
          have HS7 := hid hs
          have HP7 := hid (HPI.out.trans hp)
          have C7 := hid (CC.out.span hp (by omega))
          have HU7 := hid (HU.out.grown (wk_grownBy hp) (.inr fun e => by have := (HU.out.block g e).1; omega))
          have c3 := C7.out.c3
          have f3 := C7.out.f3
          have hz7 : G + 1 ≤ w7.heap.size := C7.out.lt
          clear hs hp HSI HPI CC HU
          cases b
          · go_wp2_with fail
            go_roundw
            case rel => exact ⟨q + 1, _, L, by go_num, by omega, C7.out, HU7.out, ⟨fun a ha => by have := HL.out.1 a ha; omega, HL.out.2.1, by have := HL.out.2.2; omega⟩, HS7.out.mono (by omega), HP7.out⟩
            case measure => simp [intOf]; omega
          · go_wp2_with (at_builtin; refine wpList_push elInt _ rfl (.tmp 34) (.tmp 36) rfl (G + 1) _ L (q : Int) rfl (HU7.out.alloc _) _ rfl (heap_alloc_new _ _) (by have := hLl.out; omega) (le_alloc hz7) ?_; intro v' w' hown' hg' hat'; refine keep_ ?_)
            obtain ⟨L2, hL2⟩ : ∃ L2, L ++ [(q : Int)] = L2 := ⟨_, rfl⟩
            rw [hL2] at hown'
            obtain ⟨V2, q2, rfl⟩ := hown'.form
            have HL2 := hid hL2
            clear hL2
            have C8 := hid ((C7.out.alloc (.cells #[.int .i64 (q : Int)] 2)).grown hg' fun k hk => by have := (HU7.out.block k hk).1; omega)
            have HS8 := hid (wk_src (HS7.out.next ((Below.refl _ _).alloc (Nat.le_refl _) (.cells #[.int .i64 (q : Int)] 2))) hg' fun k hk => by have := (HU7.out.block k hk).1; omega)
            have HP8 := hid (wk_grown (wk_alloc HP7.out (.cells #[.int .i64 (q : Int)] 2)) hg' fun k hk => .inr (by have := (HU7.out.block k hk).1; omega))
            have HU8 := hid hown'
            have c3' := C8.out.c3
            have f3' := C8.out.f3
            clear hown' hg' hat' c3 f3 C7 HS7 HP7 HU7
            refine go_ ?_
            go_wp2_with fail
            go_roundw
            case rel =>
              refine ⟨q + 1, _, L2, by go_num, by omega, C8.out.set3 _, HU8.out.past (p := ⟨G, 3, none⟩) (Nat.lt_succ_self G) _, ⟨fun a ha => ?_, ?_, by have := HL.out.2.2; rw [← HL2.out]; simp; omega⟩, (wk_store HS8.out hgG _).mono (by omega), wk_new HP8.out hoG _⟩
              · rw [← HL2.out] at ha
                rcases List.mem_append.1 ha with ha | ha
                · have := HL.out.1 a ha; omega
                · simp at ha; omega
              · rw [← HL2.out]
                refine List.pairwise_append.mpr ⟨HL.out.2.1, by simp, fun a ha b hb => ?_⟩
                simp only [List.mem_singleton] at hb
                subst hb
                exact (HL.out.1 a ha).2
            case measure => simp [intOf]; omega
        · have hqx : q = xs.length := by omega
          have HQ := hid hqx
          have HT : Hid (Tsk wi w.heap.size (.slice V xs.length vq) ts xs) := HO.out.span HPI.out hlt
          have hzi : w.heap.size ≤ wi.heap.size := Nat.le_trans HSP.out.size HPI.out.size
          have c0 := CC.out.c0
          have c1 := CC.out.c1
          have c2 := CC.out.c2
          have c3 := CC.out.c3
          have hLL := hid (show ts.length ≤ 1048576 by have := HLEN.out; omega)
          clear hqx
          go_wp2_with (at_builtin; refine wpList_push elTask0 _ rfl (.tmp 39) (.tmp 41) rfl w.heap.size _ ts (⟨1 + r1, 100 * r2, r3, A, L.length, c⟩ : TaskC) rfl (HT.out.own.alloc _) _ rfl (heap_alloc_new _ _) hLL.out (le_alloc hzi) ?_; intro v' w' hown' hg' hat'; refine keep_ ?_)
          have HN := hid (Tsk.push (lo := wo.heap.size) (x := (⟨1 + r1, 100 * r2, r3, L⟩ : Task)) (t := (⟨1 + r1, 100 * r2, r3, A, L.length, c⟩ : TaskC)) (HT.out.span (wk_alloc (Span.refl _ g (g + 1)) _) hlt) hlow.out ⟨rfl, rfl, rfl, rfl⟩
            ((HU.out.alloc _).mono (by have := HSP.out.size; omega)) (fun b hb => by have := (HU.out.block b hb).1; omega) hown' hg' hat')
          have HS9 := hid (wk_src (HSI.out.next ((Below.refl _ _).alloc (Nat.le_refl _) (.cells #[.int .i64 (1 + r1), .int .i64 (100 * r2), .int .i64 r3, .slice A L.length c] 44))) hg' fun b hb => by have := (HT.out.own.block b hb).1; omega)
          have HP9 := hid (wk_grown (wk_alloc (HSP.out.trans HPI.out) (.cells #[.int .i64 (1 + r1), .int .i64 (100 * r2), .int .i64 r3, .slice A L.length c] 44)) hg' fun b hb => .inr (by have := (HT.out.own.block b hb).1; omega))
          have HD := hid (drawn_push (x := (⟨1 + r1, 100 * r2, r3, L⟩ : Task)) HX.out ⟨by simp only; omega, by simp only; omega, by simp only; omega, by have := HL.out.2.2; rw [HQ.out] at this; exact this, by have := HL.out.1; rw [HQ.out] at this; exact this, HL.out.2.1⟩)
          clear hown' hg' hat'
          refine go_ ?_
          go_wp2_with fail
          go_roundw
          case rel => exact ⟨j - 1, _, xs ++ [(⟨1 + r1, 100 * r2, r3, L⟩ : Task)], by go_num, by rw [List.length_append, List.length_singleton]; omega, HN.out, HD.out, HS9.out.mono (by have := HQ.out; simp; omega), HP9.out⟩
          case measure => simp [intOf]; omega
    · go_wp2_with fail
      go_ret
      exact ⟨_, ts, xs, rfl, HO.out, ⟨by omega, HX.out⟩, HS.out.mono (by omega), HSP.out⟩
theorem Tsk.mono {w : World} {base b : Nat} {v : Value} {ts : List TaskC} {xs : List Task} (h : Tsk w base v ts xs) (hb : b ≤ base) : Tsk w b v ts xs :=
  ⟨h.own.mono hb, h.len, fun k h1 h2 => ⟨(h.all k h1 h2).1, (h.all k h1 h2).2.1.mono hb, (h.all k h1 h2).2.2⟩⟩
set_option maxRecDepth 100000 in
set_option maxHeartbeats 8000000 in
theorem specA2Tasks (w : World) (A : Option Addr) (bs : List Byt) (c : Nat) (hr : Rd w A bs) (hb : BytOk bs) :
    Calls Try.prog 16 #[.slice A bs.length c] w fun e w' => ∃ u ts xs, e = .returned u ∧ Tsk w' w.heap.size u ts xs ∧ DrawnTs xs ∧ 1 ≤ xs.length ∧ Below w.heap.size w w' := by
  go_enter Try.func16, Try.ntmps16
  go_wp2_with fail
  refine (srcFrom _ _ _ _ hr hb).mono ?_
  rintro e w1 ⟨rfl, hs, hb1⟩
  have HB1 := hid hb1
  have hz1 := hs.lt
  have HS1 := hid hs
  clear hs hb1
  go_wp2_with fail
  refine (drawTasks w w1 w.heap.size 0 HS1.out (by omega)).mono ?_
  rintro e w2 ⟨u, ts, xs, rfl, ht, hd, hs, hp⟩
  obtain ⟨V, vq, rfl⟩ := ht.form
  have HB2 := hid (below_span HB1.out hp (Nat.le_refl _) HB1.out.size)
  have HT := hid ht
  have HD := hid hd
  have HS2 := hid hs
  have hz2 := hp.size
  clear ht hd hs hp HS1 HB1
  by_cases h0 : xs.length = 0
  · have hxn : xs = [] := List.eq_nil_of_length_eq_zero h0
    subst hxn
    have htn : ts = [] := List.eq_nil_of_length_eq_zero HT.out.len
    subst htn
    clear h0
    go_wp2_with fail
    refine (srcPick w _ w.heap.size _ 9 HS2.out (by omega) (by omega)).mono ?_
    rintro e w3 ⟨r1, rfl, hr1, hs, hp⟩
    have HS3 := hid hs
    have HT3 := hid (HT.out.span hp hz1)
    have HB3 := hid (below_span HB2.out hp (Nat.le_refl _) HB2.out.size)
    have hzA := hp.size
    have e1 : IntKind.i64.wrap (1 + r1) = 1 + r1 := IntWalk.i64_in _ (by omega)
    clear hs hp HS2 HT HB2 HD
    go_wp2_with fail
    refine (srcPick w _ w.heap.size _ 9 HS3.out (by omega) (by omega)).mono ?_
    rintro e w4 ⟨r2, rfl, hr2, hs, hp⟩
    have HT4 := hid (HT3.out.span hp hz1)
    have HB4 := hid (below_span HB3.out hp (Nat.le_refl _) HB3.out.size)
    have e2 : IntKind.i64.wrap (100 * r2) = 100 * r2 := IntWalk.i64_in _ (by omega)
    have hz4 := HB4.out.size
    have hz14 : w1.heap.size ≤ w4.heap.size := Nat.le_trans hz2 (Nat.le_trans hzA hp.size)
    clear hs hp HS3 HT3 HB3
    go_wp2_with (at_builtin; refine wpList_push elTask0 _ rfl (.tmp 12) (.tmp 20) rfl w1.heap.size _ [] (⟨1 + r1, 100 * r2, 0, none, 0, 0⟩ : TaskC) rfl (HT4.out.own.alloc _) _ rfl (heap_alloc_new _ _) (by simp) (le_alloc hz14) ?_; intro v' w' hown' hg' hat'; refine keep_ ?_)
    have HN := hid (Tsk.push (lo := w4.heap.size) (x := (⟨1 + r1, 100 * r2, 0, []⟩ : Task)) (t := (⟨1 + r1, 100 * r2, 0, none, 0, 0⟩ : TaskC)) (HT4.out.span (wk_alloc (Span.refl _ w.heap.size (w.heap.size + 1)) _) hz1) (fun b hb => (HT4.out.own.block b hb).2) ⟨rfl, rfl, rfl, rfl⟩ (Own.nil _ _ _) (fun b hb => by simp [Value.ownBlock] at hb) hown' hg' hat')
    have HB5 := hid (below_own (HB4.out.alloc HB4.out.size (.cells #[.int .i64 (1 + r1), .int .i64 (100 * r2), .int .i64 0, .slice none 0 0] 44)) (HT4.out.own.alloc _) hg' (by omega) (le_alloc hz4))
    have HD : Hid (DrawnTs ([] ++ [(⟨1 + r1, 100 * r2, 0, []⟩ : Task)])) := ⟨by simp, drawn_push (xs := []) (fun k hk => absurd hk (by simp)) ⟨by simp only; omega, by simp only; omega, by simp only; omega, by simp, by simp, by simp⟩⟩
    clear hown' hg' hat'
    refine go_ ?_
    go_wp2_with fail
    go_ret
    exact ⟨_, _, _, rfl, HN.out.mono (by omega), HD.out, by simp, HB5.out⟩
  · go_wp2_with fail
    go_ret
    exact ⟨_, ts, xs, rfl, HT.out.mono (by omega), HD.out, by omega, HB2.out⟩
end Go.Proofs.Ytdlddlgpaokgiaa
