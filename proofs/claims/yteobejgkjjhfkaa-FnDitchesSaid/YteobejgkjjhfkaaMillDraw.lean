/- Stages that are drawn: walked. -/
import Derived.Test.YteobejgkjjhfkaaMill
import Derived.Test.YteobejgkjjhfkaaThrough
import Derived.Test.YteobejgkjjhfkaaRain
import Derived.Deep.RegionWith
namespace Go.Proofs.Yteobejgkjjhfkaa
open Go.RowKit
set_option linter.unusedVariables false
/-- Four cells of the call's own. -/
structure Box4 (w : World) (G : Nat) (a b c d : Int) : Prop where
  f0 : w.frozen? ⟨G, 0, none⟩ = false
  f1 : w.frozen? ⟨G, 1, none⟩ = false
  f2 : w.frozen? ⟨G, 2, none⟩ = false
  f3 : w.frozen? ⟨G, 3, none⟩ = false
  c0 : w.cell? ⟨G, 0, none⟩ = some (.int .i64 a)
  c1 : w.cell? ⟨G, 1, none⟩ = some (.int .i64 b)
  c2 : w.cell? ⟨G, 2, none⟩ = some (.int .i64 c)
  c3 : w.cell? ⟨G, 3, none⟩ = some (.int .i64 d)
theorem Box4.new (w : World) (e : TypeId) (a b c d : Int) : Box4 (w.alloc (.cells #[.int .i64 a, .int .i64 b, .int .i64 c, .int .i64 d] e)) w.heap.size a b c d := by
  constructor <;> simp [go_sem]
theorem Box4.span {w w' : World} {G lo hi : Nat} {a b c d : Int} (h : Box4 w G a b c d) (hs : Span w w' lo hi) (hG : G < lo ∨ hi ≤ G) : Box4 w' G a b c d := by
  have hlt : G < w.heap.size := World.block_lt_of_cell? w _ h.c0
  have hf : ∀ j, w'.frozen? ⟨G, j, none⟩ = w.frozen? ⟨G, j, none⟩ := fun j => World.frozen?_of_block (hs.block G hlt hG)
  exact ⟨(hf 0).trans h.f0, (hf 1).trans h.f1, (hf 2).trans h.f2, (hf 3).trans h.f3, span_cell hs h.c0 hG, span_cell hs h.c1 hG, span_cell hs h.c2 hG, span_cell hs h.c3 hG⟩
theorem Box4.set1 {w : World} {G : Nat} {a b c d : Int} (h : Box4 w G a b c d) (z : Int) : Box4 (w.setCell ⟨G, 1, none⟩ (.int .i64 z)) G a z c d := by
  obtain ⟨f0, f1, f2, f3, c0, c1, c2, c3⟩ := h
  constructor <;> simp [go_sem, f0, f1, f2, f3, c0, c1, c2, c3]
theorem Box4.set2 {w : World} {G : Nat} {a b c d : Int} (h : Box4 w G a b c d) (z : Int) : Box4 (w.setCell ⟨G, 2, none⟩ (.int .i64 z)) G a b z d := by
  obtain ⟨f0, f1, f2, f3, c0, c1, c2, c3⟩ := h
  constructor <;> simp [go_sem, f0, f1, f2, f3, c0, c1, c2, c3]
theorem Box4.set3 {w : World} {G : Nat} {a b c d : Int} (h : Box4 w G a b c d) (z : Int) : Box4 (w.setCell ⟨G, 3, none⟩ (.int .i64 z)) G a b c z := by
  obtain ⟨f0, f1, f2, f3, c0, c1, c2, c3⟩ := h
  constructor <;> simp [go_sem, f0, f1, f2, f3, c0, c1, c2, c3]
theorem span_new {w w' : World} {lo hi : Nat} (h : Span w w' lo hi) {p : Addr} (hp : w.heap.size ≤ p.block) (u : Value) : Span w (w'.setCell p u) lo hi :=
  ⟨h.os, h.tape, h.output, by simpa [World.setCell] using h.size, fun k hk ho => (Below.heap_setCell w' p u k (by omega)).trans (h.block k hk ho)⟩
theorem span_drew {w w' : World} {lo hi : Nat} (h : Span w w' lo hi) (n : Nat) : Span w (w'.drewN n) lo hi := ⟨h.os, h.tape, h.output, h.size, h.block⟩
theorem span_undrew {w w' : World} {lo hi : Nat} (h : Span w.drew w' lo hi) : Span w w' lo hi := ⟨h.os, h.tape, h.output, h.size, h.block⟩
theorem span_alloc {w w' : World} {lo hi : Nat} (h : Span w w' lo hi) (o : Obj) : Span w (w'.alloc o) lo hi := h.trans (Span.of_below ((Below.refl _ _).alloc (Nat.le_refl _) o) (Nat.le_refl _))
theorem SrcOk.store {W0 w : World} {g m : Nat} (h : SrcOk W0 w g m) {p : Addr} (hg : g < p.block) (u : Value) : SrcOk W0 (w.setCell p u) g m :=
  h.span (lo := p.block) (hi := p.block + 1) (span_set (Span.refl _ _ _) ⟨Nat.le_refl _, Nat.lt_succ_self _⟩ u) (.inl hg) (by have := h.base; omega)
set_option maxHeartbeats 4000000 in
theorem drawMill (W0 w : World) (g m : Nat) (h : SrcOk W0 w g m) (hm : m ≤ 100000) :
    Calls Try.prog 115 #[.pointer (some ⟨g, 0, none⟩)] w fun e w' => ∃ ml : Mill, e = .returned (.agg #[.int .i64 ml.l, .int .i64 ml.r, .int .i64 ml.a, .int .i64 ml.b]) ∧ MillOk ml ∧ SrcOk W0 w' g (m + 8) ∧ Span w w' g (g + 1) := by
  have hlt := h.lt
  obtain ⟨w0, hw0⟩ : ∃ x, w.alloc (.cells #[.int .i64 0, .int .i64 0, .int .i64 0, .int .i64 0] 84) = x := ⟨_, rfl⟩
  have B0 : Hid (Box4 w0 w.heap.size 0 0 0 0) := by rw [← hw0]; exact Box4.new _ _ _ _ _ _
  have HS0 : Hid (SrcOk W0 w0 g m) := by rw [← hw0]; exact h.next ((Below.refl _ _).alloc (Nat.le_refl _) _)
  have HP0 : Hid (Span w w0 g (g + 1)) := by rw [← hw0]; exact span_alloc (Span.refl _ _ _) _
  have hz0 : w.heap.size < w0.heap.size := by rw [← hw0]; simp
  have HW := hid hw0
  clear h hw0
  go_enter Try.func115, Try.ntmps115
  go_upto_region 1 with fail
  rw [HW.out]
  clear HW
  go_wp2_with fail
  refine (srcPick W0 _ g m 20 HS0.out (by omega) (by omega)).mono ?_
  rintro e w1 ⟨r1, rfl, hr1, hs, hp⟩
  have HS1 := hid hs
  have HP1 := hid (HP0.out.trans hp)
  have B1 := hid (B0.out.span hp (by omega))
  have hz1 := hp.size
  clear hs hp HS0 HP0 B0
  go_upto_region 2 with fail
  obtain ⟨G, hG⟩ : ∃ G, w1.heap.size = G := ⟨_, rfl⟩
  obtain ⟨w2, hw2⟩ : ∃ x, w1.alloc (.cells #[.int .i64 (50 + 10 * r1), .int .i64 0, .int .i64 0, .int .i64 0] 84) = x := ⟨_, rfl⟩
  have C2 : Hid (Box4 w2 G (50 + 10 * r1) 0 0 0) := by rw [← hw2, ← hG]; exact Box4.new _ _ _ _ _ _
  have sp2 : Span w1 w2 g (g + 1) := by rw [← hw2]; exact span_alloc (Span.refl _ _ _) _
  have B2 := hid (B1.out.span sp2 (by omega))
  have HS2 : Hid (SrcOk W0 w2 g (m + 2)) := by rw [← hw2]; exact HS1.out.next ((Below.refl _ _).alloc (Nat.le_refl _) _)
  have HP2 := hid (HP1.out.trans sp2)
  have hgG : g < G := by omega
  have hwG : w.heap.size < G := by omega
  rw [hw2, hG]
  clear hw2 sp2 HS1 HP1 B1 hG
  go_wp2_with fail
  refine (srcPick W0 _ g (m + 2) 12 HS2.out (by omega) (by omega)).mono ?_
  rintro e w3 ⟨r2, rfl, hr2, hs, hp⟩
  have HS3 := hid hs
  have HP3 := hid (HP2.out.trans hp)
  have B3 := hid (B2.out.span hp (by omega))
  have C3 := hid (C2.out.span hp (by omega))
  have c1 := C3.out.c1
  have f1 := C3.out.f1
  clear hs hp HS2 HP2 B2 C2
  go_upto_region 3 with fail
  obtain ⟨w4, hw4⟩ : ∃ x, w3.setCell ⟨G, 1, none⟩ (.int .i64 (100 + 50 * r2)) = x := ⟨_, rfl⟩
  have C4 : Hid (Box4 w4 G (50 + 10 * r1) (100 + 50 * r2) 0 0) := by rw [← hw4]; exact C3.out.set1 _
  have sp4 : Span w3 w4 G (G + 1) := by rw [← hw4]; exact span_set (Span.refl _ _ _) ⟨Nat.le_refl _, Nat.lt_succ_self _⟩ _
  have B4 := hid (B3.out.span sp4 (.inl hwG))
  have HS4 : Hid (SrcOk W0 w4 g (m + 2 + 2)) := by rw [← hw4]; exact HS3.out.store hgG _
  have HP4 : Hid (Span w w4 g (g + 1)) := by rw [← hw4]; exact span_new HP3.out (Nat.le_of_lt hwG) _
  rw [hw4]
  clear hw4 sp4 HS3 HP3 B3 C3 c1 f1
  go_wp2_with fail
  refine (srcPick W0 _ g (m + 2 + 2) 3 HS4.out (by omega) (by omega)).mono ?_
  rintro e w5 ⟨r3, rfl, hr3, hs, hp⟩
  have HS5 := hid hs
  have HP5 := hid (HP4.out.trans hp)
  have B5 := hid (B4.out.span hp (by omega))
  have C5 := hid (C4.out.span hp (by omega))
  have c2 := C5.out.c2
  have f2 := C5.out.f2
  clear hs hp HS4 HP4 B4 C4
  go_upto_region 4 with fail
  obtain ⟨w6, hw6⟩ : ∃ x, w5.setCell ⟨G, 2, none⟩ (.int .i64 (2 + r3)) = x := ⟨_, rfl⟩
  have C6 : Hid (Box4 w6 G (50 + 10 * r1) (100 + 50 * r2) (2 + r3) 0) := by rw [← hw6]; exact C5.out.set2 _
  have sp6 : Span w5 w6 G (G + 1) := by rw [← hw6]; exact span_set (Span.refl _ _ _) ⟨Nat.le_refl _, Nat.lt_succ_self _⟩ _
  have B6 := hid (B5.out.span sp6 (.inl hwG))
  have HS6 : Hid (SrcOk W0 w6 g (m + 2 + 2 + 2)) := by rw [← hw6]; exact HS5.out.store hgG _
  have HP6 : Hid (Span w w6 g (g + 1)) := by rw [← hw6]; exact span_new HP5.out (Nat.le_of_lt hwG) _
  rw [hw6]
  clear hw6 sp6 HS5 HP5 B5 C5 c2 f2
  have c2 := C6.out.c2
  have f3 := C6.out.f3
  go_region_with (go_at_call 72; refine (srcPick W0 _ g (m + 2 + 2 + 2) 6 (HS6.out.next ((Below.refl _ _).drew)) (by omega) (by omega)).mono ?_; rintro e w7 ⟨r4, rfl, hr4, hs, hp⟩; have hp := span_undrew hp; have HS7 := hid hs; have HP7 := hid (HP6.out.trans hp); have B7 := hid (B6.out.span hp (by omega)); have C7 := hid (C6.out.span hp (by omega)); have c2' := C7.out.c2; have f3' := C7.out.f3; have c3' := C7.out.c3; clear hs hp)
  all_goals
    rw [IntWalk.i64_in (2 + r3 + r4) (by omega)]
    obtain ⟨w8, hw8⟩ : ∃ x, w7.setCell ⟨G, 3, none⟩ (.int .i64 (2 + r3 + r4)) = x := ⟨_, rfl⟩
    have C8 : Hid (Box4 w8 G (50 + 10 * r1) (100 + 50 * r2) (2 + r3) (2 + r3 + r4)) := by rw [← hw8]; exact C7.out.set3 _
    have sp8 : Span w7 w8 G (G + 1) := by rw [← hw8]; exact span_set (Span.refl _ _ _) ⟨Nat.le_refl _, Nat.lt_succ_self _⟩ _
    have B8 := hid (B7.out.span sp8 (.inl hwG))
    have HS8 : Hid (SrcOk W0 w8 g (m + 2 + 2 + 2 + 2)) := by rw [← hw8]; exact HS7.out.store hgG _
    have HP8 : Hid (Span w w8 g (g + 1)) := by rw [← hw8]; exact span_new HP7.out (Nat.le_of_lt hwG) _
    rw [hw8]
    clear hw8 sp8 HS7 HP7 B7 C7 c2' f3' c3' c2 f3
    obtain ⟨n0, n1, n2, n3, d0, d1, d2, d3⟩ := C8.out
    obtain ⟨t0, t1, t2, t3, e0, e1, e2, e3⟩ := B8.out
    go_wp2_with fail
    (try simp only [Exit.inBlock, Exit.then])
    refine bodyPost_ret (v := .agg #[.int .i64 (50 + 10 * r1), .int .i64 (100 + 50 * r2), .int .i64 (2 + r3), .int .i64 (2 + r3 + r4)]) ?_ rfl ?_
    · simp [results, go_sem, e0, e1, e2, e3]
    · refine ⟨⟨50 + 10 * r1, 100 + 50 * r2, 2 + r3, 2 + r3 + r4⟩, rfl, ⟨by simp only; omega, by simp only; omega, by simp only; omega, by simp only; omega, by simp only; omega⟩, ?_, ?_⟩
      · exact (((HS8.out.store hlt _).store hlt _).store hlt _).store hlt _
      · exact span_new (span_new (span_new (span_new HP8.out (Nat.le_refl _) _) (Nat.le_refl _) _) (Nat.le_refl _) _) (Nat.le_refl _) _
set_option maxHeartbeats 4000000 in
theorem drawMills (W0 w : World) (g m : Nat) (h : SrcOk W0 w g m) (hm : m ≤ 10000) :
    Calls Try.prog 73 #[.pointer (some ⟨g, 0, none⟩)] w fun e w' => ∃ u xs, e = .returned u ∧ Own w' w.heap.size 84 u xs ∧ MillsOk xs ∧ SrcOk W0 w' g (m + 42) ∧ Span w w' g (g + 1) := by
  have hlt := h.lt
  have HS := hid (h.next ((Below.refl _ _).alloc (Nat.le_refl _) (.cells #[] 84)))
  have HO := hid (Own.empty (α := Mill) (w := w) (base := w.heap.size) (e := 84) (Nat.le_refl _))
  have HP := hid (span_alloc (Span.refl w g (g + 1)) (.cells #[] 84))
  clear h
  go_enter Try.func73, Try.ntmps73
  go_wp2_with fail
  refine (srcPick W0 _ g m 5 HS.out (by omega) (by omega)).mono ?_
  rintro e w1 ⟨r, rfl, hr, hs, hp⟩
  have HS1 := hid hs
  have HO1 := hid (HO.out.grown (span_grownBy hp) (.inr (by simp only [Value.ownBlock, ne_eq, Option.some.injEq]; omega)))
  have HP1 := hid (HP.out.trans hp)
  have hz1 := hp.size
  simp at hz1
  clear hs hp HO HS HP
  go_wp2_with fail
  go_loopw [3, 4] (fun u i wr => ∃ (j : Nat) (xs : List Mill), i = .int .i64 j ∧ xs.length + j = r.toNat + 1 ∧ Own wr w.heap.size 84 u xs ∧ (∀ x ∈ xs, MillOk x) ∧ SrcOk W0 wr g (m + 2 + 8 * xs.length) ∧ Span w wr g (g + 1)) (fun _ i _ => (intOf i).toNat)
  case atStart => exact ⟨r.toNat + 1, [], val_int (by omega), by simp, HO1.out, by simp, HS1.out, HP1.out⟩
  case round =>
    obtain ⟨j, xs, rfl, hj, ho, hx, hs, hsp⟩ := hrel
    obtain ⟨wo, rfl⟩ : ∃ wo : World, wo = wr := ⟨_, rfl⟩
    have HO := hid ho
    have HX := hid hx
    have HS := hid hs
    have HSP := hid hsp
    obtain ⟨V, vq, rfl⟩ := ho.form
    clear ho hx hs hsp HO1 HS1
    by_cases hj0 : 0 < j
    · go_wp2_with fail
      refine (drawMill W0 _ g _ HS.out (by omega)).mono ?_
      rintro e w2 ⟨ml, rfl, hml, hs, hp⟩
      have HS2 := hid hs
      have HML := hid hml
      have hgr := span_grownBy hp
      have HO2 := hid (HO.out.grown hgr (.inr (fun e => by have := (HO.out.block g e).1; omega)))
      have HSP2 := hid (HSP.out.trans hp)
      have hz2 : w.heap.size ≤ w2.heap.size := HSP2.out.size
      clear hs hp hgr hml
      go_wp2_with (first | fail | (at_builtin; refine wpList_push elMill _ rfl (.tmp 13) (.tmp 16) rfl w.heap.size _ xs ml rfl (HO2.out.alloc _) _ rfl (heap_alloc_new _ _) (by omega) (le_alloc hz2) ?_; intro v' w' hown' hg' hat'; refine keep_ ?_))
      have hs3 : SrcOk W0 w' g (m + 2 + 8 * xs.length + 8) := by
        have h1 := HS2.out.next ((Below.refl _ _).alloc (Nat.le_refl _) (.cells #[.int .i64 ml.l, .int .i64 ml.r, .int .i64 ml.a, .int .i64 ml.b] 84))
        refine h1.span (lo := w.heap.size) (hi := w'.heap.size + w2.heap.size + 2) (Span.of_grown hg' fun q hq => ?_) (.inl hlt) ?_
        · have h2 := (HO2.out.block q hq)
          omega
        · have := HS2.out.base; omega
      have Z1 := hid hs3
      have Z2 := hid hown'
      have Z3 := hid ((span_alloc HSP2.out (.cells #[.int .i64 ml.l, .int .i64 ml.r, .int .i64 ml.a, .int .i64 ml.b] 84)).grown2 hg' fun q hq => .inr (HO2.out.block q hq).1)
      clear hs3 hown' hg' hat'
      refine go_ ?_
      go_wp2_with fail
      go_roundw
      case rel => exact ⟨j - 1, xs ++ [ml], val_int (by omega), by simp; omega, Z2.out, fun x hx => by rcases List.mem_append.1 hx with h | h; exact HX.out x h; simp at h; subst h; exact HML.out, by rw [List.length_append]; exact Z1.out, Z3.out⟩
      case measure => simp [intOf]; omega
    · go_wp2_with fail
      go_ret
      exact ⟨_, xs, rfl, HO.out, ⟨by omega, HX.out⟩, HS.out.mono (by omega), HSP.out⟩
theorem elStage : El Try.prog 55 79 (⟨none, 0, 0⟩ : SlC) :=
  El.mk' (z := .slice none 0 0) (bytes := 24) Try.underlying55 (by kernel_rfl) (by decide) rfl (by decide)
def slv (s : SlC) : Value := .slice s.A s.n s.c
def MsOwn (w : World) (base : Nat) : List SlC → List (List Mill) → Prop
  | [], [] => True
  | s :: ss, p :: ps => Own w base 84 (slv s) p ∧ MsOwn w base ss ps
  | _, _ => False
section
variable {w w' : World} {base : Nat}
theorem MsOwn.len : ∀ {ss : List SlC} {ps : List (List Mill)}, MsOwn w base ss ps → ss.length = ps.length
  | [], [], _ => rfl
  | s :: ss, p :: ps, h => by simp [MsOwn.len h.2]
  | [], p :: ps, h => h.elim
  | s :: ss, [], h => h.elim
theorem MsOwn.push {s : SlC} {p : List Mill} (h1 : Own w base 84 (slv s) p) : ∀ {gs : List SlC} {ps : List (List Mill)}, MsOwn w base gs ps → MsOwn w base (gs ++ [s]) (ps ++ [p])
  | [], [], _ => ⟨h1, trivial⟩
  | g :: gs, p :: ps, h => ⟨h.1, MsOwn.push h1 h.2⟩
  | [], p :: ps, h => h.elim
  | g :: gs, [], h => h.elim
theorem MsOwn.impM : ∀ {gs : List SlC} {ps : List (List Mill)}, (∀ g ∈ gs, ∀ xs : List Mill, Own w base 84 (slv g) xs → Own w' base 84 (slv g) xs) → MsOwn w base gs ps → MsOwn w' base gs ps
  | [], [], _, _ => trivial
  | g :: gs, p :: ps, hb, h => ⟨hb g (by simp) _ h.1, MsOwn.impM (fun g' hg => hb g' (by simp [hg])) h.2⟩
  | [], p :: ps, _, h => h.elim
  | g :: gs, [], _, h => h.elim
theorem MsOwn.lt : ∀ {gs : List SlC} {ps : List (List Mill)}, MsOwn w base gs ps → ∀ g ∈ gs, ∀ k, (slv g).ownBlock = some k → base ≤ k ∧ k < w.heap.size
  | [], [], _, g, hg => by simp at hg
  | g :: gs, p :: ps, h, g', hg => by
    rcases List.mem_cons.mp hg with rfl | hg
    · exact fun k hk => h.1.block k hk
    · exact MsOwn.lt h.2 g' hg
  | [], p :: ps, h, _, _ => h.elim
  | g :: gs, [], h, _, _ => h.elim
theorem MsOwn.sl : ∀ {gs : List SlC} {ps : List (List Mill)}, (∀ p ∈ ps, p.length ≤ 1048576) → MsOwn w base gs ps → MsAll w gs ps
  | [], [], _, _ => trivial
  | g :: gs, p :: ps, hl, h => by
    obtain ⟨A, c, hv⟩ := h.1.form
    have hn : g.n = p.length := by
      unfold slv at hv
      injection hv
    refine ⟨⟨hn, ?_⟩, MsOwn.sl (fun q hq => hl q (by simp [hq])) h.2⟩
    exact Own.rd (n := g.n) (c := g.c) h.1 (hl p (by simp))
  | [], p :: ps, _, h => h.elim
  | g :: gs, [], _, h => h.elim
end
structure Sts (w : World) (base : Nat) (ov : Value) (ss : List SlC) (st : List (List Mill)) : Prop where
  own : Own w base 79 ov ss
  all : MsOwn w base ss st
  off : ∀ s ∈ ss, ∀ k, (slv s).ownBlock = some k → ov.ownBlock ≠ some k
section
variable {w w' : World} {base : Nat} {ov : Value} {ss : List SlC} {st : List (List Mill)}
theorem Sts.src {g : Nat} (h : Sts w base ov ss st) (hs : Span w w' g (g + 1)) (hg : g < base) : Sts w' base ov ss st :=
  ⟨h.own.grown (span_grownBy hs) (.inr fun e => by have := (h.own.block g e).1; omega), h.all.impM fun s hs' xs ho => ho.grown (span_grownBy hs) (.inr fun e => by have := (ho.block g e).1; omega), h.off⟩
theorem Sts.push {v' : Value} {p : List Mill} {s : SlC} {lo : Nat} {wa : World} (h : Sts w base ov ss st) (hlo : base ≤ lo) (ho : Own w lo 84 (slv s) p) (hnew : ∀ k, ov.ownBlock = some k → k < lo)
    (hwa : Below w.heap.size w wa) (hown : Own w' base 79 v' (ss ++ [s])) (hg : wa.grownBy w' ov.ownBlock) (hat : v'.ownBlock = ov.ownBlock ∨ v'.ownBlock = some wa.heap.size) : Sts w' base v' (ss ++ [s]) (st ++ [p]) := by
  have hoff : ∀ s' ∈ ss ++ [s], ∀ k, (slv s').ownBlock = some k → ov.ownBlock ≠ some k ∧ k < w.heap.size := by
    intro s' hs' k hk
    rcases List.mem_append.mp hs' with hm | hm
    · exact ⟨h.off s' hm k hk, (h.all.lt s' hm k hk).2⟩
    · simp only [List.mem_singleton] at hm
      subst hm
      have hb := ho.block k hk
      refine ⟨fun e => ?_, hb.2⟩
      have := hnew k e
      omega
  refine ⟨hown, MsOwn.push ?_ (h.all.impM fun g hgm xs ho' => ?_), fun s' hs' k hk => ?_⟩
  · refine (((ho.mono hlo).below hwa).beside hg ?_)
    intro k q hk hq e
    subst e
    exact (hoff s (by simp) k hk).1 hq
  · refine ((ho'.below hwa).beside hg ?_)
    intro k q hk hq e
    subst e
    exact (hoff g (by simp [hgm]) k hk).1 hq
  · have hh := hoff s' hs' k hk
    rcases hat with e | e
    · rw [e]; exact hh.1
    · rw [e]
      intro e2
      injection e2 with e2
      have := hwa.size
      omega
theorem Sts.rds {A : Option Addr} {n c : Nat} (h : Sts w base (.slice A n c) ss st) (hst : StOk st) : RdS w A st :=
  ⟨ss, h.own.rd (by rw [h.all.len]; have := hst.1; omega), h.all.sl fun p hp => by have := (hst.2 p hp).1; omega⟩
end
set_option maxHeartbeats 4000000 in
theorem a2Stages_ (w : World) (A : Option Addr) (bs : List Byt) (c : Nat) (hr : Rd w A bs) (hb : BytOk bs) :
    Calls Try.prog 27 #[.slice A bs.length c] w fun e w' => ∃ V q st, e = .returned (.slice V st.length q) ∧ RdS w' V st ∧ StOk st ∧ Below w.heap.size w w' := by
  have HR := hid hr
  clear hr
  go_enter Try.func27, Try.ntmps27
  go_wp2_with fail
  refine (srcFrom _ A bs c HR.out hb).mono ?_
  rintro e w1 ⟨rfl, hs, hb1⟩
  have HS0 := hid hs
  have hlt := hs.lt
  have HS := hid (hs.next ((Below.refl _ _).alloc (Nat.le_refl _) (.cells #[] 79)))
  have HO := hid (Own.empty (α := SlC) (w := w1) (base := w.heap.size + 1) (e := 79) (by omega))
  clear hs hb1
  go_wp2_with fail
  refine (srcPick w _ _ 0 3 HS.out (by omega) (by omega)).mono ?_
  rintro e w2 ⟨r, rfl, hr, hs, hp⟩
  have HS2 := hid hs
  have HO2 : Hid (Sts w2 (w.heap.size + 1) (.slice (some ⟨w1.heap.size, 0, none⟩) 0 0) [] []) := Sts.src (w := w1.alloc (.cells #[] 79)) ⟨HO.out, trivial, by simp⟩ hp (by omega)
  clear hs hp HO HS
  go_wp2_with fail
  generalize w1.heap.size = G1 at HO2 ⊢
  go_loopw [4, 5] (fun u i wr => ∃ (j : Nat) (st : List (List Mill)) (ss : List SlC), i = .int .i64 j ∧ st.length + j = r.toNat + 1 ∧ Sts wr (w.heap.size + 1) u ss st ∧ (∀ x ∈ st, MillsOk x) ∧ SrcOk w wr w.heap.size (2 + 42 * st.length)) (fun _ i _ => (intOf i).toNat)
  case atStart => exact ⟨r.toNat + 1, [], [], val_int (by omega), by simp, HO2.out, by simp, HS2.out⟩
  case round =>
    obtain ⟨j, st, ss, rfl, hj, ho, hx, hs⟩ := hrel
    obtain ⟨wo, rfl⟩ : ∃ wo : World, wo = wr := ⟨_, rfl⟩
    have HO := hid ho
    have HX := hid hx
    have HS := hid hs
    have hsl := ho.all.len
    obtain ⟨V, vq, rfl⟩ := ho.own.form
    have hz : w.heap.size < wo.heap.size := hs.lt
    rw [hsl] at HO ⊢
    have HSL := hid hsl
    clear ho hx hs HO2 HS2 hsl
    by_cases hj0 : 0 < j
    · go_wp2_with fail
      refine (drawMills w _ _ _ HS.out (by omega)).mono ?_
      rintro e w3 ⟨u, ms, rfl, ho, hms, hs, hp⟩
      obtain ⟨V3, v3, rfl⟩ := ho.form
      have HS3 := hid hs
      have HMS := hid hms
      have HO3 := hid (HO.out.src hp (by omega))
      have HM3 := hid ho
      have hz3 := hp.size
      have hz4 : w.heap.size + 1 ≤ w3.heap.size := by omega
      have HNB : Hid (∀ k, (Value.slice V st.length vq).ownBlock = some k → k < wo.heap.size) := fun k hk => (HO.out.own.block k hk).2
      clear hs hp ho hms
      go_wp2_with (first | fail | (at_builtin; refine wpList_push elStage _ rfl (.tmp 16) (.tmp 19) rfl (w.heap.size + 1) _ ss (⟨V3, ms.length, v3⟩ : SlC) rfl (HO3.out.own.alloc _) _ rfl (heap_alloc_new _ _) (by rw [HSL.out]; omega) (le_alloc hz4) ?_; intro v' w' hown' hg' hat'; refine keep_ ?_))
      have hpn := HO3.out.push (s := ⟨V3, ms.length, v3⟩) (lo := wo.heap.size) (by omega) HM3.out HNB.out ((Below.refl _ _).alloc (Nat.le_refl _) _) hown' hg' hat'
      have hs3 : SrcOk w w' w.heap.size (2 + 42 * st.length + 42) := by
        have h1 := HS3.out.next ((Below.refl _ _).alloc (Nat.le_refl _) (.cells #[.slice V3 ms.length v3] 79))
        refine h1.span (lo := w.heap.size + 1) (hi := w'.heap.size + w3.heap.size + 2) (Span.of_grown hg' fun q hq => ?_) (.inl (by omega)) (by omega)
        have h2 := (HO3.out.own.block q hq)
        omega
      have Z1 := hid hs3
      have Z2 := hid hpn
      clear hs3 hown' hg' hat' hpn
      refine go_ ?_
      go_wp2_with fail
      go_roundw
      case rel => exact ⟨j - 1, st ++ [ms], _, val_int (by omega), by simp; omega, Z2.out, fun x hx => by rcases List.mem_append.1 hx with h | h; exact HX.out x h; simp at h; subst h; exact HMS.out, by rw [List.length_append]; exact Z1.out⟩
      case measure => simp [intOf]; omega
    · have hok : StOk st := ⟨by omega, HX.out⟩
      have E1 := hid (HO.out.rds hok)
      have HK := hid hok
      clear hok
      go_wp2_with fail
      go_ret
      exact ⟨V, vq, st, rfl, E1.out, HK.out, HS.out.below⟩
end Go.Proofs.Yteobejgkjjhfkaa
