/- Cases from the past, the best alarm: walked. -/
import Derived.Test.YteobejgkjjhfkaaMillDraw
import Derived.Deep.CutBlock
namespace Go.Proofs.Yteobejgkjjhfkaa
open Go.RowKit
set_option linter.unusedVariables false
structure Past where
  l : Int
  f : Bool
instance : Enc Past := ⟨2, fun d => [.int .i64 d.l, .bool d.f], fun _ => rfl, fun _ u h => by simp at h; rcases h with rfl | rfl <;> rfl⟩
theorem Rd.past {w : World} {A : Option Addr} {xs : List Past} (h : Rd w A xs) {k : Nat} (hk : k < xs.length) : ∃ b off, A = some ⟨b, off, none⟩ ∧
    w.cell? ⟨b, off + k * 2, none⟩ = some (.int .i64 xs[k].l) ∧ w.cell? ⟨b, off + k * 2 + 1, none⟩ = some (.bool xs[k].f) := by
  obtain ⟨b, off, hA, hc⟩ := h.2 k hk
  exact ⟨b, off, hA, hc 0 _ rfl, hc 1 _ rfl⟩
theorem elPast : El Try.prog 72 117 (⟨0, false⟩ : Past) :=
  El.mk' (z := .agg #[.int .i64 0, .bool false]) (bytes := 16) Try.underlying72 (by kernel_rfl) (by decide) rfl (by decide)
def PastOk (cs : List Past) : Prop := cs.length ≤ 11 ∧ ∀ p ∈ cs, -2000 ≤ p.l ∧ p.l ≤ 2000
def missM (a : Int) : List Past → Int
  | [] => 0
  | p :: ps => (if p.f = true ∧ p.l < a then 1 else 0) + missM a ps
def wrongM (a : Int) : List Past → Int
  | [] => 0
  | p :: ps => (if p.f = false ∧ a ≤ p.l then 1 else 0) + wrongM a ps
theorem miss_range (a : Int) : ∀ cs : List Past, 0 ≤ missM a cs ∧ 0 ≤ wrongM a cs ∧ missM a cs + wrongM a cs ≤ cs.length
  | [] => by simp [missM, wrongM]
  | p :: ps => by
    have := miss_range a ps
    simp only [missM, wrongM, List.length_cons]
    cases p.f <;> simp <;> split <;> omega
def costA (pr : Int) (cs : List Past) (a : Int) : Int := pr * missM a cs + wrongM a cs
theorem cost_range {pr : Int} (hp : 0 ≤ pr ∧ pr ≤ 10) {cs : List Past} (h : cs.length ≤ 11) (a : Int) : 0 ≤ pr * missM a cs ∧ pr * missM a cs ≤ 110 ∧ 0 ≤ costA pr cs a ∧ costA pr cs a ≤ 121 := by
  obtain ⟨h1, h2, h3⟩ := miss_range a cs
  have e1 := Int.mul_nonneg hp.1 h1
  have e2 : pr * missM a cs ≤ 10 * 11 := Int.mul_le_mul hp.2 (by omega) h1 (by omega)
  unfold costA
  omega
structure Box2 (w : World) (G : Nat) (a : Int) (b : Bool) : Prop where
  f0 : w.frozen? ⟨G, 0, none⟩ = false
  f1 : w.frozen? ⟨G, 1, none⟩ = false
  c0 : w.cell? ⟨G, 0, none⟩ = some (.int .i64 a)
  c1 : w.cell? ⟨G, 1, none⟩ = some (.bool b)
theorem Box2.new (w : World) (e : TypeId) (a : Int) (b : Bool) : Box2 (w.alloc (.cells #[.int .i64 a, .bool b] e)) w.heap.size a b := by
  constructor <;> simp [go_sem]
theorem Box2.span {w w' : World} {G lo hi : Nat} {a : Int} {b : Bool} (h : Box2 w G a b) (hs : Span w w' lo hi) (hG : G < lo ∨ hi ≤ G) : Box2 w' G a b := by
  have hlt : G < w.heap.size := World.block_lt_of_cell? w _ h.c0
  have hf : ∀ j, w'.frozen? ⟨G, j, none⟩ = w.frozen? ⟨G, j, none⟩ := fun j => World.frozen?_of_block (hs.block G hlt hG)
  exact ⟨(hf 0).trans h.f0, (hf 1).trans h.f1, span_cell hs h.c0 hG, span_cell hs h.c1 hG⟩
theorem Box2.set1 {w : World} {G : Nat} {a : Int} {b : Bool} (h : Box2 w G a b) (z : Bool) : Box2 (w.setCell ⟨G, 1, none⟩ (.bool z)) G a z := by
  obtain ⟨f0, f1, c0, c1⟩ := h
  constructor <;> simp [go_sem, f0, f1, c0, c1]
set_option maxHeartbeats 8000000 in
theorem a2Past_ (w : World) (A : Option Addr) (bs : List Byt) (c : Nat) (hr : Rd w A bs) (hb : BytOk bs) :
    Calls Try.prog 42 #[.slice A bs.length c] w fun e w' => ∃ V q cs, e = .returned (.slice V cs.length q) ∧ Rd w' V cs ∧ PastOk cs ∧ Below w.heap.size w w' := by
  have HR := hid hr
  clear hr
  go_enter Try.func42, Try.ntmps42
  go_wp2_with fail
  refine (srcFrom _ A bs c HR.out hb).mono ?_
  rintro e w1 ⟨rfl, hs, hb1⟩
  have hlt := hs.lt
  have HS := hid (hs.next ((Below.refl _ _).alloc (Nat.le_refl _) (.cells #[] 117)))
  have HO := hid (Own.empty (α := Past) (w := w1) (base := w.heap.size + 1) (e := 117) (by omega))
  clear hs hb1
  go_wp2_with fail
  refine (srcPick w _ _ 0 12 HS.out (by omega) (by omega)).mono ?_
  rintro e w2 ⟨r, rfl, hr, hs, hp⟩
  have HS2 := hid hs
  have HO2 := hid (HO.out.grown (span_grownBy hp) (.inr (by simp only [Value.ownBlock, ne_eq, Option.some.injEq]; omega)))
  clear hs hp HO HS
  generalize w1.heap.size = G1 at HO2 ⊢
  generalize w.heap.size = g at hlt HS2 HO2 ⊢
  go_wp2_with fail
  go_loopw [4, 5] (fun u i wr => ∃ (j : Nat) (cs : List Past), i = .int .i64 j ∧ cs.length + j = r.toNat ∧ Own wr (g + 1) 117 u cs ∧ (∀ x ∈ cs, -2000 ≤ x.l ∧ x.l ≤ 2000) ∧ SrcOk w wr g (2 + 4 * cs.length)) (fun _ i _ => (intOf i).toNat)
  case atStart => exact ⟨r.toNat, [], val_int (by omega), by simp, HO2.out, by simp, HS2.out⟩
  case round =>
    obtain ⟨j, cs, rfl, hj, ho, hx, hs⟩ := hrel
    obtain ⟨wo, rfl⟩ : ∃ wo : World, wo = wr := ⟨_, rfl⟩
    have HO := hid ho
    have HX := hid hx
    have HS := hid hs
    have hz : g < wo.heap.size := hs.lt
    obtain ⟨V, vq, rfl⟩ := ho.form
    clear ho hx hs HO2 HS2
    by_cases hj0 : 0 < j
    · go_wp2_with fail
      refine (srcPick w _ _ _ 20 HS.out (by omega) (by omega)).mono ?_
      rintro e w3 ⟨r1, rfl, hr1, hs, hp⟩
      have HS3 := hid hs
      have HO3 := hid (HO.out.grown (span_grownBy hp) (.inr (fun e => by have := (HO.out.block g e).1; omega)))
      have hz3 := hp.size
      clear hs hp
      go_upto_region 7 with fail
      obtain ⟨G, hG⟩ : ∃ G, w3.heap.size = G := ⟨_, rfl⟩
      obtain ⟨w4, hw4⟩ : ∃ x, w3.alloc (.cells #[.int .i64 (25 * r1), .bool false] 117) = x := ⟨_, rfl⟩
      have C4 : Hid (Box2 w4 G (25 * r1) false) := by rw [← hw4, ← hG]; exact Box2.new _ _ _ _
      have HS4 : Hid (SrcOk w w4 g (2 + 4 * cs.length + 2)) := by rw [← hw4]; exact HS3.out.next ((Below.refl _ _).alloc (Nat.le_refl _) _)
      have HO4 : Hid (Own w4 (g + 1) 117 (.slice V cs.length vq) cs) := by rw [← hw4]; exact HO3.out.alloc _
      have hgG : g < G := by omega
      have HNG : Hid (∀ v : Value, Own w3 (g + 1) 117 v cs → v.ownBlock ≠ some G) := fun v hv e => by have := (hv.block G e).2; omega
      have hne := HNG.out _ HO3.out
      rw [hw4, hG]
      clear hw4 HS3 HO3 HNG hG
      have HNE := hid hne
      clear hne
      have c0 := C4.out.c0
      have f1 := C4.out.f1
      go_region_with (go_at_call 87; refine (srcOne w _ g (2 + 4 * cs.length + 2) 5 (HS4.out.next ((Below.refl _ _).drew)) (by omega) (by omega)).mono ?_; rintro e w5 ⟨bb, rfl, hs, hp⟩; have hp := span_undrew hp; have HS5 := hid hs; have C5 := hid (C4.out.span hp (by omega)); have HO5 := hid (HO4.out.grown (span_grownBy hp) (.inr (fun e => by have := (HO4.out.block g e).1; omega))); have c0' := C5.out.c0; have f1' := C5.out.f1; have c1' := C5.out.c1; clear hs hp)
      all_goals
        generalize hw6 : w5.setCell ⟨G, 1, none⟩ (Value.bool _) = w6
        have C6 : ∃ b, Box2 w6 G (25 * r1) b := by rw [← hw6]; exact ⟨_, C5.out.set1 _⟩
        obtain ⟨ff, C6⟩ := C6
        have HS6 : Hid (SrcOk w w6 g (2 + 4 * cs.length + 2 + 2)) := by rw [← hw6]; exact HS5.out.store hgG _
        have HO6 : Hid (Own w6 (g + 1) 117 (.slice V cs.length vq) cs) := by rw [← hw6]; exact HO5.out.grown (span_grownBy (span_set (p := ⟨G, 1, none⟩) (Span.refl _ _ _) ⟨Nat.le_refl _, Nat.lt_succ_self _⟩ _)) (.inr HNE.out)
        clear hw6 HS5 HO5 C5 c0' f1' c1' c0 f1
        have hz6 : g + 1 ≤ w6.heap.size := HS6.out.lt
        have c0 := C6.c0
        have c1 := C6.c1
        go_wp2_with (first | fail | (at_builtin; refine wpList_push elPast _ rfl (.tmp 27) (.tmp 29) rfl (g + 1) _ cs (⟨25 * r1, ff⟩ : Past) rfl (HO6.out.alloc _) _ rfl (heap_alloc_new _ _) (by omega) (le_alloc hz6) ?_; intro v' w' hown' hg' hat'; refine keep_ ?_))
        have hs3 : SrcOk w w' g (2 + 4 * cs.length + 2 + 2) := by
          have h1 := HS6.out.next ((Below.refl _ _).alloc (Nat.le_refl _) (.cells #[.int .i64 (25 * r1), .bool ff] 117))
          refine h1.span (lo := g + 1) (hi := w'.heap.size + w6.heap.size + 2) (Span.of_grown hg' fun q hq => ?_) (.inl (by omega)) (by have := HS6.out.base; omega)
          have h2 := (HO6.out.block q hq)
          omega
        have Z1 := hid hs3
        have Z2 := hid hown'
        clear hs3 hown' hg' hat'
        refine go_ ?_
        go_wp2_with fail
        go_roundw
        case rel => exact ⟨j - 1, cs ++ [⟨25 * r1, ff⟩], val_int (by omega), by simp; omega, Z2.out, fun x hx => by rcases List.mem_append.1 hx with h | h; exact HX.out x h; simp at h; subst h; simp only; omega, by rw [List.length_append]; exact Z1.out⟩
        case measure => simp [intOf]; omega
    · have hln : cs.length ≤ 11 := by omega
      have E1 := hid (HO.out.rd (by omega))
      go_wp2_with fail
      go_ret
      exact ⟨V, vq, cs, rfl, E1.out, ⟨hln, HX.out⟩, HS.out.below⟩
theorem validLevel_ (n : Int) (w : World) : Calls Try.prog 93 #[.int .i64 n] w fun e w' => e = .returned (.bool (inB n (-2000) 2000)) ∧ w = w' := by
  go_enter Try.func93, Try.ntmps93
  go_wp2_with (go_at_call 59; refine (implIn _ _ _ _).mono ?_; rintro e w' ⟨rfl, rfl⟩)
  go_ret
  exact ⟨rfl, rfl⟩
end Go.Proofs.Yteobejgkjjhfkaa
