/- FnMillSets: three rows side by side, A2Mills, a2Sum. -/
import Derived.Test.YteobejgkjjhfkaaSplitM
import Derived.Test.YteobejgkjjhfkaaAid
namespace Go.Proofs.Yteobejgkjjhfkaa
open Go.RowKit
set_option linter.unusedVariables false
set_option linter.unusedSimpArgs false
theorem own_oth {α : Type} [Enc α] {w : World} {base : Nat} {e : TypeId} {v : Value} {xs : List α} (h : Own w base e v xs) {g j n c : Nat} (u : Value) (hn : ∀ k, v.ownBlock = some k → k ≠ g) : Own (w.setCell ⟨g, j, none⟩ u) base e v xs :=
  h.beside (u := .slice (some ⟨g, 0, none⟩) n c) (grown_set (World.grownBy.refl _ _)) (fun k g' hk hg => by simp only [Value.ownBlock, Option.some.injEq] at hg; subst hg; exact hn k hk)
structure Three (w : World) (base gs : Nat) (u v : Value) (rl sm : List Int) (s0 s1 : Int) : Prop where
  o1 : Own w base 2 u rl
  o2 : Own w base 2 v sm
  o3 : Own w base 2 (.slice (some ⟨gs, 0, none⟩) 2 2) [s0, s1]
  d1 : ∀ a, u.ownBlock = some a → a ≠ gs
  d2 : ∀ a, v.ownBlock = some a → a ≠ gs
  d3 : ∀ a b, u.ownBlock = some a → v.ownBlock = some b → a ≠ b
section
variable {w w' : World} {base gs : Nat} {u v u' : Value} {rl sm : List Int} {s0 s1 : Int}
theorem Three.below (h : Three w base gs u v rl sm s0 s1) (hb : Below w.heap.size w w') : Three w' base gs u v rl sm s0 s1 := ⟨h.o1.below hb, h.o2.below hb, h.o3.below hb, h.d1, h.d2, h.d3⟩
theorem Three.lt (h : Three w base gs u v rl sm s0 s1) : base ≤ gs ∧ gs < w.heap.size := h.o3.block gs rfl
theorem Three.pushA {r : Int} (h : Three w base gs u v rl sm s0 s1) (ho : Own w' base 2 u' (rl ++ [r])) (hg : w.grownBy w' u.ownBlock) (hat : u'.ownBlock = u.ownBlock ∨ u'.ownBlock = some w.heap.size) : Three w' base gs u' v (rl ++ [r]) sm s0 s1 := by
  have hl := h.lt
  refine ⟨ho, h.o2.beside hg fun k g hk hg' e => h.d3 g k hg' hk e.symm, h.o3.beside hg fun k g hk hg' e => ?_, fun a ha e => ?_, h.d2, fun a b ha hb e => ?_⟩
  · simp only [Value.ownBlock, Option.some.injEq] at hk
    exact h.d1 g hg' (by omega)
  · rcases hat with q | q
    · exact h.d1 a (q.symm.trans ha) e
    · rw [q] at ha; injection ha with ha; omega
  · rcases hat with q | q
    · exact h.d3 a b (q.symm.trans ha) hb e
    · rw [q] at ha; injection ha with ha
      have := (h.o2.block b hb).2
      omega
theorem Three.pushB {r : Int} {v' : Value} (h : Three w base gs u v rl sm s0 s1) (ho : Own w' base 2 v' (sm ++ [r])) (hg : w.grownBy w' v.ownBlock) (hat : v'.ownBlock = v.ownBlock ∨ v'.ownBlock = some w.heap.size) : Three w' base gs u v' rl (sm ++ [r]) s0 s1 := by
  have hl := h.lt
  refine ⟨h.o1.beside hg fun k g hk hg' e => h.d3 k g hk hg' e, ho, h.o3.beside hg fun k g hk hg' e => ?_, h.d1, fun a ha e => ?_, fun a b ha hb e => ?_⟩
  · simp only [Value.ownBlock, Option.some.injEq] at hk
    exact h.d2 g hg' (by omega)
  · rcases hat with q | q
    · exact h.d2 a (q.symm.trans ha) e
    · rw [q] at ha; injection ha with ha; omega
  · rcases hat with q | q
    · exact h.d3 a b ha (q.symm.trans hb) e
    · rw [q] at hb; injection hb with hb
      have := (h.o1.block a ha).2
      omega
theorem Three.store0 (h : Three w base gs u v rl sm s0 s1) (z : Int) : Three (w.setCell ⟨gs, 0, none⟩ (.int .i64 z)) base gs u v rl sm z s1 :=
  ⟨own_oth (n := 2) (c := 2) h.o1 _ h.d1, own_oth (n := 2) (c := 2) h.o2 _ h.d2, h.o3.intSet (k := 0) (by simp) z, h.d1, h.d2, h.d3⟩
theorem Three.store1 (h : Three w base gs u v rl sm s0 s1) (z : Int) : Three (w.setCell ⟨gs, 1, none⟩ (.int .i64 z)) base gs u v rl sm s0 z :=
  ⟨own_oth (n := 2) (c := 2) h.o1 _ h.d1, own_oth (n := 2) (c := 2) h.o2 _ h.d2, h.o3.intSet (k := 1) (by simp) z, h.d1, h.d2, h.d3⟩
end
theorem Own.two (w : World) (base : Nat) (a b : Int) (hb : base ≤ w.heap.size) : Own (w.alloc (.cells #[.int .i64 a, .int .i64 b] 2)) base 2 (.slice (some ⟨w.heap.size, 0, none⟩) 2 2) [a, b] :=
  ⟨by simp [flat, Enc.enc, Enc.size], .inr ⟨w.heap.size, 2, _, rfl, hb, heap_alloc_new w _, Nat.le_refl _, by simp [maxLen], by simp [Enc.size], by simp [flat, Enc.enc, Enc.size]⟩⟩
theorem three_new (w : World) (base : Nat) (hb : base ≤ w.heap.size) : Three (((w.alloc (.cells #[] 2)).alloc (.cells #[] 2)).alloc (.cells #[.int .i64 0, .int .i64 0] 2)) base (w.heap.size + 1 + 1)
    (.slice (some ⟨w.heap.size, 0, none⟩) 0 0) (.slice (some ⟨w.heap.size + 1, 0, none⟩) 0 0) [] [] 0 0 := by
  have h1 : Own ((w.alloc (.cells #[] 2)).alloc (.cells #[] 2)) base 2 (.slice (some ⟨w.heap.size + 1, 0, none⟩) 0 0) ([] : List Int) := by
    have h := Own.empty (α := Int) (w := w.alloc (.cells #[] 2)) (base := base) (e := 2) (by simp; omega)
    simpa using h
  have h2 : Own (((w.alloc (.cells #[] 2)).alloc (.cells #[] 2)).alloc (.cells #[.int .i64 0, .int .i64 0] 2)) base 2 (.slice (some ⟨w.heap.size + 1 + 1, 0, none⟩) 2 2) [(0 : Int), 0] := by
    have h := Own.two ((w.alloc (.cells #[] 2)).alloc (.cells #[] 2)) base 0 0 (by simp; omega)
    simpa using h
  refine ⟨((Own.empty hb).alloc _).alloc _, h1.alloc _, h2, fun a ha => ?_, fun a ha => ?_, fun a b ha hb => ?_⟩
  · simp only [Value.ownBlock, Option.some.injEq] at ha; omega
  · simp only [Value.ownBlock, Option.some.injEq] at ha; omega
  · simp only [Value.ownBlock, Option.some.injEq] at ha hb; omega
set_option maxHeartbeats 1000000 in
theorem l2Sum_ (A : Option Addr) (xs : List Int) (c : Nat) (w : World) (hx : Rd w A xs) (hs : xs.length ≤ 1000) (hr : ∀ x ∈ xs, 0 ≤ x ∧ x ≤ 1000) :
    Calls Try.prog 17 #[.slice A xs.length c] w fun e w' => e = .returned (.int .i64 xs.sum) ∧ w = w' := by
  have HR := hid hr
  obtain ⟨S, hS⟩ : ∃ S, xs.sum = S := ⟨_, rfl⟩
  rw [hS]
  have HS : Hid (0 + (xs.drop 0).sum = S) := by rw [List.drop_zero, Int.zero_add]; exact hS
  clear hr hS
  go_enter Try.func17, Try.ntmps17
  go_wp2
  go_loop [3, 4] (fun s i => ∃ (k : Nat) (a : Int), k ≤ xs.length ∧ i = .int .i64 k ∧ s = .int .i64 a ∧ a + (xs.drop k).sum = S ∧ 0 ≤ a ∧ a ≤ 1000 * k) (fun _ i => xs.length - (intOf i).toNat)
  case atStart => exact ⟨0, 0, Nat.zero_le _, rfl, rfl, HS.out, by omega, by omega⟩
  case round =>
    obtain ⟨k, a, hk, rfl, rfl, hrl, ha0, ha1⟩ := hrel
    by_cases hlt : k < xs.length
    · obtain ⟨g, off, rfl, c1⟩ := hx.int hlt
      have hxr := HR.out _ (List.getElem_mem hlt)
      rw [List.drop_eq_getElem_cons hlt, List.sum_cons] at hrl
      generalize xs[k] = x at c1 hxr hrl
      clear hx
      go_wp2
      go_round
      case rel => exact ⟨k + 1, a + x, by omega, by go_num, rfl, by omega, by omega, by omega⟩
      case measure => simp [intOf]; omega
    · rw [List.drop_eq_nil_of_le (by omega)] at hrl
      have hrb : a = S := by simpa using hrl
      subst hrb
      clear hx
      go_wp2
      go_ret
      exact ⟨rfl, rfl⟩
theorem specA2Mills (w : World) (A : Option Addr) (bs : List Byt) (c : Nat) (hr : Rd w A bs) (hb : BytOk bs) :
    Calls Try.prog 49 #[.slice A bs.length c] w fun e w' => ∃ V q xs, e = .returned (.slice V xs.length q) ∧ Rd w' V xs ∧ MillsOk xs ∧ Below w.heap.size w w' := by
  go_enter Try.func49, Try.ntmps49
  go_wp2_with fail
  refine (srcFrom _ _ _ _ hr hb).mono ?_
  rintro e w1 ⟨rfl, hs, hb1⟩
  have HB1 := hid hb1
  have HS1 := hid hs
  clear hs hb1
  go_wp2_with fail
  refine (drawMills w w1 w.heap.size 0 HS1.out (by omega)).mono ?_
  rintro e w2 ⟨u, xs, rfl, ho, hok, hs, hp⟩
  obtain ⟨V, vq, rfl⟩ := ho.form
  have HB2 := hid (below_span HB1.out hp (Nat.le_refl _) HB1.out.size)
  have HO := hid (ho.rd (by have := hok.1; omega))
  have HK := hid hok
  clear ho hok hs hp HS1 HB1
  go_wp2_with fail
  go_ret
  exact ⟨V, vq, xs, rfl, HO.out, HK.out, HB2.out⟩
theorem upTo_grow {n m : Int} {l : List Int} (h : UpTo n l) (hm : n ≤ m) : UpTo m l := ⟨fun a ha => by have := h.1 a ha; omega, h.2⟩
theorem upTo_push {n : Nat} {l : List Int} (h : UpTo (n : Int) l) : UpTo ((n + 1 : Nat) : Int) (l ++ [(n : Int)]) := upTo_snoc (upTo_grow h (by omega)) (nx_le h) (by omega) (by omega)
theorem hasB_take {l : List Int} {k : Nat} (hk : k < l.length) (v : Int) : hasB (l.take (k + 1)) v = (hasB (l.take k) v || decide (l[k] = v)) := by
  unfold hasB
  rw [take_next hk, Bool.eq_iff_iff]
  simp only [List.mem_append, List.mem_singleton, Bool.or_eq_true, decide_eq_true_eq]
  constructor
  · rintro (h | h)
    · exact .inl h
    · exact .inr h.symm
  · rintro (h | h)
    · exact .inl h
    · exact .inr h.symm
def oneIf (b : Bool) : Int := if b = true then 1 else 0
end Go.Proofs.Yteobejgkjjhfkaa
