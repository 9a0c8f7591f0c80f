/- Rain: what is drawn, the room for it, what runs off. -/
import Derived.Test.YteobejgkjjhfkaaSrc
import Derived.Test.YteobejgkjjhfkaaMarkInt
namespace Go.Proofs.Yteobejgkjjhfkaa
open Go.RowKit
set_option linter.unusedVariables false
/-! plain -/
def roomL (loss : Int) : List Int → Int → Int → Int
  | [], _, r => r
  | x :: xs, h, r => roomL loss xs (max 0 (h - loss) + x) (max r (max 0 (h - loss) + x))
def runL (loss room : Int) : List Int → Int → List Int × Int
  | [], h => ([], h)
  | x :: xs, h => (max 0 (max 0 (h - loss) + x - room) :: (runL loss room xs (min (max 0 (h - loss) + x) room)).1, (runL loss room xs (min (max 0 (h - loss) + x) room)).2)
theorem runL_len (loss room : Int) : ∀ (xs : List Int) (h : Int), (runL loss room xs h).1.length = xs.length
  | [], _ => rfl
  | x :: xs, h => by simp [runL, runL_len loss room xs]
theorem room_le (loss : Int) : ∀ (xs : List Int) (h r : Int), r ≤ roomL loss xs h r
  | [], _, r => Int.le_refl _
  | x :: xs, h, r => Int.le_trans (by omega) (room_le loss xs (max 0 (h - loss) + x) (max r (max 0 (h - loss) + x)))
def RainOk (xs : List Int) : Prop := 1 ≤ xs.length ∧ xs.length ≤ 16 ∧ ∀ x ∈ xs, 0 ≤ x ∧ x ≤ 199
theorem room_top (loss : Int) : ∀ (xs : List Int) (h r B : Int), 0 ≤ loss → 0 ≤ h → h ≤ B → r ≤ B → (∀ x ∈ xs, 0 ≤ x ∧ x ≤ 199) → roomL loss xs h r ≤ B + 199 * xs.length
  | [], _, r, B, _, _, _, hr, _ => by simp [roomL]; exact hr
  | x :: xs, h, r, B, hl, h0, hB, hr, hx => by
    have h1 := hx x (by simp)
    have h2 := room_top loss xs (max 0 (h - loss) + x) (max r (max 0 (h - loss) + x)) (B + 199) hl (by omega) (by omega) (by omega) fun y hy => hx y (by simp [hy])
    simp only [roomL, List.length_cons]
    omega
/-- With enough room nothing runs off. -/
theorem run_none (loss room : Int) (hl : 0 ≤ loss) : ∀ (xs : List Int) (h r : Int), (∀ x ∈ xs, 0 ≤ x ∧ x ≤ 199) → 0 ≤ h → h ≤ room → roomL loss xs h r ≤ room →
    (runL loss room xs h).1.sum = 0 ∧ 0 ≤ (runL loss room xs h).2 ∧ (runL loss room xs h).2 ≤ room ∧ 0 ≤ h + xs.sum - (runL loss room xs h).2 ∧ h + xs.sum - (runL loss room xs h).2 ≤ loss * xs.length
  | [], h, r, _, h0, h1, _ => by simp [runL]; omega
  | x :: xs, h, r, hx, h0, h1, h2 => by
    have hxx := hx x (by simp)
    have h3 := room_le loss xs (max 0 (h - loss) + x) (max r (max 0 (h - loss) + x))
    simp only [roomL] at h2
    have h4 : max 0 (h - loss) + x ≤ room := by omega
    obtain ⟨g1, g2, g3, g4, g5⟩ := run_none loss room hl xs (max 0 (h - loss) + x) (max r (max 0 (h - loss) + x)) (fun y hy => hx y (by simp [hy])) (by omega) h4 h2
    have h5 : min (max 0 (h - loss) + x) room = max 0 (h - loss) + x := by omega
    have h6 : max 0 (max 0 (h - loss) + x - room) = 0 := by omega
    simp only [runL, h5, h6, List.sum_cons, List.length_cons]
    have h7 : loss * ((xs.length + 1 : Nat) : Int) = loss * xs.length + loss := by rw [Int.natCast_add, Int.mul_add]; simp
    rw [h7]
    refine ⟨by omega, g2, g3, by omega, by omega⟩
theorem run_pos (loss room : Int) : ∀ (xs : List Int) (h : Int), 0 ≤ (runL loss room xs h).1.sum
  | [], _ => by simp [runL]
  | x :: xs, h => by
    have := run_pos loss room xs (min (max 0 (h - loss) + x) room)
    simp only [runL, List.sum_cons]
    omega
theorem run_left (loss room : Int) : ∀ (xs : List Int) (h : Int), h ≤ room → (runL loss room xs h).2 ≤ room
  | [], _, hh => hh
  | x :: xs, h, hh => run_left loss room xs _ (by omega)
/-- With less room something runs off. -/
theorem run_some (loss room : Int) : ∀ (xs : List Int) (h r : Int), r ≤ room → room < roomL loss xs h r → 0 < (runL loss room xs h).1.sum
  | [], h, r, h1, h2 => by simp [roomL] at h2; omega
  | x :: xs, h, r, h1, h2 => by
    simp only [roomL] at h2
    have hp := run_pos loss room xs (min (max 0 (h - loss) + x) room)
    by_cases h3 : max 0 (h - loss) + x ≤ room
    · have h4 := run_some loss room xs (max 0 (h - loss) + x) _ (by omega) h2
      have h5 : min (max 0 (h - loss) + x) room = max 0 (h - loss) + x := by omega
      simp only [runL, h5, List.sum_cons]
      omega
    · simp only [runL, List.sum_cons]
      omega
theorem run_range (loss room : Int) (hl : 0 ≤ loss) (hr : 0 ≤ room ∧ room ≤ 50000) : ∀ (xs : List Int) (h : Int), (∀ x ∈ xs, 0 ≤ x ∧ x ≤ 199) → h ≤ room → ∀ y ∈ (runL loss room xs h).1, 0 ≤ y ∧ y ≤ 100000
  | [], _, _, _ => by simp [runL]
  | x :: xs, h, hx, h1 => by
    have hxx := hx x (by simp)
    intro y hy
    simp only [runL, List.mem_cons] at hy
    rcases hy with rfl | hy
    · omega
    · exact run_range loss room hl hr xs _ (fun z hz => hx z (by simp [hz])) (by omega) y hy
theorem drop_cons {xs : List Int} {k : Nat} (hk : k < xs.length) : xs.drop k = xs[k] :: xs.drop (k + 1) := List.drop_eq_getElem_cons hk
theorem drop_end {xs : List Int} {k : Nat} (hk : ¬ k < xs.length) : xs.drop k = [] := List.drop_eq_nil_of_le (by omega)
theorem span_grownBy {w w' : World} {g : Nat} (h : Span w w' g (g + 1)) : w.grownBy w' (some g) :=
  ⟨h.os, h.tape, h.output, h.size, fun k hk hne => h.block k hk (by have : ¬ k = g := fun e => hne (by rw [e]); omega)⟩
/-! what is drawn -/
set_option maxHeartbeats 4000000 in
theorem drawRain (W0 w : World) (g m : Nat) (h : SrcOk W0 w g m) (hm : m ≤ 1000) :
    Calls Try.prog 54 #[.pointer (some ⟨g, 0, none⟩)] w fun e w' => ∃ u xs m', e = .returned u ∧ Own w' w.heap.size 2 u xs ∧ RainOk xs ∧ SrcOk W0 w' g m' := by
  have hlt := h.lt
  have HS := hid (h.next ((Below.refl _ _).alloc (Nat.le_refl _) (.cells #[] 2)))
  have HO := hid (Own.empty (α := Int) (w := w) (base := w.heap.size) (e := 2) (Nat.le_refl _))
  clear h
  go_enter Try.func54, Try.ntmps54
  go_wp2_with fail
  refine (srcPick W0 _ g m 16 HS.out (by omega) (by omega)).mono ?_
  rintro e w1 ⟨r, rfl, hr, hs, hp⟩
  have HS1 := hid hs
  have HO1 := hid (HO.out.grown (span_grownBy hp) (.inr (by simp only [Value.ownBlock, ne_eq, Option.some.injEq]; omega)))
  have hz1 := hp.size
  simp at hz1
  clear hs hp HO HS
  go_wp2_with fail
  go_loopw [3, 4] (fun u i wr => ∃ (j : Nat) (xs : List Int) (m' : Nat), i = .int .i64 j ∧ xs.length + j = r.toNat + 1 ∧ Own wr w.heap.size 2 u xs ∧ (∀ x ∈ xs, 0 ≤ x ∧ x ≤ 199) ∧ SrcOk W0 wr g m' ∧ m' ≤ m + 2 + 4 * xs.length ∧ w.heap.size ≤ wr.heap.size) (fun _ i _ => (intOf i).toNat)
  case atStart => exact ⟨r.toNat + 1, [], m + 2, val_int (by omega), by simp, HO1.out, by simp, HS1.out, by simp, by omega⟩
  case round =>
    obtain ⟨j, xs, m', rfl, hj, ho, hx, hs, hm', hz⟩ := hrel
    obtain ⟨wo, rfl⟩ : ∃ wo : World, wo = wr := ⟨_, rfl⟩
    have HO := hid ho
    have HX := hid hx
    have HS := hid hs
    obtain ⟨V, vq, rfl⟩ := ho.form
    clear ho hx hs HO1 HS1
    by_cases hj0 : 0 < j
    · have hne : ∀ v : Value, Own wo w.heap.size 2 v xs → v.ownBlock ≠ some g := fun v hv e => by have := (hv.block g e).1; omega
      have HNE := hid hne
      clear hne
      have hmx : m' ≤ 1100 := by omega
      go_wp2_with fail
      refine (srcOne W0 _ g m' 2 HS.out (by omega) (by omega)).mono ?_
      rintro e w2 ⟨b, rfl, hs, hp⟩
      have HS2 := hid hs
      have hgr := span_grownBy hp
      have HO2 := hid (HO.out.grown hgr (.inr (HNE.out _ HO.out)))
      have hz2 : w.heap.size ≤ w2.heap.size := Nat.le_trans hz hgr.size
      clear hs hp hgr
      cases b with
      | true =>
        go_wp2_with (first | fail | (at_builtin; refine wpList_push elInt _ rfl (.tmp 15) (.tmp 16) rfl w.heap.size _ xs (0 : Int) rfl (HO2.out.alloc _) _ rfl (heap_alloc_new _ _) (by omega) (le_alloc hz2) ?_; intro v' w' hown' hg' hat'; refine keep_ ?_))
        have hs3 : SrcOk W0 w' g (m' + 2) := by
          have h1 := HS2.out.next ((Below.refl _ _).alloc (Nat.le_refl _) (.cells #[.int .i64 0] 2))
          refine h1.span (lo := w.heap.size) (hi := w'.heap.size + w2.heap.size + 2) (Span.of_grown hg' fun q hq => ?_) (.inl hlt) ?_
          · have h2 := (HO2.out.block q hq)
            omega
          · have := HS2.out.base; omega
        have Z1 := hid hs3
        have Z2 := hid hown'
        have hz3 : w.heap.size ≤ w'.heap.size := Nat.le_trans (le_alloc hz2) hg'.size
        clear hs3 hown' hg' hat'
        refine go_ ?_
        go_wp2_with fail
        go_roundw
        case rel => exact ⟨j - 1, xs ++ [0], m' + 2, val_int (by omega), by simp; omega, Z2.out, fun x hx => by rcases List.mem_append.1 hx with h | h; exact HX.out x h; simp at h; omega, Z1.out, by simp; omega, hz3⟩
        case measure => simp [intOf]; omega
      | false =>
        go_wp2_with fail
        refine (srcPick W0 _ g (m' + 2) 200 HS2.out (by omega) (by omega)).mono ?_
        rintro e w3 ⟨r3, rfl, hr3, hs, hp⟩
        have HS3 := hid hs
        have hgr := span_grownBy hp
        have HO3 := hid (HO2.out.grown hgr (.inr (fun e => by have := (HO2.out.block g e).1; omega)))
        have hz3 : w.heap.size ≤ w3.heap.size := Nat.le_trans hz2 hgr.size
        clear hs hp hgr
        go_wp2_with (first | fail | (at_builtin; refine wpList_push elInt _ rfl (.tmp 18) (.tmp 21) rfl w.heap.size _ xs r3 rfl (HO3.out.alloc _) _ rfl (heap_alloc_new _ _) (by omega) (le_alloc hz3) ?_; intro v' w' hown' hg' hat'; refine keep_ ?_))
        have hs3 : SrcOk W0 w' g (m' + 2 + 2) := by
          have h1 := HS3.out.next ((Below.refl _ _).alloc (Nat.le_refl _) (.cells #[.int .i64 r3] 2))
          refine h1.span (lo := w.heap.size) (hi := w'.heap.size + w3.heap.size + 2) (Span.of_grown hg' fun q hq => ?_) (.inl hlt) ?_
          · have h2 := (HO3.out.block q hq)
            omega
          · have := HS3.out.base; omega
        have Z1 := hid hs3
        have Z2 := hid hown'
        have hz4 : w.heap.size ≤ w'.heap.size := Nat.le_trans (le_alloc hz3) hg'.size
        clear hs3 hown' hg' hat'
        refine go_ ?_
        go_wp2_with fail
        go_roundw
        case rel => exact ⟨j - 1, xs ++ [r3], m' + 2 + 2, val_int (by omega), by simp; omega, Z2.out, fun x hx => by rcases List.mem_append.1 hx with h | h; exact HX.out x h; simp at h; omega, Z1.out, by simp; omega, hz4⟩
        case measure => simp [intOf]; omega
    · go_wp2_with fail
      go_ret
      exact ⟨_, xs, m', rfl, HO.out, ⟨by omega, by omega, HX.out⟩, HS.out⟩
set_option maxHeartbeats 1000000 in
theorem a2Rain_ (w : World) (A : Option Addr) (bs : List Byt) (c : Nat) (hr : Rd w A bs) (hb : BytOk bs) :
    Calls Try.prog 13 #[.slice A bs.length c] w fun e w' => ∃ u xs, e = .returned u ∧ Own w' w.heap.size 2 u xs ∧ RainOk xs ∧ Below w.heap.size w w' := by
  have HR := hid hr
  clear hr
  go_enter Try.func13, Try.ntmps13
  go_wp2_with fail
  refine (srcFrom _ A bs c HR.out hb).mono ?_
  rintro e w1 ⟨rfl, hs, hb1⟩
  have HS := hid hs
  have HB := hid hb1
  clear hs hb1
  go_wp2_with fail
  refine (drawRain w _ w.heap.size 0 HS.out (by omega)).mono ?_
  rintro e w2 ⟨u, xs, m', rfl, ho, hok, hs⟩
  have HO := hid (ho.mono HB.out.size)
  have HS2 := hid hs
  clear ho hs
  go_wp2_with fail
  go_ret
  exact ⟨u, xs, rfl, HO.out, hok, HS2.out.below⟩
end Go.Proofs.Yteobejgkjjhfkaa
