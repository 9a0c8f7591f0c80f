/- Numbers in a text: the words, and numbersIn walked. -/
import Derived.Test.YtampbbknhbhcbaaDoorReadI
namespace Go.Proofs.YtampbbknhbhcbaaDoor
open Go.RowKit
set_option linter.unusedVariables false
set_option linter.unusedSimpArgs false
/-- Does a rune part the words? -/
def partN (x : Nat) : Bool := !(decide (x = 45) || (decide (48 ≤ x) && decide (x ≤ 57)))
theorem partN_byte (c : UInt8) : partN c.toNat = !wordB c := by
  unfold partN wordB digB
  congr 2
  rw [Bool.eq_iff_iff]
  simp only [decide_eq_true_eq]
  rw [← UInt8.toNat_inj]
  rfl
theorem spans_len (p : Nat → Bool) (s : ByteArray) : ∀ (f pos : Nat) (st : Option Nat) (acc : List (Nat × Nat)),
    (Lib.spansFromP p s f pos st acc).1.length + (if (Lib.spansFromP p s f pos st acc).2.isSome = true then 1 else 0) ≤ acc.length + (if st.isSome = true then 1 else 0) + f
  | 0, pos, st, acc => by show acc.length + _ ≤ acc.length + _ + 0; exact Nat.le_refl _
  | f + 1, pos, st, acc => by
    unfold Lib.spansFromP
    split
    · split
      · cases st with
        | some a =>
          have := spans_len p s f (pos + (Utf8.decode s pos).2) none (acc ++ [(a, pos)])
          simp only [List.length_append, List.length_cons, List.length_nil, Option.isSome_none, Option.isSome_some, Bool.false_eq_true, if_false, if_true] at this ⊢
          omega
        | none =>
          have := spans_len p s f (pos + (Utf8.decode s pos).2) none acc
          simp only [Option.isSome_none, Bool.false_eq_true, if_false] at this ⊢
          omega
      · cases st with
        | some a =>
          have := spans_len p s f (pos + (Utf8.decode s pos).2) (some a) acc
          simp only [Option.isSome_some, if_true] at this ⊢
          omega
        | none =>
          have := spans_len p s f (pos + (Utf8.decode s pos).2) (some pos) acc
          simp only [Option.isSome_none, Option.isSome_some, Bool.false_eq_true, if_false, if_true] at this ⊢
          omega
    · simp only
      exact Nat.le_add_right _ _
theorem fields_len (p : Nat → Bool) (s : ByteArray) : (Lib.goFieldsP p s).length ≤ s.size := by
  unfold Lib.goFieldsP Lib.spansOfP Lib.closeSpans
  rw [List.length_map]
  have h := spans_len p s s.size 0 none []
  cases hr : (Lib.spansFromP p s s.size 0 none []).2 with
  | none =>
    rw [hr] at h
    simp only [Option.isSome_none, Bool.false_eq_true, if_false, List.length_nil] at h ⊢
    omega
  | some a =>
    rw [hr] at h
    simp only [Option.isSome_none, Option.isSome_some, Bool.false_eq_true, if_false, if_true, List.length_nil, List.length_append, List.length_cons] at h ⊢
    omega
theorem piece_ne {l : List UInt8} {a pos : Nat} (h : a < pos) (hp : pos ≤ l.length) : (l.drop a).take (pos - a) ≠ [] := fun e => by
  have := congrArg List.length e
  rw [List.length_take, List.length_drop] at this
  simp at this
  omega
def pieceL (l : List UInt8) (x : Nat × Nat) : List UInt8 := (l.drop x.1).take (x.2 - x.1)
def openL (l : List UInt8) (st : Option Nat) (pos : Nat) : List UInt8 := match st with | some a => (l.drop a).take (pos - a) | none => []
theorem fieldL_fin {cur : List UInt8} (h : cur ≠ []) : fieldL cur [] = [cur] := by simp [fieldL, h]
theorem fieldL_cut {cur : List UInt8} (h : cur ≠ []) {b : UInt8} (hw : wordB b = false) (t : List UInt8) : fieldL cur (b :: t) = cur :: fieldL [] t := by simp [fieldL, hw, h]
theorem fieldL_out {b : UInt8} (hw : wordB b = false) (t : List UInt8) : fieldL [] (b :: t) = fieldL [] t := by simp [fieldL, hw]
theorem fieldL_in {cur : List UInt8} {b : UInt8} (hw : wordB b = true) (t : List UInt8) : fieldL cur (b :: t) = fieldL (cur ++ [b]) t := by simp [fieldL, hw]
theorem spans_done (l : List UInt8) (st : Option Nat) (acc : List (Nat × Nat)) (hst : ∀ a, st = some a → a < l.length) :
    (Lib.closeSpans ⟨l.toArray⟩ (acc, st)).map (pieceL l) = acc.map (pieceL l) ++ fieldL (openL l st l.length) [] := by
  cases st with
  | none => simp [Lib.closeSpans, openL, fieldL]
  | some a =>
    have ha := piece_ne (l := l) (hst a rfl) (Nat.le_refl _)
    have hx : openL l (some a) l.length = (l.drop a).take (l.length - a) := rfl
    rw [hx, fieldL_fin ha]
    simp only [Lib.closeSpans, List.map_append, List.map_cons, List.map_nil, mk_size, pieceL]
theorem spans_eq (l : List UInt8) (ha : ∀ b ∈ l, b.toNat < 128) : ∀ (f pos : Nat) (st : Option Nat) (acc : List (Nat × Nat)), l.length ≤ pos + f → pos ≤ l.length → (∀ a, st = some a → a < pos) →
    (Lib.closeSpans ⟨l.toArray⟩ (Lib.spansFromP partN ⟨l.toArray⟩ f pos st acc)).map (pieceL l) = acc.map (pieceL l) ++ fieldL (openL l st pos) (l.drop pos)
  | 0, pos, st, acc, hf, hp, hst => by
    have : pos = l.length := by omega
    subst this
    rw [List.drop_length]
    exact spans_done l st acc hst
  | f + 1, pos, st, acc, hf, hp, hst => by
    unfold Lib.spansFromP
    rw [mk_size]
    by_cases hlt : pos < l.length
    · have hlt' : pos < (⟨l.toArray⟩ : ByteArray).size := by rw [mk_size]; exact hlt
      have hb := ha _ (List.getElem_mem hlt)
      have hdec : Utf8.decode ⟨l.toArray⟩ pos = (l[pos].toNat, 1) := decode_ascii _ _ hlt' hb
      have hcut := List.drop_eq_getElem_cons hlt
      rw [if_pos hlt, hdec, hcut]
      simp only [partN_byte]
      cases hw : wordB l[pos]
      · simp only [Bool.not_false, if_true]
        cases st with
        | some a =>
          have hne := piece_ne (l := l) (hst a rfl) hp
          have hx : openL l (some a) pos = (l.drop a).take (pos - a) := rfl
          have ih := spans_eq l ha f (pos + 1) none (acc ++ [(a, pos)]) (by omega) (by omega) (fun a h => by cases h)
          have hy : openL l none (pos + 1) = [] := rfl
          rw [hx, fieldL_cut hne hw, ih, hy]
          simp [pieceL]
        | none =>
          have hx : openL l none pos = [] := rfl
          rw [hx, fieldL_out hw]
          exact spans_eq l ha f (pos + 1) none acc (by omega) (by omega) (fun a h => by cases h)
      · simp only [Bool.not_true, Bool.false_eq_true, if_false]
        cases st with
        | some a =>
          have ih := spans_eq l ha f (pos + 1) (some a) acc (by omega) (by omega) (fun b h => by injection h with h; have := hst a rfl; omega)
          have hx : openL l (some a) pos = (l.drop a).take (pos - a) := rfl
          have hy : openL l (some a) (pos + 1) = (l.drop a).take (pos + 1 - a) := rfl
          rw [hx, fieldL_in hw, ← piece_step (Nat.le_of_lt (hst a rfl)) hlt, ← hy]
          exact ih
        | none =>
          have ih := spans_eq l ha f (pos + 1) (some pos) acc (by omega) (by omega) (fun b h => by injection h with h; omega)
          have hx : openL l none pos = [] := rfl
          have hy : openL l (some pos) (pos + 1) = (l.drop pos).take (pos + 1 - pos) := rfl
          have hz := piece_step (Nat.le_refl pos) hlt
          rw [Nat.sub_self, List.take_zero] at hz
          rw [hx, fieldL_in hw, ← hz, ← hy]
          exact ih
    · rw [if_neg hlt]
      have : pos = l.length := by omega
      subst this
      rw [List.drop_length]
      exact spans_done l st acc hst
theorem fields_ascii (l : List UInt8) (ha : ∀ b ∈ l, b.toNat < 128) : (Lib.goFieldsP partN ⟨l.toArray⟩).map (fun x => x.data.toList) = fieldL [] l := by
  have h := spans_eq l ha l.length 0 none [] (by omega) (Nat.zero_le _) (fun a h => by cases h)
  simp only [List.map_nil, List.nil_append, openL, List.drop_zero] at h
  rw [← h]
  unfold Lib.goFieldsP Lib.spansOfP
  rw [List.map_map, mk_size]
  apply List.map_congr_left
  intro x _
  show ((⟨l.toArray⟩ : ByteArray).extract x.1 x.2).data.toList = pieceL l x
  rw [ByteArray.extract_mk]
  rfl
def numWords (s : List UInt8) : List (List UInt8) := (Lib.goFieldsP partN ⟨s.toArray⟩).map fun x => x.data.toList
/-- The numbers of a text. -/
def numsIn (s : List UInt8) : List Int := numsL (numWords s)
theorem numsO_len : ∀ (ws : List (List UInt8)) (L : List Int), numsO ws = some L → L.length = ws.length
  | [], L, h => by simp only [numsO, Option.some.injEq] at h; rw [← h]; rfl
  | x :: r, L, h => by
    simp only [numsO] at h
    split at h
    · rename_i n hn
      cases hr : numsO r with
      | none => rw [hr] at h; cases h
      | some M =>
        rw [hr] at h
        simp only [Option.map_some, Option.some.injEq] at h
        rw [← h, List.length_cons, numsO_len r M hr, List.length_cons]
    · cases h
theorem numsO_range : ∀ (ws : List (List UInt8)) (L : List Int), numsO ws = some L → ∀ n ∈ L, -9223372036854775808 ≤ n ∧ n ≤ 9223372036854775807
  | [], L, h, n, hn => by simp only [numsO, Option.some.injEq] at h; rw [← h] at hn; simp at hn
  | x :: r, L, h, n, hn => by
    simp only [numsO] at h
    split at h
    · rename_i m hm
      cases hr : numsO r with
      | none => rw [hr] at h; cases h
      | some M =>
        rw [hr] at h
        simp only [Option.map_some, Option.some.injEq] at h
        rw [← h] at hn
        rcases List.mem_cons.1 hn with rfl | hn
        · exact numO_range hm
        · exact numsO_range r M hr n hn
    · cases h
theorem numsIn_len (s : List UInt8) : (numsIn s).length ≤ s.length := by
  unfold numsIn numsL
  cases h : numsO (numWords s) with
  | none => simp
  | some L =>
    have h1 := numsO_len _ _ h
    have h2 := fields_len partN ⟨s.toArray⟩
    rw [mk_size] at h2
    unfold numWords at h1
    rw [List.length_map] at h1
    simp only [Option.getD_some]
    omega
theorem numsIn_range (s : List UInt8) : ∀ n ∈ numsIn s, -9223372036854775808 ≤ n ∧ n ≤ 9223372036854775807 := by
  unfold numsIn numsL
  cases h : numsO (numWords s) with
  | none => simp
  | some L => exact numsO_range _ _ h
set_option maxHeartbeats 1000000 in
theorem numPart (x : Nat) (hx : x ≤ 1114111) (w : World) : Calls Tryd.prog 60 #[.int .i32 (x : Int)] w fun e w' => e = .returned (.bool (partN x)) ∧ w = w' := by
  unfold partN
  by_cases h1 : x = 45
  · subst h1
    go_enter Tryd.func60, Tryd.ntmps60
    go_wp2
    go_ret
    exact ⟨rfl, rfl⟩
  · have d1 : ((x : Int) != 45) = true := by rw [bne_iff_ne]; omega
    by_cases h2 : 48 ≤ x
    all_goals
      go_enter Tryd.func60, Tryd.ntmps60
      go_wp2
      go_ret
      exact ⟨ret_bool (by first | (simp [h1, h2]; done) | (simp [h1, h2]; omega) | (rw [Bool.eq_iff_iff]; simp [h1]; omega)), rfl⟩
theorem own_ne {α β : Type} [Enc α] [Enc β] {w : World} {b1 b2 : Nat} {e1 e2 : TypeId} {u v : Value} {xs : List α} {ys : List β} (h1 : Own w b1 e1 u xs) (h2 : Own w b2 e2 v ys) (hne : e1 ≠ e2) : ∀ k g, u.ownBlock = some k → v.ownBlock = some g → k ≠ g := fun k g hk hg e => by
  subst e
  rcases h1.2 with ⟨rfl, _⟩ | ⟨g1, c1, cur1, rfl, _, q1, _⟩
  · simp [Value.ownBlock] at hk
  · rcases h2.2 with ⟨rfl, _⟩ | ⟨g2, c2, cur2, rfl, _, q2, _⟩
    · simp [Value.ownBlock] at hg
    · simp only [Value.ownBlock, Option.some.injEq] at hk hg
      subst hk hg
      rw [q1] at q2
      injection q2 with q2
      injection q2 with _ q2
      exact hne q2
theorem flat_str : ∀ W : List ByteArray, flat W = W.map Value.string
  | [] => rfl
  | x :: W => by rw [flat_cons, flat_str W]; rfl
theorem Rd.str {w : World} {A : Option Addr} {xs : List ByteArray} (h : Rd w A xs) {k : Nat} (hk : k < xs.length) : ∃ b off, A = some ⟨b, off, none⟩ ∧ w.cell? ⟨b, off + k, none⟩ = some (.string xs[k]) := by
  obtain ⟨b, off, hA, hc⟩ := h.2 k hk
  exact ⟨b, off, hA, by simpa [Enc.size] using hc 0 _ rfl⟩
theorem implReadDecB (x : ByteArray) (w : World) (hs : x.size ≤ 1048576) (ht : Tabs w) :
    Calls Tryd.prog 61 #[.string x] w fun e w' => e = .returned (.tuple #[.int .i64 (numR x.data.toList).1, .bool (numR x.data.toList).2]) ∧ Below w.heap.size w w' := by
  have h := implReadDec x.data.toList w (by rw [Array.length_toList]; exact hs) ht
  rw [← mk_self x] at h
  exact h
set_option maxRecDepth 100000 in
set_option maxHeartbeats 2000000 in
theorem implNumbers (s : List UInt8) (w : World) (hs : s.length ≤ 1048576) (ht : Tabs w) :
    Calls Tryd.prog 36 #[.string ⟨s.toArray⟩] w fun e w' => ∃ A q, e = .returned (.slice A (numsIn s).length q) ∧ Own w' w.heap.size 2 (.slice A (numsIn s).length q) (numsIn s) ∧ Below w.heap.size w w' := by
  have HF := hid (fun x => Tryd.strings_FieldsFunc_runes 60 #[] (enters_of Tryd.func60 (by kernel_rfl) rfl) partN ⟨s.toArray⟩ x (by rw [mk_size]; omega) (fun W y hy hb => (numPart y hy W).mono fun e w' ⟨h1, h2⟩ => ⟨h1, 0, h2.symm⟩))
  obtain ⟨R, hR⟩ : ∃ R, numsIn s = R := ⟨_, rfl⟩
  rw [hR]
  have hlen := fields_len partN ⟨s.toArray⟩
  rw [mk_size] at hlen
  have HR : Hid ((numsO ((Lib.goFieldsP partN ⟨s.toArray⟩).map fun x => x.data.toList)).getD [] = R) := hR
  have hsz : ∀ x ∈ Lib.goFieldsP partN ⟨s.toArray⟩, x.size ≤ 1048576 := fun x hx => by
    unfold Lib.goFieldsP at hx
    obtain ⟨y, _, rfl⟩ := List.mem_map.1 hx
    rw [ByteArray.extract_mk, mk_size]
    simp
    omega
  generalize Lib.goFieldsP partN ⟨s.toArray⟩ = W at HF HR hlen hsz
  have HT := hid ht
  clear ht hR
  go_enter Tryd.func36, Tryd.ntmps36
  go_wp2_with (go_at_call 59; refine (HF.out _).mono ?_; rintro e w1 ⟨A, rfl, hA, ho, hb⟩; refine keep_ ?_)
  have ho2 : Own w1 (w.heap.size + 1) 9 (.slice (some ⟨A, 0, none⟩) W.length W.length) W := by
    have h : w1.ownsRow (w.heap.size + 1) 9 1 (.slice (some ⟨A, 0, none⟩) W.length W.length) W.length (W.map Value.string) := by simpa using ho
    unfold Own
    rw [flat_str]
    exact h
  have HW := hid ho2
  have HB1 := hid (((Below.refl w.heap.size w).alloc (Nat.le_refl _) (.cells #[] 2)).trans (hb.mono (by simp)))
  have HO1 := hid ((Own.empty (α := Int) (w := w) (base := w.heap.size) (e := 2) (Nat.le_refl _)).below hb)
  clear hA ho hb ho2 HF
  refine go_ ?_
  go_wp2_with fail
  go_loopw [3, 12] (fun u i wr => ∃ (k : Nat) (xs : List Int), k ≤ W.length ∧ i = .int .i64 k ∧ xs.length = k ∧ (((numsO ((W.drop k).map fun x => x.data.toList)).map (xs ++ ·)).getD [] = R) ∧ Own wr w.heap.size 2 u xs ∧ Own wr (w.heap.size + 1) 9 (.slice (some ⟨A, 0, none⟩) W.length W.length) W ∧ Below w.heap.size w wr) (fun _ i _ => W.length - (intOf i).toNat)
  case atStart => exact ⟨0, [], Nat.zero_le _, rfl, rfl, by rw [List.drop_zero]; simpa using HR.out, HO1.out, HW.out, HB1.out⟩
  case round =>
    obtain ⟨k, xs, hk, rfl, hxl, hr, ho, hw, hb⟩ := hrel
    obtain ⟨wo, rfl⟩ : ∃ wo : World, wo = wr := ⟨_, rfl⟩
    have HO := hid ho
    have HB := hid hb
    have HW2 := hid hw
    have HXL := hid hxl
    obtain ⟨V, vq, rfl⟩ := ho.form
    by_cases hlt : k < W.length
    · obtain ⟨b, off, hA, c1⟩ := (hw.rd (by omega)).str hlt
      injection hA with hA
      injection hA with h1 h2
      subst h1 h2
      rw [Nat.zero_add] at c1
      have hxs := hsz _ (List.getElem_mem hlt)
      rw [List.drop_eq_getElem_cons hlt, List.map_cons] at hr
      generalize W[k] = x at c1 hr hxs
      simp only [numsO] at hr
      have HC := hid (implReadDecB x wo hxs (HT.out.below HB.out))
      cases hn : numO x.data.toList with
      | none =>
        rw [hn] at hr
        simp only [Option.map_none, Option.getD_none] at hr
        have HC2 : Hid (Calls Tryd.prog 61 #[.string x] wo fun e w' => e = .returned (.tuple #[.int .i64 0, .bool false]) ∧ Below wo.heap.size wo w') := by
          have := HC.out
          unfold numR at this
          rw [hn] at this
          exact this
        have HRR := hid hr
        clear hr ho hb hw hxl HC
        go_wp2_with (go_at_call 61; refine HC2.out.mono ?_; rintro e w2 ⟨rfl, hb⟩; have HB2 := hid (HB.out.trans (hb.mono HB.out.size)); clear hb; refine keep_ ?_)
        refine go_ ?_
        go_wp2_with fail
        go_ret
        exact ⟨_, _, by rw [← HRR.out]; rfl, by rw [← HRR.out]; exact Own.empty HB2.out.size, HB2.out.alloc HB2.out.size _⟩
      | some n =>
        rw [hn] at hr
        have HC2 : Hid (Calls Tryd.prog 61 #[.string x] wo fun e w' => e = .returned (.tuple #[.int .i64 n, .bool true]) ∧ Below wo.heap.size wo w') := by
          have := HC.out
          unfold numR at this
          rw [hn] at this
          exact this
        have HRR : Hid (((numsO ((W.drop (k + 1)).map fun x => x.data.toList)).map ((xs ++ [n]) ++ ·)).getD [] = R) := by
          show ((numsO ((W.drop (k + 1)).map fun x => x.data.toList)).map ((xs ++ [n]) ++ ·)).getD [] = R
          rw [← hr]
          cases numsO ((W.drop (k + 1)).map fun x => x.data.toList) <;> simp
        clear hr ho hb hw hxl HC
        go_wp2_with (first | (go_at_call 61; refine HC2.out.mono ?_; rintro e w2 ⟨rfl, hb⟩; have HB2 := hid (HB.out.trans (hb.mono HB.out.size)); have HO2 := hid (HO.out.below hb); have HW3 := hid (HW2.out.below hb); clear hb) | (at_builtin; refine wpList_push elInt _ rfl (.tmp 24) (.tmp 26) rfl w.heap.size _ xs n rfl (HO2.out.alloc _) _ rfl (heap_alloc_new _ _) (by have := HXL.out; omega) (le_alloc HB2.out.size) ?_; intro v' w3 hown' hg' hat'; refine keep_ ?_))
        have HB3 := hid (below_own (HB2.out.alloc HB2.out.size (.cells #[.int .i64 n] 2)) (HO2.out.alloc _) hg' (Nat.le_refl _) (le_alloc HB2.out.size))
        have HW4 := hid ((HW3.out.alloc (.cells #[.int .i64 n] 2)).beside hg' (own_ne HW3.out HO2.out (by decide)))
        have HO3 := hid hown'
        clear hown' hg' hat'
        refine go_ ?_
        go_wp2_with fail
        go_roundw
        case rel => exact ⟨k + 1, xs ++ [n], by omega, by go_num, by simp [HXL.out], HRR.out, HO3.out, HW4.out, HB3.out⟩
        case measure => simp [intOf]; omega
    · rw [List.drop_eq_nil_of_le (by omega)] at hr
      simp only [List.map_nil, numsO, Option.map_some, List.append_nil, Option.getD_some] at hr
      subst hr
      clear ho hb hw hxl
      go_wp2_with fail
      go_ret
      exact ⟨V, vq, rfl, HO.out, HB.out⟩
end Go.Proofs.YtampbbknhbhcbaaDoor
