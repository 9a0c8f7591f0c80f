/- Tides: what they are in cells, drawn, valid: walked. -/
import Derived.Test.YteobejgkjjhfkaaMillDraw
import Derived.Test.YteobejgkjjhfkaaPast
import Derived.Deep.CutBlock
namespace Go.Proofs.Yteobejgkjjhfkaa
open Go.RowKit
set_option linter.unusedVariables false
structure Tide where
  m : Int
  l : Int
  deriving DecidableEq
instance : Enc Tide := ⟨2, fun d => [.int .i64 d.m, .int .i64 d.l], fun _ => rfl, fun _ u h => by simp at h; rcases h with rfl | rfl <;> rfl⟩
theorem Rd.tide {w : World} {A : Option Addr} {xs : List Tide} (h : Rd w A xs) {k : Nat} (hk : k < xs.length) : ∃ b off, A = some ⟨b, off, none⟩ ∧
    w.cell? ⟨b, off + k * 2, none⟩ = some (.int .i64 xs[k].m) ∧ w.cell? ⟨b, off + k * 2 + 1, none⟩ = some (.int .i64 xs[k].l) := by
  obtain ⟨b, off, hA, hc⟩ := h.2 k hk
  exact ⟨b, off, hA, hc 0 _ rfl, hc 1 _ rfl⟩
theorem Rd.tides {w : World} {A : Option Addr} {xs : List Tide} (h : Rd w A xs) (hp : 0 < xs.length) : ∃ b off, A = some ⟨b, off, none⟩ ∧ ∀ k (hk : k < xs.length),
    w.cell? ⟨b, off + k * 2, none⟩ = some (.int .i64 xs[k].m) ∧ w.cell? ⟨b, off + k * 2 + 1, none⟩ = some (.int .i64 xs[k].l) := by
  obtain ⟨b, off, rfl, _⟩ := h.tide hp
  refine ⟨b, off, rfl, fun k hk => ?_⟩
  obtain ⟨b2, off2, e, c⟩ := h.tide hk
  injection e with e
  injection e with i9 j9
  subst i9 j9
  exact c
theorem elTide : El Try.prog 43 52 (⟨0, 0⟩ : Tide) :=
  El.mk' (z := .agg #[.int .i64 0, .int .i64 0]) (bytes := 16) Try.underlying43 (by kernel_rfl) (by decide) rfl (by decide)
/-- A table. -/
structure TideOk (xs : List Tide) : Prop where
  len : 2 ≤ xs.length ∧ xs.length ≤ 40
  each : ∀ x ∈ xs, (0 ≤ x.m ∧ x.m ≤ 100000) ∧ -2000 ≤ x.l ∧ x.l ≤ 2000
  step : ∀ i (h : i + 1 < xs.length), xs[i].m < xs[i + 1].m ∧ xs[i].l ≠ xs[i + 1].l
  alt : ∀ i (h : i + 2 < xs.length), (xs[i].l < xs[i + 1].l) ↔ ¬ (xs[i + 1].l < xs[i + 2].l)
/-- The same, the last first; s is the way of the next step. -/
def RC : Int → List Tide → Prop
  | _, [] => True
  | _, [_] => True
  | s, b :: a :: r => a.m < b.m ∧ (if s = 1 then b.l < a.l else a.l < b.l) ∧ RC (-s) (a :: r)
theorem RC.step : ∀ {zs : List Tide} {s : Int}, RC s zs → ∀ i (h : i + 1 < zs.length), zs[i + 1].m < zs[i].m ∧ zs[i + 1].l ≠ zs[i].l
  | [], _, _, i, h => by simp at h
  | [_], _, _, i, h => by simp at h
  | b :: a :: r, s, hc, 0, h => by
    refine ⟨hc.1, ?_⟩
    have h2 := hc.2.1
    show a.l ≠ b.l
    split at h2 <;> omega
  | b :: a :: r, s, hc, i + 1, h => RC.step hc.2.2 i (by simpa using h)
theorem RC.alt : ∀ {zs : List Tide} {s : Int}, (s = 1 ∨ s = -1) → RC s zs → ∀ i (h : i + 2 < zs.length), (zs[i + 2].l < zs[i + 1].l) ↔ ¬ (zs[i + 1].l < zs[i].l)
  | [], _, _, _, i, h => by simp at h
  | [_], _, _, _, i, h => by simp at h
  | [_, _], _, _, _, i, h => absurd h (by show ¬ (i + 2 < 2); omega)
  | b :: a :: c :: r, s, hs, hc, 0, h => by
    have h1 := hc.2.1
    have h2 := hc.2.2.2.1
    show c.l < a.l ↔ ¬ a.l < b.l
    rcases hs with rfl | rfl
    · rw [if_pos rfl] at h1
      rw [if_neg (by decide)] at h2
      omega
    · rw [if_neg (by decide)] at h1
      rw [if_pos (by decide)] at h2
      omega
  | b :: a :: c :: r, s, hs, hc, i + 1, h => RC.alt (s := -s) (by omega) hc.2.2 i (by simpa using h)
theorem tideOk_of {xs : List Tide} {s : Int} (hs : s = 1 ∨ s = -1) (h : RC s xs.reverse) (hl : 2 ≤ xs.length ∧ xs.length ≤ 40) (he : ∀ x ∈ xs, (0 ≤ x.m ∧ x.m ≤ 100000) ∧ -2000 ≤ x.l ∧ x.l ≤ 2000) : TideOk xs := by
  have hg : ∀ j (h1 : j < xs.reverse.length) (i : Nat) (h2 : i < xs.length), i + j + 1 = xs.length → xs.reverse[j] = xs[i] := by
    intro j h1 i h2 e
    rw [List.getElem_reverse]
    congr 1
    omega
  refine ⟨hl, he, fun i hi => ?_, fun i hi => ?_⟩
  · have := h.step (xs.length - 2 - i) (by simp; omega)
    rw [hg _ _ i (by omega) (by omega), hg _ _ (i + 1) (by omega) (by omega)] at this
    exact this
  · have := RC.alt hs h (xs.length - 3 - i) (by simp; omega)
    rw [hg _ _ i (by omega) (by omega), hg _ _ (i + 1) (by omega) (by omega), hg _ _ (i + 2) (by omega) (by omega)] at this
    exact this
/-- A table that is drawn. -/
def TideDr (xs : List Tide) : Prop := TideOk xs ∧ xs.length ≤ 9 ∧ ∀ x ∈ xs, (0 ≤ x.m ∧ x.m ≤ 500) ∧ -1500 ≤ x.l ∧ x.l ≤ 1500
set_option maxHeartbeats 8000000 in
theorem drawTides (W0 w : World) (g m : Nat) (h : SrcOk W0 w g m) (hm : m ≤ 10000) :
    Calls Try.prog 64 #[.pointer (some ⟨g, 0, none⟩)] w fun e w' => ∃ V q xs, e = .returned (.slice V xs.length q) ∧ Own w' w.heap.size 52 (.slice V xs.length q) xs ∧ TideDr xs ∧ SrcOk W0 w' g (m + 60) ∧ Span w w' g (g + 1) := by
  have hlt := h.lt
  have HS := hid (h.next ((Below.refl _ _).alloc (Nat.le_refl _) (.cells #[] 52)))
  have HO := hid (Own.empty (α := Tide) (w := w) (base := w.heap.size) (e := 52) (Nat.le_refl _))
  have HP := hid (span_alloc (Span.refl w g (g + 1)) (.cells #[] 52))
  clear h
  go_enter Try.func64, Try.ntmps64
  go_wp2_with fail
  refine (srcPick W0 _ g m 50 HS.out (by omega) (by omega)).mono ?_
  rintro e w1 ⟨r1, rfl, hr1, hs, hp⟩
  have HS1 := hid hs
  have HO1 := hid (HO.out.grown (span_grownBy hp) (.inr (by simp only [Value.ownBlock, ne_eq, Option.some.injEq]; omega)))
  have HP1 := hid (HP.out.trans hp)
  clear hs hp HO HS HP
  go_wp2_with fail
  refine (srcPick W0 _ g _ 100 HS1.out (by omega) (by omega)).mono ?_
  rintro e w2 ⟨r2, rfl, hr2, hs, hp⟩
  have HS2 := hid hs
  have HO2 := hid (HO1.out.grown (span_grownBy hp) (.inr (fun e => by have := (HO1.out.block g e).1; omega)))
  have HP2 := hid (HP1.out.trans hp)
  clear hs hp HO1 HS1 HP1
  go_wp2_with fail
  refine (srcPick W0 _ g _ 2 HS2.out (by omega) (by omega)).mono ?_
  rintro e w3 ⟨r3, rfl, hr3, hs, hp⟩
  have HS3 := hid hs
  have HO3 := hid (HO2.out.grown (span_grownBy hp) (.inr (fun e => by have := (HO2.out.block g e).1; omega)))
  have HP3 := hid (HP2.out.trans hp)
  clear hs hp HO2 HS2 HP2
  go_wp2_with fail
  refine (srcPick W0 _ g _ 8 HS3.out (by omega) (by omega)).mono ?_
  rintro e w4 ⟨r, rfl, hr, hs, hp⟩
  have HS4 := hid hs
  have HO4 := hid (HO3.out.grown (span_grownBy hp) (.inr (fun e => by have := (HO3.out.block g e).1; omega)))
  have HP4 := hid (HP3.out.trans hp)
  clear hs hp HO3 HS3 HP3
  go_wp2_with fail
  go_loopw [3, 4, 5, 6, 7] (fun u a b c i wr => ∃ (j : Nat) (xs : List Tide) (at' lv sg : Int), i = .int .i64 j ∧ a = .int .i64 at' ∧ b = .int .i64 lv ∧ c = .int .i64 sg ∧ (sg = 1 ∨ sg = -1) ∧ xs.length + j = r.toNat + 2 ∧ Own wr w.heap.size 52 u xs ∧ RC sg (⟨at', lv⟩ :: xs.reverse) ∧
    (∀ x ∈ xs, (0 ≤ x.m ∧ x.m ≤ 500) ∧ -1500 ≤ x.l ∧ x.l ≤ 1500) ∧ (0 ≤ at' ∧ at' ≤ 50 + 40 * (xs.length : Int)) ∧ (-50 - 150 * (xs.length : Int) ≤ lv ∧ lv ≤ 50 + 150 * (xs.length : Int)) ∧ SrcOk W0 wr g (m + 8 + 4 * xs.length) ∧ Span w wr g (g + 1)) (fun _ _ _ _ i _ => (intOf i).toNat)
  case atStart => exact ⟨r.toNat + 2, [], _, _, _, val_int (by omega), rfl, rfl, rfl, by omega, by simp, HO4.out, trivial, by simp, by simp only [List.length_nil]; omega, by simp only [List.length_nil]; omega, HS4.out, HP4.out⟩
  case round =>
    obtain ⟨j, xs, at', lv, sg, rfl, rfl, rfl, rfl, hsg, hj, ho, hrc, hx, hat, hlv, hs, hsp⟩ := hrel
    obtain ⟨wo, rfl⟩ : ∃ wo : World, wo = wr := ⟨_, rfl⟩
    have HO := hid ho
    have HX := hid hx
    have HS := hid hs
    have HSP := hid hsp
    have HRC := hid hrc
    have hz : w.heap.size ≤ wo.heap.size := hsp.size
    obtain ⟨V, vq, rfl⟩ := ho.form
    clear ho hx hs hsp hrc HO4 HS4 HP4
    by_cases hj0 : 0 < j
    · go_wp2_with (first | fail | (at_builtin; refine wpList_push elTide _ rfl (.tmp 26) (.tmp 30) rfl w.heap.size _ xs (⟨at', lv⟩ : Tide) rfl (HO.out.alloc _) _ rfl (heap_alloc_new _ _) (by omega) (le_alloc hz) ?_; intro v' w' hown' hg' hat'; refine keep_ ?_))
      have hs3 : SrcOk W0 w' g (m + 8 + 4 * xs.length) := by
        have h1 := HS.out.next ((Below.refl _ _).alloc (Nat.le_refl _) (.cells #[.int .i64 at', .int .i64 lv] 52))
        refine h1.span (lo := w.heap.size) (hi := w'.heap.size + wo.heap.size + 2) (Span.of_grown hg' fun q hq => ?_) (.inl hlt) ?_
        · have h2 := (HO.out.block q hq)
          omega
        · have := HS.out.base; omega
      have Z1 := hid hs3
      have Z2 := hid hown'
      have Z3 := hid ((span_alloc HSP.out (.cells #[.int .i64 at', .int .i64 lv] 52)).grown2 hg' fun q hq => .inr (HO.out.block q hq).1)
      clear hs3 hown' hg' hat'
      refine go_ ?_
      go_wp2_with fail
      refine (srcPick W0 _ g _ 40 Z1.out (by omega) (by omega)).mono ?_
      rintro e w5 ⟨r5, rfl, hr5, hs, hp⟩
      have Y1 := hid hs
      have Y2 := hid (Z2.out.grown (span_grownBy hp) (.inr (fun e => by have := (Z2.out.block g e).1; omega)))
      have Y3 := hid (Z3.out.trans hp)
      clear hs hp Z1 Z2 Z3
      go_wp2_with fail
      refine (srcPick W0 _ g _ 150 Y1.out (by omega) (by omega)).mono ?_
      rintro e w6 ⟨r6, rfl, hr6, hs, hp⟩
      have X1 := hid hs
      have X2 := hid (Y2.out.grown (span_grownBy hp) (.inr (fun e => by have := (Y2.out.block g e).1; omega)))
      have X3 := hid (Y3.out.trans hp)
      clear hs hp Y1 Y2 Y3
      have hrl : (xs ++ [(⟨at', lv⟩ : Tide)]).reverse = ⟨at', lv⟩ :: xs.reverse := by simp
      have HRL := hid hrl
      clear hrl
      rcases hsg with rfl | rfl
      · go_wp2_with fail
        go_roundw
        case rel => exact ⟨j - 1, xs ++ [⟨at', lv⟩], at' + (1 + r5), lv + (1 + r6), -1, val_int (by omega), by first | rfl | exact val_int (by omega), by first | rfl | exact val_int (by omega), by first | rfl | exact val_int (by omega), by omega, by simp; omega, X2.out, by rw [HRL.out]; exact ⟨by simp only; omega, by rw [if_neg (by decide)]; simp only; omega, HRC.out⟩, fun x hx => by rcases List.mem_append.1 hx with h | h; exact HX.out x h; simp at h; subst h; simp only; omega, by simp only [List.length_append, List.length_cons, List.length_nil]; omega, by simp only [List.length_append, List.length_cons, List.length_nil]; omega, by rw [List.length_append]; exact X1.out, X3.out⟩
        case measure => simp [intOf]; omega
      · go_wp2_with fail
        go_roundw
        case rel => exact ⟨j - 1, xs ++ [⟨at', lv⟩], at' + (1 + r5), lv - (1 + r6), 1, val_int (by omega), by first | rfl | exact val_int (by omega), by first | rfl | exact val_int (by omega), by first | rfl | exact val_int (by omega), by omega, by simp; omega, X2.out, by rw [HRL.out]; exact ⟨by simp only; omega, by rw [if_pos rfl]; simp only; omega, HRC.out⟩, fun x hx => by rcases List.mem_append.1 hx with h | h; exact HX.out x h; simp at h; subst h; simp only; omega, by simp only [List.length_append, List.length_cons, List.length_nil]; omega, by simp only [List.length_append, List.length_cons, List.length_nil]; omega, by rw [List.length_append]; exact X1.out, X3.out⟩
        case measure => simp [intOf]; omega
    · have hrt : RC (-sg) xs.reverse := by
        have h := HRC.out
        cases hrv : xs.reverse with
        | nil => trivial
        | cons z zs => rw [hrv] at h; exact h.2.2
      have hln : 2 ≤ xs.length ∧ xs.length ≤ 9 := by omega
      have hdr : TideDr xs := ⟨tideOk_of (by omega) hrt (by omega) (fun x hx => by have := HX.out x hx; omega), hln.2, HX.out⟩
      have HD := hid hdr
      clear hrt hdr
      go_wp2_with fail
      go_ret
      exact ⟨V, vq, xs, rfl, HO.out, HD.out, HS.out.mono (by omega), HSP.out⟩
set_option maxHeartbeats 1000000 in
theorem a2Tides_ (w : World) (A : Option Addr) (bs : List Byt) (c : Nat) (hr : Rd w A bs) (hb : BytOk bs) :
    Calls Try.prog 22 #[.slice A bs.length c] w fun e w' => ∃ V q xs, e = .returned (.slice V xs.length q) ∧ Rd w' V xs ∧ TideDr xs ∧ Below w.heap.size w w' := by
  have HR := hid hr
  clear hr
  go_enter Try.func22, Try.ntmps22
  go_wp2_with fail
  refine (srcFrom _ A bs c HR.out hb).mono ?_
  rintro e w1 ⟨rfl, hs, hb1⟩
  have HS := hid hs
  clear hs hb1
  go_wp2_with fail
  refine (drawTides w _ _ 0 HS.out (by omega)).mono ?_
  rintro e w2 ⟨V, q, xs, rfl, ho, hd, hs, hp⟩
  have h9 := hd.2.1
  have E1 := hid (ho.rd (by omega))
  have HD := hid hd
  have HB := hid hs.below
  clear ho hd hs hp
  go_wp2_with fail
  go_ret
  exact ⟨V, q, xs, rfl, E1.out, HD.out, HB.out⟩
end Go.Proofs.Yteobejgkjjhfkaa
