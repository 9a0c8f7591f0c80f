/- Tenders: a record of a number and two slices; the law's own helpers on it. -/
import Derived.Test.YtgkhjikkbjmadaaBid
import Derived.Test.YtgkhjikkbjmadaaKind
import Derived.Lib.SmallJoins
namespace Go.Proofs.Ytgkhjikkbjmadaa
open Go.RowKit
set_option linter.unusedVariables false
structure Tender where
  lots : Int
  most : List Int
  bids : List Bid
  deriving DecidableEq
def RdTender0 (w : World) (v : Value) (t : Tender) : Prop := ∃ A c B d, v = .agg #[.int .i64 t.lots, .slice A t.most.length c, .slice B t.bids.length d] ∧ Rd w A t.most ∧ Rd w B t.bids
def RdTender (w : World) (v : Value) (t : Tender) : Prop := ∃ A c B d, v = .agg #[.int .i64 t.lots, .slice A t.most.length c, .slice B t.bids.length d] ∧ Rd w A t.most ∧ Rd w B t.bids ∧ t.bids.length ≤ d
/-- A tender in a box. -/
def PtTender (w : World) (b off : Nat) (t : Tender) : Prop := ∃ A c B d, (w.cell? ⟨b, off, none⟩ = some (.int .i64 t.lots) ∧ w.cell? ⟨b, off + 1, none⟩ = some (.slice A t.most.length c) ∧ w.cell? ⟨b, off + 2, none⟩ = some (.slice B t.bids.length d)) ∧ Rd w A t.most ∧ Rd w B t.bids ∧ t.bids.length ≤ d
def FitTender (t : Tender) : Prop := (-9223372036854775808 ≤ t.lots ∧ t.lots ≤ 9223372036854775807) ∧ t.most.length ≤ 1048576 ∧ t.bids.length ≤ 1048576 ∧ Fits t.most ∧ Fits t.bids
def LiesTender (w : World) (lo hi : Nat) (v : Value) (t : Tender) : Prop := ∃ A c B d, v = .agg #[.int .i64 t.lots, .slice A t.most.length c, .slice B t.bids.length d] ∧ Lies w lo hi 2 (.slice A t.most.length c) t.most ∧ Lies w lo hi 46 (.slice B t.bids.length d) t.bids
section
variable {w w' x : World} {v : Value} {t : Tender} {b off lo hi : Nat}
theorem RdTender0.below (h : RdTender0 w v t) (hb : Below w.heap.size w w') : RdTender0 w' v t := by
  obtain ⟨A, c, B, d, e, h1, h2⟩ := h
  exact ⟨A, c, B, d, e, h1.below hb, h2.below hb⟩
theorem RdTender0.drew (h : RdTender0 w v t) : RdTender0 w.drew v t := h
theorem RdTender.below (h : RdTender w v t) (hb : Below w.heap.size w w') : RdTender w' v t := by
  obtain ⟨A, c, B, d, e, h1, h2, h3⟩ := h
  exact ⟨A, c, B, d, e, h1.below hb, h2.below hb, h3⟩
theorem RdTender.drew (h : RdTender w v t) : RdTender w.drew v t := h
theorem PtTender.below (h : PtTender w b off t) (hb : Below w.heap.size w w') : PtTender w' b off t := by
  obtain ⟨A, c, B, d, ⟨e1, e2, e3⟩, h1, h2, h3⟩ := h
  exact ⟨A, c, B, d, ⟨box_cell hb e1, box_cell hb e2, box_cell hb e3⟩, h1.below hb, h2.below hb, h3⟩
theorem PtTender.more (h : PtTender w b off t) : PtTender (w.more x) b off t := h.below more_below
theorem LiesTender.more (h : LiesTender w lo hi v t) : LiesTender (w.more x) lo hi v t := by
  obtain ⟨A, c, B, d, e, h1, h2⟩ := h
  exact ⟨A, c, B, d, e, h1.more, h2.more⟩
theorem LiesTender.span {l2 h2 : Nat} (h : LiesTender w lo hi v t) (hs : Span w w' l2 h2) (hd : hi ≤ l2 ∨ h2 ≤ lo) : LiesTender w' lo hi v t := by
  obtain ⟨A, c, B, d, e, h1, h2⟩ := h
  exact ⟨A, c, B, d, e, h1.span hs hd, h2.span hs hd⟩
theorem LiesTender.form (h : LiesTender w lo hi v t) : ∃ A c B d, v = .agg #[.int .i64 t.lots, .slice A t.most.length c, .slice B t.bids.length d] := by
  obtain ⟨A, c, B, d, e, h1, h2⟩ := h
  exact ⟨A, c, B, d, e⟩
theorem LiesTender.below (h : LiesTender w lo hi v t) (hb : Below w.heap.size w w') : LiesTender w' lo hi v t := by
  obtain ⟨A, c, B, d, e, h1, h2⟩ := h
  exact ⟨A, c, B, d, e, h1.below hb, h2.below hb⟩
theorem LiesTender.rd (h : LiesTender w lo hi v t) (f : FitTender t) : RdTender w v t := by
  obtain ⟨A, c, B, d, e, h1, h2⟩ := h
  exact ⟨A, c, B, d, e, h1.rd f.2.1, h2.rd f.2.2.1, h2.1.cap⟩
end
structure ArgTender (w : World) (v : Value) : Prop where
  out : ∃ L A n c B m d, v = .agg #[.int .i64 L, .slice A n c, .slice B m d] ∧ (-9223372036854775808 ≤ L ∧ L ≤ 9223372036854775807) ∧ Arg Int w A n ∧ Arg Bid w B m

theorem ArgTender.form {w : World} {v : Value} (x : ArgTender w v) : ∃ L A n c B m d, v = .agg #[.int .i64 L, .slice A n c, .slice B m d] := by
  obtain ⟨L, A, n, c, B, m, d, e, _⟩ := x.out
  exact ⟨L, A, n, c, B, m, d, e⟩

set_option maxHeartbeats 1000000 in
theorem szTender_ {w : World} {v : Value} (x : ArgTender w v) (left : Int) (h0 : 0 ≤ left) (h1 : left ≤ 1048576) :
    (∀ w', Below w.heap.size w w' → Calls Try.prog 10 #[v, .int .i64 left] w' fun e w'' => e = .returned (.int .i64 (-1)) ∧ Below w'.heap.size w' w'') ∨
    ∃ l t, (0 ≤ l ∧ l ≤ left) ∧ RdTender0 w v t ∧ FitTender t ∧ ∀ w', Below w.heap.size w w' → Calls Try.prog 10 #[v, .int .i64 left] w' fun e w'' => e = .returned (.int .i64 l) ∧ Below w'.heap.size w' w'' := by
  obtain ⟨L, A, n, c, B, m, d, rfl, hL, ⟨hn, hA⟩, hm, hB⟩ := x
  by_cases g1 : left < n
  · left
    intro w' hb
    go_enter Try.func10, Try.ntmps10
    go_wp2_with fail
    refine (szInt64S _ _ _ _ _ hn h0 h1).mono ?_
    rintro e w' ⟨rfl, rfl⟩
    rw [if_pos (by omega)]
    go_wp2_with fail
    go_ret
    exact ⟨rfl, (Below.refl _ _).alloc (Nat.le_refl _) _⟩
  · by_cases g2 : left - n < m
    · left
      intro w' hb
      go_enter Try.func10, Try.ntmps10
      go_wp2_with fail
      refine (szInt64S _ _ _ _ _ hn h0 h1).mono ?_
      rintro e w' ⟨rfl, rfl⟩
      rw [if_neg (by omega)]
      go_wp2_with fail
      refine (szBidS _ _ _ _ _ hm (by omega) (by omega)).mono ?_
      rintro e w' ⟨rfl, rfl⟩
      rw [if_pos (by omega)]
      go_wp2_with fail
      go_ret
      exact ⟨rfl, (Below.refl _ _).alloc (Nat.le_refl _) _⟩
    · right
      obtain ⟨xs, rfl, r1, f1⟩ := hA (by omega)
      obtain ⟨ys, rfl, r2, f2⟩ := hB (by omega)
      refine ⟨left - xs.length - ys.length, ⟨L, xs, ys⟩, ⟨by omega, by omega⟩, ⟨_, _, _, _, rfl, r1, r2⟩, ⟨hL, by simp only; omega, by simp only; omega, f1, f2⟩, fun w' hb => ?_⟩
      go_enter Try.func10, Try.ntmps10
      go_wp2_with fail
      refine (szInt64S _ _ _ _ _ hn h0 h1).mono ?_
      rintro e w' ⟨rfl, rfl⟩
      rw [if_neg (by omega)]
      go_wp2_with fail
      refine (szBidS _ _ _ _ _ hm (by omega) (by omega)).mono ?_
      rintro e w' ⟨rfl, rfl⟩
      rw [if_neg (by omega)]
      go_wp2_with fail
      go_ret
      exact ⟨rfl, (Below.refl _ _).alloc (Nat.le_refl _) _⟩

set_option maxHeartbeats 1000000 in
theorem toTender_ (v : Value) (t : Tender) (w : World) (h : RdTender0 w v t) :
    Calls Try.prog 12 #[v] w fun e w' => ∃ v', e = .returned v' ∧ LiesTender w' w.heap.size w'.heap.size v' t ∧ Below w.heap.size w w' := by
  obtain ⟨A, c, B, d, rfl, hA, hB⟩ := h
  obtain ⟨L, xs, ys⟩ := t
  simp only at hA hB ⊢
  go_enter Try.func12, Try.ntmps12
  go_wp2_with fail
  refine (toInt64S _ _ _ _ (((hA.alloc _).alloc _).alloc _)).mono ?_
  rintro e w1 ⟨v1, rfl, ho, hb⟩
  obtain ⟨P, k, rfl⟩ := ho.form
  have hb1 : Below w.heap.size w w1 := ((((Below.refl _ _).alloc (Nat.le_refl _) _).alloc (by simp) _).alloc (by simp; omega) _).trans (hb.mono (by simp; omega))
  have ho1 : Own w1 (w.heap.size + 1 + 1 + 1) 2 (.slice P xs.length k) xs := by simpa using ho
  have hs1 : w.heap.size + 1 + 1 + 1 ≤ w1.heap.size := by have := hb.size; simp at this; omega
  have HO := hid (ho1.past (p := ⟨w.heap.size + 1 + 1, 1, none⟩) (by simp) (.slice P xs.length k))
  have a0 : w1.cell? ⟨w.heap.size, 2, none⟩ = some (.slice B ys.length d) := box_cell hb (by simp [go_sem])
  have b0 : w1.cell? ⟨w.heap.size + 1, 0, none⟩ = some (.int .i64 0) := box_cell hb (by simp [go_sem])
  have b1 : w1.cell? ⟨w.heap.size + 1, 1, none⟩ = some (.slice none 0 0) := box_cell hb (by simp [go_sem])
  have b2 : w1.cell? ⟨w.heap.size + 1, 2, none⟩ = some (.slice none 0 0) := box_cell hb (by simp [go_sem])
  have c0 : w1.cell? ⟨w.heap.size + 1 + 1, 0, none⟩ = some (.int .i64 L) := box_cell hb (by simp [go_sem])
  have c1 : w1.cell? ⟨w.heap.size + 1 + 1, 1, none⟩ = some (.slice none 0 0) := box_cell hb (by simp [go_sem])
  have c2 : w1.cell? ⟨w.heap.size + 1 + 1, 2, none⟩ = some (.slice none 0 0) := box_cell hb (by simp [go_sem])
  have fb0 : w1.frozen? ⟨w.heap.size + 1, 0, none⟩ = false := box_free hb (by simp [go_sem]) (by simp [go_sem])
  have fb1 : w1.frozen? ⟨w.heap.size + 1, 1, none⟩ = false := box_free hb (by simp [go_sem]) (by simp [go_sem])
  have fb2 : w1.frozen? ⟨w.heap.size + 1, 2, none⟩ = false := box_free hb (by simp [go_sem]) (by simp [go_sem])
  have fc1 : w1.frozen? ⟨w.heap.size + 1 + 1, 1, none⟩ = false := box_free hb (by simp [go_sem]) (by simp [go_sem])
  have fc2 : w1.frozen? ⟨w.heap.size + 1 + 1, 2, none⟩ = false := box_free hb (by simp [go_sem]) (by simp [go_sem])
  clear ho ho1 hb hA
  go_wp2_with fail
  obtain ⟨wx, hwx⟩ : ∃ wx, w1.setCell ⟨w.heap.size + 1 + 1, 1, none⟩ (.slice P xs.length k) = wx := ⟨_, rfl⟩
  have hbx : Below w.heap.size w wx := by rw [← hwx]; exact hb1.setCell (by simp; omega) _
  have hsx : w.heap.size + 1 + 1 + 1 ≤ wx.heap.size := by rw [← hwx]; simpa [World.setCell] using hs1
  have HX : Hid (Own wx (w.heap.size + 1 + 1 + 1) 2 (.slice P xs.length k) xs) := by rw [← hwx]; exact HO.out
  clear HO
  have B0 : wx.cell? ⟨w.heap.size + 1, 0, none⟩ = some (.int .i64 0) := by rw [← hwx]; simp [go_sem, b0]
  have B1 : wx.cell? ⟨w.heap.size + 1, 1, none⟩ = some (.slice none 0 0) := by rw [← hwx]; simp [go_sem, b1]
  have B2 : wx.cell? ⟨w.heap.size + 1, 2, none⟩ = some (.slice none 0 0) := by rw [← hwx]; simp [go_sem, b2]
  have C0 : wx.cell? ⟨w.heap.size + 1 + 1, 0, none⟩ = some (.int .i64 L) := by rw [← hwx]; simp [go_sem, c0]
  have C1 : wx.cell? ⟨w.heap.size + 1 + 1, 1, none⟩ = some (.slice P xs.length k) := by rw [← hwx]; simp [go_sem, c1]
  have C2 : wx.cell? ⟨w.heap.size + 1 + 1, 2, none⟩ = some (.slice none 0 0) := by rw [← hwx]; simp [go_sem, c2]
  have FB0 : wx.frozen? ⟨w.heap.size + 1, 0, none⟩ = false := by rw [← hwx]; simp [go_sem, fb0]
  have FB1 : wx.frozen? ⟨w.heap.size + 1, 1, none⟩ = false := by rw [← hwx]; simp [go_sem, fb1]
  have FB2 : wx.frozen? ⟨w.heap.size + 1, 2, none⟩ = false := by rw [← hwx]; simp [go_sem, fb2]
  have FC2 : wx.frozen? ⟨w.heap.size + 1 + 1, 2, none⟩ = false := by rw [← hwx]; simp [go_sem, fc2]
  clear a0 b0 b1 b2 c0 c1 c2 fb0 fb1 fb2 fc1 fc2 hb1 hs1
  rw [hwx]
  clear hwx
  refine (toBidS _ _ _ _ (hB.below hbx)).mono ?_
  rintro e w2 ⟨v2, rfl, ho, hb⟩
  obtain ⟨Q, q, rfl⟩ := ho.form
  have hb2 : Below w.heap.size w w2 := hbx.trans (hb.mono hbx.size)
  have hs2 : w.heap.size + 1 + 1 + 1 ≤ w2.heap.size := by have := hb.size; omega
  have O1 := hid (HX.out.below hb)
  have O2 := hid (ho.mono hsx)
  have b0 : w2.cell? ⟨w.heap.size + 1, 0, none⟩ = _ := box_cell hb B0
  have b1 : w2.cell? ⟨w.heap.size + 1, 1, none⟩ = _ := box_cell hb B1
  have b2 : w2.cell? ⟨w.heap.size + 1, 2, none⟩ = _ := box_cell hb B2
  have c0 : w2.cell? ⟨w.heap.size + 1 + 1, 0, none⟩ = _ := box_cell hb C0
  have c1 : w2.cell? ⟨w.heap.size + 1 + 1, 1, none⟩ = _ := box_cell hb C1
  have c2 : w2.cell? ⟨w.heap.size + 1 + 1, 2, none⟩ = _ := box_cell hb C2
  have fb0 : w2.frozen? ⟨w.heap.size + 1, 0, none⟩ = false := box_free hb (by rw [B0]; rfl) FB0
  have fb1 : w2.frozen? ⟨w.heap.size + 1, 1, none⟩ = false := box_free hb (by rw [B1]; rfl) FB1
  have fb2 : w2.frozen? ⟨w.heap.size + 1, 2, none⟩ = false := box_free hb (by rw [B2]; rfl) FB2
  have fc2 : w2.frozen? ⟨w.heap.size + 1 + 1, 2, none⟩ = false := box_free hb (by rw [C2]; rfl) FC2
  clear B0 B1 B2 C0 C1 C2 FB0 FB1 FB2 FC2 HX ho hb hbx hsx hB
  go_wp2_with fail
  refine bodyPost_ret (v := .agg #[.int .i64 L, .slice P xs.length k, .slice Q ys.length q]) (by simp [results, Try.results12, go_sem, b0, b1, b2]) rfl ⟨_, rfl, ⟨_, _, _, _, rfl, ?_, ?_⟩, ?_⟩
  · refine (Lies.of ((((O1.out.past (by simp) _).past (by simp) _).past (by simp) _).past (by simp) _)).wide (by omega) (Nat.le_refl _) (Nat.le_refl _)
  · refine (Lies.of ((((O2.out.past (by simp) _).past (by simp) _).past (by simp) _).past (by simp) _)).wide (by omega) (Nat.le_refl _) (Nat.le_refl _)
  · exact (((hb2.setCell (by simp; omega) _).setCell (by simp) _).setCell (by simp) _).setCell (by simp) _

set_option maxHeartbeats 1000000 in
theorem eqTender_ (v v' : Value) (t t' : Tender) (w : World) (h : RdTender w v t) (h' : RdTender w v' t') :
    Calls Try.prog 14 #[v, v'] w fun e w' => e = .returned (.bool (t == t')) ∧ Below w.heap.size w w' := by
  obtain ⟨A, c, B, d, rfl, hA, hB, -⟩ := h
  obtain ⟨A', c', B', d', rfl, hA', hB', -⟩ := h'
  obtain ⟨L, xs, ys⟩ := t
  obtain ⟨L', xs', ys'⟩ := t'
  simp only at hA hB hA' hB' ⊢
  have he : ((⟨L, xs, ys⟩ : Tender) == ⟨L', xs', ys'⟩) = (L == L' && xs == xs' && ys == ys') := by rw [Bool.eq_iff_iff]; simp [and_assoc]
  rw [he]
  clear he
  by_cases h1 : L = L'
  · subst h1
    by_cases h2 : (xs == xs') = true
    · go_enter Try.func14, Try.ntmps14
      go_wp2_with fail
      refine (eqInt64S _ _ _ _ _ _ _ ((hA.alloc _).alloc _) ((hA'.alloc _).alloc _)).mono ?_
      rintro e w1 ⟨rfl, hb⟩
      rw [h2]
      have hb1 : Below w.heap.size w w1 := (((Below.refl _ _).alloc (Nat.le_refl _) _).alloc (by simp) _).trans (hb.mono (by simp; omega))
      have a2 : w1.cell? ⟨w.heap.size, 2, none⟩ = some (.slice B ys.length d) := box_cell hb (by simp [go_sem])
      have b2 : w1.cell? ⟨w.heap.size + 1, 2, none⟩ = some (.slice B' ys'.length d') := box_cell hb (by simp [go_sem])
      clear hb
      go_wp2_with fail
      refine (eqBidS _ _ _ _ _ _ _ (hB.below hb1) (hB'.below hb1)).mono ?_
      rintro e w2 ⟨rfl, hb⟩
      have hb2 := hb1.trans (hb.mono hb1.size)
      clear hb hb1 a2 b2
      by_cases h3 : (ys == ys') = true
      · rw [h3]
        go_wp2_with fail
        go_ret
        exact ⟨ret_bool (by rw [h2, h3]; simp), hb2⟩
      · rw [Bool.not_eq_true] at h3
        rw [h3]
        go_wp2_with fail
        go_ret
        exact ⟨ret_bool (by rw [h3]; simp), hb2⟩
    · rw [Bool.not_eq_true] at h2
      go_enter Try.func14, Try.ntmps14
      go_wp2_with fail
      refine (eqInt64S _ _ _ _ _ _ _ ((hA.alloc _).alloc _) ((hA'.alloc _).alloc _)).mono ?_
      rintro e w1 ⟨rfl, hb⟩
      rw [h2]
      have hb1 : Below w.heap.size w w1 := (((Below.refl _ _).alloc (Nat.le_refl _) _).alloc (by simp) _).trans (hb.mono (by simp; omega))
      clear hb
      go_wp2_with fail
      go_ret
      exact ⟨ret_bool (by rw [h2]; simp), hb1⟩
  · have h1' : (L != L') = true := by simp [h1]
    have hb1 : ∀ o1 o2, Below w.heap.size w ((w.alloc o1).alloc o2) := fun _ _ => ((Below.refl _ _).alloc (Nat.le_refl _) _).alloc (by simp) _
    go_enter Try.func14, Try.ntmps14
    go_wp2_with fail
    go_ret
    exact ⟨ret_bool (by simp [h1]), hb1 _ _⟩
section
open Go.ChangeShapes Go.WideShapes Go.ChangeAt Go.Deep
variable {H : Type} {enc : TypeId × Value → H} {W : World} {base b0 : Nat} {spare : Nat → Bool} {held : Bool} {r : Reach}
theorem openTender_ {v : Value} {d : DataW H} {p : List MemPlace} (hv : Value.okWide Try.prog W r b0 25 v) (h : DataW.Trod enc Try.prog W base spare held 25 v d p) : ArgTender W v := by
  obtain ⟨c0, c1, c2, y0, y1, y2, n, rfl, _, _, h0, h1, h2⟩ := Go.Joins.open_agg3 Try.underlying25 (by kernel_rfl) (by kernel_rfl) hv h
  obtain ⟨L, e0, _, w0⟩ := DataW.trod_int Try.underlying2 h0
  injection e0 with e0
  subst e0
  obtain ⟨A, k, c, rfl, ha⟩ := open_nums_cell Try.underlying22 Try.underlying2 (by kernel_rfl) h1
  obtain ⟨B, m, d, rfl, hb⟩ := open_structs_cell (α := Bid) Try.underlying23 Try.underlying64 (by kernel_rfl) (by kernel_rfl) rfl (by decide) (by kernel_rfl) h2
  exact ⟨L, A, k, c, B, m, d, rfl, wf_range w0, ha, hb⟩
end
end Go.Proofs.Ytgkhjikkbjmadaa
