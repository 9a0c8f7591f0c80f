/- Lands: a record of two numbers and a slice; the law's own helpers on it. -/
import Derived.Test.YtpinpkpjehbfmaaKind
import Derived.Test.YtpinpkpjehbfmaaFloodPlain
import Derived.Lib.SmallJoins
namespace Go.Proofs.Ytpinpkpjehbfmaa
open Go.RowKit
set_option linter.unusedVariables false
def RdLand (w : World) (v : Value) (t : Land) : Prop := ∃ A c, v = .agg #[.int .i64 t.rows, .int .i64 t.columns, .slice A t.heights.length c] ∧ Rd w A t.heights
/-- A land in a box. -/
def PtLand (w : World) (b off : Nat) (t : Land) : Prop := ∃ A c, (w.cell? ⟨b, off, none⟩ = some (.int .i64 t.rows) ∧ w.cell? ⟨b, off + 1, none⟩ = some (.int .i64 t.columns) ∧ w.cell? ⟨b, off + 2, none⟩ = some (.slice A t.heights.length c)) ∧ Rd w A t.heights
def FitLand (t : Land) : Prop := (-9223372036854775808 ≤ t.rows ∧ t.rows ≤ 9223372036854775807) ∧ (-9223372036854775808 ≤ t.columns ∧ t.columns ≤ 9223372036854775807) ∧ t.heights.length ≤ 1048576 ∧ Fits t.heights
def LiesLand (w : World) (lo hi : Nat) (v : Value) (t : Land) : Prop := ∃ A c, v = .agg #[.int .i64 t.rows, .int .i64 t.columns, .slice A t.heights.length c] ∧ Lies w lo hi 2 (.slice A t.heights.length c) t.heights
section
variable {w w' x : World} {v : Value} {t : Land} {b off lo hi : Nat}
theorem RdLand.below (h : RdLand w v t) (hb : Below w.heap.size w w') : RdLand w' v t := by
  obtain ⟨A, c, e, h1⟩ := h
  exact ⟨A, c, e, h1.below hb⟩
theorem RdLand.drew (h : RdLand w v t) : RdLand w.drew v t := h
theorem PtLand.below (h : PtLand w b off t) (hb : Below w.heap.size w w') : PtLand w' b off t := by
  obtain ⟨A, c, ⟨e1, e2, e3⟩, h1⟩ := h
  exact ⟨A, c, ⟨box_cell hb e1, box_cell hb e2, box_cell hb e3⟩, h1.below hb⟩
theorem PtLand.more (h : PtLand w b off t) : PtLand (w.more x) b off t := h.below more_below
theorem LiesLand.more (h : LiesLand w lo hi v t) : LiesLand (w.more x) lo hi v t := by
  obtain ⟨A, c, e, h1⟩ := h
  exact ⟨A, c, e, h1.more⟩
theorem LiesLand.span {l2 h2 : Nat} (h : LiesLand w lo hi v t) (hs : Span w w' l2 h2) (hd : hi ≤ l2 ∨ h2 ≤ lo) : LiesLand w' lo hi v t := by
  obtain ⟨A, c, e, h1⟩ := h
  exact ⟨A, c, e, h1.span hs hd⟩
theorem LiesLand.form (h : LiesLand w lo hi v t) : ∃ A c, v = .agg #[.int .i64 t.rows, .int .i64 t.columns, .slice A t.heights.length c] := by
  obtain ⟨A, c, e, h1⟩ := h
  exact ⟨A, c, e⟩
theorem LiesLand.below (h : LiesLand w lo hi v t) (hb : Below w.heap.size w w') : LiesLand w' lo hi v t := by
  obtain ⟨A, c, e, h1⟩ := h
  exact ⟨A, c, e, h1.below hb⟩
theorem LiesLand.rd (h : LiesLand w lo hi v t) (f : FitLand t) : RdLand w v t := by
  obtain ⟨A, c, e, h1⟩ := h
  exact ⟨A, c, e, h1.rd f.2.2.1⟩
/-- A land by value, laid in a box of its own. -/
theorem RdLand.box (h : RdLand w v t) : ∃ cs, v = .agg cs ∧ PtLand (w.alloc (.cells cs 28)) w.heap.size 0 t := by
  obtain ⟨A, c, rfl, h1⟩ := h
  exact ⟨_, rfl, A, c, ⟨by simp [go_sem], by simp [go_sem], by simp [go_sem]⟩, h1.alloc _⟩
end
structure ArgLand (w : World) (v : Value) : Prop where
  out : ∃ R C A n c, v = .agg #[.int .i64 R, .int .i64 C, .slice A n c] ∧ (-9223372036854775808 ≤ R ∧ R ≤ 9223372036854775807) ∧ (-9223372036854775808 ≤ C ∧ C ≤ 9223372036854775807) ∧ Arg Int w A n
theorem ArgLand.form {w : World} {v : Value} (x : ArgLand w v) : ∃ R C A n c, v = .agg #[.int .i64 R, .int .i64 C, .slice A n c] := by
  obtain ⟨R, C, A, n, c, e, _⟩ := x.out
  exact ⟨R, C, A, n, c, e⟩

set_option maxHeartbeats 1000000 in
theorem szLand_ {w : World} {v : Value} (x : ArgLand w v) (left : Int) (h0 : 0 ≤ left) (h1 : left ≤ 1048576) :
    (∀ w', Below w.heap.size w w' → Calls Try.prog 14 #[v, .int .i64 left] w' fun e w'' => e = .returned (.int .i64 (-1)) ∧ Below w'.heap.size w' w'') ∨
    ∃ l t, (0 ≤ l ∧ l ≤ left) ∧ RdLand w v t ∧ FitLand t ∧ ∀ w', Below w.heap.size w w' → Calls Try.prog 14 #[v, .int .i64 left] w' fun e w'' => e = .returned (.int .i64 l) ∧ Below w'.heap.size w' w'' := by
  obtain ⟨R, C, A, n, c, rfl, hR, hC, ⟨hn, hA⟩⟩ := x
  by_cases g1 : left < n
  · left
    intro w' hb
    go_enter Try.func14, Try.ntmps14
    go_wp2_with fail
    refine (szInt64S _ _ _ _ _ hn h0 h1).mono ?_
    rintro e w' ⟨rfl, rfl⟩
    rw [if_pos (by omega)]
    go_wp2_with fail
    go_ret
    exact ⟨rfl, (Below.refl _ _).alloc (Nat.le_refl _) _⟩
  · right
    obtain ⟨xs, rfl, r1, f1⟩ := hA (by omega)
    refine ⟨left - xs.length, ⟨R, C, xs⟩, ⟨by omega, by omega⟩, ⟨_, _, rfl, r1⟩, ⟨hR, hC, by simp only; omega, f1⟩, fun w' hb => ?_⟩
    go_enter Try.func14, Try.ntmps14
    go_wp2_with fail
    refine (szInt64S _ _ _ _ _ hn h0 h1).mono ?_
    rintro e w' ⟨rfl, rfl⟩
    rw [if_neg (by omega)]
    go_wp2_with fail
    go_ret
    exact ⟨rfl, (Below.refl _ _).alloc (Nat.le_refl _) _⟩

set_option maxHeartbeats 1000000 in
theorem toLand_ (v : Value) (t : Land) (w : World) (h : RdLand w v t) :
    Calls Try.prog 16 #[v] w fun e w' => ∃ v', e = .returned v' ∧ LiesLand w' w.heap.size w'.heap.size v' t ∧ Below w.heap.size w w' := by
  obtain ⟨A, c, rfl, hA⟩ := h
  obtain ⟨R, C, xs⟩ := t
  simp only at hA ⊢
  go_enter Try.func16, Try.ntmps16
  go_wp2_with fail
  refine (toInt64S _ _ _ _ (((hA.alloc _).alloc _).alloc _)).mono ?_
  rintro e w1 ⟨v1, rfl, ho, hb⟩
  obtain ⟨P, k, rfl⟩ := ho.form
  have hb1 : Below w.heap.size w w1 := ((((Below.refl _ _).alloc (Nat.le_refl _) _).alloc (by simp) _).alloc (by simp; omega) _).trans (hb.mono (by simp; omega))
  have ho1 : Own w1 (w.heap.size + 1 + 1 + 1) 2 (.slice P xs.length k) xs := by simpa using ho
  have HO := hid ho1
  have b0 : w1.cell? ⟨w.heap.size + 1, 0, none⟩ = some (.int .i64 0) := box_cell hb (by simp [go_sem])
  have b1 : w1.cell? ⟨w.heap.size + 1, 1, none⟩ = some (.int .i64 0) := box_cell hb (by simp [go_sem])
  have b2 : w1.cell? ⟨w.heap.size + 1, 2, none⟩ = some (.slice none 0 0) := box_cell hb (by simp [go_sem])
  have c0 : w1.cell? ⟨w.heap.size + 1 + 1, 0, none⟩ = some (.int .i64 R) := box_cell hb (by simp [go_sem])
  have c1 : w1.cell? ⟨w.heap.size + 1 + 1, 1, none⟩ = some (.int .i64 C) := box_cell hb (by simp [go_sem])
  have c2 : w1.cell? ⟨w.heap.size + 1 + 1, 2, none⟩ = some (.slice none 0 0) := box_cell hb (by simp [go_sem])
  have fb0 : w1.frozen? ⟨w.heap.size + 1, 0, none⟩ = false := box_free hb (by simp [go_sem]) (by simp [go_sem])
  have fb1 : w1.frozen? ⟨w.heap.size + 1, 1, none⟩ = false := box_free hb (by simp [go_sem]) (by simp [go_sem])
  have fb2 : w1.frozen? ⟨w.heap.size + 1, 2, none⟩ = false := box_free hb (by simp [go_sem]) (by simp [go_sem])
  have fc2 : w1.frozen? ⟨w.heap.size + 1 + 1, 2, none⟩ = false := box_free hb (by simp [go_sem]) (by simp [go_sem])
  clear ho ho1 hb hA
  go_wp2_with fail
  refine bodyPost_ret (v := .agg #[.int .i64 R, .int .i64 C, .slice P xs.length k]) (by simp [results, Try.results16, go_sem, b0, b1, b2]) rfl ⟨_, rfl, ⟨_, _, rfl, ?_⟩, ?_⟩
  · refine (Lies.of ((((HO.out.past (by simp) _).past (by simp) _).past (by simp) _).past (by simp) _)).wide (by omega) (Nat.le_refl _) (Nat.le_refl _)
  · exact (((hb1.setCell (by simp; omega) _).setCell (by simp) _).setCell (by simp) _).setCell (by simp) _

set_option maxHeartbeats 1000000 in
theorem eqLand_ (v v' : Value) (t t' : Land) (w : World) (h : RdLand w v t) (h' : RdLand w v' t') :
    Calls Try.prog 19 #[v, v'] w fun e w' => e = .returned (.bool (t == t')) ∧ Below w.heap.size w w' := by
  obtain ⟨A, c, rfl, hA⟩ := h
  obtain ⟨A', c', rfl, hA'⟩ := h'
  obtain ⟨R, C, xs⟩ := t
  obtain ⟨R', C', xs'⟩ := t'
  simp only at hA hA' ⊢
  have he : ((⟨R, C, xs⟩ : Land) == ⟨R', C', xs'⟩) = (R == R' && C == C' && xs == xs') := by rw [Bool.eq_iff_iff]; simp [and_assoc]
  rw [he]
  clear he
  have hb2 : ∀ o1 o2, Below w.heap.size w ((w.alloc o1).alloc o2) := fun _ _ => ((Below.refl _ _).alloc (Nat.le_refl _) _).alloc (by simp) _
  have HB2 := hid hb2
  clear hb2
  by_cases h1 : R = R'
  · by_cases h2 : C = C'
    · subst h1 h2
      have h3' : ∃ z, (xs == xs') = z := ⟨_, rfl⟩
      obtain ⟨z, hz⟩ := h3'
      have HZ := hid hz
      rw [hz]
      clear hz
      go_enter Try.func19, Try.ntmps19
      go_wp2_with fail
      refine (eqInt64S _ _ _ _ _ _ _ ((hA.alloc _).alloc _) ((hA'.alloc _).alloc _)).mono ?_
      rintro e w1 ⟨rfl, hb⟩
      rw [HZ.out]
      have hb1 : Below w.heap.size w w1 := (HB2.out _ _).trans (hb.mono (by simp; omega))
      clear hb
      cases z
      all_goals
        go_wp2_with fail
        go_ret
        exact ⟨ret_bool (by simp), hb1⟩
    · subst h1
      have h2' : (C != C') = true := by simp [h2]
      go_enter Try.func19, Try.ntmps19
      go_wp2_with fail
      go_ret
      exact ⟨ret_bool (by simp [h2]), HB2.out _ _⟩
  · have h1' : (R != R') = true := by simp [h1]
    go_enter Try.func19, Try.ntmps19
    go_wp2_with fail
    go_ret
    exact ⟨ret_bool (by simp [h1]), HB2.out _ _⟩
set_option maxHeartbeats 1000000 in
theorem markLand_ (v : Value) (t : Land) (q : Int) (lo hi : Nat) (w : World) (h : LiesLand w lo hi v t) (f : FitLand t) (h0 : 0 ≤ q) (h1 : q ≤ 90000000) :
    Calls Try.prog 20 #[v, .int .i64 q] w fun e w' => ∃ q', e = .returned (.int .i64 q') ∧ (q ≤ q' ∧ q' ≤ q + 10000000) ∧ Span w w' lo hi := by
  obtain ⟨A, c, rfl, hl⟩ := h
  have hn := f.2.2.1
  have hb0 : ∀ o, Below w.heap.size w (w.alloc o) := fun o => (Below.refl w.heap.size w).alloc (Nat.le_refl _) o
  have HL := hid fun o => hl.below (hb0 o)
  have HB := hid hb0
  clear hl hb0
  go_enter Try.func20, Try.ntmps20
  go_wp2_with fail
  refine (markInt64S _ _ _ _ _ (HL.out _).1 hn h0 (by omega)).mono ?_
  rintro e w1 ⟨rfl, hm, hg⟩
  have HS := hid ((Span.of_below (lo := lo) (hi := hi) (HB.out _) (Nat.le_refl _)).trans ((HL.out _).spans hg))
  clear hm hg
  go_wp2_with fail
  go_ret
  exact ⟨_, rfl, by omega, HS.out⟩
section
open Go.ChangeShapes Go.WideShapes Go.ChangeAt Go.Deep
variable {H : Type} {enc : TypeId × Value → H} {W : World} {base b0 : Nat} {spare : Nat → Bool} {held : Bool} {r : Reach}
theorem openLand_ {v : Value} {d : DataW H} {p : List MemPlace} (hv : Value.okWide Try.prog W r b0 24 v) (h : DataW.Trod enc Try.prog W base spare held 24 v d p) : ArgLand W v := by
  obtain ⟨c0, c1, c2, y0, y1, y2, n, rfl, _, _, h0, h1, h2⟩ := Go.Joins.open_agg3 Try.underlying24 (by kernel_rfl) (by kernel_rfl) hv h
  obtain ⟨R, e0, _, w0⟩ := DataW.trod_int Try.underlying2 h0
  injection e0 with e0
  subst e0
  obtain ⟨C, e1, _, w1⟩ := DataW.trod_int Try.underlying2 h1
  injection e1 with e1
  subst e1
  obtain ⟨A, k, c, rfl, ha⟩ := open_nums_cell Try.underlying22 Try.underlying2 (by kernel_rfl) h2
  exact ⟨R, C, A, k, c, rfl, wf_range w0, wf_range w1, ha⟩
end
end Go.Proofs.Ytpinpkpjehbfmaa
