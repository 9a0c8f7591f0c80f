/- Tasks as a kind of argument for the laws' generator: opened, sized, copied, compared, marked. -/
import Derived.Test.YtdlddlgpaokgiaaTaskLaw
import Derived.Test.YtdlddlgpaokgiaaIn
namespace Go.Proofs.Ytdlddlgpaokgiaa
open Go.ChangeShapes Go.WideShapes Go.ChangeAt Go.RowKit
set_option linter.unusedVariables false
def RdTaskS (w : World) (v : Value) (t : List Task) : Prop := ∃ A c, v = .slice A t.length c ∧ RdT w A t
def sumN (xs : List Task) : Nat := (xs.map fun x => x.after.length).sum
def FitTaskS (t : List Task) : Prop := (∀ x ∈ t, FitT x) ∧ t.length + sumN t ≤ 1048576
structure ArgTaskS (w : World) (v : Value) : Prop where
  out : ∃ A n c, v = .slice A n c ∧ ArgT w A n
theorem ArgTaskS.form {w : World} {v : Value} (x : ArgTaskS w v) : ∃ A n c, v = .slice A n c := by
  obtain ⟨A, n, c, e, _⟩ := x.out
  exact ⟨A, n, c, e⟩
section
variable {w w' x : World} {v : Value} {t : List Task}
theorem RdTaskS.below (h : RdTaskS w v t) (hb : Below w.heap.size w w') : RdTaskS w' v t := by
  obtain ⟨A, c, rfl, h⟩ := h
  exact ⟨A, c, rfl, h.below hb⟩
theorem RdTaskS.drew (h : RdTaskS w v t) : RdTaskS w.drew v t := h
/-- All of it in blocks from lo to below hi, the header in front of the inner slices, these in order. -/
def LiesTaskS (w : World) (lo hi : Nat) (v : Value) (t : List Task) : Prop :=
  hi ≤ w.heap.size ∧ ∃ ts : List TaskC, ∃ b2, lo ≤ b2 ∧ b2 ≤ hi ∧ Lies w lo b2 44 v ts ∧ ts.length = t.length ∧ (∀ i, (h : i < ts.length) → (h' : i < t.length) →
    ts[i].d = t[i].days ∧ ts[i].c = t[i].cost ∧ ts[i].y = t[i].clay ∧ ts[i].n = t[i].after.length ∧ Lies w b2 hi 2 (.slice ts[i].A ts[i].n ts[i].q) t[i].after) ∧
  ∀ i j gi gj, i < j → (hi : i < ts.length) → (hj : j < ts.length) → (Value.slice ts[i].A ts[i].n ts[i].q).ownBlock = some gi → (Value.slice ts[j].A ts[j].n ts[j].q).ownBlock = some gj → gi < gj
theorem LiesTaskS.form {lo hi : Nat} (h : LiesTaskS w lo hi v t) : ∃ A c, v = .slice A t.length c := by
  obtain ⟨_, ts, b2, _, _, h1, h2, _⟩ := h
  rw [← h2]
  exact h1.form
theorem LiesTaskS.below {lo hi : Nat} (h : LiesTaskS w lo hi v t) (hb : Below w.heap.size w w') : LiesTaskS w' lo hi v t := by
  obtain ⟨h0, ts, b2, g1, g2, h1, h2, h3, h4⟩ := h
  exact ⟨Nat.le_trans h0 hb.size, ts, b2, g1, g2, h1.below hb, h2, fun i a b => by obtain ⟨e1, e2, e3, e4, e5⟩ := h3 i a b; exact ⟨e1, e2, e3, e4, e5.below hb⟩, h4⟩
theorem LiesTaskS.more {lo hi : Nat} (h : LiesTaskS w lo hi v t) : LiesTaskS (w.more x) lo hi v t := h.below more_below
theorem LiesTaskS.span {lo hi l2 h2 : Nat} (h : LiesTaskS w lo hi v t) (hs : Span w w' l2 h2) (hd : hi ≤ l2 ∨ h2 ≤ lo) : LiesTaskS w' lo hi v t := by
  obtain ⟨h0, ts, b2, g1, g2, h1, k2, h3, h4⟩ := h
  exact ⟨Nat.le_trans h0 hs.size, ts, b2, g1, g2, h1.span hs (by omega), k2, fun i a b => by obtain ⟨e1, e2, e3, e4, e5⟩ := h3 i a b; exact ⟨e1, e2, e3, e4, e5.span hs (by omega)⟩, h4⟩
theorem LiesTaskS.rd {lo hi : Nat} (h : LiesTaskS w lo hi v t) (f : FitTaskS t) : RdTaskS w v t := by
  obtain ⟨A, c, rfl⟩ := h.form
  obtain ⟨h0, ts, b2, g1, g2, h1, k2, h3, h4⟩ := h
  exact ⟨A, c, rfl, ts, h1.rd (by rw [k2]; have := f.2; omega), k2, fun i a b => by obtain ⟨e1, e2, e3, e4, e5⟩ := h3 i a b; exact ⟨e1, e2, e3, e4, e5.rd (f.1 _ (List.getElem_mem b)).2.2.2.1⟩⟩
end
theorem szTs_sum : ∀ (ts : List TaskC) (l : Int), 0 ≤ szTs l ts → szTs l ts = l - ((ts.map fun t => t.n).sum : Nat)
  | [], l, h => by simp [szTs]
  | t :: r, l, h => by
    simp only [szTs] at h ⊢
    split at h
    · omega
    · rename_i hn
      rw [if_neg hn, szTs_sum r _ h]
      simp only [List.map_cons, List.sum_cons]
      omega

set_option maxHeartbeats 1000000 in
theorem szTaskS_ {w : World} {v : Value} (x : ArgTaskS w v) (left : Int) (h0 : 0 ≤ left) (h1 : left ≤ 1048576) :
    (∀ w', Below w.heap.size w w' → Calls Try.prog 5 #[v, .int .i64 left] w' fun e w'' => e = .returned (.int .i64 (-1)) ∧ Below w'.heap.size w' w'') ∨
    ∃ l t, (0 ≤ l ∧ l ≤ left) ∧ RdTaskS w v t ∧ FitTaskS t ∧ ∀ w', Below w.heap.size w w' → Calls Try.prog 5 #[v, .int .i64 left] w' fun e w'' => e = .returned (.int .i64 l) ∧ Below w'.heap.size w' w'' := by
  obtain ⟨A, n, c, rfl, hm, hrd⟩ := x
  by_cases g1 : left < n
  · left
    intro w' hb
    have := szTaskS A n c left w' hm h0 h1 [] (fun h => absurd h (by omega))
    rw [if_pos g1] at this
    exact this
  · obtain ⟨ts, hl, hr, hi⟩ := hrd (by omega)
    have hc : ∀ w', Below w.heap.size w w' → Calls Try.prog 5 #[.slice A n c, .int .i64 left] w' fun e w'' => e = .returned (.int .i64 (szTs (left - n) ts)) ∧ Below w'.heap.size w' w'' := fun w' hb => by
      have := szTaskS A n c left w' hm h0 h1 ts (fun _ => ⟨hl, hr.below hb, fun t ht => (hi t ht).1.max⟩)
      rw [if_neg g1] at this
      exact this
    have hle := szTs_le ts (left - n) (by omega)
    by_cases g2 : 0 ≤ szTs (left - n) ts
    · right
      have hok := szTs_ok ts (left - n) (by omega) g2
      obtain ⟨xs, hxl, hx, hf⟩ := tasks_of hr hi hok
      have hsum := szTs_sum ts _ g2
      have hs2 : (ts.map fun t => t.n).sum = sumN xs := by
        obtain ⟨ts', hr', hk⟩ := id hx
        unfold sumN
        congr 1
        apply List.ext_getElem
        · simp [hxl]
        · intro i i1 i2
          simp only [List.getElem_map, List.length_map] at i1 i2 ⊢
          obtain ⟨b, off, P, q, hA, c1, c2, c3, c4, _⟩ := hx.at_ i2
          obtain ⟨b', off', hA', hc'⟩ := hr.2 i i1
          rw [hA] at hA'
          injection hA' with hA'
          injection hA' with e1 e2
          subst e1 e2
          have := hc' 3 _ rfl
          have h5 : w.cell? ⟨b, off + (i * Enc.size TaskC + 3), none⟩ = some (.slice P xs[i].after.length q) := c4
          rw [h5] at this
          injection this with this
          injection this with _ this _
          exact this.symm
      refine ⟨szTs (left - n) ts, xs, by omega, ⟨A, c, by rw [hxl, hl], hx⟩, ⟨hf, ?_⟩, hc⟩
      rw [hs2] at hsum
      omega
    · left
      rw [show szTs (left - n) ts = -1 by omega] at hc
      exact hc

theorem toTaskS_ (v : Value) (t : List Task) (w : World) (h : RdTaskS w v t) :
    Calls Try.prog 7 #[v] w fun e w' => ∃ v', e = .returned v' ∧ LiesTaskS w' w.heap.size w'.heap.size v' t ∧ Below w.heap.size w w' := by
  obtain ⟨A, c, rfl, h⟩ := h
  refine (toTaskS A t c w h).mono ?_
  rintro e w' ⟨v', rfl, hd, hb⟩
  refine ⟨v', rfl, ?_, hb⟩
  obtain ⟨ts, b2, g1, g2, h1, h2⟩ := hd
  by_cases hb2 : b2 ≤ w'.heap.size
  · exact ⟨Nat.le_refl _, ts, b2, g1, hb2, ⟨h1, hb2, g2⟩, h2.1, fun i a b => by obtain ⟨e1, e2, e3, e4, e5⟩ := h2.2.1 i a b (by omega); exact ⟨e1, e2, e3, e4, Lies.of e5⟩, fun i j gi gj hij hi hj => h2.2.2 i j gi gj hij (by have := h2.1; omega) hi hj⟩
  · -- no inner slice has a block then
    refine ⟨Nat.le_refl _, ts, w'.heap.size, hb.size, Nat.le_refl _, Lies.of h1, h2.1, fun i a b => ?_, fun i j gi gj hij hi hj => h2.2.2 i j gi gj hij (by have := h2.1; omega) hi hj⟩
    obtain ⟨e1, e2, e3, e4, e5⟩ := h2.2.1 i a b (by omega)
    exact ⟨e1, e2, e3, e4, ⟨e5.mono (by omega), Nat.le_refl _, fun g hg => (e5.block g hg).2⟩⟩

theorem eqTaskS_ (v v' : Value) (t t' : List Task) (w : World) (h : RdTaskS w v t) (h' : RdTaskS w v' t') :
    Calls Try.prog 11 #[v, v'] w fun e w' => e = .returned (.bool (t == t')) ∧ Below w.heap.size w w' := by
  obtain ⟨A, c, rfl, h⟩ := h
  obtain ⟨A', c', rfl, h'⟩ := h'
  exact eqTaskS _ _ _ _ _ _ _ h h'
section
variable {H : Type} {enc : TypeId × Value → H} {W : World} {base b0 : Nat} {spare : Nat → Bool} {held : Bool} {r : Reach}

theorem openTaskS_ {v : Value} {d : DataW H} {p : List MemPlace} (hv : Value.okWide Try.prog W r b0 22 v) (h : DataW.Trod enc Try.prog W base spare held 22 v d p) : ArgTaskS W v := by
  obtain ⟨A, n, c, rfl, x⟩ := open_tasks hv h
  exact ⟨A, n, c, rfl, x⟩
end
/-- What is left to mark of a slice of tasks, from element k on: the headers' cells, and the inner slices in order. -/
structure ToMark (w : World) (lo hi : Nat) (v : Value) (ts : List TaskC) (t : List Task) (b2 k : Nat) : Prop where
  top : hi ≤ w.heap.size
  base : lo ≤ b2
  le : b2 ≤ hi
  head : Lies w lo b2 44 v ts
  len : ts.length = t.length
  inner : ∀ i, k ≤ i → (h : i < ts.length) → (h' : i < t.length) → ts[i].n = t[i].after.length ∧ Lies w b2 hi 2 (.slice ts[i].A ts[i].n ts[i].q) t[i].after
  ord : ∀ i j gi gj, k ≤ i → i < j → (hi : i < ts.length) → (hj : j < ts.length) → (Value.slice ts[i].A ts[i].n ts[i].q).ownBlock = some gi → (Value.slice ts[j].A ts[j].n ts[j].q).ownBlock = some gj → gi < gj
theorem Lies.past {α : Type} [Enc α] {w : World} {lo hi : Nat} {e : TypeId} {v : Value} {xs : List α} (h : Lies w lo hi e v xs) {p : Addr} (hp : p.block < lo) (u : Value) : Lies (w.setCell p u) lo hi e v xs :=
  ⟨h.1.past hp u, by simpa [World.setCell] using h.2.1, h.2.2⟩
/-- The three numbers of a header are marked. -/
theorem ToMark.heads {w : World} {lo hi g n c : Nat} {ts : List TaskC} {t : List Task} {b2 k : Nat} (h : ToMark w lo hi (.slice (some ⟨g, 0, none⟩) n c) ts t b2 k) (hk : k < ts.length) (a b d : Int) :
    ToMark (((w.setCell ⟨g, k * 4, none⟩ (.int .i64 a)).setCell ⟨g, k * 4 + 1, none⟩ (.int .i64 b)).setCell ⟨g, k * 4 + 2, none⟩ (.int .i64 d)) lo hi (.slice (some ⟨g, 0, none⟩) n c) (ts.set k { ts[k] with d := a, c := b, y := d }) t b2 k := by
  have hg : g < b2 := h.head.2.2 g rfl
  have h1 := h.head.1.set (j := 0) (u := .int .i64 a) (y := { ts[k] with d := a }) hk (by decide) rfl
  have h2 := h1.set (j := 1) (u := .int .i64 b) (y := { ts[k] with d := a, c := b }) (k := k) (by simpa using hk) (by decide) (by simp [Enc.enc])
  have h3 := h2.set (j := 2) (u := .int .i64 d) (y := { ts[k] with d := a, c := b, y := d }) (k := k) (by simpa using hk) (by decide) (by simp [Enc.enc])
  simp only [List.set_set] at h3
  have hsz : ∀ (p : Addr) (u : Value) (x : World), (x.setCell p u).heap.size = x.heap.size := fun p u x => by simp [World.setCell]
  refine ⟨by simpa [hsz] using h.top, h.base, h.le, ⟨h3, by have := h.head.2.1; simpa [hsz] using this, h.head.2.2⟩, by simpa using h.len, fun i hi' a1 a2 => ?_, fun i j gi gj hki hij a1 a2 => ?_⟩
  · have a1' : i < ts.length := by simpa using a1
    obtain ⟨e1, e2⟩ := h.inner i hi' a1' a2
    have e3 := ((e2.past (p := ⟨g, k * 4, none⟩) hg (.int .i64 a)).past (p := ⟨g, k * 4 + 1, none⟩) hg (.int .i64 b)).past (p := ⟨g, k * 4 + 2, none⟩) hg (.int .i64 d)
    by_cases hik : i = k
    · subst hik
      simp only [List.getElem_set_self]
      exact ⟨e1, e3⟩
    · rw [List.getElem_set_ne (by omega)]
      exact ⟨e1, e3⟩
  · have a1' : i < ts.length := by simpa using a1
    have a2' : j < ts.length := by simpa using a2
    have hq : ∀ (m : Nat) (hm : m < (ts.set k { ts[k] with d := a, c := b, y := d }).length) (hm' : m < ts.length), (Value.slice (ts.set k { ts[k] with d := a, c := b, y := d })[m].A (ts.set k { ts[k] with d := a, c := b, y := d })[m].n (ts.set k { ts[k] with d := a, c := b, y := d })[m].q) = .slice ts[m].A ts[m].n ts[m].q := fun m hm hm' => by
      by_cases hmk : m = k
      · subst hmk
        simp only [List.getElem_set_self]
      · rw [List.getElem_set_ne (by omega)]
    rw [hq i a1 a1', hq j a2 a2']
    exact h.ord i j gi gj hki hij a1' a2'
theorem ToMark.next {w w' : World} {lo hi : Nat} {v : Value} {ts : List TaskC} {t : List Task} {b2 k : Nat} (h : ToMark w lo hi v ts t b2 k) (hk : k < ts.length) (hg : w.grownBy w' (Value.slice ts[k].A ts[k].n ts[k].q).ownBlock) : ToMark w' lo hi v ts t b2 (k + 1) := by
  have hk' : k < t.length := by rw [← h.len]; exact hk
  have hkb := fun g hg => (h.inner k (Nat.le_refl _) hk hk').2.1.block g hg
  refine ⟨Nat.le_trans h.top hg.size, h.base, h.le, h.head.span (Span.of_grown (lo := b2) (hi := w.heap.size) hg fun g e => hkb g e) (by omega), h.len, fun i hi' a1 a2 => ?_, fun i j gi gj hki => h.ord i j gi gj (by omega)⟩
  obtain ⟨e1, e2⟩ := h.inner i (by omega) a1 a2
  refine ⟨e1, ⟨e2.1.beside hg fun gi gk h1 h2 => ?_, Nat.le_trans e2.2.1 hg.size, e2.2.2⟩⟩
  have := h.ord k i gk gi (Nat.le_refl _) (by omega) hk a1 h2 h1
  omega
theorem ToMark.span {w w' : World} {lo hi : Nat} {v : Value} {ts : List TaskC} {t : List Task} {b2 k : Nat} (h : ToMark w lo hi v ts t b2 k) (hk : k < ts.length) (hg : w.grownBy w' (Value.slice ts[k].A ts[k].n ts[k].q).ownBlock) : Span w w' lo hi := by
  have hk' : k < t.length := by rw [← h.len]; exact hk
  obtain ⟨_, e2⟩ := h.inner k (Nat.le_refl _) hk hk'
  exact (e2.spans hg).wide h.base (Nat.le_refl _)
def sumTo (t : List Task) (k : Nat) : Nat := sumN (t.take k)
theorem sumTo_next {t : List Task} {k : Nat} (hk : k < t.length) : sumTo t (k + 1) = sumTo t k + t[k].after.length := by
  unfold sumTo sumN
  rw [take_next hk, List.map_append, List.sum_append]
  simp
theorem sumTo_le (t : List Task) (k : Nat) : sumTo t k ≤ sumN t := by
  unfold sumTo sumN
  conv => rhs; rw [← List.take_append_drop k t]
  rw [List.map_append, List.sum_append]
  omega
set_option maxHeartbeats 2000000 in
theorem markTaskS_ (v : Value) (t : List Task) (q : Int) (lo hi : Nat) (w : World) (h : LiesTaskS w lo hi v t) (f : FitTaskS t) (h0 : 0 ≤ q) (h1 : q ≤ 90000000) :
    Calls Try.prog 12 #[v, .int .i64 q] w fun e w' => ∃ q', e = .returned (.int .i64 q') ∧ (q ≤ q' ∧ q' ≤ q + 10000000) ∧ Span w w' lo hi := by
  obtain ⟨A, c, rfl⟩ := h.form
  have hf := f.2
  have hT : ∃ ts b2, ToMark w lo hi (.slice A t.length c) ts t b2 0 := by
    obtain ⟨h0, ts, b2, g1, g2, h1, k2, h3, h4⟩ := h
    exact ⟨ts, b2, h0, g1, g2, h1, k2, fun i _ a b => ⟨(h3 i a b).2.2.2.1, (h3 i a b).2.2.2.2⟩, fun i j gi gj _ => h4 i j gi gj⟩
  obtain ⟨ts0, b2, hT⟩ := hT
  clear h
  go_enter Try.func12, Try.ntmps12
  go_wp2_with fail
  go_loopw [1, 5] (fun y i wr => ∃ (k : Nat) (ts : List TaskC), k ≤ t.length ∧ i = .int .i64 k ∧ y = .int .i64 (q + 3 * k + sumTo t k) ∧ ToMark wr lo hi (.slice A t.length c) ts t b2 k ∧ Span w wr lo hi) (fun _ i _ => t.length - (intOf i).toNat)
  case atStart => exact ⟨0, ts0, Nat.zero_le _, rfl, by simp [sumTo, sumN], hT, Span.refl _ _ _⟩
  case round =>
    obtain ⟨k, ts, hk, rfl, rfl, hM, hS⟩ := hrel
    clear hT
    by_cases hlt : k < t.length
    · have hk' : k < ts.length := by rw [hM.len]; exact hlt
      obtain ⟨g, rfl, hgl, hgs⟩ := hM.head.1.addr hk'
      have hg2 : g < b2 := hM.head.2.2 g rfl
      obtain ⟨⟨d1, d2, d3, d4⟩, f1, f2, f3, f4⟩ := hM.head.1.task hk'
      have hsl := sumTo_le t k
      have hsl2 := sumTo_le t (k + 1)
      have HN := hid (sumTo_next hlt)
      have hss : sumTo t k + t[k].after.length ≤ sumN t := by rw [← sumTo_next hlt]; exact hsl2
      have hM2 := hM.heads hk' (q + 3 * k + sumTo t k) (q + 3 * k + sumTo t k + 1) (q + 3 * k + sumTo t k + 1 + 1)
      have hS2 := ((span_set hS (p := ⟨g, k * 4, none⟩) ⟨hgl, by have := hM.le; simp only; omega⟩ (.int .i64 (q + 3 * k + sumTo t k))).trans (span_set (Span.refl _ _ _) (p := ⟨g, k * 4 + 1, none⟩) ⟨hgl, by have := hM.le; simp only; omega⟩ (.int .i64 (q + 3 * k + sumTo t k + 1)))).trans (span_set (Span.refl _ _ _) (p := ⟨g, k * 4 + 2, none⟩) ⟨hgl, by have := hM.le; simp only; omega⟩ (.int .i64 (q + 3 * k + sumTo t k + 1 + 1)))
      have hkn := (hM.inner k (Nat.le_refl _) hk' hlt).1
      have hkk : k < (ts.set k { ts[k] with d := q + 3 * k + sumTo t k, c := q + 3 * k + sumTo t k + 1, y := q + 3 * k + sumTo t k + 1 + 1 }).length := by simpa using hk'
      have hin := (hM2.inner k (Nat.le_refl _) hkk hlt).2
      have HM2 := hid hM2
      have HS2 := hid hS2
      have HI := hid hin
      have hal := (f.1 _ (List.getElem_mem hlt)).2.2.2.1
      have hq1 : 0 ≤ q + 3 * (k : Int) + sumTo t k := by omega
      have hq2 : q + 3 * (k : Int) + sumTo t k ≤ 100000000 + 3 * 1048576 + 1048576 := by omega
      clear hM hM2 hS hS2 hin
      go_wp2_with fail
      have ho : Own (((wr.setCell ⟨g, k * 4, none⟩ (.int .i64 (q + 3 * k + sumTo t k))).setCell ⟨g, k * 4 + 1, none⟩ (.int .i64 (q + 3 * k + sumTo t k + 1))).setCell ⟨g, k * 4 + 2, none⟩ (.int .i64 (q + 3 * k + sumTo t k + 1 + 1))) b2 2 (.slice ts[k].A t[k].after.length ts[k].q) t[k].after := by
        have := HI.out.1
        simp only [List.getElem_set_self, hkn] at this
        exact this
      refine (markInt64S _ _ _ _ _ ho hal (by omega) (by omega)).mono ?_
      rintro e w2 ⟨rfl, hmk, hgr⟩
      have hgr2 := hgr
      rw [show (Value.slice ts[k].A t[k].after.length ts[k].q).ownBlock = (Value.slice (ts.set k { ts[k] with d := q + 3 * k + sumTo t k, c := q + 3 * k + sumTo t k + 1, y := q + 3 * k + sumTo t k + 1 + 1 })[k].A (ts.set k { ts[k] with d := q + 3 * k + sumTo t k, c := q + 3 * k + sumTo t k + 1, y := q + 3 * k + sumTo t k + 1 + 1 })[k].n (ts.set k { ts[k] with d := q + 3 * k + sumTo t k, c := q + 3 * k + sumTo t k + 1, y := q + 3 * k + sumTo t k + 1 + 1 })[k].q).ownBlock from by simp only [List.getElem_set_self]; rw [hkn]] at hgr2
      have hM3 := hid (HM2.out.next hkk hgr2)
      have hS3 := hid (HS2.out.trans (HM2.out.span hkk hgr2))
      clear ho hmk hgr hgr2 HM2 HS2 HI
      go_wp2_with fail
      go_roundw
      case rel => exact ⟨k + 1, _, by omega, by go_num, by rw [HN.out]; exact val_int (by omega), hM3.out, hS3.out⟩
      case measure => simp [intOf]; omega
    · have hkl : k = t.length := by omega
      have hs := sumTo_le t k
      have HS := hid hS
      clear hM hS
      go_wp2_with fail
      go_ret
      exact ⟨_, rfl, by omega, HS.out⟩

end Go.Proofs.Ytdlddlgpaokgiaa
