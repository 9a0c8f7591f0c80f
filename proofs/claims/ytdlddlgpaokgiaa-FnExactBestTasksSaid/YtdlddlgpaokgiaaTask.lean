/- Tasks: what a slice of them is in cells (a slice inside each), and what the law's own helpers make of it. -/
import Derived.Test.YtdlddlgpaokgiaaKind
namespace Go.Proofs.Ytdlddlgpaokgiaa
open Go.RowKit
set_option linter.unusedVariables false
structure Task where
  days : Int
  cost : Int
  clay : Int
  after : List Int
  deriving DecidableEq
/-- A task as its cells. -/
structure TaskC where
  d : Int
  c : Int
  y : Int
  A : Option Addr
  n : Nat
  q : Nat
instance : Enc TaskC := ⟨4, fun t => [.int .i64 t.d, .int .i64 t.c, .int .i64 t.y, .slice t.A t.n t.q], fun _ => rfl, fun _ u h => by simp at h; rcases h with rfl | rfl | rfl | rfl <;> rfl⟩
def Tks (w : World) (ts : List TaskC) (xs : List Task) : Prop :=
  ts.length = xs.length ∧ ∀ k, (h : k < ts.length) → (h' : k < xs.length) → ts[k].d = xs[k].days ∧ ts[k].c = xs[k].cost ∧ ts[k].y = xs[k].clay ∧ ts[k].n = xs[k].after.length ∧ Rd w ts[k].A xs[k].after
def RdT (w : World) (A : Option Addr) (xs : List Task) : Prop := ∃ ts : List TaskC, Rd w A ts ∧ Tks w ts xs
section
variable {w w' x : World} {A : Option Addr} {xs : List Task} {ts : List TaskC}
theorem Tks.below (h : Tks w ts xs) (hb : Below w.heap.size w w') : Tks w' ts xs :=
  ⟨h.1, fun k h1 h2 => by obtain ⟨a, b, c, d, e⟩ := h.2 k h1 h2; exact ⟨a, b, c, d, e.below hb⟩⟩
theorem RdT.len (h : RdT w A xs) : xs.length ≤ 1048576 := by obtain ⟨ts, h1, h2⟩ := h; rw [← h2.1]; exact h1.len
theorem RdT.below (h : RdT w A xs) (hb : Below w.heap.size w w') : RdT w' A xs := by obtain ⟨ts, h1, h2⟩ := h; exact ⟨ts, h1.below hb, h2.below hb⟩
theorem RdT.more (h : RdT w A xs) : RdT (w.more x) A xs := h.below more_below
theorem RdT.alloc (h : RdT w A xs) (o : Obj) : RdT (w.alloc o) A xs := h.below ((Below.refl _ _).alloc (Nat.le_refl _) o)
theorem RdT.at_ (h : RdT w A xs) {k : Nat} (hk : k < xs.length) : ∃ b off P q, A = some ⟨b, off, none⟩ ∧
    w.cell? ⟨b, off + k * 4, none⟩ = some (.int .i64 xs[k].days) ∧ w.cell? ⟨b, off + k * 4 + 1, none⟩ = some (.int .i64 xs[k].cost) ∧ w.cell? ⟨b, off + k * 4 + 2, none⟩ = some (.int .i64 xs[k].clay) ∧
    w.cell? ⟨b, off + k * 4 + 3, none⟩ = some (.slice P xs[k].after.length q) ∧ Rd w P xs[k].after := by
  obtain ⟨ts, h1, h2⟩ := h
  have hk' : k < ts.length := by rw [h2.1]; exact hk
  obtain ⟨b, off, hA, hc⟩ := h1.2 k hk'
  obtain ⟨e1, e2, e3, e4, e5⟩ := h2.2 k hk' hk
  exact ⟨b, off, ts[k].A, ts[k].q, hA, by rw [← e1]; exact hc 0 _ rfl, by rw [← e2]; exact hc 1 _ rfl, by rw [← e3]; exact hc 2 _ rfl, by rw [← e4]; exact hc 3 _ rfl, e5⟩
end
theorem elTask : ∀ z : TaskC, z.d = 0 → z.c = 0 → z.y = 0 → z.A = none → z.n = 0 → z.q = 0 → El Try.prog 27 44 z := by
  rintro ⟨_, _, _, _, _, _⟩ h1 h2 h3 h4 h5 h6
  simp only at h1 h2 h3 h4 h5 h6
  subst h1 h2 h3 h4 h5 h6
  exact El.mk' (z := .agg #[.int .i64 0, .int .i64 0, .int .i64 0, .slice none 0 0]) (bytes := 48) Try.underlying27 (by kernel_rfl) (by decide) rfl (by decide)
theorem elTask0 : El Try.prog 27 44 (⟨0, 0, 0, none, 0, 0⟩ : TaskC) := elTask _ rfl rfl rfl rfl rfl rfl

def szT (left : Int) (t : TaskC) : Int := if left < t.n then -1 else left - t.n
set_option maxHeartbeats 400000 in
theorem szTask (t : TaskC) (left : Int) (w : World) (hn : t.n ≤ maxLen) (hl : 0 ≤ left) (hl2 : left ≤ 1048576) :
    Calls Try.prog 26 #[.agg #[.int .i64 t.d, .int .i64 t.c, .int .i64 t.y, .slice t.A t.n t.q], .int .i64 left] w fun e w' => e = .returned (.int .i64 (szT left t)) ∧ Below w.heap.size w w' := by
  unfold szT
  by_cases h : left < t.n
  · rw [if_pos h]
    go_enter Try.func26, Try.ntmps26
    go_wp2_with fail
    refine (szInt64S _ _ _ _ _ hn hl hl2).mono ?_
    rintro e w' ⟨rfl, rfl⟩
    rw [if_pos h]
    go_wp2_with fail
    go_ret
    exact ⟨rfl, (Below.refl _ _).alloc (Nat.le_refl _) _⟩
  · rw [if_neg h]
    go_enter Try.func26, Try.ntmps26
    go_wp2_with fail
    refine (szInt64S _ _ _ _ _ hn hl hl2).mono ?_
    rintro e w' ⟨rfl, rfl⟩
    rw [if_neg (by omega)]
    go_wp2_with fail
    go_ret
    exact ⟨rfl, (Below.refl _ _).alloc (Nat.le_refl _) _⟩

/-- All inner slices fit; 'szTs l ts' is what is left. -/

def szTs : Int → List TaskC → Int
  | l, [] => l
  | l, t :: r => if l < t.n then -1 else szTs (l - t.n) r
theorem szTs_ok : ∀ (ts : List TaskC) (l : Int), l ≤ 1048576 → 0 ≤ szTs l ts → ∀ t ∈ ts, t.n ≤ 1048576
  | [], _, _, _, t, ht => absurd ht (by simp)
  | t :: r, l, hl, h, u, hu => by
    simp only [szTs] at h
    split at h
    · omega
    · rcases List.mem_cons.1 hu with rfl | hu
      · omega
      · exact szTs_ok r (l - t.n) (by omega) h u hu
theorem szTs_le : ∀ (ts : List TaskC) (l : Int), -1 ≤ l → -1 ≤ szTs l ts ∧ szTs l ts ≤ max l (-1)
  | [], l, h => by simp only [szTs]; omega
  | t :: r, l, h => by
    simp only [szTs]
    split
    · omega
    · have := szTs_le r (l - t.n) (by omega)
      omega
theorem szTs_drop {ts : List TaskC} {k : Nat} (hk : k < ts.length) (l : Int) : szTs l (ts.drop k) = if l < ts[k].n then -1 else szTs (l - ts[k].n) (ts.drop (k + 1)) := by
  rw [List.drop_eq_getElem_cons hk]
  rfl
set_option maxHeartbeats 800000 in
theorem szTaskS (A : Option Addr) (n c : Nat) (left : Int) (w : World) (hn : n ≤ maxLen) (hl : 0 ≤ left) (hl2 : left ≤ 1048576) (ts : List TaskC) (hx : (n : Int) ≤ left → ts.length = n ∧ Rd w A ts ∧ ∀ t ∈ ts, t.n ≤ maxLen) :
    Calls Try.prog 5 #[.slice A n c, .int .i64 left] w fun e w' => e = .returned (.int .i64 (if left < n then -1 else szTs (left - n) ts)) ∧ Below w.heap.size w w' := by
  unfold maxLen at hn
  by_cases h : left < n
  · rw [if_pos h]
    go_enter Try.func5, Try.ntmps5
    go_wp2_with fail
    go_ret
    exact ⟨rfl, Below.refl _ _⟩
  · rw [if_neg h]
    obtain ⟨rfl, hr, hm⟩ := hx (by omega)
    go_enter Try.func5, Try.ntmps5
    go_wp2_with fail
    go_loopw [1, 5] (fun y i wr => ∃ (k : Nat) (l : Int), k ≤ ts.length ∧ i = .int .i64 k ∧ y = .int .i64 l ∧ 0 ≤ l ∧ l ≤ 1048576 ∧ szTs l (ts.drop k) = szTs (left - ts.length) ts ∧ ∃ q, wr = w.more q) (fun _ i _ => ts.length - (intOf i).toNat)
    case atStart => exact ⟨0, _, Nat.zero_le _, rfl, rfl, by omega, by omega, rfl, more_self⟩
    case round =>
      obtain ⟨k, l, hk, rfl, rfl, hl0, hl1, hsz, q, rfl⟩ := hrel
      by_cases hlt : k < ts.length
      · obtain ⟨b, off, rfl, hc⟩ := hr.2 k hlt
        have c1 : w.cell? ⟨b, off + k * 4, none⟩ = _ := hc 0 _ rfl
        have c2 : w.cell? ⟨b, off + k * 4 + 1, none⟩ = _ := hc 1 _ rfl
        have c3 : w.cell? ⟨b, off + k * 4 + 2, none⟩ = _ := hc 2 _ rfl
        have c4 : w.cell? ⟨b, off + k * 4 + 3, none⟩ = _ := hc 3 _ rfl
        have hnk := hm ts[k] (List.getElem_mem hlt)
        rw [szTs_drop hlt] at hsz
        by_cases hs : l < ts[k].n
        · rw [if_pos hs] at hsz
          have HS := hid hsz
          clear hsz hr hm hc
          go_wp2_with fail
          refine (szTask ts[k] l _ hnk hl0 hl1).mono ?_
          rintro e w' ⟨rfl, hb⟩
          unfold szT
          rw [if_pos hs]
          go_wp2_with fail
          go_ret
          exact ⟨ret_int HS.out, more_below.trans (hb.mono more_size)⟩
        · rw [if_neg hs] at hsz
          have HS := hid hsz
          clear hsz hr hm hc
          go_wp2_with fail
          refine (szTask ts[k] l _ hnk hl0 hl1).mono ?_
          rintro e w' ⟨rfl, hb⟩
          unfold szT
          rw [if_neg (by omega)]
          obtain ⟨z, rfl⟩ := below_ex hb
          go_wp2_with fail
          go_roundw
          case rel => exact ⟨k + 1, _, by omega, by go_num, rfl, by omega, by omega, HS.out, more_trans⟩
          case measure => simp [intOf]; omega
      · have ht : ts.drop k = [] := List.drop_of_length_le (by omega)
        rw [ht] at hsz
        have HS := hid hsz
        clear hsz hr hm
        go_wp2_with fail
        go_ret
        exact ⟨ret_int HS.out, more_below⟩

set_option maxHeartbeats 800000 in
theorem toTask (d c y : Int) (A : Option Addr) (q : Nat) (l : List Int) (w : World) (h : Rd w A l) :
    Calls Try.prog 31 #[.agg #[.int .i64 d, .int .i64 c, .int .i64 y, .slice A l.length q]] w fun e w' => ∃ v, e = .returned (.agg #[.int .i64 d, .int .i64 c, .int .i64 y, v]) ∧ Own w' w.heap.size 2 v l ∧ Below w.heap.size w w' := by
  go_enter Try.func31, Try.ntmps31
  go_wp2_with fail
  refine (toInt64S _ _ _ _ (((h.alloc _).alloc _).alloc _)).mono ?_
  rintro e w1 ⟨v, rfl, ho, hb⟩
  obtain ⟨P, k, rfl⟩ := ho.form
  have hb2 : Below w.heap.size w w1 := ((((Below.refl _ _).alloc (Nat.le_refl _) _).alloc (by simp) _).alloc (by simp; omega) _).trans (hb.mono (by simp; omega))
  have ho2 : Own w1 (w.heap.size + 1 + 1 + 1) 2 (.slice P l.length k) l := by simpa using ho
  have HO := hid ho2
  have hs1 : w.heap.size + 1 < w1.heap.size := by have := hb.size; simp at this; omega
  have a0 : w1.cell? ⟨w.heap.size + 1, 0, none⟩ = some (.int .i64 0) := box_cell hb (by simp [go_sem])
  have af0 : w1.frozen? ⟨w.heap.size + 1, 0, none⟩ = false := box_free hb (by simp [go_sem]) (by simp [go_sem])
  have a1 : w1.cell? ⟨w.heap.size + 1, 1, none⟩ = some (.int .i64 0) := box_cell hb (by simp [go_sem])
  have af1 : w1.frozen? ⟨w.heap.size + 1, 1, none⟩ = false := box_free hb (by simp [go_sem]) (by simp [go_sem])
  have a2 : w1.cell? ⟨w.heap.size + 1, 2, none⟩ = some (.int .i64 0) := box_cell hb (by simp [go_sem])
  have af2 : w1.frozen? ⟨w.heap.size + 1, 2, none⟩ = false := box_free hb (by simp [go_sem]) (by simp [go_sem])
  have a3 : w1.cell? ⟨w.heap.size + 1, 3, none⟩ = some (.slice none 0 0) := box_cell hb (by simp [go_sem])
  have af3 : w1.frozen? ⟨w.heap.size + 1, 3, none⟩ = false := box_free hb (by simp [go_sem]) (by simp [go_sem])
  have b0 : w1.cell? ⟨w.heap.size + 1 + 1, 0, none⟩ = some (.int .i64 d) := box_cell hb (by simp [go_sem])
  have bf0 : w1.frozen? ⟨w.heap.size + 1 + 1, 0, none⟩ = false := box_free hb (by simp [go_sem]) (by simp [go_sem])
  have b1 : w1.cell? ⟨w.heap.size + 1 + 1, 1, none⟩ = some (.int .i64 c) := box_cell hb (by simp [go_sem])
  have bf1 : w1.frozen? ⟨w.heap.size + 1 + 1, 1, none⟩ = false := box_free hb (by simp [go_sem]) (by simp [go_sem])
  have b2 : w1.cell? ⟨w.heap.size + 1 + 1, 2, none⟩ = some (.int .i64 y) := box_cell hb (by simp [go_sem])
  have bf2 : w1.frozen? ⟨w.heap.size + 1 + 1, 2, none⟩ = false := box_free hb (by simp [go_sem]) (by simp [go_sem])
  have b3 : w1.cell? ⟨w.heap.size + 1 + 1, 3, none⟩ = some (.slice none 0 0) := box_cell hb (by simp [go_sem])
  have bf3 : w1.frozen? ⟨w.heap.size + 1 + 1, 3, none⟩ = false := box_free hb (by simp [go_sem]) (by simp [go_sem])
  clear ho ho2 hb h
  go_wp2_with fail
  refine bodyPost_ret (v := .agg #[.int .i64 d, .int .i64 c, .int .i64 y, .slice P l.length k]) (by simp [results, Try.results31, go_sem, a0, a1, a2, a3]) rfl ⟨_, rfl, ?_, ?_⟩
  · exact (((((HO.out.past (by simp) _).past (by simp) _).past (by simp) _).past (by simp) _).past (by simp) _).mono (by omega)
  · exact ((((hb2.setCell (by simp; omega) _).setCell (by simp) _).setCell (by simp) _).setCell (by simp) _).setCell (by simp) _

theorem Own.task {w : World} {base : Nat} {e : TypeId} {g n c : Nat} {ts : List TaskC} (h : Own w base e (.slice (some ⟨g, 0, none⟩) n c) ts) {k : Nat} (hk : k < ts.length) :
    (w.cell? ⟨g, k * 4, none⟩ = some (.int .i64 ts[k].d) ∧ w.cell? ⟨g, k * 4 + 1, none⟩ = some (.int .i64 ts[k].c) ∧ w.cell? ⟨g, k * 4 + 2, none⟩ = some (.int .i64 ts[k].y) ∧ w.cell? ⟨g, k * 4 + 3, none⟩ = some (.slice ts[k].A ts[k].n ts[k].q)) ∧
    (w.frozen? ⟨g, k * 4, none⟩ = false ∧ w.frozen? ⟨g, k * 4 + 1, none⟩ = false ∧ w.frozen? ⟨g, k * 4 + 2, none⟩ = false ∧ w.frozen? ⟨g, k * 4 + 3, none⟩ = false) :=
  ⟨⟨h.cell (j := 0) hk rfl, h.cell (j := 1) hk rfl, h.cell (j := 2) hk rfl, h.cell (j := 3) hk rfl⟩, h.free _, h.free _, h.free _, h.free _⟩
theorem Own.taskSet {w : World} {base : Nat} {e : TypeId} {g n c : Nat} {ts : List TaskC} (h : Own w base e (.slice (some ⟨g, 0, none⟩) n c) ts) {k : Nat} (hk : k < ts.length) (t : TaskC) :
    Own ((((w.setCell ⟨g, k * 4, none⟩ (.int .i64 t.d)).setCell ⟨g, k * 4 + 1, none⟩ (.int .i64 t.c)).setCell ⟨g, k * 4 + 2, none⟩ (.int .i64 t.y)).setCell ⟨g, k * 4 + 3, none⟩ (.slice t.A t.n t.q)) base e (.slice (some ⟨g, 0, none⟩) n c) (ts.set k t) := by
  have h1 := h.set (j := 0) (u := .int .i64 t.d) (y := { ts[k] with d := t.d }) hk (by decide) rfl
  have h2 := h1.set (j := 1) (u := .int .i64 t.c) (y := { ts[k] with d := t.d, c := t.c }) (k := k) (by simpa using hk) (by decide) (by simp [Enc.enc])
  have h3 := h2.set (j := 2) (u := .int .i64 t.y) (y := { ts[k] with d := t.d, c := t.c, y := t.y }) (k := k) (by simpa using hk) (by decide) (by simp [Enc.enc])
  have h4 := h3.set (j := 3) (u := .slice t.A t.n t.q) (y := t) (k := k) (by simpa using hk) (by decide) (by simp [Enc.enc])
  simp only [List.set_set] at h4
  exact h4
/-- The first k tasks and their inner slices, all the call's own. -/
def TkO (w : World) (base : Nat) (ts : List TaskC) (xs : List Task) (k : Nat) : Prop :=
  ts.length = xs.length ∧ (∀ i, (h : i < ts.length) → (h' : i < xs.length) → i < k →
    ts[i].d = xs[i].days ∧ ts[i].c = xs[i].cost ∧ ts[i].y = xs[i].clay ∧ ts[i].n = xs[i].after.length ∧ Own w base 2 (.slice ts[i].A ts[i].n ts[i].q) xs[i].after) ∧
  ∀ i j gi gj, i < j → j < k → (hi : i < ts.length) → (hj : j < ts.length) → (Value.slice ts[i].A ts[i].n ts[i].q).ownBlock = some gi → (Value.slice ts[j].A ts[j].n ts[j].q).ownBlock = some gj → gi < gj
theorem TkO.zero {w : World} {base : Nat} {ts : List TaskC} {xs : List Task} (h : ts.length = xs.length) : TkO w base ts xs 0 := ⟨h, fun i _ _ hi => absurd hi (by omega), fun i j _ _ _ hj => absurd hj (by omega)⟩
theorem TkO.more {w x : World} {base : Nat} {ts : List TaskC} {xs : List Task} {k : Nat} (h : TkO w base ts xs k) : TkO (w.more x) base ts xs k :=
  ⟨h.1, fun i h1 h2 h3 => by obtain ⟨a, b, c, d, e⟩ := h.2.1 i h1 h2 h3; exact ⟨a, b, c, d, e.more⟩, h.2.2⟩
theorem TkO.past {w : World} {base : Nat} {ts : List TaskC} {xs : List Task} {k : Nat} (h : TkO w base ts xs k) {p : Addr} (hp : p.block < base) (u : Value) : TkO (w.setCell p u) base ts xs k :=
  ⟨h.1, fun i h1 h2 h3 => by obtain ⟨a, b, c, d, e⟩ := h.2.1 i h1 h2 h3; exact ⟨a, b, c, d, e.past hp u⟩, h.2.2⟩
theorem TkO.next {w : World} {base : Nat} {ts : List TaskC} {xs : List Task} {k : Nat} (h : TkO w base ts xs k) (hk : k < xs.length) {P : Option Addr} {q : Nat} (ho : Own w base 2 (.slice P xs[k].after.length q) xs[k].after)
    (hnew : ∀ g, (Value.slice P xs[k].after.length q).ownBlock = some g → ∀ i, i < k → (hi : i < ts.length) → ∀ gi, (Value.slice ts[i].A ts[i].n ts[i].q).ownBlock = some gi → gi < g) :
    TkO w base (ts.set k ⟨xs[k].days, xs[k].cost, xs[k].clay, P, xs[k].after.length, q⟩) xs (k + 1) := by
  refine ⟨by simpa using h.1, fun i h1 h2 h3 => ?_, fun i j gi gj hij hjk h1 h2 => ?_⟩
  rotate_left
  · have g1 : i < ts.length := by simpa using h1
    have g2 : j < ts.length := by simpa using h2
    rw [List.getElem_set_ne (by omega)]
    by_cases hj : j = k
    · subst hj
      simp only [List.getElem_set_self]
      exact fun e1 e2 => hnew gj e2 i hij g1 gi e1
    · rw [List.getElem_set_ne (by omega)]
      exact h.2.2 i j gi gj hij (by omega) g1 g2
  rw [List.length_set] at h1
  by_cases hik : i = k
  · subst hik
    simp only [List.getElem_set_self]
    exact ⟨trivial, trivial, trivial, trivial, ho⟩
  · rw [List.getElem_set_ne (by omega)]
    exact h.2.1 i h1 h2 (by omega)
/-- A slice of tasks, all of it the call's own, blocks below hi. -/
def DeepT (w : World) (base : Nat) (v : Value) (xs : List Task) : Prop := ∃ ts : List TaskC, ∃ b2, base ≤ b2 ∧ (∀ g, v.ownBlock = some g → g < b2) ∧ Own w base 44 v ts ∧ TkO w b2 ts xs xs.length
theorem DeepT.rd {w : World} {base : Nat} {A : Option Addr} {n q : Nat} {xs : List Task} (h : DeepT w base (.slice A n q) xs) (hl : xs.length ≤ 1048576) (hi : ∀ x ∈ xs, x.after.length ≤ 1048576) : RdT w A xs := by
  obtain ⟨ts, b2, _, _, h1, h2⟩ := h
  refine ⟨ts, h1.rd (by rw [h2.1]; exact hl), h2.1, fun k h3 h4 => ?_⟩
  obtain ⟨a, b, c, d, e⟩ := h2.2.1 k h3 h4 (by omega)
  exact ⟨a, b, c, d, e.rd (hi _ (List.getElem_mem h4))⟩
theorem DeepT.form {w : World} {base : Nat} {v : Value} {xs : List Task} (h : DeepT w base v xs) : ∃ A c, v = .slice A xs.length c := by
  obtain ⟨ts, b2, _, _, h1, h2⟩ := h
  rw [← h2.1]
  exact h1.form
theorem DeepT.more {w x : World} {base : Nat} {v : Value} {xs : List Task} (h : DeepT w base v xs) : DeepT (w.more x) base v xs := by
  obtain ⟨ts, b2, h0, h3, h1, h2⟩ := h
  exact ⟨ts, b2, h0, h3, h1.more, h2.more⟩

set_option maxHeartbeats 1000000 in
theorem toTaskS (A : Option Addr) (xs : List Task) (c : Nat) (w : World) (hx : RdT w A xs) :
    Calls Try.prog 7 #[.slice A xs.length c] w fun e w' => ∃ v, e = .returned v ∧ DeepT w' w.heap.size v xs ∧ Below w.heap.size w w' := by
  have hn := hx.len
  go_enter Try.func7, Try.ntmps7
  go_wp2_with (at_make; refine wpList_make' elTask0 _ rfl _ _ rfl w.heap.size .i64 .i64 _ _ xs.length rfl rfl rfl rfl hn (Nat.le_refl _) ?_; intro w1 hown hb1)
  go_loopw [4] (fun i wr => ∃ (k : Nat) (ts : List TaskC), k ≤ xs.length ∧ i = .int .i64 k ∧ Own wr w.heap.size 44 (.slice (some ⟨w.heap.size, 0, none⟩) xs.length xs.length) ts ∧ TkO wr (w.heap.size + 1) ts xs k ∧ Below w.heap.size w wr ∧ w.heap.size + 1 ≤ wr.heap.size) (fun i _ => xs.length - (intOf i).toNat)
  case atStart => exact ⟨0, _, Nat.zero_le _, rfl, hown, TkO.zero (by simp), hb1, (hown.block _ rfl).2⟩
  case round =>
    obtain ⟨k, ts, hk, rfl, hown, htk, hb, hsz⟩ := hrel
    clear hb1
    by_cases hlt : k < xs.length
    · obtain ⟨b, off, P, q, rfl, c1, c2, c3, c4, hP⟩ := (hx.below hb).at_ hlt
      have hk' : k < ts.length := by rw [htk.1]; exact hlt
      clear hx
      go_wp2_with fail
      refine (toTask _ _ _ _ _ _ _ hP).mono ?_
      rintro e w2 ⟨v2, rfl, ho2, hb2⟩
      obtain ⟨P2, q2, rfl⟩ := ho2.form
      have ho3 := ho2.mono hsz
      have hown2 := hown.below hb2
      obtain ⟨⟨d1, d2, d3, d4⟩, f1, f2, f3, f4⟩ := hown2.task hk'
      have hown3 := hown2.taskSet hk' ⟨xs[k].days, xs[k].cost, xs[k].clay, P2, xs[k].after.length, q2⟩
      obtain ⟨y, hy⟩ := below_ex hb2
      have htk2 : TkO w2 (w.heap.size + 1) ts xs k := by rw [hy]; exact htk.more
      have htk3 := htk2.next hlt ho3 fun g hg i hik hi gi hgi => by
        have h1 := (ho2.block g hg).1
        have h2 := ((htk.2.1 i hi (by omega) hik).2.2.2.2.block gi (by have e := (htk.2.1 i hi (by omega) hik).2.2.2.1; exact hgi)).2
        omega
      have HO := hid hown3
      have hb3 := hb.trans (hb2.mono hb.size)
      have hs2 := hb2.size
      have HT : Hid _ := (((htk3.past (p := ⟨w.heap.size, k * 4, none⟩) (by simp) (.int .i64 xs[k].days)).past (p := ⟨w.heap.size, k * 4 + 1, none⟩) (by simp) (.int .i64 xs[k].cost)).past (p := ⟨w.heap.size, k * 4 + 2, none⟩) (by simp) (.int .i64 xs[k].clay)).past (p := ⟨w.heap.size, k * 4 + 3, none⟩) (by simp) (.slice P2 xs[k].after.length q2)
      clear hown hown2 hown3 htk htk2 htk3 ho2 ho3 hy y hb2
      go_wp2_with fail
      go_roundw
      case rel => exact ⟨k + 1, _, by omega, by go_num, HO.out, HT.out, (((hb3.setCell (Nat.le_refl _) _).setCell (Nat.le_refl _) _).setCell (Nat.le_refl _) _).setCell (Nat.le_refl _) _, by simp [World.setCell]; omega⟩
      case measure => simp [intOf]; omega
    · have hkl : k = xs.length := by omega
      have HT := hid htk
      have HO := hid hown
      have HK := hid hkl
      clear htk hown hkl hx
      go_wp2_with fail
      go_ret
      exact ⟨_, rfl, ⟨ts, w.heap.size + 1, by omega, fun g hg => by simp [Value.ownBlock] at hg; omega, HO.out, by have := HT.out; rw [HK.out] at this; exact this⟩, hb⟩

set_option maxHeartbeats 800000 in
theorem eqTask (d c y d' c' y' : Int) (A B : Option Addr) (q q' : Nat) (l l' : List Int) (w : World) (hA : Rd w A l) (hB : Rd w B l') :
    Calls Try.prog 39 #[.agg #[.int .i64 d, .int .i64 c, .int .i64 y, .slice A l.length q], .agg #[.int .i64 d', .int .i64 c', .int .i64 y', .slice B l'.length q']] w fun e w' => e = .returned (.bool ((⟨d, c, y, l⟩ : Task) == ⟨d', c', y', l'⟩)) ∧ Below w.heap.size w w' := by
  have hb : ∀ o1 o2, Below w.heap.size w ((w.alloc o1).alloc o2) := fun _ _ => ((Below.refl _ _).alloc (Nat.le_refl _) _).alloc (by simp) _
  have HB := hid hb
  clear hb
  have he : ((⟨d, c, y, l⟩ : Task) == ⟨d', c', y', l'⟩) = (d == d' && c == c' && y == y' && l == l') := by rw [Bool.eq_iff_iff]; simp [and_assoc]
  rw [he]
  clear he
  by_cases h1 : d = d'
  · by_cases h2 : c = c'
    · by_cases h3 : y = y'
      · subst h1 h2 h3
        by_cases h4 : l = l'
        · have h4' : (l == l') = true := by simp [h4]
          have H4 := hid h4
          clear h4
          go_enter Try.func39, Try.ntmps39
          go_wp2_with fail
          refine (eqInt64S _ _ _ _ _ _ _ ((hA.alloc _).alloc _) ((hB.alloc _).alloc _)).mono ?_
          rintro e w1 ⟨rfl, hb⟩
          rw [h4']
          go_wp2_with fail
          go_ret
          exact ⟨ret_bool (by rw [h4']; simp), (HB.out _ _).trans (hb.mono (by simp; omega))⟩
        · have h4' : (l == l') = false := by simp [h4]
          have H4 := hid h4
          clear h4
          go_enter Try.func39, Try.ntmps39
          go_wp2_with fail
          refine (eqInt64S _ _ _ _ _ _ _ ((hA.alloc _).alloc _) ((hB.alloc _).alloc _)).mono ?_
          rintro e w1 ⟨rfl, hb⟩
          rw [h4']
          go_wp2_with fail
          go_ret
          exact ⟨ret_bool (by rw [h4']; simp), (HB.out _ _).trans (hb.mono (by simp; omega))⟩
      · subst h1 h2
        have h3' : (y != y') = true := by simp [h3]
        go_enter Try.func39, Try.ntmps39
        go_wp2_with fail
        go_ret
        exact ⟨ret_bool (by simp [h3]), HB.out _ _⟩
    · subst h1
      have h2' : (c != c') = true := by simp [h2]
      go_enter Try.func39, Try.ntmps39
      go_wp2_with fail
      go_ret
      exact ⟨ret_bool (by simp [h2]), HB.out _ _⟩
  · have h1' : (d != d') = true := by simp [h1]
    go_enter Try.func39, Try.ntmps39
    go_wp2_with fail
    go_ret
    exact ⟨ret_bool (by simp [h1]), HB.out _ _⟩

set_option maxHeartbeats 800000 in
theorem eqTaskS (A B : Option Addr) (xs ys : List Task) (c d : Nat) (w : World) (hx : RdT w A xs) (hy : RdT w B ys) :
    Calls Try.prog 11 #[.slice A xs.length c, .slice B ys.length d] w fun e w' => e = .returned (.bool (xs == ys)) ∧ Below w.heap.size w w' := by
  have hn := hx.len
  have hm := hy.len
  by_cases hl : xs.length = ys.length
  · have Hl := hid hl
    have hl' : ((xs.length : Int) != ys.length) = false := by simp [hl]
    clear hl
    go_enter Try.func11, Try.ntmps11
    go_wp2_with fail
    go_loopw [5] (fun i wr => ∃ k : Nat, k ≤ xs.length ∧ i = .int .i64 k ∧ xs.take k = ys.take k ∧ (∃ m, wr = w.more m)) (fun i _ => xs.length - (intOf i).toNat)
    case atStart => exact ⟨0, Nat.zero_le _, rfl, rfl, more_self⟩
    case round =>
      obtain ⟨k, hk, rfl, ht, m, rfl⟩ := hrel
      have Ht := hid ht
      clear ht
      by_cases hlt : k < xs.length
      · have hlt2 : k < ys.length := by rw [← Hl.out]; exact hlt
        obtain ⟨b, off, P, q, rfl, c1, c2, c3, c4, hP⟩ := hx.at_ hlt
        obtain ⟨b', off', P', q', rfl, d1, d2, d3, d4, hP'⟩ := hy.at_ hlt2
        clear hx hy
        by_cases he : xs[k] = ys[k]
        · have heb : ((⟨xs[k].days, xs[k].cost, xs[k].clay, xs[k].after⟩ : Task) == ⟨ys[k].days, ys[k].cost, ys[k].clay, ys[k].after⟩) = true := by rw [he]; simp
          have He := hid he
          clear he
          go_wp2_with fail
          refine wp_region_more (by kernel_rfl) (by kernel_rfl) ?_
          repeat (go_big_quiet_step ((go_at_call 39; exact quiet_below (eqTask _ _ _ _ _ _ _ _ _ _ _ _ _ hP.more.more hP'.more.more))))
          refine wpQuiet_nil ?_
          rintro _ ⟨nq, rfl⟩
          rw [heb]
          go_wp2_with fail
          go_roundw
          case rel => exact ⟨k + 1, by omega, by go_num, same_step hlt hlt2 Ht.out He.out, more_trans⟩
          case measure => simp [intOf]; omega
        · have heb : ((⟨xs[k].days, xs[k].cost, xs[k].clay, xs[k].after⟩ : Task) == ⟨ys[k].days, ys[k].cost, ys[k].clay, ys[k].after⟩) = false := beq_no he
          have He := hid he
          clear he
          go_wp2_with fail
          refine wp_region_more (by kernel_rfl) (by kernel_rfl) ?_
          repeat (go_big_quiet_step ((go_at_call 39; exact quiet_below (eqTask _ _ _ _ _ _ _ _ _ _ _ _ _ hP.more.more hP'.more.more))))
          refine wpQuiet_nil ?_
          rintro _ ⟨nq, rfl⟩
          rw [heb]
          go_wp2_with fail
          go_ret
          exact ⟨ret_bool (same_no hlt hlt2 He.out), below_go more_below more_size⟩
      · go_wp2_with fail
        go_ret
        exact ⟨ret_bool (same_all Hl.out hlt Ht.out), more_below⟩
  · have Hl := hid hl
    have hl' : ((xs.length : Int) != ys.length) = true := by rw [bne_iff_ne]; omega
    clear hl
    go_enter Try.func11, Try.ntmps11
    go_wp2_with fail
    go_ret
    exact ⟨ret_bool (same_short Hl.out), Below.refl _ _⟩

end Go.Proofs.Ytdlddlgpaokgiaa
