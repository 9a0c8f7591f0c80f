/- Tasks: what a slice of them is in cells (a slice inside each), and what the law's own helpers make of it. -/
import Derived.Test.YtampbbknhbhcbaaDoorKind
namespace Go.Proofs.YtampbbknhbhcbaaDoor
open Go.RowKit
set_option linter.unusedVariables false
structure Task where
  days : Int
  cost : Int
  clay : Int
  after : List Int
  deriving DecidableEq
/-- A task as its cells. -/
structure TaskC where
  d : Int
  c : Int
  y : Int
  A : Option Addr
  n : Nat
  q : Nat
instance : Enc TaskC := ⟨4, fun t => [.int .i64 t.d, .int .i64 t.c, .int .i64 t.y, .slice t.A t.n t.q], fun _ => rfl, fun _ u h => by simp at h; rcases h with rfl | rfl | rfl | rfl <;> rfl⟩
def Tks (w : World) (ts : List TaskC) (xs : List Task) : Prop :=
  ts.length = xs.length ∧ ∀ k, (h : k < ts.length) → (h' : k < xs.length) → ts[k].d = xs[k].days ∧ ts[k].c = xs[k].cost ∧ ts[k].y = xs[k].clay ∧ ts[k].n = xs[k].after.length ∧ Rd w ts[k].A xs[k].after
def RdT (w : World) (A : Option Addr) (xs : List Task) : Prop := ∃ ts : List TaskC, Rd w A ts ∧ Tks w ts xs
section
variable {w w' x : World} {A : Option Addr} {xs : List Task} {ts : List TaskC}
theorem Tks.below (h : Tks w ts xs) (hb : Below w.heap.size w w') : Tks w' ts xs :=
  ⟨h.1, fun k h1 h2 => by obtain ⟨a, b, c, d, e⟩ := h.2 k h1 h2; exact ⟨a, b, c, d, e.below hb⟩⟩
theorem RdT.len (h : RdT w A xs) : xs.length ≤ 1048576 := by obtain ⟨ts, h1, h2⟩ := h; rw [← h2.1]; exact h1.len
theorem RdT.below (h : RdT w A xs) (hb : Below w.heap.size w w') : RdT w' A xs := by obtain ⟨ts, h1, h2⟩ := h; exact ⟨ts, h1.below hb, h2.below hb⟩
theorem RdT.more (h : RdT w A xs) : RdT (w.more x) A xs := h.below more_below
theorem RdT.alloc (h : RdT w A xs) (o : Obj) : RdT (w.alloc o) A xs := h.below ((Below.refl _ _).alloc (Nat.le_refl _) o)
theorem RdT.at_ (h : RdT w A xs) {k : Nat} (hk : k < xs.length) : ∃ b off P q, A = some ⟨b, off, none⟩ ∧
    w.cell? ⟨b, off + k * 4, none⟩ = some (.int .i64 xs[k].days) ∧ w.cell? ⟨b, off + k * 4 + 1, none⟩ = some (.int .i64 xs[k].cost) ∧ w.cell? ⟨b, off + k * 4 + 2, none⟩ = some (.int .i64 xs[k].clay) ∧
    w.cell? ⟨b, off + k * 4 + 3, none⟩ = some (.slice P xs[k].after.length q) ∧ Rd w P xs[k].after := by
  obtain ⟨ts, h1, h2⟩ := h
  have hk' : k < ts.length := by rw [h2.1]; exact hk
  obtain ⟨b, off, hA, hc⟩ := h1.2 k hk'
  obtain ⟨e1, e2, e3, e4, e5⟩ := h2.2 k hk' hk
  exact ⟨b, off, ts[k].A, ts[k].q, hA, by rw [← e1]; exact hc 0 _ rfl, by rw [← e2]; exact hc 1 _ rfl, by rw [← e3]; exact hc 2 _ rfl, by rw [← e4]; exact hc 3 _ rfl, e5⟩
end

def szT (left : Int) (t : TaskC) : Int := if left < t.n then -1 else left - t.n
set_option maxHeartbeats 400000 in
theorem szTask (t : TaskC) (left : Int) (w : World) (hn : t.n ≤ maxLen) (hl : 0 ≤ left) (hl2 : left ≤ 1048576) :
    Calls Tryd.prog 23 #[.agg #[.int .i64 t.d, .int .i64 t.c, .int .i64 t.y, .slice t.A t.n t.q], .int .i64 left] w fun e w' => e = .returned (.int .i64 (szT left t)) ∧ Below w.heap.size w w' := by
  unfold szT
  by_cases h : left < t.n
  · rw [if_pos h]
    go_enter Tryd.func23, Tryd.ntmps23
    go_wp2_with fail
    refine (szInt64S _ _ _ _ _ hn hl hl2).mono ?_
    rintro e w' ⟨rfl, rfl⟩
    rw [if_pos h]
    go_wp2_with fail
    go_ret
    exact ⟨rfl, (Below.refl _ _).alloc (Nat.le_refl _) _⟩
  · rw [if_neg h]
    go_enter Tryd.func23, Tryd.ntmps23
    go_wp2_with fail
    refine (szInt64S _ _ _ _ _ hn hl hl2).mono ?_
    rintro e w' ⟨rfl, rfl⟩
    rw [if_neg (by omega)]
    go_wp2_with fail
    go_ret
    exact ⟨rfl, (Below.refl _ _).alloc (Nat.le_refl _) _⟩

/-- All inner slices fit; 'szTs l ts' is what is left. -/

def szTs : Int → List TaskC → Int
  | l, [] => l
  | l, t :: r => if l < t.n then -1 else szTs (l - t.n) r
theorem szTs_ok : ∀ (ts : List TaskC) (l : Int), l ≤ 1048576 → 0 ≤ szTs l ts → ∀ t ∈ ts, t.n ≤ 1048576
  | [], _, _, _, t, ht => absurd ht (by simp)
  | t :: r, l, hl, h, u, hu => by
    simp only [szTs] at h
    split at h
    · omega
    · rcases List.mem_cons.1 hu with rfl | hu
      · omega
      · exact szTs_ok r (l - t.n) (by omega) h u hu
theorem szTs_le : ∀ (ts : List TaskC) (l : Int), -1 ≤ l → -1 ≤ szTs l ts ∧ szTs l ts ≤ max l (-1)
  | [], l, h => by simp only [szTs]; omega
  | t :: r, l, h => by
    simp only [szTs]
    split
    · omega
    · have := szTs_le r (l - t.n) (by omega)
      omega
theorem szTs_drop {ts : List TaskC} {k : Nat} (hk : k < ts.length) (l : Int) : szTs l (ts.drop k) = if l < ts[k].n then -1 else szTs (l - ts[k].n) (ts.drop (k + 1)) := by
  rw [List.drop_eq_getElem_cons hk]
  rfl

set_option maxHeartbeats 800000 in
theorem toTask (d c y : Int) (A : Option Addr) (q : Nat) (l : List Int) (w : World) (h : Rd w A l) :
    Calls Tryd.prog 25 #[.agg #[.int .i64 d, .int .i64 c, .int .i64 y, .slice A l.length q]] w fun e w' => ∃ v, e = .returned (.agg #[.int .i64 d, .int .i64 c, .int .i64 y, v]) ∧ Own w' w.heap.size 2 v l ∧ Below w.heap.size w w' := by
  go_enter Tryd.func25, Tryd.ntmps25
  go_wp2_with fail
  refine (toInt64S _ _ _ _ (((h.alloc _).alloc _).alloc _)).mono ?_
  rintro e w1 ⟨v, rfl, ho, hb⟩
  obtain ⟨P, k, rfl⟩ := ho.form
  have hb2 : Below w.heap.size w w1 := ((((Below.refl _ _).alloc (Nat.le_refl _) _).alloc (by simp) _).alloc (by simp; omega) _).trans (hb.mono (by simp; omega))
  have ho2 : Own w1 (w.heap.size + 1 + 1 + 1) 2 (.slice P l.length k) l := by simpa using ho
  have HO := hid ho2
  have hs1 : w.heap.size + 1 < w1.heap.size := by have := hb.size; simp at this; omega
  have a0 : w1.cell? ⟨w.heap.size + 1, 0, none⟩ = some (.int .i64 0) := box_cell hb (by simp [go_sem])
  have af0 : w1.frozen? ⟨w.heap.size + 1, 0, none⟩ = false := box_free hb (by simp [go_sem]) (by simp [go_sem])
  have a1 : w1.cell? ⟨w.heap.size + 1, 1, none⟩ = some (.int .i64 0) := box_cell hb (by simp [go_sem])
  have af1 : w1.frozen? ⟨w.heap.size + 1, 1, none⟩ = false := box_free hb (by simp [go_sem]) (by simp [go_sem])
  have a2 : w1.cell? ⟨w.heap.size + 1, 2, none⟩ = some (.int .i64 0) := box_cell hb (by simp [go_sem])
  have af2 : w1.frozen? ⟨w.heap.size + 1, 2, none⟩ = false := box_free hb (by simp [go_sem]) (by simp [go_sem])
  have a3 : w1.cell? ⟨w.heap.size + 1, 3, none⟩ = some (.slice none 0 0) := box_cell hb (by simp [go_sem])
  have af3 : w1.frozen? ⟨w.heap.size + 1, 3, none⟩ = false := box_free hb (by simp [go_sem]) (by simp [go_sem])
  have b0 : w1.cell? ⟨w.heap.size + 1 + 1, 0, none⟩ = some (.int .i64 d) := box_cell hb (by simp [go_sem])
  have bf0 : w1.frozen? ⟨w.heap.size + 1 + 1, 0, none⟩ = false := box_free hb (by simp [go_sem]) (by simp [go_sem])
  have b1 : w1.cell? ⟨w.heap.size + 1 + 1, 1, none⟩ = some (.int .i64 c) := box_cell hb (by simp [go_sem])
  have bf1 : w1.frozen? ⟨w.heap.size + 1 + 1, 1, none⟩ = false := box_free hb (by simp [go_sem]) (by simp [go_sem])
  have b2 : w1.cell? ⟨w.heap.size + 1 + 1, 2, none⟩ = some (.int .i64 y) := box_cell hb (by simp [go_sem])
  have bf2 : w1.frozen? ⟨w.heap.size + 1 + 1, 2, none⟩ = false := box_free hb (by simp [go_sem]) (by simp [go_sem])
  have b3 : w1.cell? ⟨w.heap.size + 1 + 1, 3, none⟩ = some (.slice none 0 0) := box_cell hb (by simp [go_sem])
  have bf3 : w1.frozen? ⟨w.heap.size + 1 + 1, 3, none⟩ = false := box_free hb (by simp [go_sem]) (by simp [go_sem])
  clear ho ho2 hb h
  go_wp2_with fail
  refine bodyPost_ret (v := .agg #[.int .i64 d, .int .i64 c, .int .i64 y, .slice P l.length k]) (by simp [results, Tryd.results25, go_sem, a0, a1, a2, a3]) rfl ⟨_, rfl, ?_, ?_⟩
  · exact (((((HO.out.past (by simp) _).past (by simp) _).past (by simp) _).past (by simp) _).past (by simp) _).mono (by omega)
  · exact ((((hb2.setCell (by simp; omega) _).setCell (by simp) _).setCell (by simp) _).setCell (by simp) _).setCell (by simp) _

theorem Own.task {w : World} {base : Nat} {e : TypeId} {g n c : Nat} {ts : List TaskC} (h : Own w base e (.slice (some ⟨g, 0, none⟩) n c) ts) {k : Nat} (hk : k < ts.length) :
    (w.cell? ⟨g, k * 4, none⟩ = some (.int .i64 ts[k].d) ∧ w.cell? ⟨g, k * 4 + 1, none⟩ = some (.int .i64 ts[k].c) ∧ w.cell? ⟨g, k * 4 + 2, none⟩ = some (.int .i64 ts[k].y) ∧ w.cell? ⟨g, k * 4 + 3, none⟩ = some (.slice ts[k].A ts[k].n ts[k].q)) ∧
    (w.frozen? ⟨g, k * 4, none⟩ = false ∧ w.frozen? ⟨g, k * 4 + 1, none⟩ = false ∧ w.frozen? ⟨g, k * 4 + 2, none⟩ = false ∧ w.frozen? ⟨g, k * 4 + 3, none⟩ = false) :=
  ⟨⟨h.cell (j := 0) hk rfl, h.cell (j := 1) hk rfl, h.cell (j := 2) hk rfl, h.cell (j := 3) hk rfl⟩, h.free _, h.free _, h.free _, h.free _⟩
theorem Own.taskSet {w : World} {base : Nat} {e : TypeId} {g n c : Nat} {ts : List TaskC} (h : Own w base e (.slice (some ⟨g, 0, none⟩) n c) ts) {k : Nat} (hk : k < ts.length) (t : TaskC) :
    Own ((((w.setCell ⟨g, k * 4, none⟩ (.int .i64 t.d)).setCell ⟨g, k * 4 + 1, none⟩ (.int .i64 t.c)).setCell ⟨g, k * 4 + 2, none⟩ (.int .i64 t.y)).setCell ⟨g, k * 4 + 3, none⟩ (.slice t.A t.n t.q)) base e (.slice (some ⟨g, 0, none⟩) n c) (ts.set k t) := by
  have h1 := h.set (j := 0) (u := .int .i64 t.d) (y := { ts[k] with d := t.d }) hk (by decide) rfl
  have h2 := h1.set (j := 1) (u := .int .i64 t.c) (y := { ts[k] with d := t.d, c := t.c }) (k := k) (by simpa using hk) (by decide) (by simp [Enc.enc])
  have h3 := h2.set (j := 2) (u := .int .i64 t.y) (y := { ts[k] with d := t.d, c := t.c, y := t.y }) (k := k) (by simpa using hk) (by decide) (by simp [Enc.enc])
  have h4 := h3.set (j := 3) (u := .slice t.A t.n t.q) (y := t) (k := k) (by simpa using hk) (by decide) (by simp [Enc.enc])
  simp only [List.set_set] at h4
  exact h4
/-- The first k tasks and their inner slices, all the call's own. -/
def TkO (w : World) (base : Nat) (ts : List TaskC) (xs : List Task) (k : Nat) : Prop :=
  ts.length = xs.length ∧ (∀ i, (h : i < ts.length) → (h' : i < xs.length) → i < k →
    ts[i].d = xs[i].days ∧ ts[i].c = xs[i].cost ∧ ts[i].y = xs[i].clay ∧ ts[i].n = xs[i].after.length ∧ Own w base 2 (.slice ts[i].A ts[i].n ts[i].q) xs[i].after) ∧
  ∀ i j gi gj, i < j → j < k → (hi : i < ts.length) → (hj : j < ts.length) → (Value.slice ts[i].A ts[i].n ts[i].q).ownBlock = some gi → (Value.slice ts[j].A ts[j].n ts[j].q).ownBlock = some gj → gi < gj
theorem TkO.zero {w : World} {base : Nat} {ts : List TaskC} {xs : List Task} (h : ts.length = xs.length) : TkO w base ts xs 0 := ⟨h, fun i _ _ hi => absurd hi (by omega), fun i j _ _ _ hj => absurd hj (by omega)⟩
theorem TkO.more {w x : World} {base : Nat} {ts : List TaskC} {xs : List Task} {k : Nat} (h : TkO w base ts xs k) : TkO (w.more x) base ts xs k :=
  ⟨h.1, fun i h1 h2 h3 => by obtain ⟨a, b, c, d, e⟩ := h.2.1 i h1 h2 h3; exact ⟨a, b, c, d, e.more⟩, h.2.2⟩
theorem TkO.past {w : World} {base : Nat} {ts : List TaskC} {xs : List Task} {k : Nat} (h : TkO w base ts xs k) {p : Addr} (hp : p.block < base) (u : Value) : TkO (w.setCell p u) base ts xs k :=
  ⟨h.1, fun i h1 h2 h3 => by obtain ⟨a, b, c, d, e⟩ := h.2.1 i h1 h2 h3; exact ⟨a, b, c, d, e.past hp u⟩, h.2.2⟩
theorem TkO.next {w : World} {base : Nat} {ts : List TaskC} {xs : List Task} {k : Nat} (h : TkO w base ts xs k) (hk : k < xs.length) {P : Option Addr} {q : Nat} (ho : Own w base 2 (.slice P xs[k].after.length q) xs[k].after)
    (hnew : ∀ g, (Value.slice P xs[k].after.length q).ownBlock = some g → ∀ i, i < k → (hi : i < ts.length) → ∀ gi, (Value.slice ts[i].A ts[i].n ts[i].q).ownBlock = some gi → gi < g) :
    TkO w base (ts.set k ⟨xs[k].days, xs[k].cost, xs[k].clay, P, xs[k].after.length, q⟩) xs (k + 1) := by
  refine ⟨by simpa using h.1, fun i h1 h2 h3 => ?_, fun i j gi gj hij hjk h1 h2 => ?_⟩
  rotate_left
  · have g1 : i < ts.length := by simpa using h1
    have g2 : j < ts.length := by simpa using h2
    rw [List.getElem_set_ne (by omega)]
    by_cases hj : j = k
    · subst hj
      simp only [List.getElem_set_self]
      exact fun e1 e2 => hnew gj e2 i hij g1 gi e1
    · rw [List.getElem_set_ne (by omega)]
      exact h.2.2 i j gi gj hij (by omega) g1 g2
  rw [List.length_set] at h1
  by_cases hik : i = k
  · subst hik
    simp only [List.getElem_set_self]
    exact ⟨trivial, trivial, trivial, trivial, ho⟩
  · rw [List.getElem_set_ne (by omega)]
    exact h.2.1 i h1 h2 (by omega)
/-- A slice of tasks, all of it the call's own, blocks below hi. -/
def DeepT (w : World) (base : Nat) (v : Value) (xs : List Task) : Prop := ∃ ts : List TaskC, ∃ b2, base ≤ b2 ∧ (∀ g, v.ownBlock = some g → g < b2) ∧ Own w base 50 v ts ∧ TkO w b2 ts xs xs.length
theorem DeepT.rd {w : World} {base : Nat} {A : Option Addr} {n q : Nat} {xs : List Task} (h : DeepT w base (.slice A n q) xs) (hl : xs.length ≤ 1048576) (hi : ∀ x ∈ xs, x.after.length ≤ 1048576) : RdT w A xs := by
  obtain ⟨ts, b2, _, _, h1, h2⟩ := h
  refine ⟨ts, h1.rd (by rw [h2.1]; exact hl), h2.1, fun k h3 h4 => ?_⟩
  obtain ⟨a, b, c, d, e⟩ := h2.2.1 k h3 h4 (by omega)
  exact ⟨a, b, c, d, e.rd (hi _ (List.getElem_mem h4))⟩
theorem DeepT.form {w : World} {base : Nat} {v : Value} {xs : List Task} (h : DeepT w base v xs) : ∃ A c, v = .slice A xs.length c := by
  obtain ⟨ts, b2, _, _, h1, h2⟩ := h
  rw [← h2.1]
  exact h1.form
theorem DeepT.more {w x : World} {base : Nat} {v : Value} {xs : List Task} (h : DeepT w base v xs) : DeepT (w.more x) base v xs := by
  obtain ⟨ts, b2, h0, h3, h1, h2⟩ := h
  exact ⟨ts, b2, h0, h3, h1.more, h2.more⟩


set_option maxHeartbeats 800000 in
theorem eqTask (d c y d' c' y' : Int) (A B : Option Addr) (q q' : Nat) (l l' : List Int) (w : World) (hA : Rd w A l) (hB : Rd w B l') :
    Calls Tryd.prog 27 #[.agg #[.int .i64 d, .int .i64 c, .int .i64 y, .slice A l.length q], .agg #[.int .i64 d', .int .i64 c', .int .i64 y', .slice B l'.length q']] w fun e w' => e = .returned (.bool ((⟨d, c, y, l⟩ : Task) == ⟨d', c', y', l'⟩)) ∧ Below w.heap.size w w' := by
  have hb : ∀ o1 o2, Below w.heap.size w ((w.alloc o1).alloc o2) := fun _ _ => ((Below.refl _ _).alloc (Nat.le_refl _) _).alloc (by simp) _
  have HB := hid hb
  clear hb
  have he : ((⟨d, c, y, l⟩ : Task) == ⟨d', c', y', l'⟩) = (d == d' && c == c' && y == y' && l == l') := by rw [Bool.eq_iff_iff]; simp [and_assoc]
  rw [he]
  clear he
  by_cases h1 : d = d'
  · by_cases h2 : c = c'
    · by_cases h3 : y = y'
      · subst h1 h2 h3
        by_cases h4 : l = l'
        · have h4' : (l == l') = true := by simp [h4]
          have H4 := hid h4
          clear h4
          go_enter Tryd.func27, Tryd.ntmps27
          go_wp2_with fail
          refine (eqInt64S _ _ _ _ _ _ _ ((hA.alloc _).alloc _) ((hB.alloc _).alloc _)).mono ?_
          rintro e w1 ⟨rfl, hb⟩
          rw [h4']
          go_wp2_with fail
          go_ret
          exact ⟨ret_bool (by rw [h4']; simp), (HB.out _ _).trans (hb.mono (by simp; omega))⟩
        · have h4' : (l == l') = false := by simp [h4]
          have H4 := hid h4
          clear h4
          go_enter Tryd.func27, Tryd.ntmps27
          go_wp2_with fail
          refine (eqInt64S _ _ _ _ _ _ _ ((hA.alloc _).alloc _) ((hB.alloc _).alloc _)).mono ?_
          rintro e w1 ⟨rfl, hb⟩
          rw [h4']
          go_wp2_with fail
          go_ret
          exact ⟨ret_bool (by rw [h4']; simp), (HB.out _ _).trans (hb.mono (by simp; omega))⟩
      · subst h1 h2
        have h3' : (y != y') = true := by simp [h3]
        go_enter Tryd.func27, Tryd.ntmps27
        go_wp2_with fail
        go_ret
        exact ⟨ret_bool (by simp [h3]), HB.out _ _⟩
    · subst h1
      have h2' : (c != c') = true := by simp [h2]
      go_enter Tryd.func27, Tryd.ntmps27
      go_wp2_with fail
      go_ret
      exact ⟨ret_bool (by simp [h2]), HB.out _ _⟩
  · have h1' : (d != d') = true := by simp [h1]
    go_enter Tryd.func27, Tryd.ntmps27
    go_wp2_with fail
    go_ret
    exact ⟨ret_bool (by simp [h1]), HB.out _ _⟩


end Go.Proofs.YtampbbknhbhcbaaDoor
