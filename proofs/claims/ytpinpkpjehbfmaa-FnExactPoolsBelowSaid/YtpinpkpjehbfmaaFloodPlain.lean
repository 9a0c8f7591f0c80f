/- The plain mathematics of lands: cells next to a cell, floods, spreads. -/
import Derived.Test.YtpinpkpjehbfmaaIn
namespace Go.Proofs.Ytpinpkpjehbfmaa
open Go.RowKit
set_option linter.unusedVariables false
set_option linter.unusedSimpArgs false
structure Land where
  rows : Int
  columns : Int
  heights : List Int
  deriving DecidableEq
/-- The cells next to a cell: above, left, right, below. -/
def near (l : Land) (c : Int) : List Int :=
  (if 0 < c.tdiv l.columns then [c - l.columns] else []) ++ (if 0 < c.tmod l.columns then [c - 1] else []) ++ (if c.tmod l.columns < l.columns - 1 then [c + 1] else []) ++ (if c.tdiv l.columns < l.rows - 1 then [c + l.columns] else [])
def levelsB (xs : List Int) : Bool := decide (∀ x ∈ xs, inB x (-2000) 2000 = true)
def validL (l : Land) : Bool := inB l.rows 1 12 && inB l.columns 1 12 && decide ((l.heights.length : Int) = l.rows * l.columns) && levelsB l.heights
/-- A grid of one to twelve rows and columns, of levels. -/
structure LOk (l : Land) : Prop where
  r : 1 ≤ l.rows ∧ l.rows ≤ 12
  c : 1 ≤ l.columns ∧ l.columns ≤ 12
  n : (l.heights.length : Int) = l.rows * l.columns
  h : ∀ x ∈ l.heights, -2000 ≤ x ∧ x ≤ 2000
theorem lok {l : Land} (h : validL l = true) : LOk l := by
  unfold validL levelsB at h
  simp only [Bool.and_eq_true, inB_true, decide_eq_true_eq] at h
  exact ⟨h.1.1.1, h.1.1.2, h.1.2, h.2⟩
theorem LOk.le {l : Land} (h : LOk l) : l.heights.length ≤ 144 := by
  have h1 := h.n
  have h2 : l.rows * l.columns ≤ 12 * 12 := Int.mul_le_mul h.r.2 h.c.2 (by have := h.c.1; omega) (by omega)
  omega
/-- A cell's row and column. -/
theorem LOk.cell {l : Land} (h : LOk l) {c : Int} (h0 : 0 ≤ c) (h1 : c < l.heights.length) :
    ∃ r k : Int, c = r * l.columns + k ∧ 0 ≤ r ∧ r < l.rows ∧ 0 ≤ k ∧ k < l.columns ∧ c.tdiv l.columns = r ∧ c.tmod l.columns = k := by
  have hc := h.c
  have hn := h.n
  have e1 : c.tdiv l.columns = c / l.columns := Int.tdiv_eq_ediv_of_nonneg h0
  have e2 : c.tmod l.columns = c % l.columns := Int.tmod_eq_emod_of_nonneg h0
  have hm := Int.emod_nonneg c (show l.columns ≠ 0 by omega)
  have hm2 := Int.emod_lt_of_pos c (show 0 < l.columns by omega)
  have hd := Int.mul_ediv_add_emod c l.columns
  have hd0 : 0 ≤ c / l.columns := Int.ediv_nonneg h0 (by omega)
  have hd1 : c / l.columns < l.rows := Int.ediv_lt_of_lt_mul (by omega) (by omega)
  exact ⟨c / l.columns, c % l.columns, by rw [Int.mul_comm (c / l.columns)]; omega, hd0, hd1, hm, hm2, e1, e2⟩
theorem LOk.mk_cell {l : Land} (h : LOk l) {r k : Int} (h0 : 0 ≤ r) (h1 : r < l.rows) (h2 : 0 ≤ k) (h3 : k < l.columns) :
    0 ≤ r * l.columns + k ∧ r * l.columns + k < l.heights.length ∧ (r * l.columns + k).tdiv l.columns = r ∧ (r * l.columns + k).tmod l.columns = k := by
  have hc := h.c
  have hn := h.n
  have p0 : 0 ≤ r * l.columns := Int.mul_nonneg h0 (by omega)
  have p1 : (r + 1) * l.columns ≤ l.rows * l.columns := Int.mul_le_mul_of_nonneg_right (by omega) (by omega)
  rw [Int.add_mul] at p1
  have hp : 0 ≤ r * l.columns + k := by omega
  refine ⟨hp, by omega, ?_, ?_⟩
  · rw [Int.tdiv_eq_ediv_of_nonneg hp, Int.add_comm, Int.add_mul_ediv_right _ _ (by omega), Int.ediv_eq_zero_of_lt h2 h3]
    omega
  · rw [Int.tmod_eq_emod_of_nonneg hp, Int.add_comm, Int.add_mul_emod_self_right, Int.emod_eq_of_lt h2 h3]
theorem near_ok {l : Land} (h : LOk l) {c : Int} (h0 : 0 ≤ c) (h1 : c < l.heights.length) : ∀ x ∈ near l c, 0 ≤ x ∧ x < l.heights.length := by
  obtain ⟨r, k, hc, r0, r1, k0, k1, e1, e2⟩ := h.cell h0 h1
  intro x hx
  unfold near at hx
  rw [e1, e2] at hx
  simp only [List.mem_append] at hx
  rcases hx with ((hx | hx) | hx) | hx
  all_goals
    split at hx
    · simp only [List.mem_singleton] at hx
      subst hx
      first
      | (have := h.mk_cell (r := r - 1) (k := k) (by omega) (by omega) k0 k1; rw [Int.sub_mul] at this; omega)
      | (have := h.mk_cell (r := r) (k := k - 1) r0 r1 (by omega) (by omega); omega)
      | (have := h.mk_cell (r := r) (k := k + 1) r0 r1 (by omega) (by omega); omega)
      | (have := h.mk_cell (r := r + 1) (k := k) (by omega) (by omega) k0 k1; rw [Int.add_mul] at this; omega)
    · simp at hx
theorem near_len (l : Land) (c : Int) : (near l c).length ≤ 4 := by
  unfold near
  simp only [List.length_append]
  repeat' split
  all_goals simp
/-- Whatever holds at one cell and is handed to the cells next to a cell holds at all cells. -/
theorem all_cells {l : Land} (h : LOk l) (p : Int → Prop) {c0 : Int} (h0 : 0 ≤ c0) (h1 : c0 < l.heights.length) (hp : p c0) (hs : ∀ c : Int, 0 ≤ c → c < l.heights.length → p c → ∀ x ∈ near l c, p x) :
    ∀ c : Int, 0 ≤ c → c < l.heights.length → p c := by
  obtain ⟨r, k, hc, r0, r1, k0, k1, e1, e2⟩ := h.cell h0 h1
  have step : ∀ r k : Int, 0 ≤ r → r < l.rows → 0 ≤ k → k < l.columns → p (r * l.columns + k) → (0 < r → p ((r - 1) * l.columns + k)) ∧ (0 < k → p (r * l.columns + (k - 1))) ∧ (k < l.columns - 1 → p (r * l.columns + (k + 1))) ∧ (r < l.rows - 1 → p ((r + 1) * l.columns + k)) := by
    intro r k a b c d hq
    obtain ⟨m1, m2, m3, m4⟩ := h.mk_cell a b c d
    have hn := hs _ m1 m2 hq
    unfold near at hn
    rw [m3, m4] at hn
    refine ⟨fun g => hn _ ?_, fun g => hn _ ?_, fun g => hn _ ?_, fun g => hn _ ?_⟩
    · rw [if_pos g, Int.sub_mul, Int.one_mul]; simp; left; omega
    · rw [if_pos g]; simp; right; left; omega
    · rw [if_pos g]; simp; right; right; left; omega
    · rw [if_pos g, Int.add_mul, Int.one_mul]; simp; right; right; right; omega
  -- along the rows
  have up : ∀ n : Nat, ∀ r k : Int, 0 ≤ r → r + n < l.rows → 0 ≤ k → k < l.columns → p (r * l.columns + k) → p ((r + n) * l.columns + k) := by
    intro n
    induction n with
    | zero => intro r k a b c d hq; simpa using hq
    | succ n ih =>
      intro r k a b c d hq
      have := ih r k a (by omega) c d hq
      have := (step (r + n) k (by omega) (by omega) c d this).2.2.2 (by omega)
      rw [show r + ((n + 1 : Nat) : Int) = r + n + 1 by omega]; exact this
  have dn : ∀ n : Nat, ∀ r k : Int, 0 ≤ r - n → r < l.rows → 0 ≤ k → k < l.columns → p (r * l.columns + k) → p ((r - n) * l.columns + k) := by
    intro n
    induction n with
    | zero => intro r k a b c d hq; simpa using hq
    | succ n ih =>
      intro r k a b c d hq
      have := ih r k (by omega) b c d hq
      have := (step (r - n) k (by omega) (by omega) c d this).1 (by omega)
      rw [show r - ((n + 1 : Nat) : Int) = r - n - 1 by omega]; exact this
  have rt : ∀ n : Nat, ∀ r k : Int, 0 ≤ r → r < l.rows → 0 ≤ k → k + n < l.columns → p (r * l.columns + k) → p (r * l.columns + (k + n)) := by
    intro n
    induction n with
    | zero => intro r k a b c d hq; simpa using hq
    | succ n ih =>
      intro r k a b c d hq
      have := ih r k a b c (by omega) hq
      have := (step r (k + n) a b (by omega) (by omega) this).2.2.1 (by omega)
      rw [show k + ((n + 1 : Nat) : Int) = k + n + 1 by omega]; exact this
  have lf : ∀ n : Nat, ∀ r k : Int, 0 ≤ r → r < l.rows → 0 ≤ k - n → k < l.columns → p (r * l.columns + k) → p (r * l.columns + (k - n)) := by
    intro n
    induction n with
    | zero => intro r k a b c d hq; simpa using hq
    | succ n ih =>
      intro r k a b c d hq
      have := ih r k a b (by omega) d hq
      have := (step r (k - n) a b (by omega) (by omega) this).2.1 (by omega)
      rw [show k - ((n + 1 : Nat) : Int) = k - n - 1 by omega]; exact this
  intro c g0 g1
  obtain ⟨r', k', hc', r0', r1', k0', k1', _, _⟩ := h.cell g0 g1
  rw [hc] at hp
  have hrow : p (r' * l.columns + k) := by
    by_cases hr : r ≤ r'
    · have := up (r' - r).toNat r k r0 (by omega) k0 k1 hp
      rw [show r + ((r' - r).toNat : Int) = r' by omega] at this; exact this
    · have := dn (r - r').toNat r k (by omega) r1 k0 k1 hp
      rw [show r - ((r - r').toNat : Int) = r' by omega] at this; exact this
  rw [hc']
  by_cases hk : k ≤ k'
  · have := rt (k' - k).toNat r' k r0' r1' k0 (by omega) hrow
    rw [show k + ((k' - k).toNat : Int) = k' by omega] at this; exact this
  · have := lf (k - k').toNat r' k r0' r1' (by omega) k1 hrow
    rw [show k - ((k - k').toNat : Int) = k' by omega] at this; exact this
def seenAt (s : List Bool) (c : Int) : Bool := s.getD c.toNat false
def hAt (l : Land) (c : Int) : Int := l.heights.getD c.toNat 0
theorem hAt_eq {l : Land} {k : Nat} (h : k < l.heights.length) : hAt l (k : Int) = l.heights[k] := by simp [hAt, h]
theorem seenAt_eq {s : List Bool} {k : Nat} (h : k < s.length) : seenAt s (k : Int) = s[k] := by simp [seenAt, h]
theorem seenAt_set {s : List Bool} {n c : Int} (h0 : 0 ≤ n) (h1 : n < s.length) (hc : 0 ≤ c) : seenAt (s.set n.toNat true) c = if c = n then true else seenAt s c := by
  unfold seenAt
  simp only [List.getD_eq_getElem?_getD, List.getElem?_set]
  by_cases h : c = n
  · subst h
    rw [if_pos rfl, if_pos (by omega), if_pos rfl]; rfl
  · rw [if_neg (by omega), if_neg h]
/-- What is done with a cell next to a cell: seen, and put behind the queue. -/
def visit (l : Land) (lev : Int) (st : List Bool × List Int) (n : Int) : List Bool × List Int :=
  if seenAt st.1 n = false ∧ hAt l n < lev then (st.1.set n.toNat true, st.2 ++ [n]) else st
def bfs (l : Land) (lev : Int) : Nat → Nat → List Bool × List Int → List Bool × List Int
  | 0, _, st => st
  | f + 1, i, st => match st.2[i]? with
    | some c => bfs l lev f (i + 1) ((near l c).foldl (visit l lev) st)
    | none => st
structure BOk (l : Land) (st : List Bool × List Int) : Prop where
  len : st.1.length = l.heights.length
  rng : ∀ c ∈ st.2, 0 ≤ c ∧ c < l.heights.length
  cnt : st.2.length + st.1.count false ≤ l.heights.length
theorem BOk.qlen {l : Land} {st : List Bool × List Int} (h : BOk l st) : st.2.length ≤ l.heights.length := by have := h.cnt; omega
theorem count_set_true {s : List Bool} {k : Nat} (hk : k < s.length) (h : s[k] = false) : (s.set k true).count false + 1 = s.count false := by
  have h1 : 0 < s.count false := List.count_pos_iff.2 (by rw [← h]; exact List.getElem_mem hk)
  rw [List.count_set hk, h]
  simp
  omega
theorem BOk.visit {l : Land} {lev : Int} {st : List Bool × List Int} (h : BOk l st) {n : Int} (h0 : 0 ≤ n) (h1 : n < l.heights.length) : BOk l (visit l lev st n) := by
  unfold Go.Proofs.Ytpinpkpjehbfmaa.visit
  split
  · rename_i hv
    have hl := h.len
    have hk : n.toNat < st.1.length := by omega
    have hs : st.1[n.toNat] = false := by
      have := hv.1
      unfold seenAt at this
      simpa [hk] using this
    refine ⟨by simpa using h.len, fun c hc => ?_, ?_⟩
    · simp only [List.mem_append, List.mem_singleton] at hc
      rcases hc with hc | rfl
      · exact h.rng c hc
      · exact ⟨h0, h1⟩
    · have := count_set_true hk hs
      have := h.cnt
      simp only [List.length_append, List.length_singleton]
      omega
  · exact h
theorem BOk.fold {l : Land} {lev : Int} : ∀ (ns : List Int) {st : List Bool × List Int}, BOk l st → (∀ n ∈ ns, 0 ≤ n ∧ n < l.heights.length) → BOk l (ns.foldl (Go.Proofs.Ytpinpkpjehbfmaa.visit l lev) st)
  | [], _, h, _ => h
  | n :: ns, _, h, hn => by
    rw [List.foldl_cons]
    have := hn n (by simp)
    exact BOk.fold ns (h.visit this.1 this.2) fun m hm => hn m (by simp [hm])
theorem BOk.round {l : Land} (hl : LOk l) {lev : Int} {st : List Bool × List Int} (h : BOk l st) {i : Nat} (hi : i < st.2.length) : BOk l ((near l st.2[i]).foldl (Go.Proofs.Ytpinpkpjehbfmaa.visit l lev) st) := by
  have := h.rng _ (List.getElem_mem hi)
  exact BOk.fold _ h fun n hn => near_ok hl this.1 this.2 n hn
theorem bfs_step {l : Land} {lev : Int} {f i : Nat} {st : List Bool × List Int} (hi : i < st.2.length) : bfs l lev (f + 1) i st = bfs l lev f (i + 1) ((near l st.2[i]).foldl (visit l lev) st) := by
  simp only [bfs, List.getElem?_eq_getElem hi]
theorem bfs_stop {l : Land} {lev : Int} {f i : Nat} {st : List Bool × List Int} (hi : st.2.length ≤ i) : bfs l lev f i st = st := by
  cases f with
  | zero => rfl
  | succ f => simp only [bfs, List.getElem?_eq_none hi]
theorem BOk.bfs {l : Land} (hl : LOk l) {lev : Int} : ∀ (f i : Nat) {st : List Bool × List Int}, BOk l st → BOk l (bfs l lev f i st)
  | 0, _, _, h => h
  | f + 1, i, st, h => by
    by_cases hi : i < st.2.length
    · rw [bfs_step hi]
      exact BOk.bfs hl f (i + 1) (h.round hl hi)
    · rw [bfs_stop (by omega)]
      exact h
/-- The whole search from a cell. -/
def part (l : Land) (lev : Int) (s : List Bool) (c : Int) : List Bool × List Int := bfs l lev (l.heights.length + 1) 0 (s.set c.toNat true, [c])
theorem part_start {l : Land} {s : List Bool} {c : Int} (hs : s.length = l.heights.length) (h0 : 0 ≤ c) (h1 : c < l.heights.length) (hn : seenAt s c = false) : BOk l (s.set c.toNat true, [c]) := by
  have hk : c.toNat < s.length := by omega
  have hs2 : s[c.toNat] = false := by
    unfold seenAt at hn
    simpa [hk] using hn
  refine ⟨by simpa using hs, fun x hx => ?_, ?_⟩
  · simp only [List.mem_singleton] at hx
    subst hx
    exact ⟨h0, h1⟩
  · have h2 := count_set_true hk hs2
    have h3 : s.count false ≤ s.length := List.count_le_length
    simp only [List.length_singleton]
    omega
theorem part_ok {l : Land} (hl : LOk l) {lev : Int} {s : List Bool} {c : Int} (hs : s.length = l.heights.length) (h0 : 0 ≤ c) (h1 : c < l.heights.length) (hn : seenAt s c = false) : BOk l (part l lev s c) :=
  BOk.bfs hl _ _ (part_start hs h0 h1 hn)
/-- Which cells are flooded from a cell. -/
def wet (l : Land) (c lev : Int) : List Bool := if hAt l c < lev then (part l lev (List.replicate l.heights.length false) c).1 else List.replicate l.heights.length false
def whereB (s : List Bool) (want : Bool) : List Int := ((List.range s.length).filter fun i => s.getD i false == want).map fun (i : Nat) => (i : Int)
def depthsOf (l : Land) (c lev : Int) : List Int := (List.range (wet l c lev).length).map fun i => if (wet l c lev).getD i false then lev - hAt l i else 0
/-- The sizes of all pools. -/
def poolStep (l : Land) (lev : Int) (st : List Bool × List Int) (i : Nat) : List Bool × List Int :=
  if seenAt st.1 i = false ∧ hAt l i < lev then ((part l lev st.1 i).1, st.2 ++ [((part l lev st.1 i).2.length : Int)]) else st
def pools (l : Land) (lev : Int) (n : Nat) : List Bool × List Int := (List.range n).foldl (poolStep l lev) (List.replicate l.heights.length false, [])
theorem pools_next (l : Land) (lev : Int) (n : Nat) : pools l lev (n + 1) = poolStep l lev (pools l lev n) n := by simp [pools, List.range_succ]
theorem pools_len {l : Land} (hl : LOk l) {lev : Int} {n : Nat} (hn : n ≤ l.heights.length) : (pools l lev n).1.length = l.heights.length := by
  induction n with
  | zero => simp [pools]
  | succ n ih =>
    rw [pools_next]
    unfold poolStep
    split
    · rename_i h
      exact (part_ok hl (ih (by omega)) (by omega) (by omega) h.1).len
    · exact ih (by omega)
theorem pools_size {l : Land} {lev : Int} {n : Nat} : (pools l lev n).2.length ≤ n := by
  induction n with
  | zero => simp [pools]
  | succ n ih =>
    rw [pools_next]
    unfold poolStep
    split
    · simp; omega
    · omega
/-- The way of water from a cell. -/
def lower (l : Land) (b n : Int) : Int := if hAt l n < hAt l b then n else b
def lowest (l : Land) (c : Int) : Int := (near l c).foldl (lower l) c
def way (l : Land) : Nat → Int → List Int → List Int
  | 0, _, acc => acc
  | f + 1, c, acc => if lowest l c = c then acc else way l f (lowest l c) (acc ++ [lowest l c])
theorem lower_fold {l : Land} : ∀ (ns : List Int) (b : Int), (b ∈ ns ∨ True) → (ns.foldl (lower l) b = b ∨ (hAt l (ns.foldl (lower l) b) < hAt l b ∧ ns.foldl (lower l) b ∈ ns))
  | [], b, _ => .inl rfl
  | n :: ns, b, _ => by
    rw [List.foldl_cons]
    unfold lower
    split
    · rename_i h
      rcases lower_fold ns n (.inr trivial) with h1 | ⟨h1, h2⟩
      · right
        unfold lower at h1
        rw [h1]
        exact ⟨h, by simp⟩
      · right
        unfold lower at h1 h2
        exact ⟨by omega, by simp [h2]⟩
    · rcases lower_fold ns b (.inr trivial) with h1 | ⟨h1, h2⟩
      · left
        unfold lower at h1
        exact h1
      · right
        unfold lower at h1 h2
        exact ⟨h1, by simp [h2]⟩
theorem lowest_ok {l : Land} (hl : LOk l) {c : Int} (h0 : 0 ≤ c) (h1 : c < l.heights.length) (h : ¬ lowest l c = c) : 0 ≤ lowest l c ∧ lowest l c < l.heights.length ∧ hAt l (lowest l c) < hAt l c := by
  rcases lower_fold (l := l) (near l c) c (.inr trivial) with h2 | ⟨h2, h3⟩
  · exact absurd h2 h
  · have := near_ok hl h0 h1 _ h3
    exact ⟨this.1, this.2, h2⟩
theorem hAt_bound {l : Land} (hl : LOk l) (c : Int) : -2000 ≤ hAt l c ∧ hAt l c ≤ 2000 := by
  unfold hAt
  rw [List.getD_eq_getElem?_getD]
  by_cases h : c.toNat < l.heights.length
  · rw [List.getElem?_eq_getElem h]
    exact hl.h _ (List.getElem_mem h)
  · rw [List.getElem?_eq_none (by omega)]; simp
/-! the spread -/
structure Sp where
  out : List Int
  known : List Bool
  done : List Bool
  order : List Int
def outAt (o : List Int) (c : Int) : Int := o.getD c.toNat 0
theorem outAt_eq {o : List Int} {k : Nat} (h : k < o.length) : outAt o (k : Int) = o[k] := by simp [outAt, h]
theorem outAt_set {o : List Int} {n c v : Int} (h0 : 0 ≤ n) (h1 : n < o.length) (hc : 0 ≤ c) : outAt (o.set n.toNat v) c = if c = n then v else outAt o c := by
  unfold outAt
  simp only [List.getD_eq_getElem?_getD, List.getElem?_set]
  by_cases h : c = n
  · subst h
    rw [if_pos rfl, if_pos (by omega), if_pos rfl]; rfl
  · rw [if_neg (by omega), if_neg h]
def openAt (s : Sp) (c : Int) : Bool := seenAt s.known c && !seenAt s.done c
def spInit (l : Land) : Sp := ⟨List.replicate l.heights.length 0, List.replicate l.heights.length false, List.replicate l.heights.length false, []⟩
def spFrom (l : Land) (s : Sp) (c : Int) : Sp := { s with out := s.out.set c.toNat (hAt l c), known := s.known.set c.toNat true }
def spStart (l : Land) (cs : List Int) : Sp := cs.foldl (spFrom l) (spInit l)
def pickStep (s : Sp) (b : Int) (i : Nat) : Int := if openAt s i = true ∧ (b < 0 ∨ outAt s.out i < outAt s.out b) then (i : Int) else b
def pick (s : Sp) (n : Nat) : Int := (List.range n).foldl (pickStep s) (-1)
def relaxS (l : Land) (b : Int) (s : Sp) (c : Int) : Sp :=
  if seenAt s.known c = false ∨ max (outAt s.out b) (hAt l c) < outAt s.out c then { s with out := s.out.set c.toNat (max (outAt s.out b) (hAt l c)), known := s.known.set c.toNat true } else s
def spDone (s : Sp) (b : Int) : Sp := { s with done := s.done.set b.toNat true, order := s.order ++ [b] }
def spRound (l : Land) (s : Sp) (b : Int) : Sp := (near l b).foldl (relaxS l b) (spDone s b)
def spread (l : Land) : Nat → Sp → Sp
  | 0, s => s
  | f + 1, s => if pick s l.heights.length < 0 then s else spread l f (spRound l s (pick s l.heights.length))
structure SOk (l : Land) (s : Sp) : Prop where
  lo : s.out.length = l.heights.length
  lk : s.known.length = l.heights.length
  ld : s.done.length = l.heights.length
  rng : ∀ c : Int, 0 ≤ c → c < l.heights.length → -2000 ≤ outAt s.out c ∧ outAt s.out c ≤ 2000
  ord : s.order.length + s.done.count false = l.heights.length
/-- What holds of the spread between two rounds. -/
structure SInv (l : Land) (s : Sp) : Prop extends SOk l s where
  dk : ∀ c : Int, 0 ≤ c → c < l.heights.length → seenAt s.done c = true → seenAt s.known c = true
  mono : ∀ d o : Int, 0 ≤ d → d < l.heights.length → 0 ≤ o → o < l.heights.length → seenAt s.done d = true → openAt s o = true → outAt s.out d ≤ outAt s.out o
  ge : ∀ c : Int, 0 ≤ c → c < l.heights.length → seenAt s.known c = true → hAt l c ≤ outAt s.out c
  nbr : ∀ c : Int, 0 ≤ c → c < l.heights.length → seenAt s.done c = true → ∀ x ∈ near l c, seenAt s.known x = true
/-- .. and while the cells next to b are looked at. -/
structure SMid (l : Land) (b : Int) (s : Sp) : Prop extends SOk l s where
  dk : ∀ c : Int, 0 ≤ c → c < l.heights.length → seenAt s.done c = true → seenAt s.known c = true
  top : ∀ d : Int, 0 ≤ d → d < l.heights.length → seenAt s.done d = true → outAt s.out d ≤ outAt s.out b
  low : ∀ o : Int, 0 ≤ o → o < l.heights.length → openAt s o = true → outAt s.out b ≤ outAt s.out o
  ge : ∀ c : Int, 0 ≤ c → c < l.heights.length → seenAt s.known c = true → hAt l c ≤ outAt s.out c
  nbr : ∀ c : Int, 0 ≤ c → c < l.heights.length → seenAt s.done c = true → c ≠ b → ∀ x ∈ near l c, seenAt s.known x = true
  me : seenAt s.done b = true
/-- The other program's test is the same. -/
theorem SMid.test {l : Land} {b : Int} {s : Sp} (h : SMid l b s) {c : Int} (h0 : 0 ≤ c) (h1 : c < l.heights.length) :
    (seenAt s.known c = false ∨ max (outAt s.out b) (hAt l c) < outAt s.out c) ↔ (seenAt s.done c = false ∧ (openAt s c = false ∨ max (outAt s.out b) (hAt l c) < outAt s.out c)) := by
  cases hd : seenAt s.done c with
  | true =>
    have hk := h.dk c h0 h1 hd
    have ht := h.top c h0 h1 hd
    rw [hk]
    simp only [Bool.true_eq_false, false_or, false_and, iff_false]
    omega
  | false =>
    have : openAt s c = seenAt s.known c := by simp [openAt, hd]
    rw [this]
    simp
theorem seenAt_set' {s : List Bool} {n c : Int} (h0 : 0 ≤ n) (h1 : n < s.length) (hc : 0 ≤ c) (h : seenAt s c = true) : seenAt (s.set n.toNat true) c = true := by
  rw [seenAt_set h0 h1 hc]; split <;> simp [h]
theorem SMid.relax {l : Land} (hl : LOk l) {b : Int} {s : Sp} (h : SMid l b s) (b0 : 0 ≤ b) (b1 : b < l.heights.length) {c : Int} (h0 : 0 ≤ c) (h1 : c < l.heights.length) :
    SMid l b (relaxS l b s c) ∧ seenAt (relaxS l b s c).known c = true ∧ (∀ x : Int, 0 ≤ x → seenAt s.known x = true → seenAt (relaxS l b s c).known x = true) := by
  have ht := h.test h0 h1
  unfold relaxS
  split
  · rename_i hc
    have hd := (ht.1 hc).1
    have hcb : ¬ b = c := fun e => by subst e; rw [h.me] at hd; cases hd
    have e1 : ∀ x : Int, 0 ≤ x → outAt (s.out.set c.toNat (max (outAt s.out b) (hAt l c))) x = if x = c then max (outAt s.out b) (hAt l c) else outAt s.out x := fun x hx => outAt_set h0 (by rw [h.lo]; exact h1) hx
    have e2 : ∀ x : Int, 0 ≤ x → seenAt (s.known.set c.toNat true) x = if x = c then true else seenAt s.known x := fun x hx => seenAt_set h0 (by rw [h.lk]; exact h1) hx
    have hb := h.rng b b0 b1
    have hh := hAt_bound hl c
    refine ⟨⟨⟨by simpa using h.lo, by simpa using h.lk, h.ld, fun x x0 x1 => ?_, h.ord⟩, fun x x0 x1 hx => ?_, fun d d0 d1 hdd => ?_, fun o o0 o1 ho => ?_, fun x x0 x1 hx => ?_, fun x x0 x1 hx hxb y hy => ?_, h.me⟩, ?_, fun x x0 hx => ?_⟩
    · simp only
      rw [e1 x x0]
      have := h.rng x x0 x1
      split <;> omega
    · simp only
      rw [e2 x x0, h.dk x x0 x1 hx]; simp
    · simp only at hdd ⊢
      rw [e1 d d0, e1 b b0, if_neg hcb, if_neg (fun e => by subst e; rw [hdd] at hd; cases hd)]
      exact h.top d d0 d1 hdd
    · simp only [openAt] at ho ⊢
      rw [e2 o o0] at ho
      rw [e1 o o0, e1 b b0, if_neg hcb]
      by_cases hoc : o = c
      · rw [if_pos hoc]; omega
      · rw [if_neg hoc] at ho ⊢
        exact h.low o o0 o1 (by simpa [openAt] using ho)
    · simp only at hx ⊢
      rw [e2 x x0] at hx
      rw [e1 x x0]
      by_cases hxc : x = c
      · subst hxc; rw [if_pos rfl]; omega
      · rw [if_neg hxc] at hx ⊢
        exact h.ge x x0 x1 hx
    · simp only at hx ⊢
      have hy2 := near_ok hl x0 x1 y hy
      exact seenAt_set' h0 (by rw [h.lk]; exact h1) hy2.1 (h.nbr x x0 x1 hx hxb y hy)
    · simp only
      rw [e2 c h0, if_pos rfl]
    · exact seenAt_set' h0 (by rw [h.lk]; exact h1) x0 hx
  · rename_i hc
    refine ⟨h, ?_, fun x _ hx => hx⟩
    simp only [not_or] at hc
    simpa using hc.1
theorem SMid.fold {l : Land} (hl : LOk l) {b : Int} (b0 : 0 ≤ b) (b1 : b < l.heights.length) : ∀ (ns : List Int) {s : Sp}, SMid l b s → (∀ n ∈ ns, 0 ≤ n ∧ n < l.heights.length) →
    SMid l b (ns.foldl (relaxS l b) s) ∧ (∀ n ∈ ns, seenAt (ns.foldl (relaxS l b) s).known n = true) ∧ (∀ x : Int, 0 ≤ x → seenAt s.known x = true → seenAt (ns.foldl (relaxS l b) s).known x = true)
  | [], s, h, _ => ⟨h, by simp, fun x _ hx => hx⟩
  | n :: ns, s, h, hn => by
    have h2 := hn n (by simp)
    obtain ⟨g1, g2, g3⟩ := h.relax hl b0 b1 h2.1 h2.2
    obtain ⟨k1, k2, k3⟩ := SMid.fold hl b0 b1 ns g1 fun m hm => hn m (by simp [hm])
    rw [List.foldl_cons]
    refine ⟨k1, fun m hm => ?_, fun x x0 hx => k3 x x0 (g3 x x0 hx)⟩
    rcases List.mem_cons.1 hm with rfl | hm
    · exact k3 m h2.1 g2
    · exact k2 m hm
theorem pick_next (s : Sp) (n : Nat) : pick s (n + 1) = pickStep s (pick s n) n := by simp [pick, List.range_succ]
theorem pick_spec (s : Sp) (n : Nat) : (pick s n = -1 ∧ ∀ i : Nat, i < n → openAt s i = false) ∨ (0 ≤ pick s n ∧ pick s n < n ∧ openAt s (pick s n) = true ∧ ∀ i : Nat, i < n → openAt s i = true → outAt s.out (pick s n) ≤ outAt s.out i) := by
  induction n with
  | zero => exact .inl ⟨by simp [pick], fun i hi => absurd hi (by omega)⟩
  | succ n ih =>
    rw [pick_next]
    unfold pickStep
    split
    · rename_i h
      right
      refine ⟨by omega, by omega, h.1, fun i hi ho => ?_⟩
      by_cases hin : i = n
      · subst hin; omega
      · rcases ih with ⟨_, h2⟩ | ⟨h2, h3, h4, h5⟩
        · rw [h2 i (by omega)] at ho; cases ho
        · have := h5 i (by omega) ho
          rcases h.2 with h6 | h6
          · omega
          · omega
    · rename_i h
      rcases ih with ⟨h1, h2⟩ | ⟨h2, h3, h4, h5⟩
      · left
        refine ⟨h1, fun i hi => ?_⟩
        by_cases hin : i = n
        · subst hin
          cases ho : openAt s (i : Int) with
          | false => rfl
          | true => exact absurd ⟨ho, .inl (by omega)⟩ h
        · exact h2 i (by omega)
      · right
        refine ⟨h2, by omega, h4, fun i hi ho => ?_⟩
        by_cases hin : i = n
        · subst hin
          by_cases hlt : outAt s.out (i : Int) < outAt s.out (pick s i)
          · exact absurd ⟨ho, .inr hlt⟩ h
          · omega
        · exact h5 i (by omega) ho
theorem SInv.mid {l : Land} {s : Sp} (h : SInv l s) {b : Int} (hb : b = pick s l.heights.length) (hp : ¬ b < 0) : 0 ≤ b ∧ b < l.heights.length ∧ SMid l b (spDone s b) := by
  rcases pick_spec s l.heights.length with ⟨h1, _⟩ | ⟨h1, h2, h3, h4⟩
  · omega
  · rw [← hb] at h1 h2 h3 h4
    have hlt : b < s.done.length := by rw [h.ld]; exact h2
    have e : ∀ x : Int, 0 ≤ x → seenAt (s.done.set b.toNat true) x = if x = b then true else seenAt s.done x := fun x hx => seenAt_set h1 hlt hx
    have hob : seenAt s.known b = true ∧ seenAt s.done b = false := by simpa [openAt] using h3
    refine ⟨h1, h2, ⟨⟨h.lo, h.lk, by simpa [spDone] using h.ld, h.rng, ?_⟩, fun x x0 x1 hx => ?_, fun d d0 d1 hd => ?_, fun o o0 o1 ho => ?_, h.ge, fun x x0 x1 hx hxb => ?_, ?_⟩⟩
    · have hk : b.toNat < s.done.length := by omega
      have hs2 : s.done[b.toNat] = false := by
        have := hob.2
        unfold seenAt at this
        simpa [hk] using this
      have := count_set_true hk hs2
      have := h.ord
      simp only [spDone, List.length_append, List.length_singleton]
      omega
    · simp only [spDone] at hx ⊢
      rw [e x x0] at hx
      by_cases hxb : x = b
      · rw [hxb]; exact hob.1
      · rw [if_neg hxb] at hx; exact h.dk x x0 x1 hx
    · simp only [spDone] at hd ⊢
      rw [e d d0] at hd
      by_cases hxb : d = b
      · rw [hxb]; exact Int.le_refl _
      · rw [if_neg hxb] at hd
        exact h.mono d b d0 d1 h1 h2 hd h3
    · simp only [spDone, openAt] at ho ⊢
      rw [e o o0] at ho
      by_cases hxb : o = b
      · rw [hxb]; exact Int.le_refl _
      · rw [if_neg hxb] at ho
        have := h4 o.toNat (by omega) (by rw [show ((o.toNat : Nat) : Int) = o by omega]; exact ho)
        rw [show ((o.toNat : Nat) : Int) = o by omega] at this
        exact this
    · simp only [spDone] at hx ⊢
      rw [e x x0, if_neg hxb] at hx
      exact h.nbr x x0 x1 hx
    · simp only [spDone]
      rw [e b h1, if_pos rfl]
theorem SMid.inv {l : Land} {b : Int} {s : Sp} (h : SMid l b s) (hn : ∀ x ∈ near l b, seenAt s.known x = true) : SInv l s := by
  refine ⟨h.toSOk, h.dk, fun d o d0 d1 o0 o1 hd ho => Int.le_trans (h.top d d0 d1 hd) (h.low o o0 o1 ho), h.ge, fun x x0 x1 hx => ?_⟩
  by_cases hxb : x = b
  · subst hxb; exact hn
  · exact h.nbr x x0 x1 hx hxb
theorem SInv.round {l : Land} (hl : LOk l) {s : Sp} (h : SInv l s) {b : Int} (hb : b = pick s l.heights.length) (hp : ¬ b < 0) : SInv l (spRound l s b) := by
  obtain ⟨b0, b1, hm⟩ := h.mid hb hp
  obtain ⟨k1, k2, _⟩ := SMid.fold hl b0 b1 (near l b) hm (near_ok hl b0 b1)
  exact k1.inv k2
theorem SInv.spread {l : Land} (hl : LOk l) : ∀ (f : Nat) {s : Sp}, SInv l s → SInv l (spread l f s)
  | 0, _, h => h
  | f + 1, s, h => by
    unfold Go.Proofs.Ytpinpkpjehbfmaa.spread
    split
    · exact h
    · rename_i hp
      exact SInv.spread hl f (h.round hl rfl hp)
theorem fold_done (l : Land) (b : Int) : ∀ (ns : List Int) (s : Sp), (ns.foldl (relaxS l b) s).done = s.done ∧ (ns.foldl (relaxS l b) s).order = s.order
  | [], s => ⟨rfl, rfl⟩
  | n :: ns, s => by
    rw [List.foldl_cons]
    obtain ⟨h1, h2⟩ := fold_done l b ns (relaxS l b s n)
    rw [h1, h2]
    unfold relaxS
    split <;> exact ⟨rfl, rfl⟩
/-- How many rounds are left. -/
theorem round_order (l : Land) (s : Sp) (b : Int) : (spRound l s b).order = s.order ++ [b] := by
  unfold spRound
  rw [(fold_done l b _ _).2]
  rfl
theorem SOk.order_le {l : Land} {s : Sp} (h : SOk l s) : s.order.length ≤ l.heights.length := by have := h.ord; omega
theorem spread_stop {l : Land} {f : Nat} {s : Sp} (h : pick s l.heights.length < 0) : spread l f s = s := by
  cases f with
  | zero => rfl
  | succ f => simp only [spread, if_pos h]
theorem spread_step {l : Land} {f : Nat} {s : Sp} (h : ¬ pick s l.heights.length < 0) : spread l (f + 1) s = spread l f (spRound l s (pick s l.heights.length)) := by
  simp only [spread, if_neg h]
theorem spread_end {l : Land} (hl : LOk l) : ∀ (f : Nat) {s : Sp}, SInv l s → l.heights.length < s.order.length + f → pick (Go.Proofs.Ytpinpkpjehbfmaa.spread l f s) l.heights.length < 0
  | 0, s, h, hf => by have := h.order_le; omega
  | f + 1, s, h, hf => by
    by_cases hp : pick s l.heights.length < 0
    · rw [spread_stop hp]; exact hp
    · rw [spread_step hp]
      exact spread_end hl f (h.round hl rfl hp) (by rw [round_order]; simp; omega)
def surf (l : Land) (cs : List Int) : Sp := spread l (l.heights.length + 1) (spStart l cs)
end Go.Proofs.Ytpinpkpjehbfmaa
