/- Slices of the call's own, as lists of elements: make, append, stores. -/
import Derived.Test.YteobejgkjjhfkaaBase
import Derived.Maps.AppendAt
namespace Go.Proofs.Yteobejgkjjhfkaa
open Go.RowKit

/-- The slice value v is the call's own (blocks from 'base' on) and holds xs. -/
def Own {α : Type} [Enc α] (w : World) (base : Nat) (e : TypeId) (v : Value) (xs : List α) : Prop := w.ownsRow base e (Enc.size α) v xs.length (flat xs)

/-- What the table says of an element type. -/
structure El (P : Program) (t e : TypeId) {α : Type} [Enc α] (z0 : α) : Prop where
  und : P.underlying t = some (.slice e)
  ex : ∃ i z, P.info? e = some i ∧ i.zero = some z ∧ i.size = Enc.size α ∧ i.bytes ≤ 64 ∧ z.cells = (Enc.enc z0).toArray ∧ 0 < Enc.size α
theorem El.mk' {P : Program} {t e : TypeId} {α : Type} [Enc α] {z0 : α} {z : Value} {bytes : Nat} (h1 : P.underlying t = some (.slice e))
    (h2 : (P.info? e).map (fun i => (i.zero, i.size, i.bytes)) = some (some z, Enc.size α, bytes)) (h3 : bytes ≤ 64) (h4 : z.cells = (Enc.enc z0).toArray) (h5 : 0 < Enc.size α) : El P t e z0 := by
  obtain ⟨i, hi, hz0, hz1, hz2⟩ := info_parts h2
  exact ⟨h1, i, z, hi, hz0, hz1, by omega, h4, h5⟩

section
variable {α : Type} [Enc α] {w x : World} {base : Nat} {e : TypeId} {v : Value} {xs : List α}
theorem Own.nil (w : World) (base : Nat) (e : TypeId) : Own w base e (.slice none 0 0) ([] : List α) := World.ownsRow_nil w base e _
theorem Own.empty {w : World} {base : Nat} {e : TypeId} (hb : base ≤ w.heap.size) : Own (w.alloc (.cells #[] e)) base e (.slice (some ⟨w.heap.size, 0, none⟩) 0 0) ([] : List α) :=
  World.ownsRow_made w #[] 0 hb (by simp [maxLen]) (by simp)
theorem Own.one {w : World} {base : Nat} {e : TypeId} (y : α) (hb : base ≤ w.heap.size) : Own (w.alloc (.cells (Enc.enc y).toArray e)) base e (.slice (some ⟨w.heap.size, 0, none⟩) 1 1) [y] := by
  unfold Own
  rw [flat_one]
  exact ⟨by simp [Enc.len], .inr ⟨w.heap.size, 1, _, rfl, hb, heap_alloc_new w _, Nat.le_refl _, by simp [maxLen], by simp [Enc.len], List.take_of_length_le (by simp [Enc.len])⟩⟩
theorem Own.form (h : Own w base e v xs) : ∃ A c, v = .slice A xs.length c := by
  rcases h.2 with ⟨rfl, h0⟩ | ⟨g, cap, cur, rfl, _⟩
  · exact ⟨none, 0, by rw [h0]⟩
  · exact ⟨_, _, rfl⟩
theorem Own.rd {A : Option Addr} {n c : Nat} (h : Own w base e (.slice A n c) xs) (hl : xs.length ≤ 1048576) : Rd w A xs := by
  have hn : n = xs.length := by
    obtain ⟨A', c', hv⟩ := h.form
    injection hv
  subst hn
  exact Rd.of_own h rfl hl
/-- An own slice that is not empty: its block. -/
theorem Own.at_ (h : Own w base e v xs) {k : Nat} (hk : k < xs.length) : ∃ g c, v = .slice (some ⟨g, 0, none⟩) xs.length c ∧ base ≤ g ∧ g < w.heap.size := by
  rcases h.2 with ⟨_, h0⟩ | ⟨g, cap, cur, rfl, hb, hg, _⟩
  · omega
  · exact ⟨g, cap, rfl, hb, (Array.getElem?_eq_some_iff.1 hg).1⟩
theorem Own.addr {A : Option Addr} {n c : Nat} (h : Own w base e (.slice A n c) xs) {k : Nat} (hk : k < xs.length) : ∃ g, A = some ⟨g, 0, none⟩ ∧ base ≤ g ∧ g < w.heap.size := by
  obtain ⟨g, c', hv, hb, hg⟩ := h.at_ hk
  injection hv with hA _ _
  exact ⟨g, hA, hb, hg⟩
theorem Own.grown {w' : World} {row : Option Nat} (h : Own w base e v xs) (hg : w.grownBy w' row) (hne : v.ownBlock = none ∨ v.ownBlock ≠ row) : Own w' base e v xs := World.ownsRow.kept h hg hne
theorem below_grown {B : Nat} {w w' : World} (h : Below B w w') (hB : w.heap.size ≤ B) : w.grownBy w' none := ⟨h.os, h.tape, h.output, h.size, fun k hk _ => h.block k (by omega)⟩
theorem Own.below {w' : World} (h : Own w base e v xs) (hb : Below w.heap.size w w') : Own w' base e v xs :=
  h.grown (below_grown hb (Nat.le_refl _)) (by cases hv : v.ownBlock <;> simp)
theorem Own.more (h : Own w base e v xs) : Own (w.more x) base e v xs := h.below more_below
theorem Own.alloc (h : Own w base e v xs) (o : Obj) : Own (w.alloc o) base e v xs := World.ownsRow.alloc h o
theorem Own.drewN (h : Own w base e v xs) (n : Nat) : Own (w.drewN n) base e v xs := h
theorem Own.mono {b : Nat} (h : Own w base e v xs) (hb : b ≤ base) : Own w b e v xs := by
  refine ⟨h.1, ?_⟩
  rcases h.2 with h0 | ⟨g, cap, cur, rfl, hb', r⟩
  · exact .inl h0
  · exact .inr ⟨g, cap, cur, rfl, Nat.le_trans hb hb', r⟩
theorem Own.cell {g n c : Nat} (h : Own w base e (.slice (some ⟨g, 0, none⟩) n c) xs) {k j : Nat} (hk : k < xs.length) {u : Value} (hu : (Enc.enc xs[k])[j]? = some u) : w.cell? ⟨g, k * Enc.size α + j, none⟩ = some u := by
  have hn : n = xs.length := by
    obtain ⟨A', c', hv⟩ := h.form
    injection hv
  subst hn
  have hj : j < Enc.size α := by
    have := (List.getElem?_eq_some_iff.1 hu).1
    rwa [Enc.len] at this
  rw [World.ownsRow.cellAt h _ (by have : (k + 1) * Enc.size α ≤ xs.length * Enc.size α := Nat.mul_le_mul_right _ hk; rw [Nat.add_mul] at this; omega), flat_get _ _ _ hk hj, hu]
theorem Own.free {g n c : Nat} (h : Own w base e (.slice (some ⟨g, 0, none⟩) n c) xs) (j : Nat) : w.frozen? ⟨g, j, none⟩ = false := by
  have hn : n = xs.length := by
    obtain ⟨A', c', hv⟩ := h.form
    injection hv
  subst hn
  exact World.ownsRow.frozenAt h j
theorem flat_split (xs : List α) (k : Nat) (hk : k < xs.length) : flat xs = flat (xs.take k) ++ (Enc.enc xs[k] ++ flat (xs.drop (k + 1))) := by
  conv => lhs; rw [← List.take_append_drop k xs, List.drop_eq_getElem_cons hk]
  rw [flat_append, flat_cons]
theorem flat_set (xs : List α) (k j : Nat) (hk : k < xs.length) (hj : j < Enc.size α) (y : α) (u : Value) (h : (Enc.enc xs[k]).set j u = Enc.enc y) : (flat xs).set (k * Enc.size α + j) u = flat (xs.set k y) := by
  have hl : (flat (xs.take k)).length = k * Enc.size α := by rw [flat_len, List.length_take, Nat.min_eq_left (by omega)]
  rw [flat_split xs k hk, flat_split (xs.set k y) k (by simpa using hk)]
  rw [List.set_append_right _ _ (by omega), hl, Nat.add_sub_cancel_left, List.set_append_left _ _ (by rw [Enc.len]; exact hj), h]
  rw [List.take_set_of_le (Nat.le_refl _), List.drop_set_of_lt (Nat.lt_succ_self _)]
  simp
/-- One cell of one element is stored. -/
theorem Own.set {g n c : Nat} (h : Own w base e (.slice (some ⟨g, 0, none⟩) n c) xs) {k j : Nat} (hk : k < xs.length) (hj : j < Enc.size α) {u : Value} {y : α} (hy : (Enc.enc xs[k]).set j u = Enc.enc y) :
    Own (w.setCell ⟨g, k * Enc.size α + j, none⟩ u) base e (.slice (some ⟨g, 0, none⟩) n c) (xs.set k y) := by
  have hn : n = xs.length := by
    obtain ⟨A', c', hv⟩ := h.form
    injection hv
  subst hn
  have := (World.ownsRow.stored h (k * Enc.size α + j) u).1
  rw [flat_set xs k j hk hj y u hy] at this
  unfold Own
  rw [List.length_set]
  exact this
theorem flat_made (z0 : α) (n : Nat) (hs : 0 < Enc.size α) : (madeCells (Enc.enc z0).toArray (n * Enc.size α)).toList = flat (List.replicate n z0) := by
  apply List.ext_getElem?
  intro i
  have hsz : (Enc.enc z0).toArray.size = Enc.size α := by simp [Enc.len]
  by_cases hi : i < n * Enc.size α
  · have hk : i / Enc.size α < n := Nat.div_lt_of_lt_mul (by rw [Nat.mul_comm]; exact hi)
    have hj : i % Enc.size α < Enc.size α := Nat.mod_lt _ hs
    have hd : i = i / Enc.size α * Enc.size α + i % Enc.size α := by rw [Nat.mul_comm]; exact (Nat.div_add_mod _ _).symm
    have h2 := flat_get (List.replicate n z0) (i / Enc.size α) (i % Enc.size α) (by simpa using hk) hj
    rw [← hd] at h2
    rw [h2]
    simp only [madeCells, Array.getElem?_toList, Array.getElem?_map, Array.getElem?_range, hi, if_true, Option.map_some, List.getElem_replicate, hsz]
    rw [getElem!_pos _ _ (by rw [hsz]; exact hj), List.getElem?_eq_getElem (by rw [Enc.len]; exact hj)]
    simp
  · have h1 : (madeCells (Enc.enc z0).toArray (n * Enc.size α))[i]? = none := Array.getElem?_eq_none (by rw [size_madeCells]; omega)
    have h2 : (flat (List.replicate n z0))[i]? = none := List.getElem?_eq_none (by rw [flat_len, List.length_replicate]; omega)
    rw [Array.getElem?_toList, h1, h2]
end

section
variable {P : Program} {α : Type} [Enc α] {t e : TypeId} {z0 : α}
/-- make([]T, n). -/
theorem wpList_make' (T : El P t e z0) (w : World) {ops : Array Oper} {rest : List Oper} {o : Oper} {a : Act} {Q : Exit → Act → World → Prop}
    (hg : o.guard = none) (l c : Operand) (hop : o.op = Op.makeSlice t l c) (base : Nat) (kl kc : IntKind) (L C : Int) (n : Nat) (hl : a.eval l = .int kl L) (hc : a.eval c = .int kc C) (hL : L = (n : Int)) (hC : C = (n : Int))
    (hn : n ≤ 1048576) (hb : base ≤ w.heap.size)
    (hK : ∀ w', Own w' base e (.slice (some ⟨w.heap.size, 0, none⟩) n n) (List.replicate n z0) → Below w.heap.size w w' → wpList P ops Q rest (a.put o.dst (.slice (some ⟨w.heap.size, 0, none⟩) n n)) w') :
    wpList P ops Q (o :: rest) a w := by
  obtain ⟨i, z, hi, hz, hsz, hby, hzc, hpos⟩ := T.ex
  refine wpList_make_full w hg l c t hop base e i z (Enc.size α) T.und hi hz hsz kl kc L C n hl hc hL hC (Nat.le_trans (Nat.mul_le_mul hby hn) (by decide)) (by simp only [maxLen]; omega) hb fun w' hown hgr => hK w' ?_ ?_
  · rw [hzc, flat_made z0 n hpos] at hown
    unfold Own
    rw [List.length_replicate]
    exact hown
  · exact (Below.refl _ _).grown hgr (Nat.le_refl _) (by simp)
/-- append(s, y): the new element lies in a block of its own. -/
theorem wpList_push (T : El P t e z0) (w : World) {ops : Array Oper} {rest : List Oper} {o : Oper} {a : Act} {Q : Exit → Act → World → Prop}
    (hgd : o.guard = none) (s x : Operand) (ho : o.op = .call { callee := .builtin .append, args := #[s, x], argTypes := #[t, t] })
    (base : Nat) (v : Value) (xs : List α) (y : α) (hs : a.eval s = v) (hown : Own w base e v xs) (g : Nat) (hx : a.eval x = .slice (some ⟨g, 0, none⟩) 1 1) (hcells : w.heap[g]? = some (.cells (Enc.enc y).toArray e (0, 0)))
    (hlen : xs.length ≤ 1048576) (hbase : base ≤ w.heap.size)
    (h : ∀ v' w', Own w' base e v' (xs ++ [y]) → w.grownBy w' v.ownBlock → (v'.ownBlock = v.ownBlock ∨ v'.ownBlock = some w.heap.size) → wpList P ops Q rest (a.put o.dst v') w') : wpList P ops Q (o :: rest) a w := by
  obtain ⟨i, z, hi, hz, hsz, hby, hzc, hpos⟩ := T.ex
  have hc : ∀ j u, (Enc.enc y)[j]? = some u → w.cell? ((⟨g, 0, none⟩ : Addr).add j) = some u := by
    intro j u hu
    have : (⟨g, 0, none⟩ : Addr).add j = ⟨g, j, none⟩ := by unfold Addr.add; split <;> simp_all
    rw [this, cell_of_row w g j _ e (0, 0) hcells]
    simpa using hu
  refine wpList_plain hgd fun K hK' => ?_
  obtain ⟨v', w', hrun, h2, h3, h4, h5⟩ := run_append_own_at (P := P) w base t o.type e i z (Enc.size α) i.bytes T.und hi hz hsz rfl (by rw [hzc]; simp [Enc.len]) hpos v xs.length (flat xs) hown ⟨g, 0, none⟩ 1 1 (Enc.enc y) (by rw [Enc.len]; omega) hc (Enc.one y)
    (by simp only [maxLen]; omega) (Nat.le_trans (Nat.mul_le_mul (show xs.length + 1 ≤ 1048577 by omega) hby) (by decide)) hbase
  have h2' : Own w' base e v' (xs ++ [y]) := by
    unfold Own
    rw [flat_append, flat_one, List.length_append]
    exact h2
  unfold Oper.wp execOp
  simp only [ho, resolve, invoke, builtin, Sem.run_bind, Sem.run_pure, Result.andThen_ok, List.map_toArray, List.map_cons, List.map_nil, hs, hx, hrun]
  exact hK' _ _ (h v' w' h2' h3 h5)
end
theorem run_append_none {P : Program} {α : Type} [Enc α] {t e : TypeId} {z0 : α} (T : El P t e z0) (w : World) (ty : TypeId) (base : Nat) (v : Value) (xs : List α) (hown : Own w base e v xs) (c : Nat) :
    (Builtin.append_ #[t, t] ty #[v, .slice none 0 c]).run P w = .ok v w := by
  obtain ⟨i, z, hi, hz, hsz, hby, hzc, hpos⟩ := T.ex
  rcases hown.2 with ⟨rfl, _⟩ | ⟨g, cap, cur, rfl, _, _, hnc, _⟩
  · simp [Builtin.append_, run_underlying T.und, sizeOf, typeInfo, hi, Builtin.lenOf, Builtin.firstCells]
  · simp [Builtin.append_, run_underlying T.und, sizeOf, typeInfo, hi, Builtin.lenOf, Builtin.firstCells, hnc, storeCells]
/-- append(s, ys...): ys a slice that reads as a list. -/
theorem wpList_appendRd {P : Program} {α : Type} [Enc α] {t e : TypeId} {z0 : α} (T : El P t e z0) (w : World) {ops : Array Oper} {rest : List Oper} {o : Oper} {a : Act} {Q : Exit → Act → World → Prop}
    (hgd : o.guard = none) (s x : Operand) (ho : o.op = .call { callee := .builtin .append, args := #[s, x], argTypes := #[t, t] })
    (base : Nat) (v : Value) (xs ys : List α) (hs : a.eval s = v) (hown : Own w base e v xs) (A : Option Addr) (c : Nat) (hx : a.eval x = .slice A ys.length c) (hr : Rd w A ys)
    (hlen : xs.length ≤ 1048576) (hbase : base ≤ w.heap.size)
    (h : ∀ v' w', Own w' base e v' (xs ++ ys) → w.grownBy w' v.ownBlock → (v'.ownBlock = v.ownBlock ∨ v'.ownBlock = some w.heap.size) → wpList P ops Q rest (a.put o.dst v') w') : wpList P ops Q (o :: rest) a w := by
  obtain ⟨i, z, hi, hz, hsz, hby, hzc, hpos⟩ := T.ex
  have hyl := hr.len
  have key : ∃ v' w', (Builtin.append_ #[t, t] o.type #[v, .slice A ys.length c]).run P w = .ok v' w' ∧ Own w' base e v' (xs ++ ys) ∧ w.grownBy w' v.ownBlock ∧ (v'.ownBlock = v.ownBlock ∨ v'.ownBlock = some w.heap.size) := by
    cases A with
    | none =>
      have hy0 : ys = [] := by
        cases ys with
        | nil => rfl
        | cons y ys =>
          obtain ⟨b, off, hA, _⟩ := hr.2 0 (by simp)
          cases hA
      subst hy0
      exact ⟨v, w, run_append_none T w o.type base v xs hown c, by simpa using hown, World.grownBy.refl _ _, .inl rfl⟩
    | some ad =>
      have hc : ∀ j u, (flat ys)[j]? = some u → w.cell? (ad.add j) = some u := by
        intro j u hu
        have hj : j < ys.length * Enc.size α := by
          have := (List.getElem?_eq_some_iff.1 hu).1
          rwa [flat_len] at this
        have hk : j / Enc.size α < ys.length := Nat.div_lt_of_lt_mul (by rw [Nat.mul_comm]; exact hj)
        have hm : j % Enc.size α < Enc.size α := Nat.mod_lt _ hpos
        have hd : j = j / Enc.size α * Enc.size α + j % Enc.size α := by rw [Nat.mul_comm]; exact (Nat.div_add_mod _ _).symm
        obtain ⟨b, off, hA, hcell⟩ := hr.2 _ hk
        injection hA with hA
        subst hA
        have h2 := flat_get ys _ _ hk hm
        rw [← hd, hu] at h2
        have h3 := hcell _ u h2.symm
        rw [← hd] at h3
        rw [← h3, addr_add]
      obtain ⟨v', w', hrun, h2, h3, h4, h5⟩ := run_append_own_at (P := P) w base t o.type e i z (Enc.size α) i.bytes T.und hi hz hsz rfl (by rw [hzc]; simp [Enc.len]) hpos v xs.length (flat xs) hown ad ys.length c (flat ys) (flat_len ys) hc (flat_one' ys)
        (by simp only [maxLen]; omega) (Nat.le_trans (Nat.mul_le_mul (show xs.length + ys.length ≤ 2097152 by omega) hby) (by decide)) hbase
      refine ⟨v', w', hrun, ?_, h3, h5⟩
      unfold Own
      rw [flat_append, List.length_append]
      exact h2
  obtain ⟨v', w', hrun, h2', h3, h5⟩ := key
  refine wpList_plain hgd fun K hK' => ?_
  unfold Oper.wp execOp
  simp only [ho, resolve, invoke, builtin, Sem.run_bind, Sem.run_pure, Result.andThen_ok, List.map_toArray, List.map_cons, List.map_nil, hs, hx, hrun]
  exact hK' _ _ (h v' w' h2' h3 h5)
/-- A world that has grown beside a row of the call's own. -/
theorem below_own {α : Type} [Enc α] {B base : Nat} {e : TypeId} {v : Value} {xs : List α} {a w w' : World} (h : Below B a w) (hown : Own w base e v xs) (hg : w.grownBy w' v.ownBlock) (hB : B ≤ base) (hB' : B ≤ w.heap.size) : Below B a w' :=
  h.grown hg hB' fun k hk => by have := (World.ownsRow.lt hown k hk).1; omega
theorem set_step {α : Type} {xs : List α} {n k : Nat} {z : α} (hn : n = xs.length) (hk : k < xs.length) : (xs.take k ++ List.replicate (n - k) z).set k xs[k] = xs.take (k + 1) ++ List.replicate (n - (k + 1)) z := by
  have hl : (xs.take k).length = k := by rw [List.length_take]; omega
  rw [List.set_append_right _ _ (by omega), hl, Nat.sub_self, List.take_succ_eq_append_getElem hk, List.append_assoc]
  have : n - k = (n - (k + 1)) + 1 := by omega
  rw [this, List.replicate_succ]
  simp
theorem Own.past {α : Type} [Enc α] {w : World} {base : Nat} {e : TypeId} {v : Value} {xs : List α} (h : Own w base e v xs) {p : Addr} (hp : p.block < base) (u : Value) : Own (w.setCell p u) base e v xs := ownsRow_setCell_below h hp u
theorem grown_set {w wr : World} {g j : Nat} {u : Value} {n c : Nat} (h : w.grownBy wr (Value.slice (some ⟨g, 0, none⟩) n c).ownBlock) : w.grownBy (wr.setCell ⟨g, j, none⟩ u) (Value.slice (some ⟨g, 0, none⟩) n c).ownBlock :=
  ⟨h.os, h.tape, h.output, by simpa [World.setCell] using h.size, fun k hk hne => (Below.heap_setCell wr ⟨g, j, none⟩ u k (fun e => hne (by rw [e]; rfl))).trans (h.block k hk hne)⟩
/-- A row of the call's own beside which another row has been written. -/
theorem Own.beside {α : Type} [Enc α] {w w' : World} {base : Nat} {e : TypeId} {v u : Value} {xs : List α} (h : Own w base e v xs) (hg : w.grownBy w' u.ownBlock) (hne : ∀ k g, v.ownBlock = some k → u.ownBlock = some g → k ≠ g) : Own w' base e v xs := by
  refine h.grown hg ?_
  cases hv : v.ownBlock with
  | none => exact .inl rfl
  | some k =>
    right
    cases hu : u.ownBlock with
    | none => simp
    | some g =>
      have := hne k g hv hu
      simpa using this
theorem Own.block {α : Type} [Enc α] {w : World} {base : Nat} {e : TypeId} {v : Value} {xs : List α} (h : Own w base e v xs) : ∀ k, v.ownBlock = some k → base ≤ k ∧ k < w.heap.size := World.ownsRow.lt h
/-- What was there before a row of the call's own was made is as it was behind a store into that row. -/
theorem Rd.beside {α : Type} [Enc α] {w w' : World} {A : Option Addr} {xs : List α} {u : Value} {W : World} (h : Rd W A xs) (hW : Below W.heap.size W w) (hg : w.grownBy w' u.ownBlock) (hne : ∀ g, u.ownBlock = some g → W.heap.size ≤ g) : Rd w' A xs :=
  h.below (hW.grown hg hW.size hne)
/-- A cell that does not lie in the row that is written. -/
theorem grown_cell {w w' : World} {row : Option Nat} (hg : w.grownBy w' row) {p : Addr} {v : Value} (h : w.cell? p = some v) (hne : ∀ g, row = some g → g ≠ p.block) : w'.cell? p = some v := by
  have hb := hg.block p.block (World.block_lt_of_cell? w p h) (fun e => hne _ e.symm rfl)
  rw [← h]
  exact World.cell?_of_block hb
theorem grown_free {w w' : World} {row : Option Nat} (hg : w.grownBy w' row) {p : Addr} (h : (w.cell? p).isSome = true) (hf : w.frozen? p = false) (hne : ∀ g, row = some g → g ≠ p.block) : w'.frozen? p = false := by
  have hb := hg.block p.block (block_lt h) (fun e => hne _ e.symm rfl)
  rw [← hf]
  exact World.frozen?_of_block hb
theorem max_if (a b : Int) : (if a < b then b else a) = max a b := by split <;> omega
theorem min_if (a b : Int) : (if b < a then b else a) = min a b := by split <;> omega
end Go.Proofs.Yteobejgkjjhfkaa
