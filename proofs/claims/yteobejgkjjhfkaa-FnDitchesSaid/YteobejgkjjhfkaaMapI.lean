/- A map[int64]int64 that the call makes: its entries, in a list. -/
import Derived.Test.YteobejgkjjhfkaaKind
import Derived.Maps.OwnSet
import Derived.Maps.OwnOps
import Derived.Maps.Own
namespace Go.Proofs.Yteobejgkjjhfkaa
open Go.RowKit
set_option linter.unusedVariables false
theorem mapKeyed : Maps.Keyed Try.prog 2 := Maps.int_keyed Try.underlying2
theorem mapZeroI (w : World) : (zeroValue 2).run Try.prog w = .ok (.int .i64 0) w := by kernel_rfl
def inI (k : Int) : Prop := -9223372036854775808 ≤ k ∧ k ≤ 9223372036854775807
theorem inI_wf {k : Int} (h : inI k) : (Lit.int .i64 k).wf = true := by
  have := h.1
  have := h.2
  simp [Lit.wf, IntKind.min, IntKind.max, IntKind.signed, IntKind.bits]
  omega
theorem inI_key {k : Int} (h : inI k) : keyOf Try.prog 2 (.int .i64 k) = some (.int .i64 k) := Maps.keyOf_int_mk Try.underlying2 (inI_wf h)
theorem lit_ne {a k : Int} (h : ¬ a = k) : Lit.int .i64 a ≠ Lit.int .i64 k := fun e => h (by injection e)
/-- The value at a key; 0 where there is none. -/
def getI : List (Int × Int) → Int → Int
  | [], _ => 0
  | (a, v) :: r, k => if a = k then v else getI r k
def hasI (bl : List (Int × Int)) (k : Int) : Bool := decide (k ∈ bl.map Prod.fst)
theorem getI_out : ∀ {bl : List (Int × Int)} {k : Int}, k ∉ bl.map Prod.fst → getI bl k = 0
  | [], _, _ => rfl
  | (a, v) :: r, k, h => by
    simp only [List.map_cons, List.mem_cons, not_or] at h
    unfold getI
    rw [if_neg (fun e => h.1 e.symm)]
    exact getI_out h.2
theorem getI_snoc : ∀ {bl : List (Int × Int)} {k v x : Int}, k ∉ bl.map Prod.fst → getI (bl ++ [(k, v)]) x = if x = k then v else getI bl x
  | [], k, v, x, _ => by
    simp only [List.nil_append, getI]
    by_cases e : k = x
    · rw [if_pos e, if_pos e.symm]
    · rw [if_neg e, if_neg (fun h => e h.symm)]
  | (a, u) :: r, k, v, x, h => by
    simp only [List.map_cons, List.mem_cons, not_or] at h
    rw [List.cons_append]
    simp only [getI]
    rw [getI_snoc h.2]
    by_cases e : a = x
    · rw [if_pos e, if_pos e, if_neg (fun h2 => h.1 (h2.symm.trans e.symm))]
    · rw [if_neg e, if_neg e]
theorem getI_at : ∀ {bl : List (Int × Int)} {p : Nat} {k v : Int}, (bl.map Prod.fst).Nodup → bl[p]? = some (k, v) → getI bl k = v
  | [], p, k, v, _, h => by simp at h
  | (a, u) :: r, 0, k, v, _, h => by
    simp only [List.getElem?_cons_zero, Option.some.injEq, Prod.mk.injEq] at h
    obtain ⟨rfl, rfl⟩ := h
    simp [getI]
  | (a, u) :: r, p + 1, k, v, hn, h => by
    simp only [List.map_cons, List.nodup_cons] at hn
    have h' : r[p]? = some (k, v) := by simpa using h
    have hm : k ∈ r.map Prod.fst := List.mem_map.2 ⟨(k, v), List.mem_of_getElem? h', rfl⟩
    simp only [getI]
    have hak : ¬ a = k := fun e => hn.1 (by rw [e]; exact hm)
    rw [if_neg hak]
    exact getI_at hn.2 h'
/-- Block b is such a map; its entries are bl. -/
structure MpI (w : World) (b : Nat) (bl : List (Int × Int)) : Prop where
  nd : (bl.map Prod.fst).Nodup
  len : bl.length ≤ 1048576
  out : ∃ D : DataW Unit, w.ownsMap Try.prog 2 (plainElem Try.prog 2) b bl.length D ∧ Maps.size D = bl.length ∧
    ∀ k, inI k → D.atKey (.int .i64 k) (.lit (.int .i64 0)) = .lit (.int .i64 (getI bl k)) ∧ Maps.has D (.int .i64 k) = hasI bl k
section
variable {w w' : World} {b : Nat} {bl : List (Int × Int)}
theorem MpI.made (w : World) : MpI (w.alloc (.map #[] 0)) w.heap.size [] :=
  ⟨List.nodup_nil, by simp, .map [], World.ownsMap_made w _ _ _, rfl, fun k hk => ⟨by simp [DataW.atKey, getI], by simp [Maps.has, hasI]⟩⟩
theorem MpI.lt (h : MpI w b bl) : b < w.heap.size := by obtain ⟨D, hD, _⟩ := h.out; exact hD.lt
theorem MpI.kept {row : Option Nat} (h : MpI w b bl) (hg : w.grownBy w' row) (hne : some b ≠ row) : MpI w' b bl := by
  obtain ⟨D, hD, h1, h2⟩ := h.out
  exact ⟨h.nd, h.len, D, hD.kept hg hne, h1, h2⟩
theorem MpI.below (h : MpI w b bl) (hb : Below w.heap.size w w') : MpI w' b bl := h.kept (below_grown hb (Nat.le_refl _)) (by simp)
theorem MpI.setCell (h : MpI w b bl) {a : Addr} (ha : b ≠ a.block) (u : Value) : MpI (w.setCell a u) b bl := by
  obtain ⟨D, hD, h1, h2⟩ := h.out
  exact ⟨h.nd, h.len, D, hD.setCell ha u, h1, h2⟩
theorem MpI.drewN (h : MpI w b bl) (n : Nat) : MpI (w.drewN n) b bl := ⟨h.nd, h.len, h.out⟩
theorem intLit {v : Value} {c : Int} {ps : List MemPlace} (h : plainElem (H := Unit) Try.prog 2 v = some (.lit (.int .i64 c), ps)) : v = .int .i64 c := by
  obtain ⟨a, rfl, ha, _⟩ := plainElem_int_inv Try.underlying2 h
  simp only [Prod.mk.injEq] at ha
  obtain rfl : c = a := by simpa using ha.1
  rfl
theorem MpI.look (h : MpI w b bl) {k : Int} (hk : inI k) : (Instr.lookup 109 (.map (some b)) (.int .i64 k) false).run Try.prog w = .ok (.int .i64 (getI bl k)) w := by
  obtain ⟨D, hD, h1, h2⟩ := h.out
  obtain ⟨v, ps, hrun, hv⟩ := hD.lookup mapKeyed Try.underlying109 (mapZeroI w) (plainElem_int Try.underlying2 (by decide)) (inI_key hk)
  rw [(h2 k hk).1] at hv
  rw [intLit hv] at hrun
  exact hrun
theorem MpI.lookOk (h : MpI w b bl) {k : Int} (hk : inI k) : (Instr.lookup 109 (.map (some b)) (.int .i64 k) true).run Try.prog w = .ok (.tuple #[.int .i64 (getI bl k), .bool (hasI bl k)]) w := by
  obtain ⟨D, hD, h1, h2⟩ := h.out
  obtain ⟨v, ps, hrun, hv⟩ := hD.look_ok mapKeyed Try.underlying109 (mapZeroI w) (plainElem_int Try.underlying2 (by decide)) (inI_key hk)
  rw [(h2 k hk).1] at hv
  rw [intLit hv, (h2 k hk).2] at hrun
  exact hrun
/-- m[k] = v at a key that is not yet there. -/
theorem MpI.store (h : MpI w b bl) {k v : Int} (hk : inI k) (hv : inI v) (hl : bl.length < 1048576) (hn : k ∉ bl.map Prod.fst) :
    ∃ w', (Instr.mapUpdate 109 (.map (some b)) (.int .i64 k) (.int .i64 v)).run Try.prog w = .ok () w' ∧ MpI w' b (bl ++ [(k, v)]) ∧ w.grownBy w' (some b) := by
  obtain ⟨D, hD, h1, h2⟩ := h.out
  obtain ⟨w', hrun, ho, hg⟩ := hD.update mapKeyed Try.underlying109 (by simp only [maxLen]; omega) (inI_key hk) (plainElem_int Try.underlying2 (inI_wf hv))
  have hkey : WideAt.IsKeyLit (.int .i64 k) := trivial
  have hsz := Maps.size_put (hD.tidy mapKeyed) (k := .int .i64 k) (.lit (.int .i64 v))
  have hno : hasI bl k = false := decide_eq_false hn
  rw [(h2 k hk).2, h1, hno] at hsz
  have hlen : Maps.size (D.put (.int .i64 k) (.lit (.int .i64 v))) = (bl ++ [(k, v)]).length := by
    rw [hsz]
    simp
  have hol : w'.ownsMap Try.prog 2 (plainElem Try.prog 2) b (bl ++ [(k, v)]).length (D.put (.int .i64 k) (.lit (.int .i64 v))) := by
    obtain ⟨es, clock, hb', F, hs, hD'⟩ := ho
    refine ⟨es, clock, hb', F, ?_, hD'⟩
    rw [← hlen, hD']
    simp [Maps.size, length_sorted]
  refine ⟨w', hrun, ⟨?_, by simp; omega, _, hol, hlen, fun x hx => ?_⟩, hg⟩
  · rw [List.map_append, List.nodup_append]
    refine ⟨h.nd, by simp, fun a ha c hc => ?_⟩
    simp only [List.map_cons, List.map_nil, List.mem_singleton] at hc
    subst hc
    exact fun e => hn (e ▸ ha)
  · rw [getI_snoc hn]
    by_cases hxk : x = k
    · subst hxk
      rw [Maps.atKey_put_same hD.isMap hkey, Maps.has_put_same hD.isMap hkey, if_pos rfl]
      exact ⟨rfl, by simp [hasI]⟩
    · rw [Maps.atKey_put_other (lit_ne hxk), Maps.has_put_other (lit_ne hxk), (h2 x hx).1, (h2 x hx).2, if_neg hxk]
      exact ⟨rfl, by simp [hasI, hxk]⟩
end
section
variable (w : World) {ops : Array Oper} {rest : List Oper} {o : Oper} {a : Act} {Q : Exit → Act → World → Prop}
theorem wpList_lookI (hg : o.guard = none) (m x : Operand) (hop : o.op = Op.lookup 109 m x false) (b : Nat) (bl : List (Int × Int)) (k : Int) (hm : a.eval m = .map (some b)) (hx : a.eval x = .int .i64 k) (h : MpI w b bl) (hk : inI k)
    (hK : wpList Try.prog ops Q rest (a.put o.dst (.int .i64 (getI bl k))) w) : wpList Try.prog ops Q (o :: rest) a w := by
  refine wpList_plain hg fun K' hK' => ?_
  unfold Oper.wp
  simp [execOp, hop, hm, hx, h.look hk, Result.andThen]
  exact hK' _ _ hK
theorem wpList_lookOkI (hg : o.guard = none) (m x : Operand) (hop : o.op = Op.lookup 109 m x true) (b : Nat) (bl : List (Int × Int)) (k : Int) (hm : a.eval m = .map (some b)) (hx : a.eval x = .int .i64 k) (h : MpI w b bl) (hk : inI k)
    (hK : wpList Try.prog ops Q rest (a.put o.dst (.tuple #[.int .i64 (getI bl k), .bool (hasI bl k)])) w) : wpList Try.prog ops Q (o :: rest) a w := by
  refine wpList_plain hg fun K' hK' => ?_
  unfold Oper.wp
  simp [execOp, hop, hm, hx, h.lookOk hk, Result.andThen]
  exact hK' _ _ hK
theorem wpList_storeI (hg : o.guard = none) (m x v : Operand) (hop : o.op = Op.mapUpdate 109 m x v) (b : Nat) (bl : List (Int × Int)) (k u : Int) (hm : a.eval m = .map (some b)) (hx : a.eval x = .int .i64 k) (hv : a.eval v = .int .i64 u) (h : MpI w b bl) (hk : inI k) (hu : inI u) (hl : bl.length < 1048576) (hn : k ∉ bl.map Prod.fst)
    (hK : ∀ w', MpI w' b (bl ++ [(k, u)]) → w.grownBy w' (some b) → wpList Try.prog ops Q rest (a.put o.dst undef) w') : wpList Try.prog ops Q (o :: rest) a w := by
  refine wpList_plain hg fun K' hK' => ?_
  obtain ⟨w', hrun, r1, r2⟩ := h.store hk hu hl hn
  unfold Oper.wp
  simp [execOp, hop, hm, hx, hv, hrun, Result.andThen]
  exact hK' _ _ (hK w' r1 r2)
theorem wpList_insertI (hg : o.guard = none) (m x v : Operand) (hop : o.op = Op.insert 109 m x v) (b : Nat) (bl : List (Int × Int)) (k u : Int) (hm : a.eval m = .map (some b)) (hx : a.eval x = .int .i64 k) (hv : a.eval v = .int .i64 u) (h : MpI w b bl) (hk : inI k) (hu : inI u) (hl : bl.length < 1048576) (hn : k ∉ bl.map Prod.fst)
    (hK : ∀ w', MpI w' b (bl ++ [(k, u)]) → w.grownBy w' (some b) → wpList Try.prog ops Q rest (a.put o.dst undef) w') : wpList Try.prog ops Q (o :: rest) a w := by
  refine wpList_plain hg fun K' hK' => ?_
  obtain ⟨w', hrun, r1, r2⟩ := h.store hk hu hl hn
  unfold Oper.wp
  simp [execOp, hop, hm, hx, hv, hrun, Result.andThen]
  exact hK' _ _ (hK w' r1 r2)
end
end Go.Proofs.Yteobejgkjjhfkaa
