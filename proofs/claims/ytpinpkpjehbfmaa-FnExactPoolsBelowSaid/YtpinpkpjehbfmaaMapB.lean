/- A map[int64]bool that the call makes and in which it keeps true alone: a set of numbers. -/
import Derived.Test.YtpinpkpjehbfmaaKind
import Derived.Maps.OwnSet
import Derived.Maps.OwnOps
import Derived.Maps.Own
namespace Go.Proofs.Ytpinpkpjehbfmaa
open Go.RowKit
set_option linter.unusedVariables false
theorem mapKeyed : Maps.Keyed Try.prog 2 := Maps.int_keyed Try.underlying2
theorem mapZero (w : World) : (zeroValue 4).run Try.prog w = .ok (.bool false) w := by kernel_rfl
def inI (k : Int) : Prop := -9223372036854775808 ≤ k ∧ k ≤ 9223372036854775807
theorem inI_wf {k : Int} (h : inI k) : (Lit.int .i64 k).wf = true := by
  have := h.1
  have := h.2
  simp [Lit.wf, IntKind.min, IntKind.max, IntKind.signed, IntKind.bits]
  omega
theorem inI_key {k : Int} (h : inI k) : keyOf Try.prog 2 (.int .i64 k) = some (.int .i64 k) := Maps.keyOf_int_mk Try.underlying2 (inI_wf h)
/-- Block b is such a map; its keys are ks. -/
structure MpB (w : World) (b : Nat) (ks : List Int) : Prop where
  nd : ks.Nodup
  rng : ∀ k ∈ ks, inI k
  len : ks.length ≤ 1048576
  out : ∃ D : DataW Unit, w.ownsMap Try.prog 2 (plainElem Try.prog 4) b ks.length D ∧ Maps.size D = ks.length ∧
    ∀ k, inI k → D.atKey (.int .i64 k) (.lit (.bool false)) = .lit (.bool (decide (k ∈ ks))) ∧ Maps.has D (.int .i64 k) = decide (k ∈ ks)
section
variable {w w' : World} {b : Nat} {ks : List Int}
theorem MpB.made (w : World) : MpB (w.alloc (.map #[] 0)) w.heap.size [] :=
  ⟨List.nodup_nil, by simp, by simp, .map [], World.ownsMap_made w _ _ _, rfl, fun k hk => ⟨by simp [DataW.atKey], by simp [Maps.has]⟩⟩
theorem MpB.lt (h : MpB w b ks) : b < w.heap.size := by obtain ⟨D, hD, _⟩ := h.out; exact hD.lt
theorem MpB.kept {row : Option Nat} (h : MpB w b ks) (hg : w.grownBy w' row) (hne : some b ≠ row) : MpB w' b ks := by
  obtain ⟨D, hD, h1, h2⟩ := h.out
  exact ⟨h.nd, h.rng, h.len, D, hD.kept hg hne, h1, h2⟩
theorem MpB.below (h : MpB w b ks) (hb : Below w.heap.size w w') : MpB w' b ks := h.kept (below_grown hb (Nat.le_refl _)) (by simp)
theorem MpB.setCell (h : MpB w b ks) {a : Addr} (ha : b ≠ a.block) (u : Value) : MpB (w.setCell a u) b ks := by
  obtain ⟨D, hD, h1, h2⟩ := h.out
  exact ⟨h.nd, h.rng, h.len, D, hD.setCell ha u, h1, h2⟩
theorem MpB.drewN (h : MpB w b ks) (n : Nat) : MpB (w.drewN n) b ks := ⟨h.nd, h.rng, h.len, h.out⟩
theorem MpB.look (h : MpB w b ks) {k : Int} (hk : inI k) : (Instr.lookup 56 (.map (some b)) (.int .i64 k) false).run Try.prog w = .ok (.bool (decide (k ∈ ks))) w := by
  obtain ⟨D, hD, h1, h2⟩ := h.out
  obtain ⟨v, ps, hrun, hv⟩ := hD.lookup mapKeyed Try.underlying56 (mapZero w) (plainElem_bool Try.underlying4 false) (inI_key hk)
  rw [(h2 k hk).1] at hv
  unfold plainElem at hv
  rw [Try.underlying4] at hv
  cases v <;> simp at hv
  obtain ⟨rfl, _⟩ := hv
  exact hrun
/-- m[k] = true. -/
def addK (ks : List Int) (k : Int) : List Int := if k ∈ ks then ks else k :: ks
theorem mem_addK {ks : List Int} {k x : Int} : x ∈ addK ks k ↔ x = k ∨ x ∈ ks := by
  unfold addK
  split
  · rename_i h
    constructor
    · exact .inr
    · rintro (rfl | h2)
      · exact h
      · exact h2
  · simp
theorem lit_ne {a k : Int} (h : ¬ a = k) : Lit.int .i64 a ≠ Lit.int .i64 k := fun e => h (by injection e)
theorem MpB.store (h : MpB w b ks) {k : Int} (hk : inI k) (hl : ks.length < 1048576) :
    ∃ w', (Instr.mapUpdate 56 (.map (some b)) (.int .i64 k) (.bool true)).run Try.prog w = .ok () w' ∧ MpB w' b (addK ks k) ∧ w.grownBy w' (some b) := by
  obtain ⟨D, hD, h1, h2⟩ := h.out
  obtain ⟨w', hrun, ho, hg⟩ := hD.update mapKeyed Try.underlying56 (by simp only [maxLen]; omega) (inI_key hk) (plainElem_bool Try.underlying4 true)
  have hkey : WideAt.IsKeyLit (.int .i64 k) := trivial
  have hsz := Maps.size_put (hD.tidy mapKeyed) (k := .int .i64 k) (.lit (.bool true))
  rw [(h2 k hk).2, h1] at hsz
  have hlen : Maps.size (D.put (.int .i64 k) (.lit (.bool true))) = (addK ks k).length := by
    rw [hsz]
    unfold addK
    by_cases hm : k ∈ ks <;> simp [hm]
  have hol : w'.ownsMap Try.prog 2 (plainElem Try.prog 4) b (addK ks k).length (D.put (.int .i64 k) (.lit (.bool true))) := by
    obtain ⟨es, clock, hb', F, hs, hD'⟩ := ho
    refine ⟨es, clock, hb', F, ?_, hD'⟩
    rw [← hlen, hD']
    simp [Maps.size, length_sorted]
  refine ⟨w', hrun, ⟨?_, fun x hx => ?_, ?_, _, hol, hlen, fun x hx => ?_⟩, hg⟩
  · unfold addK
    split
    · exact h.nd
    · rename_i hm; exact List.nodup_cons.2 ⟨hm, h.nd⟩
  · rcases mem_addK.1 hx with rfl | hx
    · exact hk
    · exact h.rng x hx
  · unfold addK
    split
    · omega
    · simp; omega
  · by_cases hxk : x = k
    · subst hxk
      rw [Maps.atKey_put_same hD.isMap hkey, Maps.has_put_same hD.isMap hkey]
      have : decide (x ∈ addK ks x) = true := decide_eq_true (mem_addK.2 (.inl rfl))
      rw [this]
      exact ⟨rfl, rfl⟩
    · rw [Maps.atKey_put_other (lit_ne hxk), Maps.has_put_other (lit_ne hxk), (h2 x hx).1, (h2 x hx).2]
      have : decide (x ∈ addK ks k) = decide (x ∈ ks) := by
        rw [decide_eq_decide]; rw [mem_addK]; simp [hxk]
      rw [this]
      exact ⟨rfl, rfl⟩
theorem turned_grown (h : w.mapTurned w' b) : w.grownBy w' (some b) := h.grown
theorem MpB.drop (h : MpB w b ks) {k : Int} (hk : inI k) (hm : k ∈ ks) (ty : TypeId) :
    ∃ w', (Builtin.delete_ #[56, 2] ty #[.map (some b), .int .i64 k]).run Try.prog w = .ok (.tuple #[]) w' ∧ MpB w' b (ks.erase k) ∧ w.grownBy w' (some b) := by
  obtain ⟨D, hD, h1, h2⟩ := h.out
  obtain ⟨w', hrun, ho, hg⟩ := hD.drop mapKeyed Try.underlying56 (inI_key hk) ty
  have hsz := Maps.size_del (hD.tidy mapKeyed) (k := .int .i64 k)
  rw [(h2 k hk).2, h1, decide_eq_true hm] at hsz
  have hpos : 0 < ks.length := List.length_pos_of_mem hm
  have hlen : Maps.size (D.del (.int .i64 k)) = (ks.erase k).length := by
    rw [List.length_erase_of_mem hm]
    simp at hsz
    omega
  have hol : w'.ownsMap Try.prog 2 (plainElem Try.prog 4) b (ks.erase k).length (D.del (.int .i64 k)) := by
    obtain ⟨es, clock, hb', F, hs, hD'⟩ := ho
    refine ⟨es, clock, hb', F, ?_, hD'⟩
    rw [← hlen, hD']
    simp [Maps.size, length_sorted]
  refine ⟨w', hrun, ⟨h.nd.erase k, fun x hx => h.rng x (List.mem_of_mem_erase hx), by rw [List.length_erase_of_mem hm]; have := h.len; omega, _, hol, hlen, fun x hx => ?_⟩, turned_grown hg⟩
  by_cases hxk : x = k
  · subst hxk
    rw [Maps.atKey_del_same, Maps.has_del_same]
    have : decide (x ∈ ks.erase x) = false := decide_eq_false (by rw [h.nd.mem_erase_iff]; simp)
    rw [this]
    exact ⟨rfl, rfl⟩
  · rw [Maps.atKey_del_other (lit_ne hxk), Maps.has_del_other (lit_ne hxk), (h2 x hx).1, (h2 x hx).2]
    have : decide (x ∈ ks.erase k) = decide (x ∈ ks) := by
      rw [decide_eq_decide]; rw [List.mem_erase_of_ne hxk]
    rw [this]
    exact ⟨rfl, rfl⟩
theorem MpB.size (h : MpB w b ks) (ty : TypeId) : (Builtin.len_ #[56] ty #[.map (some b)]).run Try.prog w = .ok (.int .i64 ks.length) w := by
  obtain ⟨D, hD, h1, h2⟩ := h.out
  rw [← h1]
  exact hD.len Try.underlying56 ty
end
section
variable (w : World) {ops : Array Oper} {rest : List Oper} {o : Oper} {a : Act} {Q : Exit → Act → World → Prop}
/-- m[k] at the operation. -/
theorem wpList_lookB (hg : o.guard = none) (m x : Operand) (hop : o.op = Op.lookup 56 m x false) (b : Nat) (ks : List Int) (k : Int) (hm : a.eval m = .map (some b)) (hx : a.eval x = .int .i64 k) (h : MpB w b ks) (hk : inI k)
    (hK : wpList Try.prog ops Q rest (a.put o.dst (.bool (decide (k ∈ ks)))) w) : wpList Try.prog ops Q (o :: rest) a w := by
  refine wpList_plain hg fun K' hK' => ?_
  unfold Oper.wp
  simp [execOp, hop, hm, hx, h.look hk, Result.andThen]
  exact hK' _ _ hK
theorem wpList_storeB (hg : o.guard = none) (m x v : Operand) (hop : o.op = Op.mapUpdate 56 m x v) (b : Nat) (ks : List Int) (k : Int) (hm : a.eval m = .map (some b)) (hx : a.eval x = .int .i64 k) (hv : a.eval v = .bool true) (h : MpB w b ks) (hk : inI k) (hl : ks.length < 1048576)
    (hK : ∀ w', MpB w' b (addK ks k) → w.grownBy w' (some b) → wpList Try.prog ops Q rest (a.put o.dst undef) w') : wpList Try.prog ops Q (o :: rest) a w := by
  refine wpList_plain hg fun K' hK' => ?_
  obtain ⟨w', hrun, r1, r2⟩ := h.store hk hl
  unfold Oper.wp
  simp [execOp, hop, hm, hx, hv, hrun, Result.andThen]
  exact hK' _ _ (hK w' r1 r2)
theorem wpList_dropB (hg : o.guard = none) (m x : Operand) (hop : o.op = Op.call { callee := Callee.builtin Builtin.delete, args := #[m, x], argTypes := #[56, 2] }) (b : Nat) (ks : List Int) (k : Int) (hm : a.eval m = .map (some b)) (hx : a.eval x = .int .i64 k) (h : MpB w b ks) (hk : inI k) (hmem : k ∈ ks)
    (hK : ∀ w', MpB w' b (ks.erase k) → w.grownBy w' (some b) → wpList Try.prog ops Q rest (a.put o.dst (.tuple #[])) w') : wpList Try.prog ops Q (o :: rest) a w := by
  refine wpList_plain hg fun K' hK' => ?_
  obtain ⟨w', hrun, r1, r2⟩ := h.drop hk hmem o.type
  unfold Oper.wp
  simp [execOp, hop, resolve, invoke, builtin, hm, hx, hrun, Result.andThen]
  exact hK' _ _ (hK w' r1 r2)
theorem wpList_lenB (hg : o.guard = none) (m : Operand) (hop : o.op = Op.call { callee := Callee.builtin Builtin.len, args := #[m], argTypes := #[56] }) (b : Nat) (ks : List Int) (hm : a.eval m = .map (some b)) (h : MpB w b ks)
    (hK : wpList Try.prog ops Q rest (a.put o.dst (.int .i64 ks.length)) w) : wpList Try.prog ops Q (o :: rest) a w := by
  refine wpList_plain hg fun K' hK' => ?_
  unfold Oper.wp
  simp [execOp, hop, resolve, invoke, builtin, hm, h.size o.type, Result.andThen]
  exact hK' _ _ hK
end
end Go.Proofs.Ytpinpkpjehbfmaa
