/- BestSplit: the closure that calls itself. -/
import Derived.Test.YteobejgkjjhfkaaFew
import Derived.Deep.RegionHeld3
namespace Go.Proofs.Yteobejgkjjhfkaa
open Go.RowKit
set_option linter.unusedVariables false
set_option linter.unusedSimpArgs false
theorem Own.spanned {α : Type} [Enc α] {w w' : World} {base lo hi : Nat} {e : TypeId} {v : Value} {xs : List α} (h : Own w base e v xs) (hs : Span w w' lo hi) (hd : ∀ b, v.ownBlock = some b → b < lo ∨ hi ≤ b) : Own w' base e v xs := by
  refine ⟨h.1, ?_⟩
  rcases h.2 with hn | ⟨g, cap, cur, rfl, hb, hgg, rest⟩
  · exact .inl hn
  · refine .inr ⟨g, cap, cur, rfl, hb, ?_, rest⟩
    rw [hs.block g (Array.getElem?_eq_some_iff.1 hgg).1 (hd g rfl)]
    exact hgg
section
variable {P : Program} {α : Type} [Enc α] {t e : TypeId} {z0 : α}
theorem stepPush (T : El P t e z0) (w : World) {ops : Array Oper} {o : Oper} {a : Act} {K : Act → World → Prop} {Q : Exit → Act → World → Prop} {E : Prop}
    (hgd : o.guard = none) (s x : Operand) (ho : o.op = .call { callee := .builtin .append, args := #[s, x], argTypes := #[t, t] })
    (base : Nat) (v : Value) (xs : List α) (y : α) (hs : a.eval s = v) (hown : Own w base e v xs) (g : Nat) (hx : a.eval x = .slice (some ⟨g, 0, none⟩) 1 1) (hcells : w.heap[g]? = some (.cells (Enc.enc y).toArray e (0, 0)))
    (hlen : xs.length ≤ 1048576) (hbase : base ≤ w.heap.size)
    (h : ∀ v' w', Own w' base e v' (xs ++ [y]) → w.grownBy w' v.ownBlock → (v'.ownBlock = v.ownBlock ∨ v'.ownBlock = some w.heap.size) → K (a.put o.dst v') w') :
    if Region.wanted o (yielded ops a.tmps) = true then Oper.wp P o a w K Q else E := by
  obtain ⟨i, z, hi, hz, hsz, hby, hzc, hpos⟩ := T.ex
  have hc : ∀ j u, (Enc.enc y)[j]? = some u → w.cell? ((⟨g, 0, none⟩ : Addr).add j) = some u := by
    intro j u hu
    have : (⟨g, 0, none⟩ : Addr).add j = ⟨g, j, none⟩ := by unfold Addr.add; split <;> simp_all
    rw [this, cell_of_row w g j _ e (0, 0) hcells]
    simpa using hu
  have hw : Region.wanted o (yielded ops a.tmps) = true := by simp [Region.wanted, hgd]
  rw [if_pos hw]
  obtain ⟨v', w', hrun, h2, h3, h4, h5⟩ := run_append_own_at (P := P) w base t o.type e i z (Enc.size α) i.bytes T.und hi hz hsz rfl (by rw [hzc]; simp [Enc.len]) hpos v xs.length (flat xs) hown ⟨g, 0, none⟩ 1 1 (Enc.enc y) (by rw [Enc.len]; omega) hc (Enc.one y)
    (by simp only [maxLen]; omega) (Nat.le_trans (Nat.mul_le_mul (show xs.length + 1 ≤ 1048577 by omega) hby) (by decide)) hbase
  have h2' : Own w' base e v' (xs ++ [y]) := by
    unfold Own
    rw [flat_append, flat_one, List.length_append]
    exact h2
  unfold Oper.wp execOp
  simp only [ho, resolve, invoke, builtin, Sem.run_bind, Sem.run_pure, Result.andThen_ok, List.map_toArray, List.map_cons, List.map_nil, hs, hx, hrun]
  exact h v' w' h2' h3 h5
end
/-- A row that does not lie in the blocks g and g + 1. -/
def Apart (v : Value) (g : Nat) : Prop := ∀ b, v.ownBlock = some b → b < g ∨ g + 2 ≤ b
/-- The variables that the closure has captured. -/
structure Bx (w : World) (gm gn gr g : Nat) (V : Option Addr) (c n : Nat) (R : Option Addr) (rc : Nat) (F B : Value) (m : Int) : Prop where
  mills : w.cell? ⟨gm, 0, none⟩ = some (.slice V n c)
  func : w.cell? ⟨gn, 0, none⟩ = some F
  rates : w.cell? ⟨gr, 0, none⟩ = some (.slice R n rc)
  best : w.cell? ⟨g, 0, none⟩ = some B
  most : w.cell? ⟨g + 1, 0, none⟩ = some (.int .i64 m)
  fb : w.frozen? ⟨g, 0, none⟩ = false
  fm : w.frozen? ⟨g + 1, 0, none⟩ = false
theorem Bx.below {w w' : World} {gm gn gr g : Nat} {V : Option Addr} {c n : Nat} {R : Option Addr} {rc : Nat} {F B : Value} {m : Int} (h : Bx w gm gn gr g V c n R rc F B m) (hb : Below w.heap.size w w') : Bx w' gm gn gr g V c n R rc F B m :=
  ⟨box_cell hb h.mills, box_cell hb h.func, box_cell hb h.rates, box_cell hb h.best, box_cell hb h.most, box_free hb (by rw [h.best]; rfl) h.fb, box_free hb (by rw [h.most]; rfl) h.fm⟩
theorem Bx.lt {w : World} {gm gn gr g : Nat} {V : Option Addr} {c n : Nat} {R : Option Addr} {rc : Nat} {F B : Value} {m : Int} (h : Bx w gm gn gr g V c n R rc F B m) : g + 1 < w.heap.size := World.block_lt_of_cell? w _ h.most
theorem Bx.store {w : World} {gm gn gr g : Nat} {V : Option Addr} {c n : Nat} {R : Option Addr} {rc : Nat} {F B : Value} {m : Int} (h : Bx w gm gn gr g V c n R rc F B m) (h1 : gm ≠ g ∧ gm ≠ g + 1) (h2 : gn ≠ g ∧ gn ≠ g + 1) (h3 : gr ≠ g ∧ gr ≠ g + 1) (A : Option Addr) (k q : Nat) (z : Int) :
    Bx ((w.setCell ⟨g, 0, none⟩ (.slice A k q)).setCell ⟨g + 1, 0, none⟩ (.int .i64 z)) gm gn gr g V c n R rc F (.slice A k q) z ∧ Span w ((w.setCell ⟨g, 0, none⟩ (.slice A k q)).setCell ⟨g + 1, 0, none⟩ (.int .i64 z)) g (g + 2) := by
  obtain ⟨q0, q1, q2, q3, q4, q5, q6⟩ := h
  have a1 := h1.1
  have a2 := h1.2
  have a3 := h2.1
  have a4 := h2.2
  have a5 := h3.1
  have a6 := h3.2
  have hs : Span w ((w.setCell ⟨g, 0, none⟩ (.slice A k q)).setCell ⟨g + 1, 0, none⟩ (.int .i64 z)) g (g + 2) := span_set (span_set (Span.refl _ _ _) ⟨Nat.le_refl _, by simp only; omega⟩ _) ⟨by simp only; omega, by simp only; omega⟩ _
  refine ⟨⟨span_cell hs q0 (by simp only; omega), span_cell hs q1 (by simp only; omega), span_cell hs q2 (by simp only; omega), ?_, ?_, ?_, ?_⟩, hs⟩
  · simp [go_sem, q3, q4, q5, q6]
  · simp [go_sem, q3, q4, q5, q6]
  · simp [go_sem, q3, q4, q5, q6]
  · simp [go_sem, q3, q4, q5, q6]
set_option maxRecDepth 100000 in
set_option maxHeartbeats 8000000 in
theorem splitLeaf (gm gn gr g : Nat) (V : Option Addr) (c : Nat) (R : Option Addr) (rc : Nat) (F B : Value) (rs : List Int) (h1 : gm ≠ g ∧ gm ≠ g + 1) (h2 : gn ≠ g ∧ gn ≠ g + 1) (h3 : gr ≠ g ∧ gr ≠ g + 1)
    (hrr : ∀ r ∈ rs, 0 ≤ r ∧ r ≤ 1000) (hn8 : rs.length ≤ 8) (A : Option Addr) (q : Nat) (l : List Int) (hl : l.length = rs.length) (hbt : Bits l) (w : World) (st : List Int × Int) (hm : -1 ≤ st.2 ∧ st.2 ≤ 8000) (base : Nat)
    (hbx : Bx w gm gn gr g V c rs.length R rc F B st.2) (hR : Own w base 2 (.slice R rs.length rc) rs) (hRa : Apart (.slice R rs.length rc) g) (hB : Own w base 2 B st.1) (hBa : Apart B g)
    (hA : Own w base 2 (.slice A rs.length q) l) (hAa : Apart (.slice A rs.length q) g) :
    Calls Try.prog 105 #[.slice A rs.length q, .pointer (some ⟨gm, 0, none⟩), .pointer (some ⟨gn, 0, none⟩), .pointer (some ⟨gr, 0, none⟩), .pointer (some ⟨g + 1, 0, none⟩), .pointer (some ⟨g, 0, none⟩)] w fun e w' =>
      e = .returned (.tuple #[]) ∧ ∃ B', Bx w' gm gn gr g V c rs.length R rc F B' (leafS rs st l).2 ∧ Own w' base 2 B' (leafS rs st l).1 ∧ Apart B' g ∧ Span w w' g (g + 2) := by
  have HX := hid hbx
  have m0 := hbx.mills
  have m3 := hbx.rates
  have HRo := hid hR
  have HBo := hid hB
  have HAo := hid hA
  have HAR := hid (hA.rd (by omega))
  have HRR := hid (hR.rd (by omega))
  have HRG := hid hrr
  have HBT := hid hbt
  have HL := hid hl
  obtain ⟨s0, hs0⟩ : ∃ x, sumAt 0 rs l = x := ⟨_, rfl⟩
  obtain ⟨s1, hs1⟩ : ∃ x, sumAt 1 rs l = x := ⟨_, rfl⟩
  have hsr0 := sumAt_range 0 rs l hrr
  have hsr1 := sumAt_range 1 rs l hrr
  rw [hs0] at hsr0
  rw [hs1] at hsr1
  have HS0 := hid hs0
  have HS1 := hid hs1
  have HLF : Hid (leafS rs st l = if (decide (st.2 < min s0 s1) && (hasB l 0 && hasB l 1)) = true then (l, min s0 s1) else st) := by
    show leafS rs st l = _
    unfold leafS mn bothB
    rw [hs0, hs1]
  have hgl := hbx.lt
  clear hs0 hs1 hbx hR hB hA hrr hbt hl
  obtain ⟨H, hH⟩ : ∃ H, w.heap.size = H := ⟨_, rfl⟩
  go_enter Try.func105, Try.ntmps105
  go_wp2_with fail
  have HN0 := hid ((Below.refl w.heap.size w).alloc (Nat.le_refl _) (.cells #[.int .i64 0, .int .i64 0] 129))
  go_loopw [31] (fun i wr => ∃ (k : Nat) (a b : Int), k ≤ rs.length ∧ i = .int .i64 k ∧ wr.cell? ⟨H, 0, none⟩ = some (.int .i64 a) ∧ wr.cell? ⟨H, 1, none⟩ = some (.int .i64 b) ∧ wr.frozen? ⟨H, 0, none⟩ = false ∧ wr.frozen? ⟨H, 1, none⟩ = false ∧
    a + sumAt 0 (rs.drop k) (l.drop k) = s0 ∧ b + sumAt 1 (rs.drop k) (l.drop k) = s1 ∧ 0 ≤ a ∧ 0 ≤ b ∧ a ≤ s0 ∧ b ≤ s1 ∧ Below w.heap.size w wr) (fun i _ => rs.length - (intOf i).toNat)
  case atStart => exact ⟨0, 0, 0, Nat.zero_le _, rfl, by rw [← hH]; simp [go_sem], by rw [← hH]; simp [go_sem], by rw [← hH]; simp [go_sem], by rw [← hH]; simp [go_sem], by rw [Int.zero_add]; exact HS0.out, by rw [Int.zero_add]; exact HS1.out, by omega, by omega, by omega, by omega, HN0.out⟩
  case round =>
    obtain ⟨k, a, b, hk, rfl, k0, k1, f0, f1, ha, hb2, ha0, hb0, ha1, hb1, hq⟩ := hrel
    obtain ⟨wo, rfl⟩ : ∃ wo : World, wo = wr := ⟨_, rfl⟩
    have HQ := hid hq
    have n0 := box_cell hq m0
    have n3 := box_cell hq m3
    clear hq
    by_cases hlt : k < rs.length
    · have hll : k < l.length := by rw [HL.out]; exact hlt
      obtain ⟨lb, lo, hA, c1⟩ := (HAR.out.below HQ.out).int hll
      subst hA
      obtain ⟨rb, ro, hA, c2⟩ := (HRR.out.below HQ.out).int hlt
      subst hA
      have hbit := HBT.out _ (List.getElem_mem hll)
      have hrr := HRG.out _ (List.getElem_mem hlt)
      have p0 := (sumAt_range 0 (rs.drop (k + 1)) (l.drop (k + 1)) fun r hr => HRG.out r (List.mem_of_mem_drop hr)).1
      have p1 := (sumAt_range 1 (rs.drop (k + 1)) (l.drop (k + 1)) fun r hr => HRG.out r (List.mem_of_mem_drop hr)).1
      rw [List.drop_eq_getElem_cons hlt, List.drop_eq_getElem_cons hll] at ha hb2
      simp only [sumAt] at ha hb2
      generalize rs[k] = r at c2 hrr ha hb2
      generalize l[k] = x at c1 hbit ha hb2
      rcases hbit with hx | hx
      · subst hx
        simp only [if_true] at ha
        rw [if_neg (by decide)] at hb2
        go_wp2_with fail
        go_region
        go_wp2_with fail
        go_roundw
        case rel =>
          refine ⟨k + 1, a + r, b, by omega, by go_num, by simp [go_sem, k0, k1], by simp [go_sem, k0, k1], by simpa [go_sem, k0, k1] using f0, by simpa [go_sem, k0, k1] using f1, by omega, by omega, by omega, by omega, by omega, by omega, ?_⟩
          first
          | exact ((HQ.out.drewN _).setCell (by simp only; omega) _)
          | exact (HQ.out.setCell (by simp only; omega) _)
          | exact ((HQ.out.drew).setCell (by simp only; omega) _)
        case measure => simp [intOf]; omega
      · subst hx
        simp only [if_true] at hb2
        rw [if_neg (by decide)] at ha
        go_wp2_with fail
        go_region
        go_wp2_with fail
        go_roundw
        case rel =>
          refine ⟨k + 1, a, b + r, by omega, by go_num, by simp [go_sem, k0, k1], by simp [go_sem, k0, k1], by simpa [go_sem, k0, k1] using f0, by simpa [go_sem, k0, k1] using f1, by omega, by omega, by omega, by omega, by omega, by omega, ?_⟩
          first
          | exact ((HQ.out.drewN _).setCell (by simp only; omega) _)
          | exact (HQ.out.setCell (by simp only; omega) _)
          | exact ((HQ.out.drew).setCell (by simp only; omega) _)
        case measure => simp [intOf]; omega
    · rw [List.drop_eq_nil_of_le (by omega)] at ha hb2
      simp only [sumAt, Int.add_zero] at ha hb2
      subst ha hb2
      have HXo := hid (HX.out.below HQ.out)
      have cM := HXo.out.most
      have cB := HXo.out.best
      have fM := HXo.out.fm
      have fB := HXo.out.fb
      obtain ⟨z, hz⟩ : ∃ z, min a b = z := ⟨_, rfl⟩
      have hz8 : 0 ≤ z ∧ z ≤ 8000 := by omega
      have hlf := HLF.out
      rw [hz] at hlf
      have HZ := hid hz
      have HH0 : Hid (∀ x, x = wo → Calls Try.prog 107 #[.slice A rs.length q, .int .i64 0] x fun e w' => e = .returned (.bool (hasB l 0)) ∧ x = w') := fun x hx => by
        subst hx
        have := implHas A l q 0 x (HAR.out.below HQ.out)
        rw [HL.out] at this
        exact this
      have HH1 : Hid (∀ x, x = wo → Calls Try.prog 107 #[.slice A rs.length q, .int .i64 1] x fun e w' => e = .returned (.bool (hasB l 1)) ∧ x = w') := fun x hx => by
        subst hx
        have := implHas A l q 1 x (HAR.out.below HQ.out)
        rw [HL.out] at this
        exact this
      clear HLF HN0 hz
      by_cases q1 : st.2 < z
      · rw [decide_eq_true q1, Bool.true_and] at hlf
        cases q2 : hasB l 0
        · rw [q2, Bool.false_and, if_neg (by decide)] at hlf
          have HE := hid hlf
          clear hlf
          go_upto_region 10 with fail
          rw [min_if, HZ.out]
          go_wp2_with (first | (go_at_call 107; first | (with_reducible refine (HH0.out _ rfl).mono ?_; rintro e w' ⟨rfl, rfl⟩; rw [q2]) | (with_reducible refine (HH1.out _ rfl).mono ?_; rintro e w' ⟨rfl, rfl⟩; rw [q3])))
          refine bodyPost_end (v := .tuple #[]) ?_ rfl ?_
          · simp [results, go_sem]
          · exact ⟨rfl, B, by rw [HE.out]; exact HXo.out, by rw [HE.out]; exact HBo.out.below HQ.out, hBa, Span.of_below HQ.out (Nat.le_refl _)⟩
        · rw [q2, Bool.true_and] at hlf
          cases q3 : hasB l 1
          · rw [q3, if_neg (by decide)] at hlf
            have HE := hid hlf
            clear hlf
            go_upto_region 10 with fail
            rw [min_if, HZ.out]
            go_wp2_with (first | (go_at_call 107; first | (with_reducible refine (HH0.out _ rfl).mono ?_; rintro e w' ⟨rfl, rfl⟩; rw [q2]) | (with_reducible refine (HH1.out _ rfl).mono ?_; rintro e w' ⟨rfl, rfl⟩; rw [q3])))
            refine bodyPost_end (v := .tuple #[]) ?_ rfl ?_
            · simp [results, go_sem]
            · exact ⟨rfl, B, by rw [HE.out]; exact HXo.out, by rw [HE.out]; exact HBo.out.below HQ.out, hBa, Span.of_below HQ.out (Nat.le_refl _)⟩
          · rw [q3, if_pos rfl] at hlf
            have HE := hid hlf
            have HST := hid (HXo.out.store h1 h2 h3 A rs.length q z)
            clear hlf
            go_upto_region 10 with fail
            rw [min_if, HZ.out]
            go_wp2_with (first | (go_at_call 107; first | (with_reducible refine (HH0.out _ rfl).mono ?_; rintro e w' ⟨rfl, rfl⟩; rw [q2]) | (with_reducible refine (HH1.out _ rfl).mono ?_; rintro e w' ⟨rfl, rfl⟩; rw [q3])))
            refine bodyPost_end (v := .tuple #[]) ?_ rfl ?_
            · simp [results, go_sem]
            · exact ⟨rfl, .slice A rs.length q, by rw [HE.out]; exact HST.out.1, by rw [HE.out]; exact (HAo.out.below HQ.out).spanned HST.out.2 hAa, hAa, (Span.of_below HQ.out (Nat.le_refl _)).trans HST.out.2⟩
      · rw [decide_eq_false q1, Bool.false_and, if_neg (by decide)] at hlf
        have HE := hid hlf
        clear hlf
        go_upto_region 10 with fail
        rw [min_if, HZ.out]
        go_wp2_with fail
        refine bodyPost_end (v := .tuple #[]) ?_ rfl ?_
        · simp [results, go_sem]
        · exact ⟨rfl, B, by rw [HE.out]; exact HXo.out, by rw [HE.out]; exact HBo.out.below HQ.out, hBa, Span.of_below HQ.out (Nat.le_refl _)⟩
theorem goS_range {rs : List Int} (hrr : ∀ r ∈ rs, 0 ≤ r ∧ r ≤ 1000) (hn8 : rs.length ≤ 8) (d : Nat) (l : List Int) (st : List Int × Int) (hm : -1 ≤ st.2 ∧ st.2 ≤ 8000) : -1 ≤ (goS rs d l st).2 ∧ (goS rs d l st).2 ≤ 8000 := by
  obtain ⟨a1, _, a3⟩ := goS_spec rs d l st
  rcases a3 with a3 | ⟨x, _, _, _, _, h⟩
  · rw [a3]; exact hm
  · have := mn_range hrr (l ++ x)
    rw [← h] at this
    omega
def splitFn (gm gn gr g : Nat) : Value := .func (.func 105) #[] #[.pointer (some ⟨gm, 0, none⟩), .pointer (some ⟨gn, 0, none⟩), .pointer (some ⟨gr, 0, none⟩), .pointer (some ⟨g + 1, 0, none⟩), .pointer (some ⟨g, 0, none⟩)]
/-- What the closure does with a list that it may still lengthen d times. -/
def SplitDo (gm gn gr g : Nat) (V : Option Addr) (c : Nat) (R : Option Addr) (rc : Nat) (rs : List Int) (base d : Nat) : Prop :=
  ∀ (l : List Int) (A : Option Addr) (q : Nat) (w : World) (st : List Int × Int) (B : Value), l.length + d = rs.length → Bits l → (-1 ≤ st.2 ∧ st.2 ≤ 8000) → base ≤ w.heap.size →
    Bx w gm gn gr g V c rs.length R rc (splitFn gm gn gr g) B st.2 → Own w base 2 (.slice R rs.length rc) rs → Own w base 2 B st.1 → Apart B g → Own w base 2 (.slice A l.length q) l → Apart (.slice A l.length q) g →
    Calls Try.prog 105 #[.slice A l.length q, .pointer (some ⟨gm, 0, none⟩), .pointer (some ⟨gn, 0, none⟩), .pointer (some ⟨gr, 0, none⟩), .pointer (some ⟨g + 1, 0, none⟩), .pointer (some ⟨g, 0, none⟩)] w fun e w' =>
      e = .returned (.tuple #[]) ∧ ∃ B', Bx w' gm gn gr g V c rs.length R rc (splitFn gm gn gr g) B' (goS rs d l st).2 ∧ Own w' base 2 B' (goS rs d l st).1 ∧ Apart B' g ∧ Span w w' g (g + 2)
theorem splitZero {gm gn gr g : Nat} {V : Option Addr} {c : Nat} {R : Option Addr} {rc : Nat} {rs : List Int} {base : Nat} (h1 : gm ≠ g ∧ gm ≠ g + 1) (h2 : gn ≠ g ∧ gn ≠ g + 1) (h3 : gr ≠ g ∧ gr ≠ g + 1)
    (hrr : ∀ r ∈ rs, 0 ≤ r ∧ r ≤ 1000) (hn8 : rs.length ≤ 8) (hRa : Apart (.slice R rs.length rc) g) : SplitDo gm gn gr g V c R rc rs base 0 := fun l A q w st B hl hbt hm _ hbx hR hB hBa hA hAa => by
  have hl' : l.length = rs.length := by omega
  rw [hl'] at hA hAa ⊢
  exact splitLeaf gm gn gr g V c R rc _ B rs h1 h2 h3 hrr hn8 A q l hl' hbt w st hm base hbx hR hRa hB hBa hA hAa
theorem bits_snoc {l : List Int} (h : Bits l) {x : Int} (hx : x = 0 ∨ x = 1) : Bits (l ++ [x]) := fun y hy => by
  rcases List.mem_append.1 hy with hy | hy
  · exact h y hy
  · rw [List.mem_singleton.1 hy]; exact hx
theorem apart_new {v : Value} {g k : Nat} (h : ∀ b, v.ownBlock = some b → k ≤ b) (hk : g + 2 ≤ k) : Apart v g := fun b hb => .inr (by have := h b hb; omega)
theorem cloneAt (A : Option Addr) (l : List Int) (q : Nat) (w x : World) (hx : Rd w A l) (hb : Below w.heap.size w x) :
    Calls Try.prog 106 #[.slice A l.length q] x fun e w1 => ∃ Q k, e = .returned (.slice Q l.length k) ∧ Own w1 w.heap.size 2 (.slice Q l.length k) l ∧ Below w.heap.size w w1 ∧ ∀ j, j < x.heap.size → w1.heap[j]? = x.heap[j]? := by
  refine (cloneInts A l _ q x (hx.below hb) rfl).mono ?_
  rintro e w1 ⟨v, rfl, ho, hb1⟩
  obtain ⟨Q, k, rfl⟩ := ho.form
  exact ⟨Q, k, rfl, ho.mono hb.size, hb.trans (hb1.mono hb.size), hb1.block⟩
set_option maxRecDepth 100000 in
set_option maxHeartbeats 4000000 in
theorem splitStep {gm gn gr g : Nat} {V : Option Addr} {c : Nat} {R : Option Addr} {rc : Nat} {rs : List Int} {base d : Nat} (h1 : gm ≠ g ∧ gm ≠ g + 1) (h2 : gn ≠ g ∧ gn ≠ g + 1) (h3 : gr ≠ g ∧ gr ≠ g + 1)
    (hrr : ∀ r ∈ rs, 0 ≤ r ∧ r ≤ 1000) (hn8 : rs.length ≤ 8) (hRa : Apart (.slice R rs.length rc) g) (ih : SplitDo gm gn gr g V c R rc rs base d) : SplitDo gm gn gr g V c R rc rs base (d + 1) := fun l A q w st B hl hbt hm hbs hbx hR hB hBa hA hAa => by
  have HX := hid hbx
  have HRo := hid hR
  have HBo := hid hB
  have HAo := hid hA
  have HAR := hid (hA.rd (by omega))
  have HBT := hid hbt
  have HIH := hid ih
  have HBS := hid hbs
  have hgl := hbx.lt
  have hlt : l.length < rs.length := by omega
  have m0 := hbx.mills
  have mf : w.cell? ⟨gn, 0, none⟩ = some (.func (.func 105) #[] #[.pointer (some ⟨gm, 0, none⟩), .pointer (some ⟨gn, 0, none⟩), .pointer (some ⟨gr, 0, none⟩), .pointer (some ⟨g + 1, 0, none⟩), .pointer (some ⟨g, 0, none⟩)]) := hbx.func
  obtain ⟨R2, hR2⟩ : ∃ x, goS rs (d + 1) l st = x := ⟨_, rfl⟩
  have HG : Hid (goS rs d (l ++ [1]) (goS rs d (l ++ [0]) st) = R2) := hR2
  rw [hR2]
  have HST1 := hid (goS_range hrr hn8 d (l ++ [0]) st hm)
  have HRR := hid hrr
  clear hbx hR hB hA hbt ih hR2 hrr
  go_enter Try.func105, Try.ntmps105
  go_wp2_with fail
  go_region_held3 (fun w' => w'.cell? ⟨gn, 0, none⟩ = some (.func (.func 105) #[] #[.pointer (some ⟨gm, 0, none⟩), .pointer (some ⟨gn, 0, none⟩), .pointer (some ⟨gr, 0, none⟩), .pointer (some ⟨g + 1, 0, none⟩), .pointer (some ⟨g, 0, none⟩)]))
    (first | go_keep | exact q0 | exact q1 | exact q2)
    (first
      | (go_at_call 106; refine (cloneAt A l q w _ HAR.out (by first | exact (Below.refl _ _).drew | exact ((Below.refl _ _).drew).alloc (Nat.le_refl _) _)).mono ?_; rintro e w1 ⟨Q, k, rfl, ho, hb, hkk⟩; have q0 := box_cell hb mf)
      | (refine stepPush elInt _ rfl (.tmp 18) (.tmp 19) rfl w.heap.size _ l (0 : Int) rfl (Own.alloc ho _) _ rfl (heap_alloc_new _ _) (by omega) (le_alloc hb.size) ?_; intro v' w2 hown' hg' hat'; obtain ⟨l2, hl2⟩ : ∃ l2, l ++ [(0 : Int)] = l2 := ⟨_, rfl⟩; rw [hl2] at hown'; obtain ⟨Q2, k2, rfl⟩ := hown'.form; have hb2 := below_own (hb.alloc hb.size (.cells #[.int .i64 0] 2)) (Own.alloc ho _) hg' (Nat.le_refl _) (le_alloc hb.size); have q1 := box_cell hb2 mf)
      | (refine stepPush elInt _ rfl (.tmp 18) (.tmp 19) rfl w.heap.size _ l (0 : Int) rfl ho _ rfl ((hkk _ (by simp)).trans (heap_alloc_new _ _)) (by omega) hb.size ?_; intro v' w2 hown' hg' hat'; obtain ⟨l2, hl2⟩ : ∃ l2, l ++ [(0 : Int)] = l2 := ⟨_, rfl⟩; rw [hl2] at hown'; obtain ⟨Q2, k2, rfl⟩ := hown'.form; have hb2 := below_own hb ho hg' (Nat.le_refl _) hb.size; have q1 := box_cell hb2 mf)
      | (go_at_call 105; refine (HIH.out l2 Q2 k2 w2 st B (by rw [← hl2]; simp; omega) (by rw [← hl2]; exact bits_snoc HBT.out (by omega)) hm (Nat.le_trans HBS.out hb2.size) (HX.out.below hb2) (HRo.out.below hb2) (HBo.out.below hb2) hBa (hown'.mono HBS.out) (apart_new (fun b hb => (hown'.block b hb).1) (by omega))).mono ?_; rintro e w3 ⟨rfl, B1, hx3, ho3, ha3, hs3⟩; have q2 : w3.cell? ⟨gn, 0, none⟩ = some (.func (.func 105) #[] #[.pointer (some ⟨gm, 0, none⟩), .pointer (some ⟨gn, 0, none⟩), .pointer (some ⟨gr, 0, none⟩), .pointer (some ⟨g + 1, 0, none⟩), .pointer (some ⟨g, 0, none⟩)]) := hx3.func))
  all_goals
    have hspan : Span w w3 g (g + 2) := (Span.of_below hb2 (Nat.le_refl _)).trans hs3
    rw [hl2.symm] at hx3 ho3
    have HX3 := hid hx3
    have HO3 := hid ho3
    have HA3 := hid ha3
    have HS3 := hid hspan
    have HBS3 : Hid (base ≤ w3.heap.size) := Nat.le_trans HBS.out hspan.size
    have hz3 := hspan.size
    have HR3 := hid (HRo.out.spanned hspan hRa)
    have HL3 := hid (HAo.out.spanned hspan hAa)
    have HAR3 := hid (HL3.out.rd (by omega))
    have mf3 : w3.cell? ⟨gn, 0, none⟩ = some (.func (.func 105) #[] #[.pointer (some ⟨gm, 0, none⟩), .pointer (some ⟨gn, 0, none⟩), .pointer (some ⟨gr, 0, none⟩), .pointer (some ⟨g + 1, 0, none⟩), .pointer (some ⟨g, 0, none⟩)]) := hx3.func
    clear hl2 hb hb2 ho hown' hg' hat' q0 q1 q2 hx3 ho3 ha3 hs3 hspan HBS hkk
    have HBS := HBS3
    clear HBS3
    go_wp2_with fail
    go_region_held3 (fun w' => w'.cell? ⟨gn, 0, none⟩ = some (.func (.func 105) #[] #[.pointer (some ⟨gm, 0, none⟩), .pointer (some ⟨gn, 0, none⟩), .pointer (some ⟨gr, 0, none⟩), .pointer (some ⟨g + 1, 0, none⟩), .pointer (some ⟨g, 0, none⟩)]))
      (first | go_keep | exact q0b | exact q1b | exact q2b)
      (first
        | (go_at_call 106; refine (cloneAt A l q w3 _ HAR3.out (by first | exact (Below.refl _ _).drew | exact ((Below.refl _ _).drew).alloc (Nat.le_refl _) _)).mono ?_; rintro e w1b ⟨Q, k, rfl, ho, hb, hkk⟩; have q0b := box_cell hb mf3)
        | (refine stepPush elInt _ rfl (.tmp 24) (.tmp 25) rfl w3.heap.size _ l (1 : Int) rfl (Own.alloc ho _) _ rfl (heap_alloc_new _ _) (by omega) (le_alloc hb.size) ?_; intro v' w2b hown' hg' hat'; obtain ⟨l2, hl2⟩ : ∃ l2, l ++ [(1 : Int)] = l2 := ⟨_, rfl⟩; rw [hl2] at hown'; obtain ⟨Q2, k2, rfl⟩ := hown'.form; have hb2 := below_own (hb.alloc hb.size (.cells #[.int .i64 1] 2)) (Own.alloc ho _) hg' (Nat.le_refl _) (le_alloc hb.size); have q1b := box_cell hb2 mf3)
        | (refine stepPush elInt _ rfl (.tmp 24) (.tmp 25) rfl w3.heap.size _ l (1 : Int) rfl ho _ rfl ((hkk _ (by simp)).trans (heap_alloc_new _ _)) (by omega) hb.size ?_; intro v' w2b hown' hg' hat'; obtain ⟨l2, hl2⟩ : ∃ l2, l ++ [(1 : Int)] = l2 := ⟨_, rfl⟩; rw [hl2] at hown'; obtain ⟨Q2, k2, rfl⟩ := hown'.form; have hb2 := below_own hb ho hg' (Nat.le_refl _) hb.size; have q1b := box_cell hb2 mf3)
        | (go_at_call 105; refine (HIH.out l2 Q2 k2 w2b _ _ (by rw [← hl2]; simp; omega) (by rw [← hl2]; exact bits_snoc HBT.out (by omega)) HST1.out (Nat.le_trans HBS.out hb2.size) (HX3.out.below hb2) (HR3.out.below hb2) (HO3.out.below hb2) HA3.out (hown'.mono HBS.out) (apart_new (fun b hb => (hown'.block b hb).1) (by omega))).mono ?_; rintro e w3b ⟨rfl, B1b, hx3b, ho3b, ha3b, hs3b⟩; have q2b : w3b.cell? ⟨gn, 0, none⟩ = some (.func (.func 105) #[] #[.pointer (some ⟨gm, 0, none⟩), .pointer (some ⟨gn, 0, none⟩), .pointer (some ⟨gr, 0, none⟩), .pointer (some ⟨g + 1, 0, none⟩), .pointer (some ⟨g, 0, none⟩)]) := hx3b.func))
    all_goals
      have hspan : Span w3 w3b g (g + 2) := (Span.of_below hb2 (Nat.le_refl _)).trans hs3b
      rw [hl2.symm] at hx3b ho3b
      have HX4 := hid hx3b
      have HO4 := hid ho3b
      have HS4 := hid (HS3.out.trans hspan)
      clear hl2 hb hb2 ho hown' hg' hat' q0b q1b q2b hx3b ho3b hs3b hspan hkk
      go_wp2_with fail
      refine bodyPost_ret (v := .tuple #[]) ?_ rfl ?_
      · simp [results, go_sem]
      · exact ⟨rfl, _, by rw [← HG.out]; exact HX4.out, by rw [← HG.out]; exact HO4.out, ha3b, HS4.out⟩
end Go.Proofs.Yteobejgkjjhfkaa
