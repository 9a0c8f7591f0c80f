/- HandOver: the reference's walk. -/
import Derived.Test.YtjamkomgdfgmlaaHandPlain
import Derived.Test.YtjamkomgdfgmlaaKind
import Derived.Deep.CutBlock
import Derived.OwnWalk
import Derived.Deep.RegionHeld3
namespace Go.Proofs.Ytjamkomgdfgmlaa
open Go.RowKit
set_option linter.unusedVariables false
section
variable {P : Program} {α : Type} [Enc α] {t e : TypeId} {z0 : α}
/-- append(s, y) at a step of a region that draws its order. -/
theorem step_push (T : El P t e z0) (w : World) {ops : Array Oper} {o : Oper} {a : Act} {K : Act → World → Prop} {Q : Exit → Act → World → Prop} {E : Prop}
    (hgd : o.guard = none) (s x : Operand) (ho : o.op = .call { callee := .builtin .append, args := #[s, x], argTypes := #[t, t] })
    (base : Nat) (v : Value) (xs : List α) (y : α) (hs : a.eval s = v) (hown : Own w base e v xs) (g : Nat) (hx : a.eval x = .slice (some ⟨g, 0, none⟩) 1 1) (hcells : w.heap[g]? = some (.cells (Enc.enc y).toArray e (0, 0)))
    (hlen : xs.length ≤ 1048576) (hbase : base ≤ w.heap.size)
    (h : ∀ v' w', Own w' base e v' (xs ++ [y]) → w.grownBy w' v.ownBlock → (v'.ownBlock = v.ownBlock ∨ v'.ownBlock = some w.heap.size) → K (a.put o.dst v') w') :
    if Region.wanted o (yielded ops a.tmps) = true then Oper.wp P o a w K Q else E := by
  obtain ⟨i, z, hi, hz, hsz, hby, hzc, hpos⟩ := T.ex
  have hc : ∀ j u, (Enc.enc y)[j]? = some u → w.cell? ((⟨g, 0, none⟩ : Addr).add j) = some u := by
    intro j u hu
    have : (⟨g, 0, none⟩ : Addr).add j = ⟨g, j, none⟩ := by unfold Addr.add; split <;> simp_all
    rw [this, cell_of_row w g j _ e (0, 0) hcells]
    simpa using hu
  have hw : Region.wanted o (yielded ops a.tmps) = true := by simp [Region.wanted, hgd]
  rw [if_pos hw]
  obtain ⟨v', w', hrun, h2, h3, h4, h5⟩ := run_append_own_at (P := P) w base t o.type e i z (Enc.size α) i.bytes T.und hi hz hsz rfl (by rw [hzc]; simp [Enc.len]) hpos v xs.length (flat xs) hown ⟨g, 0, none⟩ 1 1 (Enc.enc y) (by rw [Enc.len]; omega) hc (Enc.one y)
    (by simp only [maxLen]; omega) (Nat.le_trans (Nat.mul_le_mul (show xs.length + 1 ≤ 1048577 by omega) hby) (by decide)) hbase
  have h2' : Own w' base e v' (xs ++ [y]) := by
    unfold Own
    rw [flat_append, flat_one, List.length_append]
    exact h2
  unfold Oper.wp execOp
  simp only [ho, resolve, invoke, builtin, Sem.run_bind, Sem.run_pure, Result.andThen_ok, List.map_toArray, List.map_cons, List.map_nil, hs, hx, hrun]
  exact h v' w' h2' h3 h5
end
theorem own_drew {α : Type} [Enc α] {w : World} {base : Nat} {e : TypeId} {v : Value} {xs : List α} (h : Own w base e v xs) : Own w.drew base e v xs := h
theorem handMin (a b : Int) (w : World) : Calls Try.prog 60 #[.int .i64 a, .int .i64 b] w fun e w' => e = .returned (.int .i64 (min a b)) ∧ w = w' := by
  by_cases h : a < b
  · rw [show min a b = a by omega]
    go_enter Try.func60, Try.ntmps60
    go_wp2_with fail
    go_ret
    exact ⟨rfl, rfl⟩
  · rw [show min a b = b by omega]
    go_enter Try.func60, Try.ntmps60
    go_wp2_with fail
    go_ret
    exact ⟨rfl, rfl⟩
theorem handMax (a b : Int) (w : World) : Calls Try.prog 61 #[.int .i64 a, .int .i64 b] w fun e w' => e = .returned (.int .i64 (max a b)) ∧ w = w' := by
  by_cases h : ¬ b < a
  · rw [show max a b = b by omega]
    go_enter Try.func61, Try.ntmps61
    go_wp2_with fail
    go_ret
    exact ⟨by first | rfl | exact ret_int (by omega), rfl⟩
  · rw [show max a b = a by omega]
    go_enter Try.func61, Try.ntmps61
    go_wp2_with fail
    go_ret
    exact ⟨by first | rfl | exact ret_int (by omega), rfl⟩
set_option maxRecDepth 100000 in
set_option maxHeartbeats 8000000 in
theorem specHand (A : Option Addr) (xs : List Duty) (c : Nat) (len fr tt ow : Int) (w : World) (hx : Rd w A xs) :
    Calls Try.prog 35 #[.slice A xs.length c, .int .i64 len, .int .i64 fr, .int .i64 tt, .int .i64 ow] w fun e w' => ∃ v, e = .returned (.tuple #[v, .int .i64 (handOver xs len fr tt ow).2]) ∧ Own w' w.heap.size 56 v (handOver xs len fr tt ow).1 ∧ Below w.heap.size w w' := by
  have hn := hx.len
  have HX := hid hx
  by_cases hv : validB xs len = true
  · by_cases hr : (0 ≤ fr ∧ fr < tt ∧ tt ≤ len) ∧ inB ow 0 39 = true
    · have hF : handOver xs len fr tt ow = if 40 < (handM xs fr tt ow).length then ([], 5) else (handM xs fr tt ow, 0) := by
        unfold handOver
        rw [if_pos hv, if_pos hr]
      obtain ⟨R, hR⟩ : ∃ R, handOver xs len fr tt ow = R := ⟨_, rfl⟩
      rw [hR] at hF ⊢
      have HF := hid hF
      have HV := hid hv
      obtain ⟨⟨r1, r2, r3⟩, ho⟩ := hr
      have HOW := hid ho
      have hxl : xs.length ≤ 40 := (valid_len hv).2.2.1
      have hln := (valid_len hv).1
      have HSP := hid (hand_spec (ow := ow) hv ⟨r1, r2, r3⟩)
      have HI1 : Hid (inB fr 0 (len - 1) = true) := inB_true.2 (by omega)
      have HI2 : Hid (inB tt (fr + 1) len = true) := inB_true.2 (by omega)
      clear hF hR hv ho hx
      go_enter Try.func35, Try.ntmps35
      go_wp2_with (first | (go_at_call 48; refine (specOk _ _ _ _ _ HX.out).mono ?_; rintro e w' ⟨rfl, rfl⟩; rw [HV.out]) | (go_at_call 53; refine (specIn _ _ _ _).mono ?_; rintro e w' ⟨rfl, rfl⟩; first | rw [HI1.out] | rw [HI2.out]) | (go_at_call 55; refine (specOwner _ _).mono ?_; rintro e w' ⟨rfl, rfl⟩; rw [HOW.out]))
      go_loopw [12, 13] (fun u i wr => ∃ k : Nat, k ≤ xs.length ∧ i = .int .i64 k ∧ Own wr w.heap.size 56 u ((xs.take k).flatMap (hpS fr tt ow)) ∧ Below w.heap.size w wr) (fun _ i _ => xs.length - (intOf i).toNat)
      case atStart => exact ⟨0, Nat.zero_le _, rfl, Own.empty (Nat.le_refl _), (Below.refl _ _).alloc (Nat.le_refl _) _⟩
      case round =>
        obtain ⟨k, hk, rfl, ho, hq⟩ := hrel
        obtain ⟨wo, rfl⟩ : ∃ wo : World, wo = wr := ⟨_, rfl⟩
        have HO := hid ho
        have HQ := hid hq
        have HX2 := hid (HX.out.below hq)
        have hzo := hq.size
        have hL : ((xs.take k).flatMap (hpS fr tt ow)).length ≤ 120 := by
          have := hpS_len (fr := fr) (tt := tt) (ow := ow) (xs.take k)
          have : (xs.take k).length ≤ k := List.length_take_le _ _
          omega
        obtain ⟨V, vq, rfl⟩ := ho.form
        clear ho hq
        generalize hLe : (xs.take k).flatMap (hpS fr tt ow) = L at HO hL ⊢
        by_cases hlt : k < xs.length
        · obtain ⟨b, off, rfl, c1, c2, c3⟩ := HX2.out.duty hlt
          have hva := valid_at HV.out hlt
          have HT : Hid ((xs.take (k + 1)).flatMap (hpS fr tt ow) = (xs.take k).flatMap (hpS fr tt ow) ++ hpS fr tt ow xs[k]) := by
            show (xs.take (k + 1)).flatMap (hpS fr tt ow) = _
            rw [List.take_succ_eq_append_getElem hlt, List.flatMap_append]
            simp
          rw [hLe] at HT
          clear hLe
          obtain ⟨_, a1, a2, a3, _, _⟩ := hva
          generalize xs[k] = d at c1 c2 c3 HT a1 a2 a3
          obtain ⟨o, f, t⟩ := d
          simp only at c1 c2 c3 a1 a2 a3
          go_upto_region 10 with fail
          obtain ⟨G, hG⟩ : ∃ G, wo.heap.size = G := ⟨_, rfl⟩
          obtain ⟨w1, hw1⟩ : ∃ x, wo.alloc (.cells #[.int .i64 o, .int .i64 f, .int .i64 t] 56) = x := ⟨_, rfl⟩
          have k0 : w1.cell? ⟨G, 0, none⟩ = some (.int .i64 o) := by rw [← hw1, ← hG]; simp [go_sem]
          have k1 : w1.cell? ⟨G, 1, none⟩ = some (.int .i64 f) := by rw [← hw1, ← hG]; simp [go_sem]
          have k2 : w1.cell? ⟨G, 2, none⟩ = some (.int .i64 t) := by rw [← hw1, ← hG]; simp [go_sem]
          have HO1 : Hid (Own w1 w.heap.size 56 (.slice V L.length vq) L) := by rw [← hw1]; exact HO.out.alloc _
          have HQ1 : Hid (Below w.heap.size w w1) := by rw [← hw1]; exact HQ.out.alloc hzo _
          have HG : Hid (∀ v : Value, Own wo w.heap.size 56 v L → ∀ q, v.ownBlock = some q → q ≠ G) := fun v hv q hq => by have := (hv.block q hq).2; omega
          have HOF := hid (HG.out _ HO.out)
          rw [hw1, hG]
          clear hw1 hG HO HQ HG c1 c2 c3
          have hT0 := HT.out
          have hsp : hpS fr tt ow (⟨o, f, t⟩ : Duty) = hp1 fr (⟨o, f, t⟩ : Duty) ++ (hp2 fr tt ow (⟨o, f, t⟩ : Duty) ++ (hp3 tt (⟨o, f, t⟩ : Duty) ++ [])) := by simp [hpS]
          rw [hsp] at hT0
          clear HT hsp
          have HT := hid hT0
          have HO := HO1
          have HQ := HQ1
          have hz := HQ1.out.size
          have hGz := World.block_lt_of_cell? _ _ k0
          clear HO1 HQ1 hT0
          by_cases hcd : f < fr
          case' pos =>
            have hA : hp1 fr (⟨o, f, t⟩ : Duty) = [⟨o, f, min t fr⟩] := if_pos hcd
            have HA := hid hA
            clear hA
            go_upto_region 11 with fail
            go_region_held3 (fun w' => w'.cell? ⟨G, 0, none⟩ = some (.int .i64 o) ∧ w'.cell? ⟨G, 1, none⟩ = some (.int .i64 f) ∧ w'.cell? ⟨G, 2, none⟩ = some (.int .i64 t))
              (first | go_keep | exact ⟨q0, q1, q2⟩)
              (first
                | (go_at_call 60; refine (handMin _ _ _).mono ?_; rintro e w' ⟨rfl, rfl⟩)
                | (go_at_call 61; refine (handMax _ _ _).mono ?_; rintro e w' ⟨rfl, rfl⟩)
                | (refine step_push elDuty _ rfl (.tmp 52) (.tmp 62) rfl w.heap.size _ _ (⟨o, f, min t fr⟩ : Duty) rfl (by first | exact Own.alloc HO.out _ | exact Own.alloc (own_drew HO.out) _) _ rfl (heap_alloc_new _ _) (by omega) (by simp; omega) ?_; intro v' w' hown' hg' hat'; have q0 : w'.cell? ⟨G, 0, none⟩ = some (.int .i64 o) := grown_cell hg' (by simp [go_sem, k0]) HOF.out; have q1 : w'.cell? ⟨G, 1, none⟩ = some (.int .i64 f) := grown_cell hg' (by simp [go_sem, k1]) HOF.out; have q2 : w'.cell? ⟨G, 2, none⟩ = some (.int .i64 t) := grown_cell hg' (by simp [go_sem, k2]) HOF.out))
            have hbn := below_own ((HQ.out.drew).alloc hz _) (Own.alloc (own_drew HO.out) _) hg' (Nat.le_refl _) (le_alloc hz)
            have hGn : G < _ := World.block_lt_of_cell? _ _ q0
            have hof : ∀ q, v'.ownBlock = some q → q ≠ G := by
              intro q hq
              rcases hat' with e | e
              · exact HOF.out q (e.symm.trans hq)
              · rw [e] at hq
                injection hq with hq
                simp at hq
                omega
            generalize hL' : _ ++ [_] = L' at hown'
            have hlen' := congrArg List.length hL'
            rw [List.length_append] at hlen'
            simp only [List.length_cons, List.length_nil] at hlen'
            have hL2 : L'.length ≤ 121 := by omega
            have hT' := HT.out
            rw [HA.out, ← List.append_assoc, hL'] at hT'
            clear HT hL HA HO HQ HOF k0 k1 k2 hat' hGz
            obtain ⟨V', c', rfl⟩ := hown'.form
            have HT := hid hT'
            have HO := hid hown'
            have HQ := hid hbn
            have HOF := hid hof
            have k0 := q0
            have k1 := q1
            have k2 := q2
            have hz := hbn.size
            have hGz := hGn
            have hL := hL2
            clear hT' hown' hbn hof hg' q0 q1 q2 hL' hGn hlen' hL2
            go_upto_region 12 with fail
            refine keep_ ?_
          case' neg =>
            have hA : hp1 fr (⟨o, f, t⟩ : Duty) = [] := if_neg hcd
            have hT' := HT.out
            rw [hA, List.nil_append] at hT'
            clear HT hA
            have HT := hid hT'
            clear hT'
            go_upto_region 12 with fail
            refine keep_ ?_
          all_goals refine go_ ?_
          all_goals
            by_cases hcd : f < tt ∧ fr < t
            case' pos =>
              have hA : hp2 fr tt ow (⟨o, f, t⟩ : Duty) = [⟨ow, max f fr, min t tt⟩] := if_pos hcd
              have HA := hid hA
              clear hA
              go_upto_region 13 with fail
              go_region_held3 (fun w' => w'.cell? ⟨G, 0, none⟩ = some (.int .i64 o) ∧ w'.cell? ⟨G, 1, none⟩ = some (.int .i64 f) ∧ w'.cell? ⟨G, 2, none⟩ = some (.int .i64 t))
                (first | go_keep | exact ⟨q0, q1, q2⟩)
                (first
                  | (go_at_call 60; refine (handMin _ _ _).mono ?_; rintro e w' ⟨rfl, rfl⟩)
                  | (go_at_call 61; refine (handMax _ _ _).mono ?_; rintro e w' ⟨rfl, rfl⟩)
                  | (refine step_push elDuty _ rfl (.tmp 74) (.tmp 85) rfl w.heap.size _ _ (⟨ow, max f fr, min t tt⟩ : Duty) rfl (by first | exact Own.alloc HO.out _ | exact Own.alloc (own_drew HO.out) _) _ rfl (heap_alloc_new _ _) (by omega) (by simp; omega) ?_; intro v' w' hown' hg' hat'; have q0 : w'.cell? ⟨G, 0, none⟩ = some (.int .i64 o) := grown_cell hg' (by simp [go_sem, k0]) HOF.out; have q1 : w'.cell? ⟨G, 1, none⟩ = some (.int .i64 f) := grown_cell hg' (by simp [go_sem, k1]) HOF.out; have q2 : w'.cell? ⟨G, 2, none⟩ = some (.int .i64 t) := grown_cell hg' (by simp [go_sem, k2]) HOF.out))
              have hbn := below_own ((HQ.out.drew).alloc hz _) (Own.alloc (own_drew HO.out) _) hg' (Nat.le_refl _) (le_alloc hz)
              have hGn : G < _ := World.block_lt_of_cell? _ _ q0
              have hof : ∀ q, v'.ownBlock = some q → q ≠ G := by
                intro q hq
                rcases hat' with e | e
                · exact HOF.out q (e.symm.trans hq)
                · rw [e] at hq
                  injection hq with hq
                  simp at hq
                  omega
              generalize hL' : _ ++ [_] = L' at hown'
              have hlen' := congrArg List.length hL'
              rw [List.length_append] at hlen'
              simp only [List.length_cons, List.length_nil] at hlen'
              have hL2 : L'.length ≤ 122 := by omega
              have hT' := HT.out
              rw [HA.out, ← List.append_assoc, hL'] at hT'
              clear HT hL HA HO HQ HOF k0 k1 k2 hat' hGz
              obtain ⟨V', c', rfl⟩ := hown'.form
              have HT := hid hT'
              have HO := hid hown'
              have HQ := hid hbn
              have HOF := hid hof
              have k0 := q0
              have k1 := q1
              have k2 := q2
              have hz := hbn.size
              have hGz := hGn
              have hL := hL2
              clear hT' hown' hbn hof hg' q0 q1 q2 hL' hGn hlen' hL2
              go_upto_region 14 with fail
              refine keep_ ?_
            case' neg =>
              have hA : hp2 fr tt ow (⟨o, f, t⟩ : Duty) = [] := if_neg hcd
              have hT' := HT.out
              rw [hA, List.nil_append] at hT'
              clear HT hA
              have HT := hid hT'
              clear hT'
              go_upto_region 14 with fail
              refine keep_ ?_
          all_goals refine go_ ?_
          all_goals
            by_cases hcd : tt < t
            case' pos =>
              first
              | (exfalso; omega)
              | skip
              all_goals
                have hA : hp3 tt (⟨o, f, t⟩ : Duty) = [⟨o, max f tt, t⟩] := if_pos hcd
                have HA := hid hA
                clear hA
                go_upto_region 15 with fail
                go_region_held3 (fun w' => w'.cell? ⟨G, 0, none⟩ = some (.int .i64 o) ∧ w'.cell? ⟨G, 1, none⟩ = some (.int .i64 f) ∧ w'.cell? ⟨G, 2, none⟩ = some (.int .i64 t))
                  (first | go_keep | exact ⟨q0, q1, q2⟩)
                  (first
                    | (go_at_call 60; refine (handMin _ _ _).mono ?_; rintro e w' ⟨rfl, rfl⟩)
                    | (go_at_call 61; refine (handMax _ _ _).mono ?_; rintro e w' ⟨rfl, rfl⟩)
                    | (refine step_push elDuty _ rfl (.tmp 91) (.tmp 101) rfl w.heap.size _ _ (⟨o, max f tt, t⟩ : Duty) rfl (by first | exact Own.alloc HO.out _ | exact Own.alloc (own_drew HO.out) _) _ rfl (heap_alloc_new _ _) (by omega) (by simp; omega) ?_; intro v' w' hown' hg' hat'; have q0 : w'.cell? ⟨G, 0, none⟩ = some (.int .i64 o) := grown_cell hg' (by simp [go_sem, k0]) HOF.out; have q1 : w'.cell? ⟨G, 1, none⟩ = some (.int .i64 f) := grown_cell hg' (by simp [go_sem, k1]) HOF.out; have q2 : w'.cell? ⟨G, 2, none⟩ = some (.int .i64 t) := grown_cell hg' (by simp [go_sem, k2]) HOF.out))
                have hbn := below_own ((HQ.out.drew).alloc hz _) (Own.alloc (own_drew HO.out) _) hg' (Nat.le_refl _) (le_alloc hz)
                have hGn : G < _ := World.block_lt_of_cell? _ _ q0
                have hof : ∀ q, v'.ownBlock = some q → q ≠ G := by
                  intro q hq
                  rcases hat' with e | e
                  · exact HOF.out q (e.symm.trans hq)
                  · rw [e] at hq
                    injection hq with hq
                    simp at hq
                    omega
                generalize hL' : _ ++ [_] = L' at hown'
                have hlen' := congrArg List.length hL'
                rw [List.length_append] at hlen'
                simp only [List.length_cons, List.length_nil] at hlen'
                have hL2 : L'.length ≤ 123 := by omega
                have hT' := HT.out
                rw [HA.out, ← List.append_assoc, hL'] at hT'
                clear HT hL HA HO HQ HOF k0 k1 k2 hat' hGz
                obtain ⟨V', c', rfl⟩ := hown'.form
                have HT := hid hT'
                have HO := hid hown'
                have HQ := hid hbn
                have HOF := hid hof
                have k0 := q0
                have k1 := q1
                have k2 := q2
                have hz := hbn.size
                have hGz := hGn
                have hL := hL2
                clear hT' hown' hbn hof hg' q0 q1 q2 hL' hGn hlen' hL2
                go_upto_region 8 with fail
                refine keep_ ?_
            case' neg =>
              first
              | (exfalso; omega)
              | skip
              all_goals
                have hA : hp3 tt (⟨o, f, t⟩ : Duty) = [] := if_neg hcd
                have hT' := HT.out
                rw [hA, List.nil_append] at hT'
                clear HT hA
                have HT := hid hT'
                clear hT'
                go_upto_region 8 with fail
                refine keep_ ?_
          all_goals refine go_ ?_
          all_goals
            have hT := HT.out
            rw [List.append_nil] at hT
            have HT2 := hid hT
            clear hT HT
            go_wp2_with fail
            go_roundw
            case rel => exact ⟨k + 1, by omega, by go_num, by rw [HT2.out]; exact HO.out, HQ.out⟩
            case measure => simp [intOf]; omega
        · have hke : k = xs.length := by omega
          subst hke
          rw [List.take_length] at hLe
          have HR := hid (HO.out.rd (by omega))
          have HSP2 : Hid (mergeB L = handM xs fr tt ow) := by
            show mergeB L = _
            rw [← hLe]
            exact HSP.out
          clear hLe
          go_wp2_with fail
          refine (specMerge _ _ _ _ HR.out).mono ?_
          rintro e w6 ⟨v, rfl, ho, hb⟩
          rw [HSP2.out] at ho
          obtain ⟨A6, c6, rfl⟩ := ho.form
          have HO6 := hid (ho.mono hzo)
          have HB6 := hid (HQ.out.trans (hb.mono hzo))
          generalize handM xs fr tt ow = M at HO6 HF
          clear ho hb
          by_cases hc : 40 < M.length
          · have hF := HF.out
            rw [if_pos hc] at hF
            subst hF
            go_wp2_with fail
            go_ret2
            exact ⟨_, rfl, Own.nil _ _ _, HB6.out⟩
          · have hF := HF.out
            rw [if_neg hc] at hF
            subst hF
            go_wp2_with fail
            go_ret2
            exact ⟨_, rfl, HO6.out, HB6.out⟩
    · have hF : handOver xs len fr tt ow = ([], 2) := by
        unfold handOver
        rw [if_pos hv, if_neg hr]
      rw [hF]
      have HV := hid hv
      have HR := hid hr
      have hln := (valid_len hv).1
      clear hv hr hF hx
      by_cases h1 : inB fr 0 (len - 1) = true
      · have g1 := inB_true.1 h1
        by_cases h2 : inB tt (fr + 1) len = true
        · have g2 := inB_true.1 h2
          have HOW : Hid (inB ow 0 39 = false) := by
            show inB ow 0 39 = false
            rw [← Bool.not_eq_true]
            exact fun h => HR.out ⟨⟨by omega, by omega, by omega⟩, h⟩
          have H1 := hid h1
          have H2 := hid h2
          clear h1 h2
          go_enter Try.func35, Try.ntmps35
          go_wp2_with (first | (go_at_call 48; refine (specOk _ _ _ _ _ HX.out).mono ?_; rintro e w' ⟨rfl, rfl⟩; rw [HV.out]) | (go_at_call 53; refine (specIn _ _ _ _).mono ?_; rintro e w' ⟨rfl, rfl⟩; first | rw [H1.out] | rw [H2.out]) | (go_at_call 55; refine (specOwner _ _).mono ?_; rintro e w' ⟨rfl, rfl⟩; rw [HOW.out]))
          go_ret2
          exact ⟨_, rfl, Own.nil _ _ _, Below.refl _ _⟩
        · rw [Bool.not_eq_true] at h2
          have H1 := hid h1
          have H2 := hid h2
          clear h1 h2
          go_enter Try.func35, Try.ntmps35
          go_wp2_with (first | (go_at_call 48; refine (specOk _ _ _ _ _ HX.out).mono ?_; rintro e w' ⟨rfl, rfl⟩; rw [HV.out]) | (go_at_call 53; refine (specIn _ _ _ _).mono ?_; rintro e w' ⟨rfl, rfl⟩; first | rw [H1.out] | rw [H2.out]))
          go_ret2
          exact ⟨_, rfl, Own.nil _ _ _, Below.refl _ _⟩
      · rw [Bool.not_eq_true] at h1
        have H1 := hid h1
        clear h1
        go_enter Try.func35, Try.ntmps35
        go_wp2_with (first | (go_at_call 48; refine (specOk _ _ _ _ _ HX.out).mono ?_; rintro e w' ⟨rfl, rfl⟩; rw [HV.out]) | (go_at_call 53; refine (specIn _ _ _ _).mono ?_; rintro e w' ⟨rfl, rfl⟩; rw [H1.out]))
        go_ret2
        exact ⟨_, rfl, Own.nil _ _ _, Below.refl _ _⟩
  · have hF : handOver xs len fr tt ow = ([], 1) := by
      unfold handOver
      rw [if_neg hv]
    rw [hF]
    rw [Bool.not_eq_true] at hv
    have HV := hid hv
    clear hv hF hx
    go_enter Try.func35, Try.ntmps35
    go_wp2_with (first | (go_at_call 48; refine (specOk _ _ _ _ _ HX.out).mono ?_; rintro e w' ⟨rfl, rfl⟩; rw [HV.out]))
    go_ret2
    exact ⟨_, rfl, Own.nil _ _ _, Below.refl _ _⟩
end Go.Proofs.Ytjamkomgdfgmlaa
