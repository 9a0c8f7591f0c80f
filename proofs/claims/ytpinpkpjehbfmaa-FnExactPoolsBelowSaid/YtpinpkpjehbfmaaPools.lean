/- Pools below a level: the reference walked. -/
import Derived.Test.YtpinpkpjehbfmaaCells
import Derived.Test.YtpinpkpjehbfmaaSpreadI
namespace Go.Proofs.Ytpinpkpjehbfmaa
open Go.RowKit
set_option linter.unusedVariables false

def codePo (t : Land) (lev : Int) : Int := if validL t = true then (if inB lev (-2000) 2000 = true then 0 else 2) else 1
theorem codePo_ok {t : Land} {lev : Int} (h : codePo t lev = 0) : validL t = true ∧ inB lev (-2000) 2000 = true := by
  unfold codePo at h
  split at h
  · rename_i hv
    split at h
    · rename_i ho; exact ⟨hv, ho⟩
    · cases h
  · cases h
def poolF (t : Land) (lev : Int) : List Int := if codePo t lev = 0 then (pools t lev t.heights.length).2 else []
theorem poolF_len (t : Land) (lev : Int) : (poolF t lev).length ≤ 1048576 := by
  unfold poolF
  split
  · rename_i h
    have := (lok (codePo_ok h).1).le
    have := pools_size (l := t) (lev := lev) (n := t.heights.length)
    omega
  · simp
def poolZ (t : Land) (lev : Int) (st : List Bool × List Int) (c : Int) : List Bool × List Int :=
  if seenAt st.1 c = false ∧ hAt t c < lev then ((part t lev st.1 c).1, st.2 ++ [((part t lev st.1 c).2.length : Int)]) else st
theorem pool_yes {t : Land} {lev : Int} {st : List Bool × List Int} {i : Nat} (h1 : seenAt st.1 i = false) (h2 : hAt t i < lev) : poolStep t lev st i = ((part t lev st.1 i).1, st.2 ++ [((part t lev st.1 i).2.length : Int)]) := by
  unfold poolStep; rw [if_pos ⟨h1, h2⟩]
theorem pool_no {t : Land} {lev : Int} {st : List Bool × List Int} {i : Nat} (h : seenAt st.1 i = true ∨ ¬ hAt t i < lev) : poolStep t lev st i = st := by
  unfold poolStep
  rw [if_neg]
  rintro ⟨a, b⟩
  rcases h with h | h
  · rw [h] at a; cases a
  · exact h b
/-- The pools by the cells below alone. -/
theorem pools_where (t : Land) (lev : Int) (st : List Bool × List Int) : ∀ n : Nat, (whereTo (fun i => decide (hAt t i < lev)) n).foldl (poolZ t lev) st = (List.range n).foldl (poolStep t lev) st
  | 0 => rfl
  | n + 1 => by
    rw [whereTo_next, List.range_succ, List.foldl_append, List.foldl_cons, List.foldl_nil]
    by_cases h : hAt t n < lev
    · rw [if_pos (by simpa using h), List.foldl_append, pools_where t lev st n]
      rfl
    · rw [if_neg (by simpa using h), pools_where t lev st n, pool_no (.inr h)]
theorem span_grownBy {w w' : World} {g : Nat} (h : Span w w' g (g + 1)) : w.grownBy w' (some g) :=
  ⟨h.os, h.tape, h.output, h.size, fun k hk hne => h.block k hk (by have : ¬ k = g := fun e => hne (by rw [e]); omega)⟩
set_option maxHeartbeats 1000000 in
theorem specLevelCode (g o : Nat) (t : Land) (lev : Int) (w : World) (h : PtLand w g o t) :
    Calls Try.prog 52 #[.pointer (some ⟨g, o, none⟩), .int .i64 lev] w fun e w' => e = .returned (.int .i64 (codePo t lev)) ∧ Below w.heap.size w w' := by
  have HC : Hid (codePo t lev = if validL t = true then (if inB lev (-2000) 2000 = true then 0 else 2) else 1) := rfl
  generalize codePo t lev = cz at HC ⊢
  cases hv : validL t with
  | true =>
    cases hl : inB lev (-2000) 2000
    all_goals
      have HV := hid hv
      have HL := hid hl
      clear hl
      go_enter Try.func52, Try.ntmps52
      go_wp2_with fail
      refine (specLandOk _ _ _ _ h).mono ?_
      rintro e w1 ⟨rfl, hb⟩
      rw [hv]
      have HB := hid hb
      clear hb
      go_wp2_with fail
      refine (specLevel _ _).mono ?_
      rintro e w2 ⟨rfl, rfl⟩
      rw [HL.out]
      go_wp2_with fail
      go_ret
      exact ⟨ret_int (by rw [HC.out, HV.out, HL.out]; rfl), HB.out⟩
  | false =>
    have HV := hid hv
    go_enter Try.func52, Try.ntmps52
    go_wp2_with fail
    refine (specLandOk _ _ _ _ h).mono ?_
    rintro e w1 ⟨rfl, hb⟩
    rw [hv]
    have HB := hid hb
    clear hb
    go_wp2_with fail
    go_ret
    exact ⟨ret_int (by rw [HC.out, HV.out]; rfl), HB.out⟩
set_option maxHeartbeats 8000000 in
theorem specPoolsBelow (v : Value) (t : Land) (lev : Int) (w : World) (h : RdLand w v t) :
    Calls Try.prog 23 #[v, .int .i64 lev] w fun e w' => ∃ u, e = .returned (.tuple #[u, .int .i64 (codePo t lev)]) ∧ Own w' w.heap.size 2 u (poolF t lev) ∧ Below w.heap.size w w' := by
  obtain ⟨A, q, rfl, hA⟩ := h
  have hn20 := hA.len
  obtain ⟨w0, hw0⟩ : ∃ x, w.alloc (.cells #[.int .i64 t.rows, .int .i64 t.columns, .slice A t.heights.length q] 28) = x := ⟨_, rfl⟩
  have hbw0 : Below w.heap.size w w0 := by rw [← hw0]; exact (Below.refl _ _).alloc (Nat.le_refl _) _
  have kR : w0.cell? ⟨w.heap.size, 0, none⟩ = some (.int .i64 t.rows) := by rw [← hw0]; simp [go_sem]
  have kC : w0.cell? ⟨w.heap.size, 1, none⟩ = some (.int .i64 t.columns) := by rw [← hw0]; simp [go_sem]
  have kH : w0.cell? ⟨w.heap.size, 2, none⟩ = some (.slice A t.heights.length q) := by rw [← hw0]; simp [go_sem]
  have HA0 := hid (hA.below hbw0)
  have HBW := hid hbw0
  have HW := hid hw0
  have HPT : Hid (RdLand w0 (.agg #[.int .i64 t.rows, .int .i64 t.columns, .slice A t.heights.length q]) t) := ⟨A, q, rfl, HA0.out⟩
  have HPP : Hid (PtLand w0 w.heap.size 0 t) := ⟨A, q, ⟨kR, kC, kH⟩, HA0.out⟩
  clear hA hbw0 hw0
  by_cases h1 : codePo t lev = 0
  · obtain ⟨hv, _⟩ := codePo_ok h1
    have ht := lok hv
    have hle := ht.le
    have HF : Hid (poolF t lev = (pools t lev t.heights.length).2) := by show _ = _; unfold poolF; rw [if_pos h1]
    have HC := hid h1
    clear h1 hv
    go_enter Try.func23, Try.ntmps23
    go_upto_region 1 with fail
    rw [HW.out]
    clear HW
    go_wp2_with fail
    refine (specLevelCode _ _ _ _ _ HPP.out).mono ?_
    rintro e w1 ⟨rfl, hb⟩
    rw [HC.out]
    have HB1 := hid (HBW.out.trans (hb.mono HBW.out.size))
    have HP1 := hid (HPP.out.below hb)
    have HA1 := hid (HA0.out.below hb)
    have e3 := box_cell hb kH
    clear hb kR kC kH
    go_upto_region 5 with fail
    obtain ⟨wa, hwa⟩ : ∃ x, w1.alloc (.cells #[] 2) = x := ⟨_, rfl⟩
    have hb1a : Below w1.heap.size w1 wa := by rw [← hwa]; exact (Below.refl _ _).alloc (Nat.le_refl _) _
    have hoS : Own wa w1.heap.size 2 (.slice (some ⟨w1.heap.size, 0, none⟩) 0 0) ([] : List Int) := by rw [← hwa]; exact Own.empty (Nat.le_refl _)
    have hsz : w1.heap.size < wa.heap.size := by rw [← hwa]; simp
    have ea := box_cell hb1a e3
    rw [hwa]
    have HB1A := hid hb1a
    have HOS := hid hoS
    clear hwa hb1a hoS
    go_wp2_with (first | fail | (at_make; refine wpList_make' elBool _ rfl _ _ rfl wa.heap.size .i64 .i64 _ _ t.heights.length rfl rfl rfl rfl hn20 (Nat.le_refl _) ?_; intro wb hob hbb; refine keep_ ?_))
    have hgb := (hob.block _ rfl).2
    have H0 := hid hob
    have HBB := hid (HB1A.out.trans (hbb.mono HB1A.out.size))
    have HOS2 := hid (HOS.out.below hbb)
    clear hob hbb ea
    refine go_ ?_
    go_wp2_with fail
    go_loopw [7, 9] (fun u i wr => ∃ k : Nat, k ≤ t.heights.length ∧ i = .int .i64 k ∧ Own wr w1.heap.size 2 u (pools t lev k).2 ∧ (∀ g, u.ownBlock = some g → g ≠ wa.heap.size) ∧ Own wr wa.heap.size 4 (.slice (some ⟨wa.heap.size, 0, none⟩) t.heights.length t.heights.length) (pools t lev k).1 ∧ Below w1.heap.size w1 wr) (fun _ i _ => t.heights.length - (intOf i).toNat)
    case atStart => exact ⟨0, Nat.zero_le _, rfl, HOS2.out, fun g hg => by simp only [Value.ownBlock, Option.some.injEq] at hg; omega, H0.out, HBB.out⟩
    case round =>
      obtain ⟨k, hk, rfl, ho, hne, hs, hq⟩ := hrel
      obtain ⟨wo, rfl⟩ : ∃ wo : World, wo = wr := ⟨_, rfl⟩
      have eo := box_cell hq e3
      by_cases hlt : k < t.heights.length
      · have hpl := pools_len ht (lev := lev) (n := k) (by omega)
        have hps := pools_size (l := t) (lev := lev) (n := k)
        have hks : k < (pools t lev k).1.length := by rw [hpl]; exact hlt
        have hpn := pools_next t lev k
        obtain ⟨d1, f1⟩ := hs.bool hks
        have hsn : seenAt (pools t lev k).1 k = (pools t lev k).1[k] := seenAt_eq hks
        obtain ⟨b3, o3, rfl, y1⟩ := (HA1.out.below hq).int hlt
        have hhe := hAt_eq hlt
        have HS := hid hs
        have HO := hid ho
        have HQ := hid hq
        have HNE := hid hne
        have HPL := hid hpl
        obtain ⟨V, vq, rfl⟩ := ho.form
        clear hs ho hq hne hpl
        cases hd : (pools t lev k).1[k] with
        | true =>
          rw [hd] at d1 hsn
          have HN : Hid (pools t lev (k + 1) = pools t lev k) := by show _ = _; rw [hpn, pool_no (.inl hsn)]
          clear hpn hsn hhe hd
          go_wp2_with fail
          go_roundw
          case rel => exact ⟨k + 1, by omega, by go_num, by rw [HN.out]; exact HO.out, HNE.out, by rw [HN.out]; exact HS.out, HQ.out⟩
          case measure => simp [intOf]; omega
        | false =>
          rw [hd] at d1 hsn
          by_cases hh : t.heights[k] < lev
          · have HN : Hid (pools t lev (k + 1) = ((part t lev (pools t lev k).1 k).1, (pools t lev k).2 ++ [((part t lev (pools t lev k).1 k).2.length : Int)])) := by show _ = _; rw [hpn, pool_yes hsn (by rw [hhe]; exact hh)]
            have HSN := hid hsn
            have hlev : decide (t.heights[k] < lev) = true := decide_eq_true hh
            have hpo : (part t lev (pools t lev k).1 k).2.length ≤ t.heights.length := (part_ok ht HPL.out (by omega) (by omega) hsn).qlen
            clear hpn hsn hhe hd hh
            generalize pools t lev k = st at HO HS HPL HN HSN HNE hps hpo d1 hks ⊢
            have hga := (HS.out.block _ rfl).2
            go_wp2_with fail
            refine (specPart w1 wo w.heap.size 0 wa.heap.size t.heights.length t ht lev k st.1 HP1.out HQ.out (by omega) HS.out HPL.out (by omega) (by omega) HSN.out).mono ?_
            rintro e w2 ⟨rfl, hs2, hsp⟩
            have hgr := span_grownBy hsp
            have ho2 := HO.out.grown hgr (.inr (fun e => HNE.out _ e rfl))
            have hq2 := HQ.out.grown hgr HQ.out.size (fun k hk => by injection hk with hk; omega)
            have HO2 := hid ho2
            have HQ2 := hid hq2
            have HS2 := hid hs2
            generalize (part t lev st.1 k).1 = sn at HN HS2
            generalize (part t lev st.1 k).2.length = m at HN hpo ⊢
            clear hgr ho2 hq2 hs2 hsp d1 f1 eo y1
            have hvl : (Value.slice V st.2.length vq).ownBlock = (Value.slice V st.2.length vq).ownBlock := rfl
            go_wp2_with (first | fail | (at_builtin; refine wpList_push elInt _ rfl (.tmp 41) (.tmp 46) rfl w1.heap.size _ st.2 (m : Int) rfl (HO2.out.alloc _) _ rfl (heap_alloc_new _ _) (by omega) (le_alloc HQ2.out.size) ?_; intro v' w' hown' hg' hat'; refine keep_ ?_))
            have hbn := below_own (HQ2.out.alloc HQ2.out.size _) (HO2.out.alloc _) hg' (Nat.le_refl _) (le_alloc HQ2.out.size)
            have hbb := (HS2.out.alloc _).beside hg' (fun a b h1 h2 => by
              have h3 := HNE.out b h2
              simp only [Value.ownBlock, Option.some.injEq] at h1
              omega)
            have hga2 := (HS2.out.block _ rfl).2
            have hnn : ∀ g, v'.ownBlock = some g → g ≠ wa.heap.size := fun g hg2 => by
              rcases hat' with h | h
              · exact HNE.out g (Eq.trans h.symm hg2)
              · rw [hg2] at h
                injection h with h
                rw [h]
                have h5 := ((HS2.out.alloc (.cells #[.int .i64 (m : Int)] 2)).block wa.heap.size rfl).2
                exact Nat.ne_of_gt h5
            have Z1 := hid hbn
            have Z2 := hid hbb
            have Z3 := hid hnn
            have Z4 := hid hown'
            clear hbn hbb hnn hown' hg' hat'
            refine go_ ?_
            go_wp2_with fail
            go_roundw
            case rel => exact ⟨k + 1, by omega, by go_num, by rw [HN.out]; exact Z4.out, Z3.out, by rw [HN.out]; exact Z2.out, Z1.out⟩
            case measure => simp [intOf]; omega
          · have hlev : decide (t.heights[k] < lev) = false := decide_eq_false hh
            have HN : Hid (pools t lev (k + 1) = pools t lev k) := by show _ = _; rw [hpn, pool_no (.inr (by rw [hhe]; exact hh))]
            clear hpn hsn hhe hd hh
            go_wp2_with fail
            go_roundw
            case rel => exact ⟨k + 1, by omega, by go_num, by rw [HN.out]; exact HO.out, HNE.out, by rw [HN.out]; exact HS.out, HQ.out⟩
            case measure => simp [intOf]; omega
      · have hkn : k = t.heights.length := by omega
        subst hkn
        have HO := hid ho
        have HQ := hid hq
        obtain ⟨V, vq, rfl⟩ := ho.form
        clear ho hq hs hne
        go_wp2_with fail
        go_ret2
        exact ⟨_, by rw [HC.out]; rfl, by rw [HF.out]; exact HO.out.mono HB1.out.size, HB1.out.trans (HQ.out.mono HB1.out.size)⟩
  · have HF : Hid (poolF t lev = []) := by show _ = _; unfold poolF; rw [if_neg h1]
    have h1' : (codePo t lev != 0) = true := by simp [h1]
    have H1 := hid h1'
    clear h1'
    go_enter Try.func23, Try.ntmps23
    go_upto_region 1 with fail
    rw [HW.out]
    clear HW
    go_wp2_with fail
    refine (specLevelCode _ _ _ _ _ HPP.out).mono ?_
    rintro e w1 ⟨rfl, hb⟩
    have HB1 := hid (HBW.out.trans (hb.mono HBW.out.size))
    have h1' := H1.out
    clear hb kR kC kH H1
    generalize hz : codePo t lev = z at h1 h1' ⊢
    have HZ := hid hz
    clear hz
    go_wp2_with fail
    go_ret2
    exact ⟨.slice none 0 0, by rw [HZ.out]; rfl, by rw [HF.out]; exact Own.nil _ _ _, HB1.out⟩
set_option maxHeartbeats 1000000 in
theorem belowClosure (k : Nat) (g1 g2 : Nat) (t : Land) (lev : Int) (w : World) (h1 : PtLand w g1 0 t) (h2 : w.cell? ⟨g2, 0, none⟩ = some (.int .i64 lev)) (hk : k < t.heights.length) :
    Calls Try.prog 77 #[.int .i64 (k : Int), .pointer (some ⟨g1, 0, none⟩), .pointer (some ⟨g2, 0, none⟩)] w fun e w' => e = .returned (.bool (decide (hAt t k < lev))) ∧ Below w.heap.size w w' := by
  obtain ⟨A, q, ⟨_, _, eH⟩, hA⟩ := h1
  have hn20 := hA.len
  obtain ⟨b, off, rfl, c1⟩ := hA.int hk
  have HE := hid (hAt_eq hk)
  clear hA
  go_enter Try.func77, Try.ntmps77
  go_wp2_with fail
  go_quiet (fail)
  go_wp2_with fail
  go_ret
  exact ⟨ret_bool (by rw [HE.out]), (Below.refl _ _).drewN _⟩
set_option maxHeartbeats 1000000 in
theorem implWhere_Below (q0 q1 : Value) (n : Nat) (p : Nat → Bool) (w : World) (hn : n ≤ 1048576)
    (hcl : ∀ k : Nat, k < n → ∀ w', Below w.heap.size w w' → Calls Try.prog 77 #[.int .i64 (k : Int), q0, q1] w' fun e w'' => e = .returned (.bool (p k)) ∧ Below w'.heap.size w' w'') :
    Calls Try.prog 76 #[.int .i64 n, .func (.func 77) #[] #[q0, q1]] w fun e w' => ∃ v, e = .returned v ∧ Own w' w.heap.size 2 v (whereTo p n) ∧ Below w.heap.size w w' := by
  go_enter Try.func76, Try.ntmps76
  go_wp2
  go_loopw [5, 6] (fun v i wr => ∃ k : Nat, k ≤ n ∧ i = .int .i64 k ∧ Own wr w.heap.size 2 v (whereTo p k) ∧ Below w.heap.size w wr) (fun _ i _ => n - (intOf i).toNat)
  case atStart => exact ⟨0, Nat.zero_le _, rfl, Own.empty (Nat.le_refl _), (Below.refl _ _).alloc (Nat.le_refl _) _⟩
  case round =>
    obtain ⟨k, hk, rfl, ho, hb⟩ := hrel
    obtain ⟨wo, rfl⟩ : ∃ wo : World, wo = wr := ⟨_, rfl⟩
    by_cases hlt : k < n
    · have hc := hcl k hlt wo hb
      have HN := hid (whereTo_next p k)
      have hwl := whereTo_len p k
      have HB := hid hb
      obtain ⟨V, vq, rfl⟩ := ho.form
      generalize whereTo p k = L at ho HN hwl
      have HO := hid ho
      clear hcl hb ho
      by_cases h1 : p k = true
      · have HN2 : Hid (whereTo p (k + 1) = L ++ [(k : Int)]) := by rw [HN.out, if_pos h1]; exact rfl
        go_wp2_with (first | (go_at_call 77; refine hc.mono ?_; rintro e w1 ⟨rfl, hb1⟩; rw [h1]; have HB1 := hid (HB.out.trans (hb1.mono HB.out.size)); have HO1 := hid (HO.out.below hb1); clear hb1) | (at_builtin; refine wpList_push elInt _ rfl (.tmp 16) (.tmp 18) rfl w.heap.size _ L (k : Int) rfl (HO1.out.alloc _) _ rfl (heap_alloc_new _ _) (by omega) (le_alloc HB1.out.size) ?_; intro v' w' hown' hg' hat'; have hbn := below_own (HB1.out.alloc HB1.out.size _) (HO1.out.alloc _) hg' (Nat.le_refl _) (le_alloc HB1.out.size); have HO2 := hid hown'; have HBN := hid hbn; clear hown' hg' hat' hbn))
        go_roundw
        case rel => exact ⟨k + 1, by omega, by go_num, by rw [HN2.out]; exact HO2.out, HBN.out⟩
        case measure => simp [intOf]; omega
      · have HN2 : Hid (whereTo p (k + 1) = L) := by rw [HN.out, if_neg h1]; exact rfl
        rw [Bool.not_eq_true] at h1
        go_wp2_with (go_at_call 77; refine hc.mono ?_; rintro e w1 ⟨rfl, hb1⟩; rw [h1]; have HB1 := hid (HB.out.trans (hb1.mono HB.out.size)); have HO1 := hid (HO.out.below hb1); clear hb1)
        go_roundw
        case rel => exact ⟨k + 1, by omega, by go_num, by rw [HN2.out]; exact HO1.out, HB1.out⟩
        case measure => simp [intOf]; omega
    · have hkl : Hid (k = n) := by show k = n; omega
      have HO := hid ho
      have HB := hid hb
      clear ho hcl hb
      go_wp2
      go_ret
      exact ⟨_, rfl, by rw [← hkl.out]; exact HO.out, HB.out⟩
set_option maxHeartbeats 4000000 in
theorem implBelowList (v : Value) (t : Land) (lev : Int) (w : World) (h : RdLand w v t) :
    Calls Try.prog 55 #[v, .int .i64 lev] w fun e w' => ∃ u, e = .returned u ∧ Own w' w.heap.size 2 u (whereTo (fun i => decide (hAt t i < lev)) t.heights.length) ∧ Below w.heap.size w w' := by
  obtain ⟨A, q, rfl, hA⟩ := h
  have hn20 := hA.len
  obtain ⟨w0, hw0⟩ : ∃ x, (w.alloc (.cells #[.int .i64 t.rows, .int .i64 t.columns, .slice A t.heights.length q] 28)).alloc (.cells #[.int .i64 lev] 2) = x := ⟨_, rfl⟩
  have hbw0 : Below w.heap.size w w0 := by rw [← hw0]; exact ((Below.refl _ _).alloc (Nat.le_refl _) _).alloc (by simp) _
  have kR : w0.cell? ⟨w.heap.size, 0, none⟩ = some (.int .i64 t.rows) := by rw [← hw0]; simp [go_sem]
  have kC : w0.cell? ⟨w.heap.size, 1, none⟩ = some (.int .i64 t.columns) := by rw [← hw0]; simp [go_sem]
  have kH : w0.cell? ⟨w.heap.size, 2, none⟩ = some (.slice A t.heights.length q) := by rw [← hw0]; simp [go_sem]
  have kL : w0.cell? ⟨w.heap.size + 1, 0, none⟩ = some (.int .i64 lev) := by rw [← hw0]; simp [go_sem]
  have HPP : Hid (PtLand w0 w.heap.size 0 t) := ⟨A, q, ⟨kR, kC, kH⟩, hA.below hbw0⟩
  have HKL := hid kL
  have HBW := hid hbw0
  have HW := hid hw0
  have hmf : ∀ (fn : Fn) (first cap : Array Value) (w : World), (Instr.makeFunc fn first cap).run Try.prog w = .ok (.func fn first cap) w := fun _ _ _ _ => rfl
  clear hA hbw0 hw0
  go_enter Try.func55, Try.ntmps55
  go_upto_region 1 with fail
  rw [HW.out]
  clear HW kL
  go_wp2_with (go_at_call 50; refine (sizeInts _ _ _ _ hn20).mono ?_; rintro e w' ⟨rfl, rfl⟩)
  refine (implWhere_Below _ _ t.heights.length (fun i => decide (hAt t i < lev)) _ hn20 fun k hk w' hb' => ?_).mono ?_
  · exact belowClosure k _ _ t lev w' (HPP.out.below hb') (box_cell hb' HKL.out) hk
  · rintro e w4 ⟨u3, rfl, ho3, hb4⟩
    have HO := hid (ho3.mono HBW.out.size)
    have HQ := hid (HBW.out.trans (hb4.mono HBW.out.size))
    clear ho3 hb4 hmf
    go_wp2_with fail
    go_ret
    exact ⟨u3, rfl, HO.out, HQ.out⟩
end Go.Proofs.Ytpinpkpjehbfmaa
