/- Flooded cells, depths, volumes: the walks. -/
import Derived.Test.YtpinpkpjehbfmaaWet
import Derived.Test.YtpinpkpjehbfmaaCodes
namespace Go.Proofs.Ytpinpkpjehbfmaa
open Go.RowKit
set_option linter.unusedVariables false
def whereTo (p : Nat → Bool) (n : Nat) : List Int := ((List.range n).filter p).map fun (i : Nat) => (i : Int)
theorem whereTo_next (p : Nat → Bool) (n : Nat) : whereTo p (n + 1) = if p n = true then whereTo p n ++ [(n : Int)] else whereTo p n := by
  unfold whereTo
  rw [List.range_succ, List.filter_append, List.map_append]
  cases h : p n <;> simp [h]
theorem whereTo_len (p : Nat → Bool) (n : Nat) : (whereTo p n).length ≤ n := by
  unfold whereTo
  rw [List.length_map]
  exact Nat.le_trans (List.length_filter_le _ _) (by simp)
theorem whereB_to (s : List Bool) (want : Bool) : whereB s want = whereTo (fun i => s.getD i false == want) s.length := rfl
set_option maxHeartbeats 2000000 in
theorem specWet (g off : Nat) (t : Land) (ht : LOk t) (c lev : Int) (w : World) (h : PtLand w g off t) (h0 : 0 ≤ c) (h1 : c < t.heights.length) :
    Calls Try.prog 69 #[.pointer (some ⟨g, off, none⟩), .int .i64 c, .int .i64 lev] w fun e w' => ∃ u, e = .returned u ∧ Own w' w.heap.size 4 u (wet t c lev) ∧ Below w.heap.size w w' := by
  have hcn : c.toNat < t.heights.length := by omega
  have hp := h
  obtain ⟨A, q, ⟨eR, eC, eH⟩, hA⟩ := h
  have hn20 := hA.len
  obtain ⟨bh, oh, rfl, y0⟩ := hA.int hcn
  have hhc := hAt_get' hcn
  have HPT := hid hp
  clear hA hp eR eC
  have hcases : hAt t c < lev ∨ ¬ hAt t c < lev := by omega
  rcases hcases with hh | hh
  · have HWT := hid (wet_high hh)
    rw [hhc] at hh
    have hh' : decide (t.heights[c.toNat] < lev) = true := decide_eq_true hh
    clear hhc hh
    go_enter Try.func69, Try.ntmps69
    go_wp2_with (first | (at_make; refine wpList_make' elBool _ rfl _ _ rfl w.heap.size .i64 .i64 _ _ t.heights.length rfl rfl rfl rfl hn20 (Nat.le_refl _) ?_; intro w1 hown hb1; have kH1 := box_cell hb1 eH; have y1 := box_cell hb1 y0; have O1 := hid hown; have B1 := hid hb1; clear hown hb1) | fail)
    refine (specPart w _ g off w.heap.size t.heights.length t ht lev c (List.replicate t.heights.length false) HPT.out B1.out (Nat.le_refl _) O1.out (by simp) h0 h1 (seen_rep _ _)).mono ?_
    rintro e w2 ⟨rfl, ho, hs⟩
    have HO := hid ho
    have HB := hid (below_span B1.out hs (Nat.le_refl _) B1.out.size)
    clear ho hs kH1 y1
    go_wp2_with fail
    go_ret
    exact ⟨_, rfl, by rw [HWT.out]; exact HO.out, HB.out⟩
  · have HWT := hid (wet_low hh)
    rw [hhc] at hh
    have hh' : decide (t.heights[c.toNat] < lev) = false := decide_eq_false hh
    clear hhc hh
    go_enter Try.func69, Try.ntmps69
    go_wp2_with (first | (at_make; refine wpList_make' elBool _ rfl _ _ rfl w.heap.size .i64 .i64 _ _ t.heights.length rfl rfl rfl rfl hn20 (Nat.le_refl _) ?_; intro w1 hown hb1; have kH1 := box_cell hb1 eH; have y1 := box_cell hb1 y0; have O1 := hid hown; have B1 := hid hb1; clear hown hb1) | fail)
    go_ret
    exact ⟨_, rfl, by rw [HWT.out]; exact O1.out, B1.out⟩
set_option maxHeartbeats 2000000 in
theorem specList (A : Option Addr) (s : List Bool) (cc : Nat) (want : Bool) (w : World) (hx : Rd w A s) :
    Calls Try.prog 68 #[.slice A s.length cc, .bool want] w fun e w' => ∃ u, e = .returned u ∧ Own w' w.heap.size 2 u (whereB s want) ∧ Below w.heap.size w w' := by
  have hn := hx.len
  rw [whereB_to]
  have HP : Hid (∀ k (h : k < s.length), (fun i => s.getD i false == want) k = (s[k] == want)) := fun k h => by simp [h]
  generalize (fun i => s.getD i false == want) = p at HP ⊢
  go_enter Try.func68, Try.ntmps68
  go_wp2
  go_loopw [5, 6] (fun v i wr => ∃ k : Nat, k ≤ s.length ∧ i = .int .i64 k ∧ Own wr w.heap.size 2 v (whereTo p k) ∧ Below w.heap.size w wr) (fun _ i _ => s.length - (intOf i).toNat)
  case atStart => exact ⟨0, Nat.zero_le _, rfl, Own.empty (Nat.le_refl _), (Below.refl _ _).alloc (Nat.le_refl _) _⟩
  case round =>
    obtain ⟨k, hk, rfl, ho, hb⟩ := hrel
    obtain ⟨wo, rfl⟩ : ∃ wo : World, wo = wr := ⟨_, rfl⟩
    by_cases hlt : k < s.length
    · obtain ⟨b, off, rfl, c1⟩ := (hx.below hb).bool hlt
      have HN := hid (whereTo_next p k)
      have hwl := whereTo_len p k
      have HB := hid hb
      have hp := HP.out k hlt
      obtain ⟨V, vq, rfl⟩ := ho.form
      generalize whereTo p k = L at ho HN hwl
      have HO := hid ho
      generalize s[k] = z at c1 hp
      clear hx hb ho
      by_cases h1 : (z == want) = true
      · have HN2 : Hid (whereTo p (k + 1) = L ++ [(k : Int)]) := by rw [HN.out, if_pos (hp.trans h1)]; exact rfl
        clear hp
        go_wp2_with (first | fail | (at_builtin; refine wpList_push elInt _ rfl (.tmp 20) (.tmp 22) rfl w.heap.size _ L (k : Int) rfl (HO.out.alloc _) _ rfl (heap_alloc_new _ _) (by omega) (le_alloc HB.out.size) ?_; intro v' w' hown' hg' hat'; have hbn := below_own (HB.out.alloc HB.out.size _) (HO.out.alloc _) hg' (Nat.le_refl _) (le_alloc HB.out.size); have HO2 := hid hown'; have HBN := hid hbn; clear hown' hg' hat' hbn))
        go_roundw
        case rel => exact ⟨k + 1, by omega, by go_num, by rw [HN2.out]; exact HO2.out, HBN.out⟩
        case measure => simp [intOf]; omega
      · have HN2 : Hid (whereTo p (k + 1) = L) := by rw [HN.out, hp, if_neg h1]; exact rfl
        rw [Bool.not_eq_true] at h1
        clear hp
        go_wp2_with fail
        go_roundw
        case rel => exact ⟨k + 1, by omega, by go_num, by rw [HN2.out]; exact HO.out, HB.out⟩
        case measure => simp [intOf]; omega
    · have hkl : Hid (k = s.length) := by show k = s.length; omega
      have HO := hid ho
      have HB := hid hb
      clear ho hx hb
      go_wp2
      go_ret
      exact ⟨_, rfl, by rw [← hkl.out]; exact HO.out, HB.out⟩
set_option maxHeartbeats 1000000 in
theorem thatClosure (k : Nat) (g1 g2 : Nat) (V : Option Addr) (s : List Bool) (n q : Nat) (want : Bool) (w : World) (h1 : w.cell? ⟨g1, 0, none⟩ = some (.slice V n q)) (hn : s.length = n) (h2 : w.cell? ⟨g2, 0, none⟩ = some (.bool want)) (hr : Rd w V s) (hk : k < s.length) :
    Calls Try.prog 82 #[.int .i64 (k : Int), .pointer (some ⟨g1, 0, none⟩), .pointer (some ⟨g2, 0, none⟩)] w fun e w' => e = .returned (.bool (s.getD k false == want)) ∧ Below w.heap.size w w' := by
  obtain ⟨b, off, rfl, c1⟩ := hr.bool hk
  have HE : Hid ((s.getD k false == want) = (s[k] == want)) := by simp [Hid, hk]
  have hk1 : (k : Int) < n := by omega
  have hl := hr.len
  have hn1 : n ≤ 1048576 := by omega
  clear hr hn hl
  go_enter Try.func82, Try.ntmps82
  go_wp2_with fail
  go_quiet (fail)
  go_wp2_with fail
  go_ret
  exact ⟨ret_bool HE.out.symm, (Below.refl _ _).drewN _⟩
set_option maxHeartbeats 1000000 in
theorem implWhere_That (q0 q1 : Value) (n : Nat) (p : Nat → Bool) (w : World) (hn : n ≤ 1048576)
    (hcl : ∀ k : Nat, k < n → ∀ w', Below w.heap.size w w' → Calls Try.prog 82 #[.int .i64 (k : Int), q0, q1] w' fun e w'' => e = .returned (.bool (p k)) ∧ Below w'.heap.size w' w'') :
    Calls Try.prog 76 #[.int .i64 n, .func (.func 82) #[] #[q0, q1]] w fun e w' => ∃ v, e = .returned v ∧ Own w' w.heap.size 2 v (whereTo p n) ∧ Below w.heap.size w w' := by
  go_enter Try.func76, Try.ntmps76
  go_wp2
  go_loopw [5, 6] (fun v i wr => ∃ k : Nat, k ≤ n ∧ i = .int .i64 k ∧ Own wr w.heap.size 2 v (whereTo p k) ∧ Below w.heap.size w wr) (fun _ i _ => n - (intOf i).toNat)
  case atStart => exact ⟨0, Nat.zero_le _, rfl, Own.empty (Nat.le_refl _), (Below.refl _ _).alloc (Nat.le_refl _) _⟩
  case round =>
    obtain ⟨k, hk, rfl, ho, hb⟩ := hrel
    obtain ⟨wo, rfl⟩ : ∃ wo : World, wo = wr := ⟨_, rfl⟩
    by_cases hlt : k < n
    · have hc := hcl k hlt wo hb
      have HN := hid (whereTo_next p k)
      have hwl := whereTo_len p k
      have HB := hid hb
      obtain ⟨V, vq, rfl⟩ := ho.form
      generalize whereTo p k = L at ho HN hwl
      have HO := hid ho
      clear hcl hb ho
      by_cases h1 : p k = true
      · have HN2 : Hid (whereTo p (k + 1) = L ++ [(k : Int)]) := by rw [HN.out, if_pos h1]; exact rfl
        go_wp2_with (first | (go_at_call 82; refine hc.mono ?_; rintro e w1 ⟨rfl, hb1⟩; rw [h1]; have HB1 := hid (HB.out.trans (hb1.mono HB.out.size)); have HO1 := hid (HO.out.below hb1); clear hb1) | (at_builtin; refine wpList_push elInt _ rfl (.tmp 16) (.tmp 18) rfl w.heap.size _ L (k : Int) rfl (HO1.out.alloc _) _ rfl (heap_alloc_new _ _) (by omega) (le_alloc HB1.out.size) ?_; intro v' w' hown' hg' hat'; have hbn := below_own (HB1.out.alloc HB1.out.size _) (HO1.out.alloc _) hg' (Nat.le_refl _) (le_alloc HB1.out.size); have HO2 := hid hown'; have HBN := hid hbn; clear hown' hg' hat' hbn))
        go_roundw
        case rel => exact ⟨k + 1, by omega, by go_num, by rw [HN2.out]; exact HO2.out, HBN.out⟩
        case measure => simp [intOf]; omega
      · have HN2 : Hid (whereTo p (k + 1) = L) := by rw [HN.out, if_neg h1]; exact rfl
        rw [Bool.not_eq_true] at h1
        go_wp2_with (go_at_call 82; refine hc.mono ?_; rintro e w1 ⟨rfl, hb1⟩; rw [h1]; have HB1 := hid (HB.out.trans (hb1.mono HB.out.size)); have HO1 := hid (HO.out.below hb1); clear hb1)
        go_roundw
        case rel => exact ⟨k + 1, by omega, by go_num, by rw [HN2.out]; exact HO1.out, HB1.out⟩
        case measure => simp [intOf]; omega
    · have hkl : Hid (k = n) := by show k = n; omega
      have HO := hid ho
      have HB := hid hb
      clear ho hcl hb
      go_wp2
      go_ret
      exact ⟨_, rfl, by rw [← hkl.out]; exact HO.out, HB.out⟩
set_option maxHeartbeats 400000 in
theorem sizeBools (A : Option Addr) (n c : Nat) (w : World) (hn : n ≤ 1048576) : Calls Try.prog 81 #[.slice A n c] w fun e w' => e = .returned (.int .i64 n) ∧ w = w' := by
  go_enter Try.func81, Try.ntmps81
  go_wp2
  go_ret
  exact ⟨rfl, rfl⟩
def cellsF (t : Land) (c lev : Int) (want : Bool) : List Int := if codeFl t c lev = 0 then whereB (wet t c lev) want else []
theorem cellsF_len (t : Land) (c lev : Int) (want : Bool) : (cellsF t c lev want).length ≤ 1048576 := by
  unfold cellsF
  split
  · rename_i h
    obtain ⟨h1, _⟩ := codeFl_ok h
    obtain ⟨ht, a, b⟩ := codeCl_ok h1
    have h2 := wet_len (lev := lev) ht a b
    have h3 := whereTo_len (fun i => (wet t c lev).getD i false == want) (wet t c lev).length
    have h4 := ht.le
    rw [whereB_to]
    omega
  · simp
set_option maxHeartbeats 4000000 in
theorem implCellsThat (v : Value) (t : Land) (c lev : Int) (want : Bool) (w : World) (h : RdLand w v t) :
    Calls Try.prog 70 #[v, .int .i64 c, .int .i64 lev, .bool want] w fun e w' => ∃ u, e = .returned (.tuple #[u, .int .i64 (codeFl t c lev)]) ∧ Own w' w.heap.size 2 u (cellsF t c lev want) ∧ Below w.heap.size w w' := by
  obtain ⟨A, q, rfl, hA⟩ := h
  have hn20 := hA.len
  obtain ⟨w0, hw0⟩ : ∃ x, (w.alloc (.cells #[.int .i64 t.rows, .int .i64 t.columns, .slice A t.heights.length q] 28)).alloc (.cells #[.bool want] 4) = x := ⟨_, rfl⟩
  have hbw0 : Below w.heap.size w w0 := by rw [← hw0]; exact ((Below.refl _ _).alloc (Nat.le_refl _) _).alloc (by simp) _
  have kR : w0.cell? ⟨w.heap.size, 0, none⟩ = some (.int .i64 t.rows) := by rw [← hw0]; simp [go_sem]
  have kC : w0.cell? ⟨w.heap.size, 1, none⟩ = some (.int .i64 t.columns) := by rw [← hw0]; simp [go_sem]
  have kH : w0.cell? ⟨w.heap.size, 2, none⟩ = some (.slice A t.heights.length q) := by rw [← hw0]; simp [go_sem]
  have kW : w0.cell? ⟨w.heap.size + 1, 0, none⟩ = some (.bool want) := by rw [← hw0]; simp [go_sem]
  have HBW := hid hbw0
  have HW := hid hw0
  have HPT : Hid (RdLand w0 (.agg #[.int .i64 t.rows, .int .i64 t.columns, .slice A t.heights.length q]) t) := ⟨A, q, rfl, hA.below hbw0⟩
  clear hA hbw0 hw0
  by_cases h1 : codeFl t c lev = 0
  · obtain ⟨h2, _, _⟩ := codeFl_ok h1
    obtain ⟨ht, a, b⟩ := codeCl_ok h2
    have HF : Hid (cellsF t c lev want = whereTo (fun i => (wet t c lev).getD i false == want) t.heights.length) := by
      show _ = _
      unfold cellsF
      rw [if_pos h1, whereB_to, wet_len ht a b]
    have HWL := hid (wet_len (lev := lev) ht a b)
    have HC := hid h1
    clear h1 h2
    go_enter Try.func70, Try.ntmps70
    go_upto_region 1 with fail
    rw [HW.out]
    clear HW
    go_wp2_with fail
    refine (implFloodCode _ _ _ _ _ HPT.out).mono ?_
    rintro e w1 ⟨rfl, hb⟩
    rw [HC.out]
    have e1 := box_cell hb kR
    have e2 := box_cell hb kC
    have e3 := box_cell hb kH
    have e4 := box_cell hb kW
    have HB1 := hid (HBW.out.trans (hb.mono HBW.out.size))
    have HP1 := hid (HPT.out.below hb)
    clear hb kR kC kH kW
    go_wp2_with fail
    refine (implFlooded _ t ht c lev _ HP1.out a b).mono ?_
    rintro e w2 ⟨u, rfl, ho, hb⟩
    have f4 := box_cell hb e4
    have HB2 := hid (HB1.out.trans (hb.mono HB1.out.size))
    obtain ⟨V, vq, hV⟩ := ho.form
    rw [HWL.out] at hV
    subst hV
    have hr := ho.rd (by rw [HWL.out]; exact hn20)
    obtain ⟨w3, hw3⟩ : ∃ x, w2.alloc (.cells #[.slice V t.heights.length vq] 53) = x := ⟨_, rfl⟩
    have hb3 : Below w2.heap.size w2 w3 := by rw [← hw3]; exact (Below.refl _ _).alloc (Nat.le_refl _) _
    have k3 : w3.cell? ⟨w2.heap.size, 0, none⟩ = some (.slice V t.heights.length vq) := by rw [← hw3]; simp [go_sem]
    have k4 := box_cell hb3 f4
    have HR := hid (hr.below hb3)
    have HB3 := hid (HB2.out.trans (hb3.mono HB2.out.size))
    have HW := hid hw3
    have K3 := hid k3
    have K4 := hid k4
    have hmf : ∀ (fn : Fn) (first cap : Array Value) (w : World), (Instr.makeFunc fn first cap).run Try.prog w = .ok (.func fn first cap) w := fun _ _ _ _ => rfl
    clear hb ho hr hw3 hb3 e1 e2 e3 e4 f4 k4
    go_upto_region 5 with fail
    rw [HW.out]
    clear HW
    go_wp2_with (go_at_call 81; refine (sizeBools _ _ _ _ hn20).mono ?_; rintro e w' ⟨rfl, rfl⟩)
    refine (implWhere_That _ _ t.heights.length (fun i => (wet t c lev).getD i false == want) _ hn20 fun k hk w' hb' => ?_).mono ?_
    · exact thatClosure k _ _ V (wet t c lev) t.heights.length vq want w' (box_cell hb' K3.out) HWL.out (box_cell hb' K4.out) (HR.out.below hb') (by rw [HWL.out]; exact hk)
    · rintro e w4 ⟨u3, rfl, ho3, hb4⟩
      have HO := hid (ho3.mono HB3.out.size)
      have HQ := hid (HB3.out.trans (hb4.mono HB3.out.size))
      clear ho3 hb4 hmf k3
      go_wp2_with fail
      go_ret2
      exact ⟨u3, by rw [HC.out]; rfl, by rw [HF.out]; exact HO.out, HQ.out⟩
  · have HF : Hid (cellsF t c lev want = []) := by show _ = _; unfold cellsF; rw [if_neg h1]
    have h1' : (codeFl t c lev != 0) = true := by simp [h1]
    have H1 := hid h1'
    clear h1'
    go_enter Try.func70, Try.ntmps70
    go_upto_region 1 with fail
    rw [HW.out]
    clear HW
    go_wp2_with fail
    refine (implFloodCode _ _ _ _ _ HPT.out).mono ?_
    rintro e w1 ⟨rfl, hb⟩
    have HB1 := hid (HBW.out.trans (hb.mono HBW.out.size))
    have h1' := H1.out
    clear hb kR kC kH kW H1
    generalize hz : codeFl t c lev = z at h1 h1' ⊢
    have HZ := hid hz
    clear hz
    go_wp2_with fail
    go_ret2
    exact ⟨_, by rw [HZ.out]; rfl, by rw [HF.out]; exact Own.empty HB1.out.size, HB1.out.alloc HB1.out.size _⟩
set_option maxHeartbeats 1000000 in
theorem implFloodedCells (v : Value) (t : Land) (c lev : Int) (w : World) (h : RdLand w v t) :
    Calls Try.prog 34 #[v, .int .i64 c, .int .i64 lev] w fun e w' => ∃ u, e = .returned (.tuple #[u, .int .i64 (codeFl t c lev)]) ∧ Own w' w.heap.size 2 u (cellsF t c lev true) ∧ Below w.heap.size w w' := by
  obtain ⟨A, q, rfl, hA⟩ := h
  have hn20 := hA.len
  obtain ⟨w0, hw0⟩ : ∃ x, w.alloc (.cells #[.int .i64 t.rows, .int .i64 t.columns, .slice A t.heights.length q] 28) = x := ⟨_, rfl⟩
  have hbw0 : Below w.heap.size w w0 := by rw [← hw0]; exact (Below.refl _ _).alloc (Nat.le_refl _) _
  have kR : w0.cell? ⟨w.heap.size, 0, none⟩ = some (.int .i64 t.rows) := by rw [← hw0]; simp [go_sem]
  have kC : w0.cell? ⟨w.heap.size, 1, none⟩ = some (.int .i64 t.columns) := by rw [← hw0]; simp [go_sem]
  have kH : w0.cell? ⟨w.heap.size, 2, none⟩ = some (.slice A t.heights.length q) := by rw [← hw0]; simp [go_sem]
  have HA0 := hid (hA.below hbw0)
  have HBW := hid hbw0
  have HW := hid hw0
  have HPT : Hid (RdLand w0 (.agg #[.int .i64 t.rows, .int .i64 t.columns, .slice A t.heights.length q]) t) := ⟨A, q, rfl, HA0.out⟩
  have HPP : Hid (PtLand w0 w.heap.size 0 t) := ⟨A, q, ⟨kR, kC, kH⟩, HA0.out⟩
  clear hA hbw0 hw0
  go_enter Try.func34, Try.ntmps34
  go_upto_region 1 with fail
  rw [HW.out]
  clear HW
  go_wp2_with fail
  refine (implCellsThat _ _ _ _ _ _ HPT.out).mono ?_
  rintro e w1 ⟨u, rfl, ho, hb⟩
  have HO := hid (ho.mono HBW.out.size)
  have HB := hid (HBW.out.trans (hb.mono HBW.out.size))
  clear ho hb kR kC kH
  go_wp2_with fail
  go_ret2
  exact ⟨u, rfl, HO.out, HB.out⟩
set_option maxHeartbeats 2000000 in
theorem specFloodedCells (v : Value) (t : Land) (c lev : Int) (w : World) (h : RdLand w v t) :
    Calls Try.prog 33 #[v, .int .i64 c, .int .i64 lev] w fun e w' => ∃ u, e = .returned (.tuple #[u, .int .i64 (codeFl t c lev)]) ∧ Own w' w.heap.size 2 u (cellsF t c lev true) ∧ Below w.heap.size w w' := by
  obtain ⟨A, q, rfl, hA⟩ := h
  have hn20 := hA.len
  obtain ⟨w0, hw0⟩ : ∃ x, w.alloc (.cells #[.int .i64 t.rows, .int .i64 t.columns, .slice A t.heights.length q] 28) = x := ⟨_, rfl⟩
  have hbw0 : Below w.heap.size w w0 := by rw [← hw0]; exact (Below.refl _ _).alloc (Nat.le_refl _) _
  have kR : w0.cell? ⟨w.heap.size, 0, none⟩ = some (.int .i64 t.rows) := by rw [← hw0]; simp [go_sem]
  have kC : w0.cell? ⟨w.heap.size, 1, none⟩ = some (.int .i64 t.columns) := by rw [← hw0]; simp [go_sem]
  have kH : w0.cell? ⟨w.heap.size, 2, none⟩ = some (.slice A t.heights.length q) := by rw [← hw0]; simp [go_sem]
  have HA0 := hid (hA.below hbw0)
  have HBW := hid hbw0
  have HW := hid hw0
  have HPT : Hid (RdLand w0 (.agg #[.int .i64 t.rows, .int .i64 t.columns, .slice A t.heights.length q]) t) := ⟨A, q, rfl, HA0.out⟩
  have HPP : Hid (PtLand w0 w.heap.size 0 t) := ⟨A, q, ⟨kR, kC, kH⟩, HA0.out⟩
  clear hA hbw0 hw0
  by_cases h1 : codeFl t c lev = 0
  · obtain ⟨h2, _, _⟩ := codeFl_ok h1
    obtain ⟨ht, a, b⟩ := codeCl_ok h2
    have HF : Hid (cellsF t c lev true = whereB (wet t c lev) true) := by show _ = _; unfold cellsF; rw [if_pos h1]
    have HWL := hid (wet_len (lev := lev) ht a b)
    have HC := hid h1
    clear h1 h2
    go_enter Try.func33, Try.ntmps33
    go_upto_region 1 with fail
    rw [HW.out]
    clear HW
    go_wp2_with fail
    refine (specFloodCode _ _ _ _ _ _ HPP.out).mono ?_
    rintro e w1 ⟨rfl, hb⟩
    rw [HC.out]
    have HB1 := hid (HBW.out.trans (hb.mono HBW.out.size))
    have HP1 := hid (HPP.out.below hb)
    clear hb kR kC kH
    go_wp2_with fail
    refine (specWet _ _ t ht c lev _ HP1.out a b).mono ?_
    rintro e w2 ⟨u, rfl, ho, hb⟩
    have HB2 := hid (HB1.out.trans (hb.mono HB1.out.size))
    obtain ⟨V, vq, rfl⟩ := ho.form
    have HR := hid (ho.rd (by rw [HWL.out]; exact hn20))
    clear hb ho
    go_wp2_with fail
    refine (specList _ _ _ _ _ HR.out).mono ?_
    rintro e w3 ⟨u2, rfl, ho2, hb2⟩
    have HO := hid (ho2.mono HB2.out.size)
    have HB3 := hid (HB2.out.trans (hb2.mono HB2.out.size))
    clear ho2 hb2
    go_wp2_with fail
    go_ret2
    exact ⟨u2, by rw [HC.out]; rfl, by rw [HF.out]; exact HO.out, HB3.out⟩
  · have HF : Hid (cellsF t c lev true = []) := by show _ = _; unfold cellsF; rw [if_neg h1]
    have h1' : (codeFl t c lev != 0) = true := by simp [h1]
    have H1 := hid h1'
    clear h1'
    go_enter Try.func33, Try.ntmps33
    go_upto_region 1 with fail
    rw [HW.out]
    clear HW
    go_wp2_with fail
    refine (specFloodCode _ _ _ _ _ _ HPP.out).mono ?_
    rintro e w1 ⟨rfl, hb⟩
    have HB1 := hid (HBW.out.trans (hb.mono HBW.out.size))
    have h1' := H1.out
    clear hb kR kC kH H1
    generalize hz : codeFl t c lev = z at h1 h1' ⊢
    have HZ := hid hz
    clear hz
    go_wp2_with fail
    go_ret2
    exact ⟨.slice none 0 0, by rw [HZ.out]; rfl, by rw [HF.out]; exact Own.nil _ _ _, HB1.out⟩
set_option maxHeartbeats 1000000 in
theorem implSafeCells (v : Value) (t : Land) (c lev : Int) (w : World) (h : RdLand w v t) :
    Calls Try.prog 36 #[v, .int .i64 c, .int .i64 lev] w fun e w' => ∃ u, e = .returned (.tuple #[u, .int .i64 (codeFl t c lev)]) ∧ Own w' w.heap.size 2 u (cellsF t c lev false) ∧ Below w.heap.size w w' := by
  obtain ⟨A, q, rfl, hA⟩ := h
  have hn20 := hA.len
  obtain ⟨w0, hw0⟩ : ∃ x, w.alloc (.cells #[.int .i64 t.rows, .int .i64 t.columns, .slice A t.heights.length q] 28) = x := ⟨_, rfl⟩
  have hbw0 : Below w.heap.size w w0 := by rw [← hw0]; exact (Below.refl _ _).alloc (Nat.le_refl _) _
  have kR : w0.cell? ⟨w.heap.size, 0, none⟩ = some (.int .i64 t.rows) := by rw [← hw0]; simp [go_sem]
  have kC : w0.cell? ⟨w.heap.size, 1, none⟩ = some (.int .i64 t.columns) := by rw [← hw0]; simp [go_sem]
  have kH : w0.cell? ⟨w.heap.size, 2, none⟩ = some (.slice A t.heights.length q) := by rw [← hw0]; simp [go_sem]
  have HA0 := hid (hA.below hbw0)
  have HBW := hid hbw0
  have HW := hid hw0
  have HPT : Hid (RdLand w0 (.agg #[.int .i64 t.rows, .int .i64 t.columns, .slice A t.heights.length q]) t) := ⟨A, q, rfl, HA0.out⟩
  have HPP : Hid (PtLand w0 w.heap.size 0 t) := ⟨A, q, ⟨kR, kC, kH⟩, HA0.out⟩
  clear hA hbw0 hw0
  go_enter Try.func36, Try.ntmps36
  go_upto_region 1 with fail
  rw [HW.out]
  clear HW
  go_wp2_with fail
  refine (implCellsThat _ _ _ _ _ _ HPT.out).mono ?_
  rintro e w1 ⟨u, rfl, ho, hb⟩
  have HO := hid (ho.mono HBW.out.size)
  have HB := hid (HBW.out.trans (hb.mono HBW.out.size))
  clear ho hb kR kC kH
  go_wp2_with fail
  go_ret2
  exact ⟨u, rfl, HO.out, HB.out⟩
set_option maxHeartbeats 2000000 in
theorem specSafeCells (v : Value) (t : Land) (c lev : Int) (w : World) (h : RdLand w v t) :
    Calls Try.prog 35 #[v, .int .i64 c, .int .i64 lev] w fun e w' => ∃ u, e = .returned (.tuple #[u, .int .i64 (codeFl t c lev)]) ∧ Own w' w.heap.size 2 u (cellsF t c lev false) ∧ Below w.heap.size w w' := by
  obtain ⟨A, q, rfl, hA⟩ := h
  have hn20 := hA.len
  obtain ⟨w0, hw0⟩ : ∃ x, w.alloc (.cells #[.int .i64 t.rows, .int .i64 t.columns, .slice A t.heights.length q] 28) = x := ⟨_, rfl⟩
  have hbw0 : Below w.heap.size w w0 := by rw [← hw0]; exact (Below.refl _ _).alloc (Nat.le_refl _) _
  have kR : w0.cell? ⟨w.heap.size, 0, none⟩ = some (.int .i64 t.rows) := by rw [← hw0]; simp [go_sem]
  have kC : w0.cell? ⟨w.heap.size, 1, none⟩ = some (.int .i64 t.columns) := by rw [← hw0]; simp [go_sem]
  have kH : w0.cell? ⟨w.heap.size, 2, none⟩ = some (.slice A t.heights.length q) := by rw [← hw0]; simp [go_sem]
  have HA0 := hid (hA.below hbw0)
  have HBW := hid hbw0
  have HW := hid hw0
  have HPT : Hid (RdLand w0 (.agg #[.int .i64 t.rows, .int .i64 t.columns, .slice A t.heights.length q]) t) := ⟨A, q, rfl, HA0.out⟩
  have HPP : Hid (PtLand w0 w.heap.size 0 t) := ⟨A, q, ⟨kR, kC, kH⟩, HA0.out⟩
  clear hA hbw0 hw0
  by_cases h1 : codeFl t c lev = 0
  · obtain ⟨h2, _, _⟩ := codeFl_ok h1
    obtain ⟨ht, a, b⟩ := codeCl_ok h2
    have HF : Hid (cellsF t c lev false = whereB (wet t c lev) false) := by show _ = _; unfold cellsF; rw [if_pos h1]
    have HWL := hid (wet_len (lev := lev) ht a b)
    have HC := hid h1
    clear h1 h2
    go_enter Try.func35, Try.ntmps35
    go_upto_region 1 with fail
    rw [HW.out]
    clear HW
    go_wp2_with fail
    refine (specFloodCode _ _ _ _ _ _ HPP.out).mono ?_
    rintro e w1 ⟨rfl, hb⟩
    rw [HC.out]
    have HB1 := hid (HBW.out.trans (hb.mono HBW.out.size))
    have HP1 := hid (HPP.out.below hb)
    clear hb kR kC kH
    go_wp2_with fail
    refine (specWet _ _ t ht c lev _ HP1.out a b).mono ?_
    rintro e w2 ⟨u, rfl, ho, hb⟩
    have HB2 := hid (HB1.out.trans (hb.mono HB1.out.size))
    obtain ⟨V, vq, rfl⟩ := ho.form
    have HR := hid (ho.rd (by rw [HWL.out]; exact hn20))
    clear hb ho
    go_wp2_with fail
    refine (specList _ _ _ _ _ HR.out).mono ?_
    rintro e w3 ⟨u2, rfl, ho2, hb2⟩
    have HO := hid (ho2.mono HB2.out.size)
    have HB3 := hid (HB2.out.trans (hb2.mono HB2.out.size))
    clear ho2 hb2
    go_wp2_with fail
    go_ret2
    exact ⟨u2, by rw [HC.out]; rfl, by rw [HF.out]; exact HO.out, HB3.out⟩
  · have HF : Hid (cellsF t c lev false = []) := by show _ = _; unfold cellsF; rw [if_neg h1]
    have h1' : (codeFl t c lev != 0) = true := by simp [h1]
    have H1 := hid h1'
    clear h1'
    go_enter Try.func35, Try.ntmps35
    go_upto_region 1 with fail
    rw [HW.out]
    clear HW
    go_wp2_with fail
    refine (specFloodCode _ _ _ _ _ _ HPP.out).mono ?_
    rintro e w1 ⟨rfl, hb⟩
    have HB1 := hid (HBW.out.trans (hb.mono HBW.out.size))
    have h1' := H1.out
    clear hb kR kC kH H1
    generalize hz : codeFl t c lev = z at h1 h1' ⊢
    have HZ := hid hz
    clear hz
    go_wp2_with fail
    go_ret2
    exact ⟨.slice none 0 0, by rw [HZ.out]; rfl, by rw [HF.out]; exact Own.nil _ _ _, HB1.out⟩
end Go.Proofs.Ytpinpkpjehbfmaa
