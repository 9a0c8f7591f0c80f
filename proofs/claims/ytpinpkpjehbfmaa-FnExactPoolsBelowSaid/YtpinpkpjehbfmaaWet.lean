/- Which cells are flooded: the walks. -/
import Derived.Test.YtpinpkpjehbfmaaFlooded
import Derived.Deep.RegionHeld3
namespace Go.Proofs.Ytpinpkpjehbfmaa
open Go.RowKit
set_option linter.unusedVariables false
theorem has_nil (n : Int) : hasB [] n = false := by unfold hasB; simp
theorem implHasNil (n : Int) (w : World) : Calls Try.prog 86 #[.slice none 0 0, .int .i64 n] w fun e w' => e = .returned (.bool false) ∧ w = w' := by
  have := implHas none [] 0 n w Rd.nil
  rw [has_nil] at this
  exact this
theorem wet_low {t : Land} {c lev : Int} (h : ¬ hAt t c < lev) : wet t c lev = List.replicate t.heights.length false := by unfold wet; rw [if_neg h]
theorem wet_high {t : Land} {c lev : Int} (h : hAt t c < lev) : wet t c lev = (part t lev (List.replicate t.heights.length false) c).1 := by unfold wet; rw [if_pos h]
theorem seen_rep (n : Nat) (c : Int) : seenAt (List.replicate n false) c = false := by
  unfold seenAt
  rw [List.getD_eq_getElem?_getD, List.getElem?_replicate]
  split <;> rfl
theorem wet_len {t : Land} (ht : LOk t) {c lev : Int} (h0 : 0 ≤ c) (h1 : c < t.heights.length) : (wet t c lev).length = t.heights.length := by
  unfold wet
  split
  · exact (part_ok ht (by simp) h0 h1 (seen_rep _ _)).len
  · simp
set_option maxHeartbeats 8000000 in
theorem implFlooded (v : Value) (t : Land) (ht : LOk t) (c lev : Int) (w : World) (h : RdLand w v t) (h0 : 0 ≤ c) (h1 : c < t.heights.length) :
    Calls Try.prog 80 #[v, .int .i64 c, .int .i64 lev, .slice none 0 0] w fun e w' => ∃ u, e = .returned u ∧ Own w' w.heap.size 4 u (wet t c lev) ∧ Below w.heap.size w w' := by
  obtain ⟨A, q, rfl, hA⟩ := h
  have hn20 := hA.len
  have hle := ht.le
  have hcn : c.toNat < t.heights.length := by omega
  obtain ⟨w0, hw0⟩ : ∃ x, w.alloc (.cells #[.int .i64 t.rows, .int .i64 t.columns, .slice A t.heights.length q] 28) = x := ⟨_, rfl⟩
  have hbw0 : Below w.heap.size w w0 := by rw [← hw0]; exact (Below.refl _ _).alloc (Nat.le_refl _) _
  have kR : w0.cell? ⟨w.heap.size, 0, none⟩ = some (.int .i64 t.rows) := by rw [← hw0]; simp [go_sem]
  have kC : w0.cell? ⟨w.heap.size, 1, none⟩ = some (.int .i64 t.columns) := by rw [← hw0]; simp [go_sem]
  have kH : w0.cell? ⟨w.heap.size, 2, none⟩ = some (.slice A t.heights.length q) := by rw [← hw0]; simp [go_sem]
  have hgw0 : w.heap.size ≤ w0.heap.size := hbw0.size
  have HA0 := hid (hA.below hbw0)
  have HBW := hid hbw0
  have HW := hid hw0
  have hhc := hAt_get' hcn
  have HPT : Hid (RdLand w0 (.agg #[.int .i64 t.rows, .int .i64 t.columns, .slice A t.heights.length q]) t) := ⟨A, q, rfl, HA0.out⟩
  obtain ⟨bh, oh, rfl, y0⟩ := HA0.out.int hcn
  clear hA hbw0 hw0
  have hcases : hAt t c < lev ∨ ¬ hAt t c < lev := by omega
  rcases hcases with hh | hh
  · have HWT := hid (wet_high hh)
    rw [hhc] at hh
    have hh' : decide (lev ≤ t.heights[c.toNat]) = false := decide_eq_false (by omega)
    obtain ⟨F, hF⟩ : ∃ F, part t lev (List.replicate t.heights.length false) c = F := ⟨_, rfl⟩
    rw [hF] at HWT
    have HF : Hid (bfs t lev (t.heights.length + 1) 0 ((List.replicate t.heights.length false).set c.toNat true, [c]) = F) := hF
    have hbk0 := part_start (l := t) (s := List.replicate t.heights.length false) (by simp) h0 h1 (seen_rep _ _)
    have HBK := hid hbk0
    have hk0 : c.toNat < (List.replicate t.heights.length false).length := by simpa using hcn
    clear hF hbk0 hhc hh
    go_enter Try.func80, Try.ntmps80
    go_upto_region 1 with fail
    rw [HW.out]
    clear HW
    go_wp2_with (first | (at_make; refine wpList_make' elBool _ rfl _ _ rfl w0.heap.size .i64 .i64 _ _ t.heights.length rfl rfl rfl rfl hn20 (Nat.le_refl _) ?_; intro w1 hown hb1; have kH1 := box_cell hb1 kH; have y1 := box_cell hb1 y0; refine keep_ ?_) | fail)
    obtain ⟨d1, f1⟩ := hown.bool hk0
    generalize (List.replicate t.heights.length false)[c.toNat] = b0 at d1
    have hgl : w0.heap.size < w1.heap.size := (hown.block _ rfl).2
    have hsz : ∀ (p : Addr) (u : Value), (w1.setCell p u).heap.size = w1.heap.size := fun p u => by simp [World.setCell]
    have hsB := (hown.boolSet hk0 true).alloc (.cells #[.int .i64 c] 2)
    have hqB : Own ((w1.setCell ⟨w0.heap.size, c.toNat, none⟩ (.bool true)).alloc (.cells #[.int .i64 c] 2)) w1.heap.size 2 (.slice (some ⟨w1.heap.size, 0, none⟩) 1 1) [c] := by
      have h9 := Own.one (w := w1.setCell ⟨w0.heap.size, c.toNat, none⟩ (.bool true)) (base := w1.heap.size) (e := 2) c (by rw [hsz]; exact Nat.le_refl _)
      rw [hsz] at h9
      exact h9
    have hbA := (hb1.setCell (p := ⟨w0.heap.size, c.toNat, none⟩) (Nat.le_refl _) (.bool true)).alloc (by rw [hsz]; exact hb1.size) (.cells #[.int .i64 c] 2)
    obtain ⟨wz, hwz⟩ : ∃ x, (w1.setCell ⟨w0.heap.size, c.toNat, none⟩ (.bool true)).alloc (.cells #[.int .i64 c] 2) = x := ⟨_, rfl⟩
    rw [hwz] at hsB hqB hbA
    have hgz : w1.heap.size ≤ wz.heap.size := by rw [← hwz]; simp [World.setCell]
    have HW := hid hwz
    have H1 := hid hsB
    have H2 := hid hqB
    have H3 := hid hbA
    have HGZ := hid hgz
    clear hown hsB hqB hbA hwz hsz hb1 hgz
    refine go_ ?_
    go_upto_region 6 with (go_at_call 86; refine (implHasNil _ _).mono ?_; rintro e w' ⟨rfl, rfl⟩)
    rw [HW.out]
    clear HW d1 f1 kH1 y1
    go_wp2_with fail
    go_loopw [10, 11] (fun u i wr => ∃ (f k : Nat) (st : List Bool × List Int), i = .int .i64 k ∧ bfs t lev f k st = F ∧ BOk t st ∧ f + k = t.heights.length + 1 ∧ Own wr w0.heap.size 4 (.slice (some ⟨w0.heap.size, 0, none⟩) t.heights.length t.heights.length) st.1 ∧ Own wr w1.heap.size 2 u st.2 ∧ Below w0.heap.size w0 wr ∧ w1.heap.size ≤ wr.heap.size) (fun _ i _ => t.heights.length + 1 - (intOf i).toNat)
    case atStart => exact ⟨_, 0, _, rfl, HF.out, HBK.out, rfl, H1.out, H2.out, H3.out, HGZ.out⟩
    case round =>
      obtain ⟨f, i, st, rfl, hbf, hbk, hfi, ho1, ho2, hbw, hsp⟩ := hrel
      obtain ⟨wo, rfl⟩ : ∃ wo : World, wo = wr := ⟨_, rfl⟩
      have hql := hbk.qlen
      by_cases hlt : i < st.2.length
      · have HBK2 := hid hbk
        have hrq := hbk.rng _ (List.getElem_mem hlt)
        obtain ⟨Q, qc, rfl⟩ := ho2.form
        obtain ⟨gq, rfl, hgq, _⟩ := ho2.addr hlt
        obtain ⟨x1, _⟩ := ho2.int hlt
        have hbs := bfs_step (l := t) (lev := lev) (f := f - 1) hlt
        rw [show f - 1 + 1 = f by omega, hbf] at hbs
        have HBS := hid hbs
        generalize st.2[i] = y at x1 hrq HBS
        have HP := hid (HPT.out.below hbw)
        have cR := box_cell hbw kR
        have cC := box_cell hbw kC
        have cH := box_cell hbw kH
        have HO1 := hid ho1
        have HO2 := hid ho2
        have HBW2 := hid hbw
        have HSP := hid hsp
        clear hbf hbk ho1 ho2 hbw hsp hbs
        go_wp2_with fail
        go_region_held3 (fun w' => w'.cell? ⟨w.heap.size, 0, none⟩ = some (.int .i64 t.rows) ∧ w'.cell? ⟨w.heap.size, 1, none⟩ = some (.int .i64 t.columns) ∧ w'.cell? ⟨w.heap.size, 2, none⟩ = some (.slice (some ⟨bh, oh, none⟩) t.heights.length q) ∧ w'.cell? ⟨gq, i, none⟩ = some (.int .i64 y))
          (first | go_keep | ((repeat' apply And.intro) <;> first | exact box_cell (by assumption) (by assumption)))
          (first | (go_at_call 51; refine (implNext _ t ht y _ HP.out.drew hrq.1 hrq.2).mono ?_; rintro e w2 ⟨un, rfl, hon, hb2⟩; replace hb2 := undrew hb2; rw [show wo.drew.heap.size = wo.heap.size from rfl] at hon; obtain ⟨N, nq_, rfl⟩ := hon.form))
        have hnl := near_len t y
        have HNI := hid (near_ok ht hrq.1 hrq.2)
        have K1 := hid (HO1.out.below hb2)
        have K2 := hid (HO2.out.below hb2)
        have K3 := hid (HBW2.out.trans (hb2.mono HBW2.out.size))
        have K4 := hid (Nat.le_trans HSP.out hb2.size)
        have HNO := hid hon
        have HQB : Hid (∀ g, (Value.slice (some ⟨gq, 0, none⟩) st.2.length qc).ownBlock = some g → g < wo.heap.size ∨ w2.heap.size ≤ g) := fun g hg => .inl (HO2.out.block g hg).2
        have hgw : w0.heap.size < wo.heap.size := Nat.lt_of_lt_of_le hgl HSP.out
        generalize near t y = ns at hnl HNI HBS HNO
        have hfi2 : i ≤ t.heights.length := by omega
        clear hon hb2 HO1 HO2 HBW2 HSP HP cR cC cH
        go_wp2_with fail
        go_loopw [10, 49] (fun u kk wi => ∃ (k : Nat) (s2 : List Bool × List Int), k ≤ ns.length ∧ kk = .int .i64 k ∧ s2 = (ns.take k).foldl (visit t lev) st ∧ BOk t s2 ∧ Own wi w0.heap.size 4 (.slice (some ⟨w0.heap.size, 0, none⟩) t.heights.length t.heights.length) s2.1 ∧ Own wi w1.heap.size 2 u s2.2 ∧ (∀ g, u.ownBlock = some g → g < wo.heap.size ∨ w2.heap.size ≤ g) ∧ Own wi wo.heap.size 2 (.slice N ns.length nq_) ns ∧ w2.heap.size ≤ wi.heap.size ∧ Below w0.heap.size w0 wi ∧ w1.heap.size ≤ wi.heap.size) (fun _ kk _ => ns.length - (intOf kk).toNat)
        case atStart => exact ⟨0, st, Nat.zero_le _, rfl, rfl, HBK2.out, K1.out, K2.out, HQB.out, HNO.out, Nat.le_refl _, K3.out, K4.out⟩
        case round =>
          obtain ⟨k, s2, hk, rfl, hs2, hb2, p1, p2, pq, p3, pz, p4, p5⟩ := hrel
          obtain ⟨wi, rfl⟩ : ∃ x : World, x = wr := ⟨_, rfl⟩
          by_cases hlt2 : k < ns.length
          · obtain ⟨b2, off2, hN2, x2⟩ := (p3.rd (by omega)).int hlt2
            have hni := HNI.out _ (List.getElem_mem hlt2)
            have hvt := visit_take (t := t) (lev := lev) (st := st) hlt2
            rw [← hs2] at hvt
            generalize hnk : ns[k] = n at x2 hni hvt
            have HNK := hid hnk
            clear hnk
            have hnn : n.toNat < t.heights.length := by omega
            have hns : n.toNat < s2.1.length := by rw [hb2.len]; exact hnn
            obtain ⟨d1, f1⟩ := p1.bool hns
            have eH := box_cell p4 kH
            obtain ⟨b3, off3, hA3, y1⟩ := (HA0.out.below p4).int hnn
            injection hA3 with hA3
            injection hA3 with i3 j3
            subst i3 j3
            have hsn := seenAt_get hns
            have hhn := hAt_get' hnn
            have hn0 := hni.1
            have hn1 := hni.2
            have HB2 := hid hb2
            have P1 := hid p1
            have P2 := hid p2
            have P3 := hid p3
            have P4 := hid p4
            have P5 := hid p5
            have PQ := hid pq
            have PZ := hid pz
            have HBV := hid (hb2.visit (lev := lev) hni.1 hni.2)
            obtain ⟨Q, qc2, rfl⟩ := p2.form
            subst hN2
            have hq1 := hb2.qlen
            cases hd : s2.1[n.toNat] with
            | true =>
              rw [hd] at d1 hsn
              have HV : Hid ((ns.take (k + 1)).foldl (visit t lev) st = s2) := by rw [hvt]; exact visit_no (.inl hsn)
              clear hvt hb2 p1 p2 p3 p4 p5 pq pz hs2 hd hsn hhn hni HBV
              go_wp2_with (go_at_call 86; refine (implHasNil _ _).mono ?_; rintro e w' ⟨rfl, rfl⟩)
              go_roundw
              case rel => exact ⟨k + 1, s2, by omega, by go_num, HV.out.symm, HB2.out, P1.out, P2.out, PQ.out, P3.out, PZ.out, P4.out, P5.out⟩
              case measure => simp [intOf]; omega
            | false =>
              rw [hd] at d1 hsn
              by_cases hh : t.heights[n.toNat] < lev
              · have hh' : decide (t.heights[n.toNat] < lev) = true := decide_eq_true hh
                have HV : Hid ((ns.take (k + 1)).foldl (visit t lev) st = (s2.1.set n.toNat true, s2.2 ++ [n])) := by rw [hvt]; exact visit_yes hsn (by rw [hhn]; exact hh)
                have HBV2 : Hid (BOk t (s2.1.set n.toNat true, s2.2 ++ [n])) := by have := HBV.out; rw [visit_yes hsn (by rw [hhn]; exact hh)] at this; exact this
                have hb3 := p1.boolSet hns true
                have hq3 := p2.past (p := ⟨w0.heap.size, n.toNat, none⟩) hgl (.bool true)
                have hn3 := p3.past (p := ⟨w0.heap.size, n.toNat, none⟩) hgw (.bool true)
                have hw3 := p4.setCell (p := ⟨w0.heap.size, n.toNat, none⟩) (Nat.le_refl _) (.bool true)
                have hs3 : w1.heap.size ≤ (wi.setCell ⟨w0.heap.size, n.toNat, none⟩ (.bool true)).heap.size := le_set p5
                have hz3 : w2.heap.size ≤ (wi.setCell ⟨w0.heap.size, n.toNat, none⟩ (.bool true)).heap.size := le_set pz
                clear hvt hb2 p1 p2 p3 p4 p5 pq pz hs2 hd hsn hhn hni HBV P1 P2 P3 P4 P5 PZ hh
                go_upto_region 14 with (go_at_call 86; refine (implHasNil _ _).mono ?_; rintro e w' ⟨rfl, rfl⟩)
                obtain ⟨wx, hwx⟩ : ∃ x, wi.setCell ⟨w0.heap.size, n.toNat, none⟩ (.bool true) = x := ⟨_, rfl⟩
                rw [hwx] at hb3 hq3 hn3 hw3 hs3 hz3 ⊢
                have KB := hid hb3
                have KQ := hid hq3
                have KN := hid hn3
                have KW := hid hw3
                have KS := hid hs3
                have KZ := hid hz3
                clear hwx hb3 hq3 hn3 hw3 hs3 hz3 d1 f1 x2 y1 eH
                go_wp2_with (first | fail | (at_builtin; refine wpList_push elInt _ rfl (.tmp 76) (.tmp 78) rfl w1.heap.size _ s2.2 n rfl (KQ.out.alloc _) _ rfl (heap_alloc_new _ _) (by omega) (le_alloc KS.out) ?_; intro v' w' hown' hg' hat'; refine keep_ ?_))
                have hbn := below_own (KW.out.alloc KW.out.size _) (KQ.out.alloc _) hg' (by omega) (le_alloc KW.out.size)
                have hbb := (KB.out.alloc _).beside hg' (fun a b h1 h2 => by have := KQ.out.block b h2; simp only [Value.ownBlock, Option.some.injEq] at h1; omega)
                have hnn9 := (KN.out.alloc _).beside hg' (fun a b h1 h2 => by have h3 := PQ.out b h2; have h4 := HNO.out.block a h1; omega)
                have hss : w1.heap.size ≤ w'.heap.size := Nat.le_trans (le_alloc KS.out) hg'.size
                have hzz : w2.heap.size ≤ w'.heap.size := Nat.le_trans (le_alloc KZ.out) hg'.size
                have hqq : ∀ g, v'.ownBlock = some g → g < wo.heap.size ∨ w2.heap.size ≤ g := fun g hg2 => by
                  rcases hat' with h | h
                  · exact PQ.out g (Eq.trans h.symm hg2)
                  · rw [hg2] at h
                    injection h with h
                    right
                    rw [h]
                    exact le_alloc KZ.out
                have Z1 := hid hbn
                have Z2 := hid hbb
                have Z3 := hid hnn9
                have Z4 := hid hss
                have Z5 := hid hzz
                have Z6 := hid hqq
                have Z7 := hid hown'
                clear hbn hbb hnn9 hss hzz hqq hown' hg' hat'
                refine go_ ?_
                go_wp2_with fail
                go_roundw
                case rel => exact ⟨k + 1, _, by omega, by go_num, HV.out.symm, HBV2.out, Z2.out, Z7.out, Z6.out, Z3.out, Z5.out, Z1.out, Z4.out⟩
                case measure => simp [intOf]; omega
              · have hh' : decide (t.heights[n.toNat] < lev) = false := decide_eq_false hh
                have HV : Hid ((ns.take (k + 1)).foldl (visit t lev) st = s2) := by rw [hvt]; exact visit_no (.inr (by rw [hhn]; exact hh))
                clear hvt hb2 p1 p2 p3 p4 p5 pq pz hs2 hd hsn hhn hni HBV hh
                go_wp2_with (go_at_call 86; refine (implHasNil _ _).mono ?_; rintro e w' ⟨rfl, rfl⟩)
                go_roundw
                case rel => exact ⟨k + 1, s2, by omega, by go_num, HV.out.symm, HB2.out, P1.out, P2.out, PQ.out, P3.out, PZ.out, P4.out, P5.out⟩
                case measure => simp [intOf]; omega
          · have hkl : ns.take k = ns := List.take_of_length_le (by omega)
            rw [hkl] at hs2
            have HS2 := hid hs2
            have P1 := hid p1
            have P2 := hid p2
            have P4 := hid p4
            have P5 := hid p5
            have HB2 := hid hb2
            have hq1 := hb2.qlen
            clear p1 p2 pq p3 pz p4 p5 hs2 hb2 hkl
            go_wp2_with fail
            go_roundw
            case rel => exact ⟨f - 1, i + 1, s2, by go_num, by rw [HS2.out, ← HBS.out], HB2.out, by omega, P1.out, P2.out, P4.out, P5.out⟩
            case measure => simp [intOf]; omega
      · have hst := bfs_stop (l := t) (lev := lev) (f := f) (show st.2.length ≤ i by omega)
        rw [hbf] at hst
        have HST := hid hst
        have O1 := hid ho1
        have SP := hid hbw
        obtain ⟨Q, qc, rfl⟩ := ho2.form
        clear hbf hst hbk ho1 ho2 hbw hsp
        go_wp2_with fail
        go_ret
        exact ⟨_, rfl, by rw [HWT.out, HST.out]; exact O1.out.mono hgw0, HBW.out.trans (SP.out.mono HBW.out.size)⟩
  · have HWT := hid (wet_low hh)
    rw [hhc] at hh
    have hh' : decide (lev ≤ t.heights[c.toNat]) = true := decide_eq_true (by omega)
    clear hhc hh
    go_enter Try.func80, Try.ntmps80
    go_upto_region 1 with fail
    rw [HW.out]
    clear HW
    go_wp2_with (first | (at_make; refine wpList_make' elBool _ rfl _ _ rfl w0.heap.size .i64 .i64 _ _ t.heights.length rfl rfl rfl rfl hn20 (Nat.le_refl _) ?_; intro w1 hown hb1; have kH1 := box_cell hb1 kH; have y1 := box_cell hb1 y0; have O1 := hid hown; have B1 := hid hb1; clear hown hb1) | (go_at_call 86; refine (implHasNil _ _).mono ?_; rintro e w' ⟨rfl, rfl⟩))
    go_ret
    exact ⟨_, rfl, by rw [HWT.out]; exact O1.out.mono hgw0, HBW.out.trans (B1.out.mono HBW.out.size)⟩
end Go.Proofs.Ytpinpkpjehbfmaa
