/- The search of cells below a level: the walks. -/
import Derived.Test.YtpinpkpjehbfmaaNext
import Derived.Test.YtpinpkpjehbfmaaHas
namespace Go.Proofs.Ytpinpkpjehbfmaa
open Go.RowKit
set_option linter.unusedVariables false
theorem elBool : El Try.prog 53 4 false :=
  El.mk' (z := .bool false) (bytes := 1) Try.underlying53 (by kernel_rfl) (by decide) rfl (by decide)
theorem Own.bool {w : World} {base : Nat} {e : TypeId} {g n c : Nat} {xs : List Bool} (h : Own w base e (.slice (some ⟨g, 0, none⟩) n c) xs) {k : Nat} (hk : k < xs.length) :
    w.cell? ⟨g, k, none⟩ = some (.bool xs[k]) ∧ w.frozen? ⟨g, k, none⟩ = false :=
  ⟨by simpa [Enc.size] using h.cell (j := 0) hk rfl, h.free _⟩
theorem Own.boolSet {w : World} {base : Nat} {e : TypeId} {g n c : Nat} {xs : List Bool} (h : Own w base e (.slice (some ⟨g, 0, none⟩) n c) xs) {k : Nat} (hk : k < xs.length) (d : Bool) :
    Own (w.setCell ⟨g, k, none⟩ (.bool d)) base e (.slice (some ⟨g, 0, none⟩) n c) (xs.set k d) := by
  have h1 := h.set (j := 0) (u := .bool d) (y := d) hk (by decide) rfl
  simpa [Enc.size] using h1
theorem hAt_get' {t : Land} {n : Int} (h : n.toNat < t.heights.length) : hAt t n = t.heights[n.toNat] := by simp [hAt, h]
theorem seenAt_get {s : List Bool} {n : Int} (h : n.toNat < s.length) : seenAt s n = s[n.toNat] := by simp [seenAt, h]
theorem visit_take {t : Land} {lev : Int} {st : List Bool × List Int} {ns : List Int} {k : Nat} (hk : k < ns.length) : (ns.take (k + 1)).foldl (visit t lev) st = visit t lev ((ns.take k).foldl (visit t lev) st) ns[k] := by
  rw [take_next hk, List.foldl_append]; rfl
theorem visit_yes {t : Land} {lev n : Int} {st : List Bool × List Int} (h1 : seenAt st.1 n = false) (h2 : hAt t n < lev) : visit t lev st n = (st.1.set n.toNat true, st.2 ++ [n]) := by unfold visit; rw [if_pos ⟨h1, h2⟩]
theorem visit_no {t : Land} {lev n : Int} {st : List Bool × List Int} (h : seenAt st.1 n = true ∨ ¬ hAt t n < lev) : visit t lev st n = st := by
  unfold visit
  rw [if_neg]
  rintro ⟨a, b⟩
  rcases h with h | h
  · rw [h] at a; cases a
  · exact h b
/-- A row beside the range is written; it was made behind w. -/
theorem span_grow {w w1 w' : World} {lo hi : Nat} {v : Value} (h : Span w w1 lo hi) (hg : w1.grownBy w' v.ownBlock) (hb : ∀ g, v.ownBlock = some g → w.heap.size ≤ g) : Span w w' lo hi :=
  ⟨hg.os.trans h.os, hg.tape.trans h.tape, hg.output.trans h.output, Nat.le_trans h.size hg.size, fun k hk hd => (hg.block k (Nat.lt_of_lt_of_le hk h.size) (fun e => by have := hb k e.symm; omega)).trans (h.block k hk hd)⟩
set_option maxHeartbeats 8000000 in
theorem specPart (W0 w : World) (g off gs cap : Nat) (t : Land) (ht : LOk t) (lev c : Int) (s : List Bool) (h : PtLand W0 g off t) (hb : Below W0.heap.size W0 w) (hg : W0.heap.size ≤ gs)
    (hs : Own w gs 4 (.slice (some ⟨gs, 0, none⟩) t.heights.length cap) s) (hsl : s.length = t.heights.length) (h0 : 0 ≤ c) (h1 : c < t.heights.length) (hn : seenAt s c = false) :
    Calls Try.prog 53 #[.pointer (some ⟨g, off, none⟩), .int .i64 lev, .int .i64 c, .slice (some ⟨gs, 0, none⟩) t.heights.length cap] w fun e w' =>
      e = .returned (.int .i64 (part t lev s c).2.length) ∧ Own w' gs 4 (.slice (some ⟨gs, 0, none⟩) t.heights.length cap) (part t lev s c).1 ∧ Span w w' gs (gs + 1) := by
  have hk0 : c.toNat < s.length := by omega
  have hgl := (hs.block gs rfl).2
  have hle := ht.le
  have hbk := part_start (l := t) hsl h0 h1 hn
  have HPT := hid h
  obtain ⟨A, q, ⟨eR, eC, eH⟩, hA⟩ := h
  obtain ⟨d1, f1⟩ := hs.bool hk0
  generalize s[c.toNat] = b0 at d1
  obtain ⟨F, hF⟩ : ∃ F, part t lev s c = F := ⟨_, rfl⟩
  rw [hF]
  have HF : Hid (bfs t lev (t.heights.length + 1) 0 (s.set c.toNat true, [c]) = F) := hF
  -- the world behind the first steps
  have hsz : ∀ (p : Addr) (u : Value), (w.setCell p u).heap.size = w.heap.size := fun p u => by simp [World.setCell]
  have hsB := (hs.boolSet hk0 true).alloc (.cells #[.int .i64 c] 2)
  have hqB : Own ((w.setCell ⟨gs, c.toNat, none⟩ (.bool true)).alloc (.cells #[.int .i64 c] 2)) w.heap.size 2 (.slice (some ⟨w.heap.size, 0, none⟩) 1 1) [c] := by
    have h9 := Own.one (w := w.setCell ⟨gs, c.toNat, none⟩ (.bool true)) (base := w.heap.size) (e := 2) c (by rw [hsz]; exact Nat.le_refl _)
    rw [hsz] at h9
    exact h9
  have hbA := (hb.setCell (p := ⟨gs, c.toNat, none⟩) hg (.bool true)).alloc (by rw [hsz]; exact hb.size) (.cells #[.int .i64 c] 2)
  have hspA : Span w ((w.setCell ⟨gs, c.toNat, none⟩ (.bool true)).alloc (.cells #[.int .i64 c] 2)) gs (gs + 1) :=
    (span_set (Span.refl _ _ _) ⟨Nat.le_refl _, Nat.lt_succ_self _⟩ _).trans (Span.of_below ((Below.refl _ _).alloc (Nat.le_refl _) _) (Nat.le_refl _))
  obtain ⟨wz, hwz⟩ : ∃ x, (w.setCell ⟨gs, c.toNat, none⟩ (.bool true)).alloc (.cells #[.int .i64 c] 2) = x := ⟨_, rfl⟩
  rw [hwz] at hsB hqB hbA hspA
  have HW := hid hwz
  have H1 := hid hsB
  have H2 := hid hqB
  have H3 := hid hbA
  have H4 := hid hspA
  have HBK := hid hbk
  have hcN : c < t.heights.length := h1
  clear hs hsB hqB hsz hbA hspA hwz hF hbk hsl hn eR eC eH
  go_enter Try.func53, Try.ntmps53
  go_upto_region 3 with fail
  rw [HW.out]
  clear HW d1 f1
  go_wp2_with fail
  go_loopw [9, 10] (fun u i wr => ∃ (f k : Nat) (st : List Bool × List Int), i = .int .i64 k ∧ bfs t lev f k st = F ∧ BOk t st ∧ f + k = t.heights.length + 1 ∧ Own wr gs 4 (.slice (some ⟨gs, 0, none⟩) t.heights.length cap) st.1 ∧ Own wr w.heap.size 2 u st.2 ∧ Below W0.heap.size W0 wr ∧ Span w wr gs (gs + 1)) (fun _ i _ => t.heights.length + 1 - (intOf i).toNat)
  case atStart => exact ⟨_, 0, _, rfl, HF.out, HBK.out, rfl, H1.out, H2.out, H3.out, H4.out⟩
  case round =>
    obtain ⟨f, i, st, rfl, hbf, hbk, hfi, ho1, ho2, hbw, hsp⟩ := hrel
    obtain ⟨wo, rfl⟩ : ∃ wo : World, wo = wr := ⟨_, rfl⟩
    have hql := hbk.qlen
    by_cases hlt : i < st.2.length
    · have HBK2 := hid hbk
      have hrq := hbk.rng _ (List.getElem_mem hlt)
      obtain ⟨Q, qc, rfl⟩ := ho2.form
      obtain ⟨gq, rfl, hgq, _⟩ := ho2.addr hlt
      obtain ⟨x1, _⟩ := ho2.int hlt
      have hbs := bfs_step (l := t) (lev := lev) (f := f - 1) hlt
      rw [show f - 1 + 1 = f by omega, hbf] at hbs
      have HBS := hid hbs
      have HRO := hid (hbk.round ht (lev := lev) hlt)
      generalize st.2[i] = y at x1 hrq HBS HRO
      have HP := hid (HPT.out.below hbw)
      have HO1 := hid ho1
      have HO2 := hid ho2
      have HBW := hid hbw
      have HSP := hid hsp
      clear hbf hbk ho1 ho2 hbw hsp hbs
      go_wp2_with fail
      refine (specNear _ _ t ht y _ HP.out hrq.1 hrq.2).mono ?_
      rintro e w2 ⟨un, rfl, hon, hb2⟩
      obtain ⟨N, nq_, rfl⟩ := hon.form
      have hnl := near_len t y
      have hrn := hon.rd (by omega)
      have HNI := hid (near_ok ht hrq.1 hrq.2)
      have K1 := hid (HO1.out.below hb2)
      have K2 := hid (HO2.out.below hb2)
      have K3 := hid (HBW.out.trans (hb2.mono HBW.out.size))
      have K4 := hid (HSP.out.trans (Span.of_below hb2 (Nat.le_refl _)))
      have HRN : Hid (∃ cc, (.slice N (near t y).length nq_ : Value) = .slice N (near t y).length cc) := ⟨_, rfl⟩
      have HNO := hid hon
      have HQB : Hid (∀ g, (Value.slice (some ⟨gq, 0, none⟩) st.2.length qc).ownBlock = some g → g < wo.heap.size ∨ w2.heap.size ≤ g) := fun g hg => .inl (HO2.out.block g hg).2
      have hgw : gs < wo.heap.size := Nat.lt_of_lt_of_le hgl HSP.out.size
      generalize near t y = ns at hrn hnl HNI HBS HRO HNO
      have hfi2 : i ≤ t.heights.length := by omega
      clear hon hb2 HO1 HO2 HBW HSP HP HRN
      go_wp2_with fail
      go_loopw [9, 12] (fun u kk wi => ∃ (k : Nat) (s2 : List Bool × List Int), k ≤ ns.length ∧ kk = .int .i64 k ∧ s2 = (ns.take k).foldl (visit t lev) st ∧ BOk t s2 ∧ Own wi gs 4 (.slice (some ⟨gs, 0, none⟩) t.heights.length cap) s2.1 ∧ Own wi w.heap.size 2 u s2.2 ∧ (∀ g, u.ownBlock = some g → g < wo.heap.size ∨ w2.heap.size ≤ g) ∧ Own wi wo.heap.size 2 (.slice N ns.length nq_) ns ∧ w2.heap.size ≤ wi.heap.size ∧ Below W0.heap.size W0 wi ∧ Span w wi gs (gs + 1)) (fun _ kk _ => ns.length - (intOf kk).toNat)
      case atStart => exact ⟨0, st, Nat.zero_le _, rfl, rfl, HBK2.out, K1.out, K2.out, HQB.out, HNO.out, Nat.le_refl _, K3.out, K4.out⟩
      case round =>
        obtain ⟨k, s2, hk, rfl, hs2, hb2, p1, p2, pq, p3, pz, p4, p5⟩ := hrel
        obtain ⟨wi, rfl⟩ : ∃ x : World, x = wr := ⟨_, rfl⟩
        by_cases hlt2 : k < ns.length
        · obtain ⟨b2, off2, hN2, x2⟩ := (p3.rd (by omega)).int hlt2
          have hni := HNI.out _ (List.getElem_mem hlt2)
          have hvt := visit_take (t := t) (lev := lev) (st := st) hlt2
          rw [← hs2] at hvt
          generalize hnk : ns[k] = n at x2 hni hvt
          have HNK := hid hnk
          clear hnk
          have hnn : n.toNat < t.heights.length := by omega
          have hns : n.toNat < s2.1.length := by rw [hb2.len]; exact hnn
          obtain ⟨d1, f1⟩ := p1.bool hns
          obtain ⟨A', q', ⟨_, _, eH⟩, hA'⟩ := HPT.out.below p4
          obtain ⟨b3, off3, rfl, y1⟩ := hA'.int hnn
          have hsn := seenAt_get hns
          have hhn := hAt_get' hnn
          have hn0 := hni.1
          have hn1 := hni.2
          have HB2 := hid hb2
          have P1 := hid p1
          have P2 := hid p2
          have P3 := hid p3
          have P4 := hid p4
          have P5 := hid p5
          have PQ := hid pq
          have PZ := hid pz
          have HBV := hid (hb2.visit (lev := lev) hni.1 hni.2)
          obtain ⟨Q, qc2, rfl⟩ := p2.form
          subst hN2
          have hq1 := hb2.qlen
          cases hd : s2.1[n.toNat] with
          | true =>
            rw [hd] at d1 hsn
            have HV : Hid ((ns.take (k + 1)).foldl (visit t lev) st = s2) := by rw [hvt]; exact visit_no (.inl hsn)
            clear hvt hb2 p1 p2 p3 p4 p5 pq pz hs2 hd hsn hhn hA' hni HBV
            go_wp2_with fail
            go_quiet (fail)
            go_wp2_with fail
            go_roundw
            case rel => exact ⟨k + 1, s2, by omega, by go_num, HV.out.symm, HB2.out, P1.out.drewN _, P2.out.drewN _, PQ.out, P3.out.drewN _, PZ.out, P4.out.drewN _, P5.out.trans (Span.of_below ((Below.refl _ _).drewN _) (Nat.le_refl _))⟩
            case measure => simp [intOf]; omega
          | false =>
            rw [hd] at d1 hsn
            by_cases hh : t.heights[n.toNat] < lev
            · have hh' : decide (t.heights[n.toNat] < lev) = true := decide_eq_true hh
              have HV : Hid ((ns.take (k + 1)).foldl (visit t lev) st = (s2.1.set n.toNat true, s2.2 ++ [n])) := by rw [hvt]; exact visit_yes hsn (by rw [hhn]; exact hh)
              have HBV2 : Hid (BOk t (s2.1.set n.toNat true, s2.2 ++ [n])) := by have := HBV.out; rw [visit_yes hsn (by rw [hhn]; exact hh)] at this; exact this
              have hb3 := p1.boolSet hns true
              have hq3 := p2.past (p := ⟨gs, n.toNat, none⟩) hgl (.bool true)
              have hn3 := p3.past (p := ⟨gs, n.toNat, none⟩) hgw (.bool true)
              have hw3 := p4.setCell (p := ⟨gs, n.toNat, none⟩) hg (.bool true)
              have hs3 := span_set p5 (p := ⟨gs, n.toNat, none⟩) ⟨Nat.le_refl _, Nat.lt_succ_self _⟩ (.bool true)
              have p4' := p4
              have p5' := p5
              have hz3 : w2.heap.size ≤ (wi.setCell ⟨gs, n.toNat, none⟩ (.bool true)).heap.size := le_set pz
              clear hvt hb2 p1 p2 p3 p4 p5 pq pz hs2 hd hsn hhn hA' hni HBV P1 P2 P3 P4 P5 PZ hh
              go_wp2_with fail
              go_quiet (fail)
              go_upto_region 12 with fail
              obtain ⟨wx, hwx⟩ : ∃ x, (wi.drewN nq).setCell ⟨gs, n.toNat, none⟩ (.bool true) = x := ⟨_, rfl⟩
              have kb : Own wx gs 4 (.slice (some ⟨gs, 0, none⟩) t.heights.length cap) (s2.1.set n.toNat true) := by rw [← hwx]; exact hb3
              have kq : Own wx w.heap.size 2 (.slice Q s2.2.length qc2) s2.2 := by rw [← hwx]; exact hq3
              have kn : Own wx wo.heap.size 2 (.slice (some ⟨b2, off2, none⟩) ns.length nq_) ns := by rw [← hwx]; exact hn3
              have kw : Below W0.heap.size W0 wx := by rw [← hwx]; exact (p4'.drewN nq).setCell (p := ⟨gs, n.toNat, none⟩) hg (.bool true)
              have ks : Span w wx gs (gs + 1) := by rw [← hwx]; exact span_set (p5'.trans (Span.of_below ((Below.refl _ _).drewN nq) (Nat.le_refl _))) (p := ⟨gs, n.toNat, none⟩) ⟨Nat.le_refl _, Nat.lt_succ_self _⟩ (.bool true)
              have kz : w2.heap.size ≤ wx.heap.size := by rw [← hwx]; exact hz3
              have kx2 := (kn.rd (by omega)).int hlt2
              rw [hwx]
              have KB := hid kb
              have KQ := hid kq
              have KN := hid kn
              have KW := hid kw
              have KS := hid ks
              have KZ := hid kz
              obtain ⟨b9, off9, hA9, x9⟩ := kx2
              injection hA9 with hA9
              injection hA9 with i9 j9
              subst i9 j9
              rw [HNK.out] at x9
              clear hwx kb kq kn kw ks kz hb3 hq3 hn3 hw3 hs3 hz3 d1 f1 x2 y1 eH
              go_wp2_with (first | fail | (at_builtin; (refine wpList_push elInt _ rfl (.tmp 64) (.tmp 69) rfl w.heap.size _ s2.2 n rfl (KQ.out.alloc _) _ rfl (heap_alloc_new _ _) (by omega) (le_alloc (KS.out.size)) ?_; intro v' w' hown' hg' hat'; refine keep_ ?_)))
              have hbn := below_own (KW.out.alloc KW.out.size _) (KQ.out.alloc _) hg' (by omega) (le_alloc KW.out.size)
              have hbb := (KB.out.alloc _).beside hg' (fun a b h1 h2 => by have := KQ.out.block b h2; simp only [Value.ownBlock, Option.some.injEq] at h1; omega)
              have hnn9 := (KN.out.alloc _).beside hg' (fun a b h1 h2 => by have h3 := PQ.out b h2; have h4 := HNO.out.block a h1; omega)
              have hss := span_grow (KS.out.trans (Span.of_below ((Below.refl _ _).alloc (Nat.le_refl _) _) (Nat.le_refl _))) hg' (fun b h2 => (KQ.out.block b h2).1)
              have hzz : w2.heap.size ≤ w'.heap.size := Nat.le_trans (le_alloc KZ.out) hg'.size
              have hqq : ∀ g, v'.ownBlock = some g → g < wo.heap.size ∨ w2.heap.size ≤ g := fun g hg2 => by
                rcases hat' with h | h
                · exact PQ.out g (Eq.trans h.symm hg2)
                · rw [hg2] at h
                  injection h with h
                  right
                  rw [h]
                  exact le_alloc KZ.out
              have Z1 := hid hbn
              have Z2 := hid hbb
              have Z3 := hid hnn9
              have Z4 := hid hss
              have Z5 := hid hzz
              have Z6 := hid hqq
              have Z7 := hid hown'
              clear hbn hbb hnn9 hss hzz hqq hown' hg' hat'
              refine go_ ?_
              go_wp2_with fail
              go_roundw
              case rel => exact ⟨k + 1, _, by omega, by go_num, HV.out.symm, HBV2.out, Z2.out, Z7.out, Z6.out, Z3.out, Z5.out, Z1.out, Z4.out⟩
              case measure => simp [intOf]; omega
            · have hh' : decide (t.heights[n.toNat] < lev) = false := decide_eq_false hh
              have HV : Hid ((ns.take (k + 1)).foldl (visit t lev) st = s2) := by rw [hvt]; exact visit_no (.inr (by rw [hhn]; exact hh))
              clear hvt hb2 p1 p2 p3 p4 p5 pq pz hs2 hd hsn hhn hA' hni HBV hh
              go_wp2_with fail
              go_quiet (fail)
              go_wp2_with fail
              go_roundw
              case rel => exact ⟨k + 1, s2, by omega, by go_num, HV.out.symm, HB2.out, P1.out.drewN _, P2.out.drewN _, PQ.out, P3.out.drewN _, PZ.out, P4.out.drewN _, P5.out.trans (Span.of_below ((Below.refl _ _).drewN _) (Nat.le_refl _))⟩
              case measure => simp [intOf]; omega
        · have hkl : ns.take k = ns := List.take_of_length_le (by omega)
          rw [hkl] at hs2
          have HS2 := hid hs2
          have P1 := hid p1
          have P2 := hid p2
          have P4 := hid p4
          have P5 := hid p5
          have HB2 := hid hb2
          have hq1 := hb2.qlen
          clear p1 p2 pq p3 pz p4 p5 hs2 hb2 hkl
          go_wp2_with fail
          go_roundw
          case rel => exact ⟨f - 1, i + 1, s2, by go_num, by rw [HS2.out, ← HBS.out], HB2.out, by omega, P1.out, P2.out, P4.out, P5.out⟩
          case measure => simp [intOf]; omega
    · have hst := bfs_stop (l := t) (lev := lev) (f := f) (show st.2.length ≤ i by omega)
      rw [hbf] at hst
      have HST := hid hst
      have O1 := hid ho1
      have SP := hid hsp
      obtain ⟨Q, qc, rfl⟩ := ho2.form
      clear hbf hst hbk ho1 ho2 hbw hsp
      go_wp2_with fail
      go_ret
      exact ⟨ret_int (by rw [HST.out]), by rw [HST.out]; exact O1.out, SP.out⟩
end Go.Proofs.Ytpinpkpjehbfmaa
