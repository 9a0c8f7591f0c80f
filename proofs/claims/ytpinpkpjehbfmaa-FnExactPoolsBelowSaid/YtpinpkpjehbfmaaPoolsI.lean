/- Pools below a level: the other program walked. -/
import Derived.Test.YtpinpkpjehbfmaaPools
import Derived.Test.YtpinpkpjehbfmaaWet
namespace Go.Proofs.Ytpinpkpjehbfmaa
open Go.RowKit
set_option linter.unusedVariables false

structure PmI (W0 : World) (gM bS N : Nat) (wr : World) (s : List Bool) (zs : List Int) (u : Value) : Prop where
  below : Below W0.heap.size W0 wr
  o0 : W0.heap.size ≤ gM
  o1 : gM < bS
  hM : MpC wr gM N (seenAt s)
  hS : Own wr bS 2 u zs
  sz : bS ≤ wr.heap.size
section
variable {W0 : World} {gM bS N : Nat} {wr w' : World} {s s' : List Bool} {zs : List Int} {u : Value}
theorem PmI.step (h : PmI W0 gM bS N wr s zs u) (hb : Below wr.heap.size wr w') : PmI W0 gM bS N w' s zs u :=
  ⟨h.below.trans (hb.mono h.below.size), h.o0, h.o1, h.hM.below hb, h.hS.below hb, Nat.le_trans h.sz hb.size⟩
theorem PmI.turn (h : PmI W0 gM bS N wr s zs u) (hg : wr.grownBy w' (some gM)) (hm : MpC w' gM N (seenAt s')) : PmI W0 gM bS N w' s' zs u := by
  have h1 := h.o1
  refine ⟨h.below.grown hg h.below.size (fun k hk => by injection hk with hk; have := h.o0; omega), h.o0, h.o1, hm, h.hS.grown hg (.inr fun e => ?_), Nat.le_trans h.sz hg.size⟩
  have := (h.hS.block gM e).1
  omega
theorem PmI.other {row : Option Nat} (h : PmI W0 gM bS N wr s zs u) (hg : wr.grownBy w' row) (h1 : ∀ g, row = some g → gM < g) (h2 : ∀ g, row = some g → u.ownBlock = some g → False) : PmI W0 gM bS N w' s zs u := by
  refine ⟨h.below.grown hg h.below.size (fun k hk => by have := h1 k hk; have := h.o0; omega), h.o0, h.o1, h.hM.kept hg (fun e => ?_), h.hS.grown hg ?_, Nat.le_trans h.sz hg.size⟩
  · have := h1 gM e.symm; omega
  · cases hr : row with
    | none =>
      cases hu : u.ownBlock with
      | none => exact .inl rfl
      | some a => exact .inr (by simp)
    | some g => exact .inr fun e => h2 g hr e
theorem PmI.push (h : PmI W0 gM bS N wr s zs u) {u' : Value} {b : Int} (ho : Own w' bS 2 u' (zs ++ [b])) (hg : wr.grownBy w' u.ownBlock) : PmI W0 gM bS N w' s (zs ++ [b]) u' := by
  have h1 := h.o1
  refine ⟨below_own h.below h.hS hg (by have := h.o0; omega) h.below.size, h.o0, h.o1, h.hM.kept hg fun e => ?_, ho, Nat.le_trans h.sz hg.size⟩
  have := (h.hS.block gM e.symm).1
  omega
end
/-- Any list of cells. -/
theorem poolZ_ok {t : Land} (ht : LOk t) {lev : Int} : ∀ (cs : List Int) (st : List Bool × List Int), st.1.length = t.heights.length → (∀ c ∈ cs, 0 ≤ c ∧ c < t.heights.length) → (cs.foldl (poolZ t lev) st).1.length = t.heights.length ∧ (cs.foldl (poolZ t lev) st).2.length ≤ st.2.length + cs.length
  | [], st, hl, _ => ⟨hl, by simp⟩
  | c :: cs, st, hl, hc => by
    obtain ⟨c0, c1⟩ := hc c (by simp)
    have h1 : (poolZ t lev st c).1.length = t.heights.length ∧ (poolZ t lev st c).2.length ≤ st.2.length + 1 := by
      unfold poolZ
      split
      · rename_i h
        exact ⟨(part_ok ht hl c0 c1 h.1).len, by simp⟩
      · exact ⟨hl, by omega⟩
    obtain ⟨h2, h3⟩ := poolZ_ok ht cs (poolZ t lev st c) h1.1 fun x hx => hc x (by simp [hx])
    rw [List.foldl_cons]
    refine ⟨h2, ?_⟩
    simp only [List.length_cons]
    omega
theorem where_in {t : Land} {lev : Int} : ∀ c ∈ whereTo (fun i => decide (hAt t i < lev)) t.heights.length, (0 ≤ c ∧ c < t.heights.length) ∧ hAt t c < lev := by
  intro c hc
  unfold whereTo at hc
  obtain ⟨k, hk, rfl⟩ := List.mem_map.1 hc
  rw [List.mem_filter, List.mem_range] at hk
  exact ⟨⟨by omega, by omega⟩, by simpa using hk.2⟩
theorem poolZ_take {t : Land} {lev : Int} {st : List Bool × List Int} {cs : List Int} {k : Nat} (hk : k < cs.length) : (cs.take (k + 1)).foldl (poolZ t lev) st = poolZ t lev ((cs.take k).foldl (poolZ t lev) st) cs[k] := by
  rw [take_next hk, List.foldl_append]; rfl
theorem seen_set_iff {s : List Bool} {c : Int} (h0 : 0 ≤ c) (h1 : c < s.length) {x : Int} (hx : 0 ≤ x) : seenAt (s.set c.toNat true) x = true ↔ x = c ∨ seenAt s x = true := by
  rw [seenAt_set h0 h1 hx]
  by_cases h : x = c
  · subst h; simp
  · simp [h]
theorem visit_len {t : Land} {lev : Int} {st : List Bool × List Int} {n : Int} : (visit t lev st n).1.length = st.1.length := by
  unfold visit
  split <;> simp
set_option maxRecDepth 100000 in
set_option maxHeartbeats 16000000 in
theorem implPoolsBelow (v : Value) (t : Land) (lev : Int) (w : World) (h : RdLand w v t) :
    Calls Try.prog 24 #[v, .int .i64 lev] w fun e w' => ∃ u, e = .returned (.tuple #[u, .int .i64 (codePo t lev)]) ∧ Own w' w.heap.size 2 u (poolF t lev) ∧ Below w.heap.size w w' := by
  obtain ⟨A, q, rfl, hA⟩ := h
  have hn20 := hA.len
  obtain ⟨w0, hw0⟩ : ∃ x, w.alloc (.cells #[.int .i64 t.rows, .int .i64 t.columns, .slice A t.heights.length q] 28) = x := ⟨_, rfl⟩
  have hbw0 : Below w.heap.size w w0 := by rw [← hw0]; exact (Below.refl _ _).alloc (Nat.le_refl _) _
  have kR : w0.cell? ⟨w.heap.size, 0, none⟩ = some (.int .i64 t.rows) := by rw [← hw0]; simp [go_sem]
  have kC : w0.cell? ⟨w.heap.size, 1, none⟩ = some (.int .i64 t.columns) := by rw [← hw0]; simp [go_sem]
  have kH : w0.cell? ⟨w.heap.size, 2, none⟩ = some (.slice A t.heights.length q) := by rw [← hw0]; simp [go_sem]
  have HA0 := hid (hA.below hbw0)
  have HBW := hid hbw0
  have HW := hid hw0
  have HPT : Hid (RdLand w0 (.agg #[.int .i64 t.rows, .int .i64 t.columns, .slice A t.heights.length q]) t) := ⟨A, q, rfl, HA0.out⟩
  have HPP : Hid (PtLand w0 w.heap.size 0 t) := ⟨A, q, ⟨kR, kC, kH⟩, HA0.out⟩
  clear hA hbw0 hw0
  cases hv : validL t with
  | false =>
    have hcd : codePo t lev = 1 := by unfold codePo; rw [hv]; rfl
    have HF : Hid (poolF t lev = []) := by show _ = _; unfold poolF; rw [hcd]; rfl
    have HC := hid hcd
    clear hcd
    go_enter Try.func24, Try.ntmps24
    go_upto_region 1 with fail
    rw [HW.out]
    clear HW
    go_wp2_with fail
    refine (implValidLand _ _ _ HPT.out).mono ?_
    rintro e w1 ⟨rfl, hb⟩
    rw [hv]
    have HB1 := hid (HBW.out.trans (hb.mono HBW.out.size))
    clear hb kR kC kH
    go_wp2_with fail
    go_ret2
    exact ⟨_, by rw [HC.out]; rfl, by rw [HF.out]; exact Own.empty HB1.out.size, HB1.out.alloc HB1.out.size _⟩
  | true =>
    have ht := lok hv
    have hle := ht.le
    cases hl : inB lev (-2000) 2000 with
    | false =>
      have hcd : codePo t lev = 2 := by unfold codePo; rw [hv, hl]; rfl
      have HF : Hid (poolF t lev = []) := by show _ = _; unfold poolF; rw [hcd]; rfl
      have HC := hid hcd
      have HL := hid hl
      clear hcd hl
      go_enter Try.func24, Try.ntmps24
      go_upto_region 1 with fail
      rw [HW.out]
      clear HW
      go_wp2_with fail
      refine (implValidLand _ _ _ HPT.out).mono ?_
      rintro e w1 ⟨rfl, hb⟩
      rw [hv]
      have HB1 := hid (HBW.out.trans (hb.mono HBW.out.size))
      clear hb kR kC kH
      go_wp2_with fail
      refine (implLevel _ _).mono ?_
      rintro e w2 ⟨rfl, rfl⟩
      rw [HL.out]
      go_wp2_with fail
      go_ret2
      exact ⟨_, by rw [HC.out]; rfl, by rw [HF.out]; exact Own.empty HB1.out.size, HB1.out.alloc HB1.out.size _⟩
    | true =>
      have hcd : codePo t lev = 0 := by unfold codePo; rw [hv, hl]; rfl
      have HF : Hid (poolF t lev = (pools t lev t.heights.length).2) := by show _ = _; unfold poolF; rw [hcd]; rfl
      have HC := hid hcd
      have HL := hid hl
      have HPW := hid (pools_where t lev (List.replicate t.heights.length false, []) t.heights.length)
      have HWI := hid (where_in (t := t) (lev := lev))
      have hwl := whereTo_len (fun i => decide (hAt t i < lev)) t.heights.length
      clear hcd hl
      have hmm := @run_makeMap Try.prog
      go_enter Try.func24, Try.ntmps24
      go_upto_region 1 with fail
      rw [HW.out]
      clear HW
      go_wp2_with fail
      refine (implValidLand _ _ _ HPT.out).mono ?_
      rintro e w1 ⟨rfl, hb⟩
      rw [hv]
      have HB1 := hid (HBW.out.trans (hb.mono HBW.out.size))
      have HT1 := hid (HPT.out.below hb)
      have HA1 := hid (HA0.out.below hb)
      have e1 := box_cell hb kR
      have e2 := box_cell hb kC
      have e3 := box_cell hb kH
      clear hb kR kC kH
      go_wp2_with fail
      refine (implLevel _ _).mono ?_
      rintro e w2 ⟨rfl, rfl⟩
      rw [HL.out]
      go_upto_region 7 with fail
      clear hmm
      obtain ⟨wk, hwk⟩ : ∃ x, (w1.alloc (.map #[] 0)).alloc (.cells #[] 2) = x := ⟨_, rfl⟩
      have hbk : Below w1.heap.size w1 wk := by rw [← hwk]; exact ((Below.refl _ _).alloc (Nat.le_refl _) _).alloc (by simp) _
      have hm0 : MpB wk w1.heap.size [] := by rw [← hwk]; exact (MpB.made w1).below ((Below.refl _ _).alloc (Nat.le_refl _) _)
      have hs0 : Own wk (w1.heap.size + 1) 2 (.slice (some ⟨w1.heap.size + 1, 0, none⟩) 0 0) ([] : List Int) := by
        rw [← hwk]
        have h9 := Own.empty (α := Int) (w := w1.alloc (.map #[] 0)) (e := 2) (base := w1.heap.size + 1) (by simp)
        rw [size_alloc_new] at h9
        exact h9
      have hk2 : w1.heap.size + 2 ≤ wk.heap.size := by rw [← hwk]; simp
      have hp0 : PmI w1 w1.heap.size (w1.heap.size + 1) t.heights.length wk (List.replicate t.heights.length false) [] (.slice (some ⟨w1.heap.size + 1, 0, none⟩) 0 0) :=
        ⟨hbk, Nat.le_refl _, Nat.lt_succ_self _, ⟨[], hm0, fun c => by simp only [seen_rep]; simp⟩, hs0, by omega⟩
      rw [hwk]
      have g1 := box_cell hbk e1
      have g2 := box_cell hbk e2
      have g3 := box_cell hbk e3
      have HP0 := hid hp0
      have HTK := hid (HT1.out.below hbk)
      clear hwk hbk hm0 hs0 hp0
      go_wp2_with fail
      refine (implBelowList _ t lev _ HTK.out).mono ?_
      rintro e w3 ⟨u, rfl, hoc, hb3⟩
      obtain ⟨V, vq, rfl⟩ := hoc.form
      have HOC := hid hoc
      have HP3 := hid (HP0.out.step hb3)
      have hks3 := hb3.size
      generalize whereTo (fun i => decide (hAt t i < lev)) t.heights.length = cs at HPW HWI HOC hwl ⊢
      clear hoc hb3 g1 g2 g3
      go_wp2_with fail
      go_loopw [7, 30] (fun u i wr => ∃ (k : Nat) (st : List Bool × List Int), k ≤ cs.length ∧ i = .int .i64 k ∧ st = (cs.take k).foldl (poolZ t lev) (List.replicate t.heights.length false, []) ∧ PmI w1 w1.heap.size (w1.heap.size + 1) t.heights.length wr st.1 st.2 u ∧ (∀ g, u.ownBlock = some g → g < wk.heap.size ∨ w3.heap.size ≤ g) ∧ Own wr wk.heap.size 2 (.slice V cs.length vq) cs ∧ w3.heap.size ≤ wr.heap.size) (fun _ i _ => cs.length - (intOf i).toNat)
      case atStart => exact ⟨0, _, Nat.zero_le _, rfl, rfl, HP3.out, fun g hg => by simp only [Value.ownBlock, Option.some.injEq] at hg; omega, HOC.out, Nat.le_refl _⟩
      case round =>
        obtain ⟨k, st, hk, rfl, hst, hp, hne, hc, hz⟩ := hrel
        obtain ⟨wa, rfl⟩ : ∃ wo : World, wo = wr := ⟨_, rfl⟩
        by_cases hlt : k < cs.length
        · obtain ⟨b1, o1, hA9, x1⟩ := (hc.rd (by omega)).int hlt
          subst hA9
          obtain ⟨hcr, hch⟩ := HWI.out _ (List.getElem_mem hlt)
          have hft := poolZ_take (t := t) (lev := lev) (st := (List.replicate t.heights.length false, [])) hlt
          rw [← hst] at hft
          obtain ⟨hsl, hzl⟩ := poolZ_ok ht (lev := lev) (cs.take k) (List.replicate t.heights.length false, []) (by simp) (fun c h => (HWI.out c (List.mem_of_mem_take h)).1)
          rw [← hst] at hsl hzl
          rw [List.length_take] at hzl
          simp only [List.length_nil] at hzl
          generalize cs[k] = c at x1 hcr hch hft
          have c0 := hcr.1
          have c1 := hcr.2
          have hcn : c.toNat < t.heights.length := by omega
          have hcs : c < st.1.length := by rw [hsl]; exact c1
          have hci : inI c := ⟨by omega, by omega⟩
          obtain ⟨ks, mK, hK, lK⟩ := hp.hM.keys hle
          have l1 := mK.look hci
          rw [dec_mem hK c0 c1] at l1
          have lK' : ks.length < 1048576 := by omega
          obtain ⟨VS, vs, rfl⟩ := hp.hS.form
          have HP := hid hp
          have HNE := hid hne
          have HCS := hid hc
          have HZ := hid hz
          have HMK := hid mK
          have HKK := hid hK
          have HFT := hid hft
          have HSL := hid hsl
          clear hp hne hc hz mK hK hft hst hcr hsl
          cases hsn : seenAt st.1 c with
          | true =>
            rw [hsn] at l1
            have HE : Hid ((cs.take (k + 1)).foldl (poolZ t lev) (List.replicate t.heights.length false, []) = st) := by show _ = _; rw [HFT.out]; unfold poolZ; rw [if_neg (by rw [hsn]; simp)]
            clear hsn hch
            go_wp2_with fail
            go_roundw
            case rel => exact ⟨k + 1, st, by omega, by go_num, HE.out.symm, HP.out, HNE.out, HCS.out, HZ.out⟩
            case measure => simp [intOf]; omega
          | false =>
            rw [hsn] at l1
            obtain ⟨F, hF⟩ : ∃ F, part t lev st.1 c = F := ⟨_, rfl⟩
            have HE : Hid ((cs.take (k + 1)).foldl (poolZ t lev) (List.replicate t.heights.length false, []) = (F.1, st.2 ++ [(F.2.length : Int)])) := by show _ = _; rw [HFT.out]; unfold poolZ; rw [if_pos ⟨hsn, hch⟩, hF]
            have HFB : Hid (bfs t lev (t.heights.length + 1) 0 (st.1.set c.toNat true, [c]) = F) := hF
            have HBK := hid (part_start (l := t) HSL.out c0 c1 hsn)
            clear hsn hch hF
            go_wp2_with (first | (at_mapUpdate; refine wpList_storeB _ rfl _ _ _ rfl w1.heap.size ks c rfl rfl rfl HMK.out hci lK' ?_; intro wm hm hg; refine keep_ ?_) | fail)
            have HPM := hid (HP.out.turn hg (MpC.add HKK.out hm c0 c1 (fun x h0 h1 => seen_set_iff c0 hcs h0)))
            have HCM := hid (HCS.out.grown hg (.inr (by
              intro e
              have := (HCS.out.block _ e).1
              omega)))
            have HSM := hid (Nat.le_trans HZ.out hg.size)
            have HQM := hid (Own.one (w := wm) (base := wm.heap.size) (e := 2) c (Nat.le_refl _))
            have HPA := hid (HPM.out.step ((Below.refl _ _).alloc (Nat.le_refl _) (.cells #[.int .i64 c] 2)))
            have HCA := hid (HCM.out.alloc (.cells #[.int .i64 c] 2))
            have HSB : Hid (∀ g, (Value.slice VS st.2.length vs).ownBlock = some g → g < wm.heap.size) := fun g hg => (HPM.out.hS.block g hg).2
            have HCB : Hid (∀ g, (Value.slice (some ⟨b1, o1, none⟩) cs.length vq).ownBlock = some g → g < wm.heap.size) := fun g hg => (HCM.out.block g hg).2
            have hgm : w1.heap.size < wm.heap.size := by have := HPM.out.o1; have := HPM.out.sz; omega
            clear hm hg l1
            refine go_ ?_
            go_wp2_with fail
            go_loopw [10, 11] (fun qv i wr => ∃ (f j : Nat) (s2 : List Bool × List Int), i = .int .i64 j ∧ bfs t lev f j s2 = F ∧ BOk t s2 ∧ f + j = t.heights.length + 1 ∧ PmI w1 w1.heap.size (w1.heap.size + 1) t.heights.length wr s2.1 st.2 (.slice VS st.2.length vs) ∧ Own wr wm.heap.size 2 qv s2.2 ∧ Own wr wk.heap.size 2 (.slice (some ⟨b1, o1, none⟩) cs.length vq) cs ∧ wm.heap.size ≤ wr.heap.size) (fun _ i _ => t.heights.length + 1 - (intOf i).toNat)
            case atStart => exact ⟨t.heights.length + 1, 0, (st.1.set c.toNat true, [c]), rfl, HFB.out, HBK.out, rfl, HPA.out, HQM.out, HCA.out, by simp⟩
            case round =>
              obtain ⟨f, i, s2, rfl, hbf, hbk, hfi, hpm, ho2, hcs2, hsp⟩ := hrel
              obtain ⟨wo, rfl⟩ : ∃ wo : World, wo = wr := ⟨_, rfl⟩
              have hql := hbk.qlen
              by_cases hlt2 : i < s2.2.length
              · have HBK2 := hid hbk
                have hrq := hbk.rng _ (List.getElem_mem hlt2)
                obtain ⟨Q, qc, rfl⟩ := ho2.form
                obtain ⟨gq, rfl, hgq, _⟩ := ho2.addr hlt2
                obtain ⟨x2, _⟩ := ho2.int hlt2
                have hbs := bfs_step (l := t) (lev := lev) (f := f - 1) hlt2
                rw [show f - 1 + 1 = f by omega, hbf] at hbs
                have HBS := hid hbs
                generalize s2.2[i] = y at x2 hrq HBS
                have HTO := hid (HT1.out.below hpm.below)
                have cR := box_cell hpm.below e1
                have cC := box_cell hpm.below e2
                have cH := box_cell hpm.below e3
                have HO2 := hid ho2
                have HPM2 := hid hpm
                have HC2 := hid hcs2
                have HSP := hid hsp
                clear hbf hbk ho2 hpm hcs2 hsp hbs
                go_wp2_with fail
                go_region_held3 (fun w' => w'.cell? ⟨w.heap.size, 0, none⟩ = some (.int .i64 t.rows) ∧ w'.cell? ⟨w.heap.size, 1, none⟩ = some (.int .i64 t.columns) ∧ w'.cell? ⟨w.heap.size, 2, none⟩ = some (.slice A t.heights.length q) ∧ w'.cell? ⟨gq, i, none⟩ = some (.int .i64 y))
                  (first | go_keep | ((repeat' apply And.intro) <;> first | exact box_cell (by assumption) (by assumption)))
                  (first | (go_at_call 51; refine (implNext _ t ht y _ HTO.out.drew hrq.1 hrq.2).mono ?_; rintro e w4 ⟨un, rfl, hon, hb2⟩; replace hb2 := undrew hb2; rw [show wo.drew.heap.size = wo.heap.size from rfl] at hon; obtain ⟨N, nq_, rfl⟩ := hon.form))
                have hnl := near_len t y
                have HNI := hid (near_ok ht hrq.1 hrq.2)
                have K1 := hid (HPM2.out.step hb2)
                have K2 := hid (HO2.out.below hb2)
                have K3 := hid (HC2.out.below hb2)
                have K4 := hid (Nat.le_trans HSP.out hb2.size)
                have HNO := hid hon
                have HQB : Hid (∀ g, (Value.slice (some ⟨gq, 0, none⟩) s2.2.length qc).ownBlock = some g → g < wo.heap.size ∨ w4.heap.size ≤ g) := fun g hg => .inl (HO2.out.block g hg).2
                have hgw : w1.heap.size < wo.heap.size := Nat.lt_of_lt_of_le hgm HSP.out
                generalize near t y = ns at hnl HNI HBS HNO
                have hfi2 : i ≤ t.heights.length := by omega
                clear hon hb2 HO2 HPM2 HC2 HSP HTO cR cC cH
                go_wp2_with fail
                go_loopw [10, 54] (fun u kk wi => ∃ (k2 : Nat) (s3 : List Bool × List Int), k2 ≤ ns.length ∧ kk = .int .i64 k2 ∧ s3 = (ns.take k2).foldl (visit t lev) s2 ∧ BOk t s3 ∧ PmI w1 w1.heap.size (w1.heap.size + 1) t.heights.length wi s3.1 st.2 (.slice VS st.2.length vs) ∧ Own wi wm.heap.size 2 u s3.2 ∧ (∀ g, u.ownBlock = some g → g < wo.heap.size ∨ w4.heap.size ≤ g) ∧ Own wi wo.heap.size 2 (.slice N ns.length nq_) ns ∧ w4.heap.size ≤ wi.heap.size ∧ Own wi wk.heap.size 2 (.slice (some ⟨b1, o1, none⟩) cs.length vq) cs ∧ wm.heap.size ≤ wi.heap.size) (fun _ kk _ => ns.length - (intOf kk).toNat)
                case atStart => exact ⟨0, s2, Nat.zero_le _, rfl, rfl, HBK2.out, K1.out, K2.out, HQB.out, HNO.out, Nat.le_refl _, K3.out, K4.out⟩
                case round =>
                  obtain ⟨k2, s3, hk2, rfl, hs3, hb3, p1, p2, pq, p3, pz, pc, p5⟩ := hrel
                  obtain ⟨wi, rfl⟩ : ∃ x : World, x = wr := ⟨_, rfl⟩
                  by_cases hlt3 : k2 < ns.length
                  · obtain ⟨b2, off2, hN2, x3⟩ := (p3.rd (by omega)).int hlt3
                    have hni := HNI.out _ (List.getElem_mem hlt3)
                    have hvt := visit_take (t := t) (lev := lev) (st := s2) hlt3
                    rw [← hs3] at hvt
                    generalize ns[k2] = n at x3 hni hvt
                    have hnn : n.toNat < t.heights.length := by omega
                    have hns : n < s3.1.length := by rw [hb3.len]; exact hni.2
                    have n0 := hni.1
                    have n1 := hni.2
                    have hii : inI n := ⟨by omega, by omega⟩
                    obtain ⟨ks2, mK2, hK2, lK2⟩ := p1.hM.keys hle
                    have l2 := mK2.look hii
                    rw [dec_mem hK2 n0 n1] at l2
                    have lK2' : ks2.length < 1048576 := by omega
                    have eH := box_cell p1.below e3
                    obtain ⟨b3, off3, hA3, y1⟩ := (HA1.out.below p1.below).int hnn
                    subst hA3
                    have hhn := hAt_get' hnn
                    have HB2 := hid hb3
                    have P1 := hid p1
                    have P2 := hid p2
                    have P3 := hid p3
                    have P5 := hid p5
                    have PQ := hid pq
                    have PZ := hid pz
                    have PC := hid pc
                    have HMK2 := hid mK2
                    have HKK2 := hid hK2
                    have HBV := hid (hb3.visit (lev := lev) hni.1 hni.2)
                    obtain ⟨Q, qc2, rfl⟩ := p2.form
                    subst hN2
                    have hq1 := hb3.qlen
                    cases hd : seenAt s3.1 n with
                    | true =>
                      rw [hd] at l2
                      have HV : Hid ((ns.take (k2 + 1)).foldl (visit t lev) s2 = s3) := by rw [hvt]; exact visit_no (.inl hd)
                      clear hvt hb3 p1 p2 p3 p5 pq pz pc hs3 hd hhn hni HBV mK2 hK2 HMK2
                      go_wp2_with fail
                      go_roundw
                      case rel => exact ⟨k2 + 1, s3, by omega, by go_num, HV.out.symm, HB2.out, P1.out, P2.out, PQ.out, P3.out, PZ.out, PC.out, P5.out⟩
                      case measure => simp [intOf]; omega
                    | false =>
                      rw [hd] at l2
                      by_cases hh : t.heights[n.toNat] < lev
                      · have hh' : decide (t.heights[n.toNat] < lev) = true := decide_eq_true hh
                        have HV : Hid ((ns.take (k2 + 1)).foldl (visit t lev) s2 = (s3.1.set n.toNat true, s3.2 ++ [n])) := by rw [hvt]; exact visit_yes hd (by rw [hhn]; exact hh)
                        have HBV2 : Hid (BOk t (s3.1.set n.toNat true, s3.2 ++ [n])) := by have := HBV.out; rw [visit_yes hd (by rw [hhn]; exact hh)] at this; exact this
                        clear hvt hb3 p1 p2 p3 p5 pq pz pc hs3 hd hhn hni HBV mK2 hK2 hh
                        go_wp2_with (first | (at_mapUpdate; refine wpList_storeB _ rfl _ _ _ rfl w1.heap.size ks2 n rfl rfl rfl HMK2.out hii lK2' ?_; intro wx hm hg; refine keep_ ?_) | fail)
                        have KP := hid (P1.out.turn hg (MpC.add HKK2.out hm n0 n1 (fun x h0 h1 => seen_set_iff n0 hns h0)))
                        have KQ := hid (P2.out.grown hg (.inr (by intro e; have := (P2.out.block _ e).1; omega)))
                        have KN := hid (P3.out.grown hg (.inr (by intro e; have := (P3.out.block _ e).1; omega)))
                        have KC := hid (PC.out.grown hg (.inr (by intro e; have := (PC.out.block _ e).1; omega)))
                        have KS := hid (Nat.le_trans P5.out hg.size)
                        have KZ := hid (Nat.le_trans PZ.out hg.size)
                        clear hm hg l2 x3 y1 eH HMK2
                        refine go_ ?_
                        go_wp2_with (first | fail | (at_builtin; refine wpList_push elInt _ rfl (.tmp 73) (.tmp 75) rfl wm.heap.size _ s3.2 n rfl (KQ.out.alloc _) _ rfl (heap_alloc_new _ _) (by omega) (le_alloc KS.out) ?_; intro v' w' hown' hg' hat'; refine keep_ ?_))
                        have hkp := (KP.out.step ((Below.refl _ _).alloc (Nat.le_refl _) (.cells #[.int .i64 n] 2))).other hg' (fun g h => by have := (KQ.out.block g h).1; omega) (fun g h1 h2 => by have h3 := (KQ.out.block g h1).1; have h4 := HSB.out g h2; omega)
                        have hnn9 := (KN.out.alloc _).beside hg' (fun a b h1 h2 => by have h3 := PQ.out b h2; have h4 := HNO.out.block a h1; omega)
                        have hcc := (KC.out.alloc _).beside hg' (fun a b h1 h2 => by have h3 := (KQ.out.block b h2).1; have h4 := HCB.out a h1; omega)
                        have hss : wm.heap.size ≤ w'.heap.size := Nat.le_trans (le_alloc KS.out) hg'.size
                        have hzz : w4.heap.size ≤ w'.heap.size := Nat.le_trans (le_alloc KZ.out) hg'.size
                        have hqq : ∀ g, v'.ownBlock = some g → g < wo.heap.size ∨ w4.heap.size ≤ g := fun g hg2 => by
                          rcases hat' with h | h
                          · exact PQ.out g (Eq.trans h.symm hg2)
                          · rw [hg2] at h
                            injection h with h
                            right
                            rw [h]
                            exact le_alloc KZ.out
                        have Z1 := hid hkp
                        have Z3 := hid hnn9
                        have Z4 := hid hss
                        have Z5 := hid hzz
                        have Z6 := hid hqq
                        have Z7 := hid hown'
                        have Z8 := hid hcc
                        clear hkp hnn9 hss hzz hqq hown' hg' hat' hcc
                        refine go_ ?_
                        go_wp2_with fail
                        go_roundw
                        case rel => exact ⟨k2 + 1, _, by omega, by go_num, HV.out.symm, HBV2.out, Z1.out, Z7.out, Z6.out, Z3.out, Z5.out, Z8.out, Z4.out⟩
                        case measure => simp [intOf]; omega
                      · have hh' : decide (t.heights[n.toNat] < lev) = false := decide_eq_false hh
                        have HV : Hid ((ns.take (k2 + 1)).foldl (visit t lev) s2 = s3) := by rw [hvt]; exact visit_no (.inr (by rw [hhn]; exact hh))
                        clear hvt hb3 p1 p2 p3 p5 pq pz pc hs3 hd hhn hni HBV mK2 hK2 HMK2 hh
                        go_wp2_with fail
                        go_roundw
                        case rel => exact ⟨k2 + 1, s3, by omega, by go_num, HV.out.symm, HB2.out, P1.out, P2.out, PQ.out, P3.out, PZ.out, PC.out, P5.out⟩
                        case measure => simp [intOf]; omega
                  · have hkl : ns.take k2 = ns := List.take_of_length_le (by omega)
                    rw [hkl] at hs3
                    have HS2 := hid hs3
                    have P1 := hid p1
                    have P2 := hid p2
                    have P5 := hid p5
                    have PC := hid pc
                    have HB2 := hid hb3
                    have hq1 := hb3.qlen
                    clear p1 p2 pq p3 pz pc p5 hs3 hb3 hkl
                    go_wp2_with fail
                    go_roundw
                    case rel => exact ⟨f - 1, i + 1, s3, by go_num, by rw [HS2.out, ← HBS.out], HB2.out, by omega, P1.out, P2.out, PC.out, P5.out⟩
                    case measure => simp [intOf]; omega
              · have hst := bfs_stop (l := t) (lev := lev) (f := f) (show s2.2.length ≤ i by omega)
                rw [hbf] at hst
                have HST := hid hst
                have HPM2 := hid hpm
                have HC2 := hid hcs2
                have HSP := hid hsp
                obtain ⟨Q, qc, rfl⟩ := ho2.form
                have hql2 : s2.2.length ≤ 1048576 := by omega
                clear hbf hst hbk ho2 hpm hcs2 hsp
                go_wp2_with (first | (go_at_call 50; refine (sizeInts _ _ _ _ hql2).mono ?_; rintro e w' ⟨rfl, rfl⟩) | (at_builtin; refine wpList_push elInt _ rfl (.tmp 78) (.tmp 81) rfl (w1.heap.size + 1) _ st.2 (s2.2.length : Int) rfl (HPM2.out.hS.alloc _) _ rfl (heap_alloc_new _ _) (by omega) (le_alloc HPM2.out.sz) ?_; intro v' w' hown' hg' hat'; refine keep_ ?_))
                have hkp : PmI w1 w1.heap.size (w1.heap.size + 1) t.heights.length w' s2.1 (st.2 ++ [(s2.2.length : Int)]) v' := PmI.push (HPM2.out.step ((Below.refl _ _).alloc (Nat.le_refl _) (.cells #[.int .i64 (s2.2.length : Int)] 2))) hown' hg'
                have hcc := (HC2.out.alloc (.cells #[.int .i64 (s2.2.length : Int)] 2)).beside hg' (fun a b h1 h2 => by have h3 := HNE.out b h2; have h4 := HOC.out.block a h1; omega)
                have hz3 : w3.heap.size ≤ wo.heap.size := Nat.le_trans HSM.out HSP.out
                have hzz : w3.heap.size ≤ w'.heap.size := Nat.le_trans (le_alloc hz3) hg'.size
                have hqq : ∀ g, v'.ownBlock = some g → g < wk.heap.size ∨ w3.heap.size ≤ g := fun g hg2 => by
                  rcases hat' with h | h
                  · exact HNE.out g (Eq.trans h.symm hg2)
                  · rw [hg2] at h
                    injection h with h
                    right
                    rw [h]
                    exact le_alloc hz3
                have Z1 := hid hkp
                have Z2 := hid hcc
                have Z3 := hid hzz
                have Z4 := hid hqq
                clear hkp hcc hzz hqq hown' hg' hat'
                refine go_ ?_
                go_wp2_with fail
                go_roundw
                case rel => exact ⟨k + 1, (F.1, st.2 ++ [(F.2.length : Int)]), by omega, by go_num, HE.out.symm, by rw [HST.out]; exact Z1.out, Z4.out, Z2.out, Z3.out⟩
                case measure => simp [intOf]; omega
        · have hkl : cs.take k = cs := List.take_of_length_le (by omega)
          rw [hkl, HPW.out] at hst
          have HST : Hid (st = pools t lev t.heights.length) := hst
          have HP := hid hp
          obtain ⟨V2, v2, rfl⟩ := hp.hS.form
          clear hp hne hc hz hst hkl
          go_wp2_with fail
          go_ret2
          exact ⟨_, by rw [HC.out]; rfl, by rw [HF.out, ← HST.out]; exact HP.out.hS.mono (Nat.le_trans HB1.out.size (Nat.le_succ _)), HB1.out.trans (HP.out.below.mono HB1.out.size)⟩
end Go.Proofs.Ytpinpkpjehbfmaa
