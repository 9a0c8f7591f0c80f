/- spec.l02Share: walked. -/
import Derived.Test.YtampbbknhbhcbaaSharePlain
import Derived.Test.YtampbbknhbhcbaaIn
import Derived.Deep.CutBlock
namespace Go.Proofs.Ytampbbknhbhcbaa
open Go.RowKit
set_option linter.unusedVariables false
/-- What is asked of a total and its weights. -/
structure ShOk (T S : Int) (ws : List Int) : Prop where
  len : 1 ≤ ws.length ∧ ws.length ≤ 60
  tot : 0 ≤ T ∧ T ≤ 1000000000
  sum : sumW ws ws.length = S
  pos : 1 ≤ S ∧ S ≤ 100000000000
  each : ∀ x ∈ ws, 0 ≤ x ∧ x ≤ 1000000000
  prod : ∀ x ∈ ws, T * x ≤ 1000000000000000000
theorem getD_int {ws : List Int} {k : Nat} (h : k < ws.length) : ws.getD k 0 = ws[k] := by simp [List.getD, h]
theorem ShOk.at_ {T S : Int} {ws : List Int} (h : ShOk T S ws) {k : Nat} (hk : k < ws.length) : (0 ≤ T * ws.getD k 0 ∧ T * ws.getD k 0 ≤ 1000000000000000000) ∧ (0 ≤ baseAt T S ws k ∧ baseAt T S ws k ≤ 1000000000000000000) ∧ 0 ≤ remAt T S ws k ∧ remAt T S ws k < S := by
  have h1 := h.each _ (List.getElem_mem hk)
  have h2 := h.prod _ (List.getElem_mem hk)
  have h3 := Int.mul_nonneg h.tot.1 h1.1
  unfold baseAt remAt
  rw [getD_int hk]
  have hS := h.pos
  exact ⟨⟨h3, h2⟩, ⟨Int.ediv_nonneg h3 (by omega), Int.le_trans (Int.ediv_le_self _ h3) h2⟩, Int.emod_nonneg _ (by omega), Int.emod_lt_of_pos _ (by omega)⟩
theorem sumB_range {T S : Int} {ws : List Int} (h : ShOk T S ws) : ∀ k, k ≤ ws.length → 0 ≤ sumB T S ws k ∧ sumB T S ws k ≤ sumB T S ws ws.length := by
  have hm : ∀ j k, k + j ≤ ws.length → sumB T S ws k ≤ sumB T S ws (k + j) := fun j => by
    induction j with
    | zero => intro k _; exact Int.le_refl _
    | succ j ih =>
      intro k hk
      have h1 := ih k (by omega)
      have h2 := (h.at_ (k := k + j) (by omega)).2.1.1
      show sumB T S ws k ≤ sumB T S ws (k + j) + baseAt T S ws (k + j)
      omega
  intro k hk
  refine ⟨?_, ?_⟩
  · have := hm k 0 (by omega)
    rwa [Nat.zero_add] at this
  · have := hm (ws.length - k) k (by omega)
    rwa [show k + (ws.length - k) = ws.length by omega] at this
theorem ShOk.left {T S : Int} {ws : List Int} (h : ShOk T S ws) : sumB T S ws ws.length ≤ T ∧ T - sumB T S ws ws.length < ws.length ∧ ((leftN T S ws : Nat) : Int) = T - sumB T S ws ws.length := by
  obtain ⟨h1, h2⟩ := left_range (show 0 < S by have := h.pos; omega) h.sum (by have := h.len; omega)
  refine ⟨h1, h2, ?_⟩
  unfold leftN
  omega
/-! the first of the greatest -/
def restJ (T S : Int) (ws : List Int) (j : Nat) : List Int := (List.range ws.length).map fun k => if k ∈ (ordL (remAt T S ws) ws.length).take j then -1 else remAt T S ws k
theorem restJ_len (T S : Int) (ws : List Int) (j : Nat) : (restJ T S ws j).length = ws.length := by simp [restJ]
theorem restJ_get {T S : Int} {ws : List Int} {j k : Nat} (h : k < (restJ T S ws j).length) : (restJ T S ws j)[k] = if k ∈ (ordL (remAt T S ws) ws.length).take j then -1 else remAt T S ws k := by simp [restJ]
theorem restJ_zero (T S : Int) (ws : List Int) : restJ T S ws 0 = (List.range ws.length).map (remAt T S ws) := by
  unfold restJ
  congr 1
theorem restJ_step {T S : Int} {ws : List Int} {j : Nat} (hj : j < (ordL (remAt T S ws) ws.length).length) : restJ T S ws (j + 1) = (restJ T S ws j).set (ordL (remAt T S ws) ws.length)[j] (-1) := by
  apply List.ext_getElem
  · rw [List.length_set, restJ_len, restJ_len]
  · intro k h1 h2
    rw [restJ_get, List.getElem_set, restJ_get, List.take_succ_eq_append_getElem hj]
    by_cases hk : (ordL (remAt T S ws) ws.length)[j] = k
    · rw [if_pos hk, if_pos (List.mem_append.2 (.inr (by rw [hk]; exact List.mem_singleton.2 rfl)))]
    · rw [if_neg hk]
      by_cases hm : k ∈ (ordL (remAt T S ws) ws.length).take j
      · rw [if_pos hm, if_pos (List.mem_append.2 (.inl hm))]
      · rw [if_neg hm, if_neg (fun e => (List.mem_append.1 e).elim hm (fun e => hk (List.mem_singleton.1 e).symm))]
/-- 'best' is the first of the greatest of the first i. -/
def FirstMax (xs : List Int) (i best : Nat) : Prop := best < xs.length ∧ ∀ k, k < i → xs.getD k 0 ≤ xs.getD best 0 ∧ (xs.getD k 0 = xs.getD best 0 → best ≤ k)
theorem firstMax_step {xs : List Int} {i best : Nat} (h : FirstMax xs i best) (hi : i < xs.length) (hb : best ≤ i) : FirstMax xs (i + 1) (if xs.getD best 0 < xs.getD i 0 then i else best) := by
  obtain ⟨h1, h2⟩ := h
  split
  · rename_i hg
    refine ⟨hi, fun k hk => ?_⟩
    rcases Nat.lt_or_ge k i with h3 | h3
    · have := h2 k h3; omega
    · have : k = i := by omega
      subst this; omega
  · rename_i hg
    refine ⟨h1, fun k hk => ?_⟩
    rcases Nat.lt_or_ge k i with h3 | h3
    · exact h2 k h3
    · have : k = i := by omega
      subst this; omega
theorem firstMax_ord {T S : Int} {ws : List Int} (h : ShOk T S ws) {j best : Nat} (hj : j < (ordL (remAt T S ws) ws.length).length) (hb : FirstMax (restJ T S ws j) ws.length best) : best = (ordL (remAt T S ws) ws.length)[j] := by
  obtain ⟨h1, h2⟩ := hb
  rw [restJ_len] at h1
  have gd : ∀ k, k < ws.length → (restJ T S ws j).getD k 0 = if k ∈ (ordL (remAt T S ws) ws.length).take j then -1 else remAt T S ws k := fun k hk => by
    rw [getD_int (by rw [restJ_len]; exact hk), restJ_get]
  have ho := ordL_get_lt hj
  have hno : (ordL (remAt T S ws) ws.length)[j] ∉ (ordL (remAt T S ws) ws.length).take j := fun e => by
    obtain ⟨i, hi, he⟩ := List.getElem_of_mem e
    rw [List.length_take] at hi
    rw [List.getElem_take] at he
    have := ordL_inj (by omega) hj he
    omega
  have h3 := h2 _ ho
  rw [gd _ ho, gd _ h1, if_neg hno] at h3
  have hr := (h.at_ ho).2.2.1
  have hnb : best ∉ (ordL (remAt T S ws) ws.length).take j := fun e => by rw [if_pos e] at h3; omega
  rw [if_neg hnb] at h3
  have hm : best ∈ ordL (remAt T S ws) ws.length := (ordL_perm _ _).mem_iff.2 (List.mem_range.2 h1)
  obtain ⟨t, ht, he⟩ := List.getElem_of_mem hm
  rcases Nat.lt_trichotomy t j with c | c | c
  · exact absurd (List.mem_take_iff_getElem.2 ⟨t, by omega, he⟩) hnb
  · subst c; exact he.symm
  · have hp := List.pairwise_iff_getElem.1 (ordL_pair (remAt T S ws) ws.length) j t hj ht c
    rw [he] at hp
    unfold befR at hp
    omega
theorem map_range_snoc {β : Type} (f : Nat → β) (k : Nat) : (List.range (k + 1)).map f = (List.range k).map f ++ [f k] := by rw [List.range_succ, List.map_append]; rfl
set_option maxRecDepth 100000 in
set_option maxHeartbeats 16000000 in
theorem specShare_ (A : Option Addr) (ws : List Int) (c : Nat) (T S : Int) (w : World) (hx : Rd w A ws) (hok : ShOk T S ws) :
    Calls Try.prog 54 #[.int .i64 T, .slice A ws.length c, .int .i64 S] w fun e w' => ∃ V q, e = .returned (.slice V ws.length q) ∧ Own w' w.heap.size 2 (.slice V ws.length q) (shareL T S ws) ∧ Below w.heap.size w w' := by
  have hn := hok.len
  have hS := hok.pos
  have hT := hok.tot
  obtain ⟨lf1, lf2, lf3⟩ := hok.left
  have HX := hid hx
  have HOK := hid hok
  have HO1 := hid ((Own.empty (α := Int) (w := w) (base := w.heap.size) (e := 2) (Nat.le_refl _)).alloc (.cells #[] 2))
  have HO2 := hid (Own.empty (α := Int) (w := w.alloc (.cells #[] 2)) (base := w.heap.size) (e := 2) (by simp))
  have HSUM := hid (fun k hk => sumB_range hok k hk)
  have HLF := hid lf3
  clear hx hok lf3
  go_enter Try.func54, Try.ntmps54
  go_wp2_with fail
  go_loopw [7, 8, 9, 10, 11] (fun u v l i x wr => ∃ k : Nat, k ≤ ws.length ∧ i = .int .i64 k ∧ l = .int .i64 (T - sumB T S ws k) ∧ Own wr w.heap.size 2 u ((List.range k).map (baseAt T S ws)) ∧ Own wr w.heap.size 2 v ((List.range k).map (remAt T S ws)) ∧
      (∀ a b, u.ownBlock = some a → v.ownBlock = some b → a ≠ b) ∧ Below w.heap.size w wr) (fun _ _ _ i _ _ => ws.length - (intOf i).toNat)
  case atStart => exact ⟨0, Nat.zero_le _, rfl, by exact val_int (by simp [sumB]), HO1.out, by simpa using HO2.out, by simp [Value.ownBlock], ((Below.refl _ _).alloc (Nat.le_refl _) _).alloc (by simp) _⟩
  case round =>
    obtain ⟨k, hk, rfl, rfl, ho1, ho2, hdj, hq⟩ := hrel
    obtain ⟨wo, rfl⟩ : ∃ wo : World, wo = wr := ⟨_, rfl⟩
    have HO1' := hid ho1
    have HO2' := hid ho2
    have HDJ := hid hdj
    have HQ := hid hq
    have HX2 := hid (HX.out.below hq)
    have hz := hq.size
    have hsk := HSUM.out k hk
    obtain ⟨V1, q1, e1⟩ := ho1.form
    obtain ⟨V2, q2, e2⟩ := ho2.form
    subst e1 e2
    clear ho1 ho2 hdj hq HO1 HO2
    by_cases hlt : k < ws.length
    · obtain ⟨b, off, rfl, c1⟩ := HX2.out.int hlt
      obtain ⟨p1, p2, p3⟩ := HOK.out.at_ hlt
      have hgd := getD_int hlt
      have hB : baseAt T S ws k = (T * ws[k]) / S := by unfold baseAt; rw [hgd]
      have hR : remAt T S ws k = (T * ws[k]) % S := by unfold remAt; rw [hgd]
      have hn1 := map_range_snoc (baseAt T S ws) k
      have hn2 := map_range_snoc (remAt T S ws) k
      have hsb : sumB T S ws (k + 1) = sumB T S ws k + baseAt T S ws k := rfl
      rw [hB] at hn1 hsb p2
      rw [hR] at hn2 p3
      rw [hgd] at p1
      have hl1 : ((List.range k).map (baseAt T S ws)).length = k := by simp
      have hl2 : ((List.range k).map (remAt T S ws)).length = k := by simp
      rw [hl1] at HO1' HDJ ⊢
      rw [hl2] at HO2' HDJ ⊢
      have HN1 := hid hn1
      have HN2 := hid hn2
      have HSB := hid hsb
      have HL1 : Hid (((List.range k).map (baseAt T S ws)).length ≤ 1048576) := by rw [hl1]; exact hid (by omega)
      have HL2 : Hid (((List.range k).map (remAt T S ws)).length ≤ 1048576) := by rw [hl2]; exact hid (by omega)
      clear hn1 hn2 hsb hl1 hl2 hB hR hgd
      generalize (List.range k).map (baseAt T S ws) = L1 at HO1' HN1 HL1
      generalize (List.range k).map (remAt T S ws) = L2 at HO2' HN2 HL2
      generalize ws[k] = x at c1 p1 p2 p3 HN1 HN2 HSB
      have m1 : 0 ≤ T * x := p1.1
      have m2 : T * x ≤ 1000000000000000000 := p1.2
      generalize sumB T S ws k = sb at hsk HSB
      have hsbr : 0 ≤ sb ∧ sb ≤ T := ⟨hsk.1, by omega⟩
      clear hsk
      go_wp2_with (first | fail | (at_builtin; refine wpList_push elInt _ rfl (.tmp 29) (.tmp 33) rfl w.heap.size _ L1 (T * x / S) rfl (HO1'.out.alloc _) _ rfl (heap_alloc_new _ _) HL1.out (le_alloc hz) ?_; intro v1 w1 hown1 hg1 hat1; refine keep_ ?_))
      have A1 := hid hown1
      have A2 : Hid (Own w1 w.heap.size 2 (.slice V2 k q2) L2) := (HO2'.out.alloc _).beside hg1 (fun a g ha hg => fun e => HDJ.out g a hg ha e.symm)
      have hbk2 : ∀ a, (Value.slice V2 k q2).ownBlock = some a → a < (wo.alloc (.cells #[.int .i64 (T * x / S)] 2)).heap.size := fun a ha => by have := (HO2'.out.block a ha).2; simp; omega
      have A3 : Hid (∀ a b, v1.ownBlock = some a → (Value.slice V2 k q2).ownBlock = some b → a ≠ b) := fun a b ha hb => by
        rcases hat1 with e | e
        · exact HDJ.out a b (e.symm.trans ha) hb
        · rw [e] at ha
          injection ha with ha
          have := hbk2 b hb
          omega
      have hq1 := below_own (HQ.out.alloc hz (.cells #[.int .i64 (T * x / S)] 2)) (HO1'.out.alloc _) hg1 (Nat.le_refl _) (le_alloc hz)
      have HQ1 := hid hq1
      have hz1 := hq1.size
      clear hown1 hg1 hat1 hbk2 hq1 HO1' HO2' HDJ c1
      refine go_ ?_
      go_wp2_with (first | fail | (at_builtin; refine wpList_push elInt _ rfl (.tmp 35) (.tmp 39) rfl w.heap.size _ L2 (T * x % S) rfl (A2.out.alloc _) _ rfl (heap_alloc_new _ _) HL2.out (le_alloc hz1) ?_; intro v2 w2 hown2 hg2 hat2; refine keep_ ?_))
      have B2 := hid hown2
      have B1 : Hid (Own w2 w.heap.size 2 v1 (L1 ++ [T * x / S])) := (A1.out.alloc _).beside hg2 (fun a g ha hg => A3.out a g ha hg)
      have B3 : Hid (∀ a b, v1.ownBlock = some a → v2.ownBlock = some b → a ≠ b) := fun a b ha hb => by
        rcases hat2 with e | e
        · exact A3.out a b ha (e.symm.trans hb)
        · rw [e] at hb
          injection hb with hb
          have h9 := (A1.out.block a ha).2
          simp at hb
          omega
      have HQ2 := hid (below_own (HQ1.out.alloc hz1 (.cells #[.int .i64 (T * x % S)] 2)) (A2.out.alloc _) hg2 (Nat.le_refl _) (le_alloc hz1))
      clear hown2 hg2 hat2 A1 A2 A3
      refine go_ ?_
      go_wp2_with fail
      go_roundw
      case rel => exact ⟨k + 1, by omega, by go_num, by exact val_int (by rw [HSB.out]; omega), by rw [HN1.out]; exact B1.out, by rw [HN2.out]; exact B2.out, B3.out, HQ2.out⟩
      case measure => simp [intOf]; omega
    · have hke : k = ws.length := by omega
      have hl1 : ((List.range k).map (baseAt T S ws)).length = ws.length := by simp [hke]
      have hl2 : ((List.range k).map (remAt T S ws)).length = ws.length := by simp [hke]
      rw [hl1] at HO1' HDJ ⊢
      rw [hl2] at HO2' HDJ ⊢
      rw [hke, ← share_zero] at HO1'
      rw [hke, ← restJ_zero] at HO2'
      rw [hke, ← HLF.out]
      obtain ⟨g1, rfl, hg1, hg1'⟩ := HO1'.out.addr (k := 0) (by rw [shareJ_len]; omega)
      obtain ⟨g2, rfl, hg2, hg2'⟩ := HO2'.out.addr (k := 0) (by rw [restJ_len]; omega)
      have hgne : g1 ≠ g2 := HDJ.out g1 g2 rfl rfl
      have hlfn : leftN T S ws < ws.length := by have := HLF.out; omega
      have hlfn2 : leftN T S ws ≤ 60 := by omega
      have HSH : Hid (shareL T S ws = shareJ T S ws (leftN T S ws)) := rfl
      clear hl1 hl2 HDJ hlt hsk HLF HSUM
      generalize leftN T S ws = LN at HSH hlfn hlfn2 ⊢
      go_wp2_with fail
      go_loopw [9, 12, 13] (fun l bst i wr => ∃ j : Nat, j ≤ LN ∧ l = .int .i64 ((LN : Int) - j) ∧ Own wr w.heap.size 2 (.slice (some ⟨g1, 0, none⟩) ws.length q1) (shareJ T S ws j) ∧ Own wr w.heap.size 2 (.slice (some ⟨g2, 0, none⟩) ws.length q2) (restJ T S ws j) ∧ Below w.heap.size w wr) (fun l _ _ _ => (intOf l).toNat)
      case atStart => exact ⟨0, Nat.zero_le _, by exact val_int (by omega), HO1'.out, HO2'.out, HQ.out⟩
      case round =>
        clear HO1' HO2' HQ
        obtain ⟨j, hj, rfl, ho1, ho2, hq⟩ := hrel
        obtain ⟨wi, rfl⟩ : ∃ wi : World, wi = wr := ⟨_, rfl⟩
        have HO1 := hid ho1
        have HO2 := hid ho2
        have HQ3 := hid hq
        clear ho1 ho2 hq
        by_cases hjl : j < LN
        · have hjo : j < (ordL (remAt T S ws) ws.length).length := by rw [ordL_len]; omega
          have HFO : Hid (∀ best, FirstMax (restJ T S ws j) ws.length best → best = (ordL (remAt T S ws) ws.length)[j]) := fun best h => firstMax_ord HOK.out hjo h
          have HST := hid (restJ_step hjo)
          have HSS := hid (shareJ_step hjo)
          have hol := ordL_get_lt hjo
          have hsr := shareAt_range (j := j) (HOK.out.at_ hol).2.1.1
          have hbr := (HOK.out.at_ hol).2.1
          generalize (ordL (remAt T S ws) ws.length)[j] = o at HFO HST HSS hol hsr hbr
          have hlr := restJ_len T S ws j
          have HLR := hid hlr
          have hrb : ∀ k, k < ws.length → wi.cell? ⟨g2, k, none⟩ = some (.int .i64 ((restJ T S ws j).getD k 0)) := fun k hk => by
            have := (HO2.out.int (k := k) (by rw [restJ_len]; exact hk)).1
            rw [getD_int (by rw [restJ_len]; exact hk)]
            exact this
          have HRB := hid hrb
          clear hrb hlr hjo
          go_wp2_with fail
          go_loopw [12, 13] (fun bst i wr => ∃ (i' best : Nat), i = .int .i64 i' ∧ bst = .int .i64 best ∧ (1 ≤ i' ∧ i' ≤ ws.length) ∧ best < i' ∧ FirstMax (restJ T S ws j) i' best ∧ ∃ n, wr = wi.drewN n) (fun _ i _ => ws.length - (intOf i).toNat)
          case atStart => exact ⟨1, 0, rfl, rfl, by omega, by omega, ⟨by rw [HLR.out]; omega, fun k hk => by rw [show k = 0 by omega]; exact ⟨Int.le_refl _, fun _ => Nat.le_refl _⟩⟩, 0, rfl⟩
          case round =>
            obtain ⟨i', best, rfl, rfl, hi', hbi, hfm, n, rfl⟩ := hrel
            have HFM := hid hfm
            clear hfm
            by_cases hil : i' < ws.length
            · have k1 := HRB.out i' hil
              have k2 := HRB.out best (by omega)
              have HFS := hid (firstMax_step HFM.out (by rw [HLR.out]; exact hil) (by omega))
              generalize (restJ T S ws j).getD i' 0 = xi at k1 HFS
              generalize (restJ T S ws j).getD best 0 = xb at k2 HFS
              have j1 : (i' : Int) < (ws.length : Int) := by omega
              have j2 : (best : Int) < (ws.length : Int) := by omega
              have j3 : best < ws.length := by omega
              by_cases hgt : xb < xi
              · have d1 : decide (xb < xi) = true := decide_eq_true hgt
                rw [if_pos hgt] at HFS
                go_upto_region 17 with fail
                go_quiet (fail)
                go_wp2_with fail
                go_roundw
                case rel => exact ⟨i' + 1, i', by go_num, rfl, by omega, by omega, HFS.out, by first | exact ⟨_, rfl⟩ | exact ⟨_, World.drewN_drewN⟩⟩
                case measure => simp [intOf]; omega
              · have d1 : decide (xb < xi) = false := decide_eq_false hgt
                rw [if_neg hgt] at HFS
                go_upto_region 17 with fail
                go_quiet (fail)
                go_wp2_with fail
                go_roundw
                case rel => exact ⟨i' + 1, best, by go_num, rfl, by omega, by omega, HFS.out, by first | exact ⟨_, rfl⟩ | exact ⟨_, World.drewN_drewN⟩⟩
                case measure => simp [intOf]; omega
            · have hie : i' = ws.length := by omega
              rw [hie] at HFM
              have hbo := HFO.out best HFM.out
              have hbl : best < ws.length := by omega
              clear HFM HRB
              rw [← hbo] at HST HSS hsr hbr hol
              have HO1n := hid (HO1.out.drewN n)
              have HO2n := hid (HO2.out.drewN n)
              have HQn := hid (HQ3.out.drewN n)
              clear HFO hbo HO1 HO2
              generalize wi.drewN n = wd at HO1n HO2n HQn
              have hl1 := shareJ_len T S ws j
              have s1 := HO1n.out.int (k := best) (by rw [hl1]; exact hbl)
              obtain ⟨t1, t2⟩ := s1
              rw [shareJ_get] at t1
              have s2 := HO2n.out.int (k := best) (by rw [restJ_len]; exact hbl)
              obtain ⟨t3, t4⟩ := s2
              have N1 := hid (HO1n.out.intSet (k := best) (by rw [hl1]; exact hbl) (shareAt T S ws j best + 1))
              rw [← HSS.out] at N1
              have hgb1 : wd.grownBy (wd.setCell ⟨g1, best, none⟩ (.int .i64 (shareAt T S ws j best + 1))) (Value.slice (some ⟨g1, 0, none⟩) ws.length q1).ownBlock := grown_set (World.grownBy.refl _ _)
              have M2 : Own (wd.setCell ⟨g1, best, none⟩ (.int .i64 (shareAt T S ws j best + 1))) w.heap.size 2 (.slice (some ⟨g2, 0, none⟩) ws.length q2) (restJ T S ws j) := HO2n.out.beside hgb1 (fun a b ha hb => by simp only [Value.ownBlock, Option.some.injEq] at ha hb; omega)
              have M3 := M2.intSet (k := best) (by rw [restJ_len]; exact hbl) (-1)
              rw [← HST.out] at M3
              have t5 := (M2.int (k := best) (by rw [restJ_len]; exact hbl))
              have hgb2 : (wd.setCell ⟨g1, best, none⟩ (.int .i64 (shareAt T S ws j best + 1))).grownBy ((wd.setCell ⟨g1, best, none⟩ (.int .i64 (shareAt T S ws j best + 1))).setCell ⟨g2, best, none⟩ (.int .i64 (-1))) (Value.slice (some ⟨g2, 0, none⟩) ws.length q2).ownBlock := grown_set (World.grownBy.refl _ _)
              have M1 := N1.out.beside hgb2 (fun a b ha hb => by simp only [Value.ownBlock, Option.some.injEq] at ha hb; omega)
              have HM1 := hid M1
              have HM3 := hid M3
              have HB2 := hid ((HQn.out.setCell hg1 (p := ⟨g1, best, none⟩) (.int .i64 (shareAt T S ws j best + 1))).setCell hg2 (p := ⟨g2, best, none⟩) (.int .i64 (-1)))
              obtain ⟨t6, t7⟩ := t5
              clear M1 M2 M3 hgb1 hgb2 N1 HSS HST hl1 HO1n HO2n
              generalize shareAt T S ws j best = sv at *
              generalize (restJ T S ws j)[best]'(by rw [restJ_len]; exact hbl) = rv at *
              obtain ⟨wz, hwz⟩ : ∃ x, wd.setCell ⟨g1, best, none⟩ (.int .i64 (sv + 1)) = x := ⟨_, rfl⟩
              rw [hwz] at HM1 HM3 HB2 t6 t7
              have j3 : (best : Int) < (ws.length : Int) := by omega
              have HWZ := hid hwz
              clear hwz hie
              go_upto_region 20 with fail
              rw [HWZ.out]
              go_wp2_with fail
              go_roundw
              case rel => exact ⟨j + 1, by omega, by exact val_int (by omega), HM1.out, HM3.out, HB2.out⟩
              case measure => simp [intOf]; omega
        · have hje : j = LN := by omega
          rw [hje] at HO1
          clear HO2 hje
          go_wp2_with fail
          go_ret
          exact ⟨_, _, rfl, by rw [HSH.out]; exact HO1.out, HQ3.out⟩
end Go.Proofs.Ytampbbknhbhcbaa
