/- The way of water: the walks. -/
import Derived.Test.YtpinpkpjehbfmaaNext
namespace Go.Proofs.Ytpinpkpjehbfmaa
open Go.RowKit
set_option linter.unusedVariables false
def codeCl (t : Land) (c : Int) : Int := if validL t = true then (if inB c 0 ((t.heights.length : Int) - 1) = true then 0 else 2) else 1
theorem codeCl_ok {t : Land} {c : Int} (h : codeCl t c = 0) : LOk t ∧ 0 ≤ c ∧ c < t.heights.length := by
  unfold codeCl at h
  split at h
  · rename_i h1
    split at h
    · rename_i h2; have := inB_true.1 h2; exact ⟨lok h1, by omega, by omega⟩
    · omega
  · omega
def wayF (t : Land) (c : Int) : List Int := if codeCl t c = 0 then way t 4001 c [c] else []
theorem way_len (t : Land) : ∀ (f : Nat) (c : Int) (acc : List Int), (way t f c acc).length ≤ acc.length + f
  | 0, _, acc => by simp [way]
  | f + 1, c, acc => by
    unfold way
    split
    · omega
    · have := way_len t f (lowest t c) (acc ++ [lowest t c])
      simp at this
      omega
theorem wayF_len (t : Land) (c : Int) : (wayF t c).length ≤ 1048576 := by
  unfold wayF
  split
  · have := way_len t 4001 c [c]; simp at this; omega
  · simp
theorem hAt_get {t : Land} {n : Int} (h : n.toNat < t.heights.length) : hAt t n = t.heights[n.toNat] := by simp [hAt, h]
theorem lower_take {t : Land} {c : Int} {ns : List Int} {k : Nat} (hk : k < ns.length) : (ns.take (k + 1)).foldl (lower t) c = lower t ((ns.take k).foldl (lower t) c) ns[k] := by
  rw [take_next hk, List.foldl_append]; rfl
theorem lower_in {t : Land} {b : Int} (ns : List Int) (hb : 0 ≤ b ∧ b < t.heights.length) (hn : ∀ n ∈ ns, 0 ≤ n ∧ n < t.heights.length) : 0 ≤ ns.foldl (lower t) b ∧ ns.foldl (lower t) b < t.heights.length := by
  rcases lower_fold (l := t) ns b (.inr trivial) with h | ⟨_, h⟩
  · rw [h]; exact hb
  · exact hn _ h
set_option maxHeartbeats 8000000 in
theorem specWayDown (v : Value) (t : Land) (c0 : Int) (w : World) (h : RdLand w v t) (bd : -9223372036854775808 ≤ c0 ∧ c0 ≤ 9223372036854775807) :
    Calls Try.prog 15 #[v, .int .i64 c0] w fun e w' => ∃ u, e = .returned (.tuple #[u, .int .i64 (codeCl t c0)]) ∧ Own w' w.heap.size 2 u (wayF t c0) ∧ Below w.heap.size w w' := by
  obtain ⟨A, q, rfl, hA⟩ := h
  have hn20 := hA.len
  have hb0 : Below w.heap.size w (w.alloc (.cells #[.int .i64 t.rows, .int .i64 t.columns, .slice A t.heights.length q] 28)) := (Below.refl _ _).alloc (Nat.le_refl _) _
  have hp : PtLand (w.alloc (.cells #[.int .i64 t.rows, .int .i64 t.columns, .slice A t.heights.length q] 28)) w.heap.size 0 t := ⟨A, q, ⟨by simp [go_sem], by simp [go_sem], by simp [go_sem]⟩, hA.alloc _⟩
  have HRD : Hid (RdLand (w.alloc (.cells #[.int .i64 t.rows, .int .i64 t.columns, .slice A t.heights.length q] 28)) (.agg #[.int .i64 t.rows, .int .i64 t.columns, .slice A t.heights.length q]) t) := ⟨A, q, rfl, hA.alloc _⟩
  have HB0 := hid hb0
  have HAA := hid hA
  clear hA hb0
  by_cases g : codeCl t c0 = 0
  · obtain ⟨ht, h0, h1⟩ := codeCl_ok g
    have gv : validL t = true := by
      unfold codeCl at g
      split at g
      · assumption
      · omega
    have g2 : inB c0 0 ((t.heights.length : Int) - 1) = true := inB_true.2 (by omega)
    have HC : Hid (codeCl t c0 = 0) := g
    have HF : Hid (way t 4001 c0 [c0] = wayF t c0) := by show _ = _; unfold wayF; rw [if_pos g]
    have hle := ht.le
    clear g
    go_enter Try.func15, Try.ntmps15
    go_wp2_with fail
    refine (specLandOk _ _ _ _ hp).mono ?_
    rintro e w1 ⟨rfl, hb⟩
    rw [gv]
    have HQ := hid (HB0.out.trans (hb.mono HB0.out.size))
    have HP1 := hid (hp.below hb)
    have HR1 := hid (HRD.out.below hb)
    obtain ⟨A1, q1, ⟨kR, kC, kH⟩, _⟩ := hp.below hb
    have kk := box_cell hb (show (w.alloc (.cells #[.int .i64 t.rows, .int .i64 t.columns, .slice A t.heights.length q] 28)).cell? ⟨w.heap.size, 2, none⟩ = some (.slice A t.heights.length q) by simp [go_sem])
    rw [kk] at kH
    injection kH with kH
    injection kH with e1 _ e3
    subst e1 e3
    clear hb hp
    go_wp2_with (go_at_call 46; refine (specIn_eq _ _ _ _ g2).mono ?_; rintro e w' ⟨rfl, rfl⟩)
    obtain ⟨wz, hwz⟩ : ∃ x, w1.alloc (.cells #[.int .i64 c0] 2) = x := ⟨_, rfl⟩
    rw [hwz]
    have hbz : Below w1.heap.size w1 wz := by rw [← hwz]; exact (Below.refl _ _).alloc (Nat.le_refl _) _
    have kO : Own wz w1.heap.size 2 (.slice (some ⟨w1.heap.size, 0, none⟩) 1 1) [c0] := by
      rw [← hwz]
      exact Own.one c0 (Nat.le_refl _)
    have HKO := hid kO
    have HBZ := hid hbz
    clear hwz kO hbz
    go_loopw [1, 6] (fun ci u wr => ∃ (n : Nat) (acc : List Int) (c : Int), ci = .int .i64 c ∧ 0 ≤ c ∧ c < t.heights.length ∧ Own wr w1.heap.size 2 u acc ∧ way t n c acc = wayF t c0 ∧ (hAt t c + 2000).toNat < n ∧ acc.length + n ≤ 4002 ∧ Below w1.heap.size w1 wr) (fun ci _ _ => (hAt t (intOf ci) + 2000).toNat)
    case atStart => exact ⟨4001, [c0], c0, rfl, h0, h1, HKO.out, HF.out, by have := hAt_bound ht c0; omega, by simp, HBZ.out⟩
    case round =>
      obtain ⟨n, acc, c, rfl, hc0, hc1, ho, hw, hn, hal, hq⟩ := hrel
      obtain ⟨wo, rfl⟩ : ∃ wo : World, wo = wr := ⟨_, rfl⟩
      have HW := hid hw
      have HO := hid ho
      have HK := hid hq
      have HP2 := hid (HP1.out.below hq)
      have HR2 := hid (HR1.out.below hq)
      have kR2 := box_cell hq kR
      have kC2 := box_cell hq kC
      have kH2 := box_cell hq kk
      obtain ⟨V0, vq0, rfl⟩ := ho.form
      clear hw ho hq
      go_wp2_with fail
      refine (specNear _ _ t ht c _ HP2.out hc0 hc1).mono ?_
      rintro e w2 ⟨un, rfl, hon, hb2⟩
      obtain ⟨N, nq, rfl⟩ := hon.form
      have hnl := near_len t c
      have hrn := hon.rd (by omega)
      have HNI := hid (near_ok ht hc0 hc1)
      have HB2 := hid (HK.out.trans (hb2.mono HK.out.size))
      have HO2 := hid (HO.out.below hb2)
      have HAr := hid (HAA.out.below (HQ.out.trans (HB2.out.mono HQ.out.size)))
      have kH3 := box_cell hb2 kH2
      have HLW : Hid (lowest t c = (near t c).foldl (lower t) c) := rfl
      generalize near t c = ns at hrn hnl HNI HLW
      clear hon hb2 kR2 kC2 kH2 HP2 HR2
      go_wp2_with fail
      go_loopw [7, 9] (fun bv i wi => ∃ k : Nat, k ≤ ns.length ∧ i = .int .i64 k ∧ bv = .int .i64 ((ns.take k).foldl (lower t) c) ∧ ∃ q, wi = w2.more q) (fun _ i _ => ns.length - (intOf i).toNat)
      case atStart => exact ⟨0, Nat.zero_le _, rfl, rfl, more_self⟩
      case round =>
        obtain ⟨k, hk, rfl, rfl, qq, rfl⟩ := hrel
        have hbi := lower_in (t := t) (b := c) (ns.take k) ⟨hc0, hc1⟩ (fun n hn => HNI.out n (List.mem_of_mem_take hn))
        by_cases hlt : k < ns.length
        · obtain ⟨b2, off2, rfl, x1⟩ := hrn.int hlt
          have hni := HNI.out _ (List.getElem_mem hlt)
          have hs := lower_take (t := t) (c := c) hlt
          generalize (ns.take k).foldl (lower t) c = b at hs hbi ⊢
          have hbn : b.toNat < t.heights.length := by omega
          have hnn : (ns[k]).toNat < t.heights.length := by omega
          obtain ⟨b3, off3, rfl, y1⟩ := HAr.out.int hbn
          obtain ⟨b4, off4, hA4, y2⟩ := HAr.out.int hnn
          injection hA4 with hA4
          injection hA4 with i1 i2
          subst i1 i2
          rw [show lower t b ns[k] = if hAt t ns[k] < hAt t b then ns[k] else b from rfl, hAt_get hbn, hAt_get hnn] at hs
          have hb0' := hbi.1
          have hb1' := hbi.2
          have hn0' := hni.1
          have hn1' := hni.2
          by_cases hc : t.heights[(ns[k]).toNat] < t.heights[b.toNat]
          · rw [if_pos hc] at hs
            have HS := hid hs
            have hc' : decide (t.heights[(ns[k]).toNat] < t.heights[b.toNat]) = true := decide_eq_true hc
            clear hs hrn hbi hni
            go_wp2_with fail
            go_quiet (fail)
            go_wp2_with fail
            go_roundw
            case rel => exact ⟨k + 1, by omega, by go_num, by rw [HS.out], below_ex (more_below.drewN _)⟩
            case measure => simp [intOf]; omega
          · rw [if_neg hc] at hs
            have HS := hid hs
            have hc' : decide (t.heights[(ns[k]).toNat] < t.heights[b.toNat]) = false := decide_eq_false hc
            clear hs hrn hbi hni
            go_wp2_with fail
            go_quiet (fail)
            go_wp2_with fail
            go_roundw
            case rel => exact ⟨k + 1, by omega, by go_num, by rw [HS.out], below_ex (more_below.drewN _)⟩
            case measure => simp [intOf]; omega
        · have hkl : ns.take k = ns := List.take_of_length_le (by omega)
          rw [hkl] at hbi ⊢
          rw [← HLW.out] at hbi ⊢
          have HB3 := hid (HB2.out.trans ((more_below (w := w2) (x := qq)).mono HB2.out.size))
          have HO3 := hid (HO2.out.more (x := qq))
          obtain ⟨n1, rfl⟩ : ∃ n1, n = n1 + 1 := ⟨n - 1, by omega⟩
          have hwu : way t (n1 + 1) c acc = if lowest t c = c then acc else way t n1 (lowest t c) (acc ++ [lowest t c]) := rfl
          rw [HW.out] at hwu
          have hlo := fun h => lowest_ok ht hc0 hc1 h
          generalize lowest t c = b at hwu hbi hlo ⊢
          obtain ⟨wf, hwf⟩ : ∃ x, w2.more qq = x := ⟨_, rfl⟩
          rw [hwf] at HB3 HO3 ⊢
          clear hrn HNI HLW hwf hkl
          by_cases hbc : b = c
          · rw [if_pos hbc] at hwu
            have HU := hid hwu
            have hbc' : (b == c) = true := by simp [hbc]
            clear hwu hbc hlo
            go_wp2_with fail
            go_ret2
            exact ⟨_, by rw [HC.out]; rfl, by rw [HU.out]; exact HO3.out.mono HQ.out.size, HQ.out.trans (HB3.out.mono HQ.out.size)⟩
          · rw [if_neg hbc] at hwu
            have HU := hid hwu
            have hbc' : (b == c) = false := by simp [hbc]
            have hlo' := (hlo hbc).2.2
            have hbh := hAt_bound ht b
            clear hwu hbc hlo
            go_wp2_with (first | fail | (at_builtin; refine wpList_push elInt _ rfl (.tmp 52) (.tmp 54) rfl w1.heap.size _ acc b rfl (HO3.out.alloc _) _ rfl (heap_alloc_new _ _) (by omega) (le_alloc HB3.out.size) ?_; intro v' w' hown' hg' hat'; have hbn := below_own (HB3.out.alloc HB3.out.size _) (HO3.out.alloc _) hg' (Nat.le_refl _) (le_alloc HB3.out.size); have HO4 := hid hown'; have HB4 := hid hbn; clear hown' hg' hat' hbn))
            go_roundw
            case rel => exact ⟨n1, acc ++ [b], b, rfl, hbi.1, hbi.2, HO4.out, HU.out.symm, by omega, by simp; omega, HB4.out⟩
            case measure => simp [intOf]; omega
  · have HF : Hid (wayF t c0 = []) := by unfold wayF; rw [if_neg g]; exact rfl
    have kH : (w.alloc (.cells #[.int .i64 t.rows, .int .i64 t.columns, .slice A t.heights.length q] 28)).cell? ⟨w.heap.size, 2, none⟩ = some (.slice A t.heights.length q) := by simp [go_sem]
    by_cases gv : validL t = true
    · have g2 : inB c0 0 ((t.heights.length : Int) - 1) = false := by
        rw [← Bool.not_eq_true]; intro g2; exact g (by unfold codeCl; rw [if_pos gv, if_pos g2])
      have HC : Hid (codeCl t c0 = 2) := by unfold codeCl; rw [if_pos gv, g2]; exact rfl
      have hle := (lok gv).le
      clear g
      go_enter Try.func15, Try.ntmps15
      go_wp2_with fail
      refine (specLandOk _ _ _ _ hp).mono ?_
      rintro e w1 ⟨rfl, hb⟩
      rw [gv]
      have HQ := hid (HB0.out.trans (hb.mono HB0.out.size))
      have kk := box_cell hb kH
      clear hb hp kH
      go_wp2_with (go_at_call 46; refine (specIn_eq _ _ _ _ g2).mono ?_; rintro e w' ⟨rfl, rfl⟩)
      go_ret2
      exact ⟨.slice none 0 0, by rw [HC.out]; rfl, by rw [HF.out]; exact Own.nil _ _ _, HQ.out⟩
    · have HC : Hid (codeCl t c0 = 1) := by unfold codeCl; rw [if_neg gv]; exact rfl
      rw [Bool.not_eq_true] at gv
      clear g
      go_enter Try.func15, Try.ntmps15
      go_wp2_with fail
      refine (specLandOk _ _ _ _ hp).mono ?_
      rintro e w1 ⟨rfl, hb⟩
      rw [gv]
      have HQ := hid (HB0.out.trans (hb.mono HB0.out.size))
      clear hb hp kH
      go_wp2_with fail
      go_ret2
      exact ⟨.slice none 0 0, by rw [HC.out]; rfl, by rw [HF.out]; exact Own.nil _ _ _, HQ.out⟩
set_option maxHeartbeats 8000000 in
theorem implWayDown (v : Value) (t : Land) (c0 : Int) (w : World) (h : RdLand w v t) (bd : -9223372036854775808 ≤ c0 ∧ c0 ≤ 9223372036854775807) :
    Calls Try.prog 17 #[v, .int .i64 c0] w fun e w' => ∃ u, e = .returned (.tuple #[u, .int .i64 (codeCl t c0)]) ∧ Own w' w.heap.size 2 u (wayF t c0) ∧ Below w.heap.size w w' := by
  obtain ⟨A, q, rfl, hA⟩ := h
  have hn20 := hA.len
  have hb0 : Below w.heap.size w (w.alloc (.cells #[.int .i64 t.rows, .int .i64 t.columns, .slice A t.heights.length q] 28)) := (Below.refl _ _).alloc (Nat.le_refl _) _
  have hp : PtLand (w.alloc (.cells #[.int .i64 t.rows, .int .i64 t.columns, .slice A t.heights.length q] 28)) w.heap.size 0 t := ⟨A, q, ⟨by simp [go_sem], by simp [go_sem], by simp [go_sem]⟩, hA.alloc _⟩
  have HRD : Hid (RdLand (w.alloc (.cells #[.int .i64 t.rows, .int .i64 t.columns, .slice A t.heights.length q] 28)) (.agg #[.int .i64 t.rows, .int .i64 t.columns, .slice A t.heights.length q]) t) := ⟨A, q, rfl, hA.alloc _⟩
  have HB0 := hid hb0
  have HAA := hid hA
  clear hA hb0
  by_cases g : codeCl t c0 = 0
  · obtain ⟨ht, h0, h1⟩ := codeCl_ok g
    have gv : validL t = true := by
      unfold codeCl at g
      split at g
      · assumption
      · omega
    have g2 : inB c0 0 ((t.heights.length : Int) - 1) = true := inB_true.2 (by omega)
    have HC : Hid (codeCl t c0 = 0) := g
    have HF : Hid (way t 4001 c0 [c0] = wayF t c0) := by show _ = _; unfold wayF; rw [if_pos g]
    have hle := ht.le
    clear g
    go_enter Try.func17, Try.ntmps17
    go_wp2_with fail
    refine (implValidLand _ _ _ HRD.out).mono ?_
    rintro e w1 ⟨rfl, hb⟩
    rw [gv]
    have HQ := hid (HB0.out.trans (hb.mono HB0.out.size))
    have HP1 := hid (hp.below hb)
    have HR1 := hid (HRD.out.below hb)
    obtain ⟨A1, q1, ⟨kR, kC, kH⟩, _⟩ := hp.below hb
    have kk := box_cell hb (show (w.alloc (.cells #[.int .i64 t.rows, .int .i64 t.columns, .slice A t.heights.length q] 28)).cell? ⟨w.heap.size, 2, none⟩ = some (.slice A t.heights.length q) by simp [go_sem])
    rw [kk] at kH
    injection kH with kH
    injection kH with e1 _ e3
    subst e1 e3
    clear hb hp
    go_wp2_with (first | (go_at_call 49; refine (implIn_eq _ _ _ _ g2).mono ?_; rintro e w' ⟨rfl, rfl⟩) | (go_at_call 50; refine (sizeInts _ _ _ _ hn20).mono ?_; rintro e w' ⟨rfl, rfl⟩))
    obtain ⟨wz, hwz⟩ : ∃ x, w1.alloc (.cells #[.int .i64 c0] 2) = x := ⟨_, rfl⟩
    rw [hwz]
    have hbz : Below w1.heap.size w1 wz := by rw [← hwz]; exact (Below.refl _ _).alloc (Nat.le_refl _) _
    have kO : Own wz w1.heap.size 2 (.slice (some ⟨w1.heap.size, 0, none⟩) 1 1) [c0] := by
      rw [← hwz]
      exact Own.one c0 (Nat.le_refl _)
    have HKO := hid kO
    have HBZ := hid hbz
    clear hwz kO hbz
    go_loopw [1, 6] (fun ci u wr => ∃ (n : Nat) (acc : List Int) (c : Int), ci = .int .i64 c ∧ 0 ≤ c ∧ c < t.heights.length ∧ Own wr w1.heap.size 2 u acc ∧ way t n c acc = wayF t c0 ∧ (hAt t c + 2000).toNat < n ∧ acc.length + n ≤ 4002 ∧ Below w1.heap.size w1 wr) (fun ci _ _ => (hAt t (intOf ci) + 2000).toNat)
    case atStart => exact ⟨4001, [c0], c0, rfl, h0, h1, HKO.out, HF.out, by have := hAt_bound ht c0; omega, by simp, HBZ.out⟩
    case round =>
      obtain ⟨n, acc, c, rfl, hc0, hc1, ho, hw, hn, hal, hq⟩ := hrel
      obtain ⟨wo, rfl⟩ : ∃ wo : World, wo = wr := ⟨_, rfl⟩
      have HW := hid hw
      have HO := hid ho
      have HK := hid hq
      have HP2 := hid (HP1.out.below hq)
      have HR2 := hid (HR1.out.below hq)
      have kR2 := box_cell hq kR
      have kC2 := box_cell hq kC
      have kH2 := box_cell hq kk
      obtain ⟨V0, vq0, rfl⟩ := ho.form
      clear hw ho hq
      go_wp2_with fail
      refine (implNext _ t ht c _ HR2.out hc0 hc1).mono ?_
      rintro e w2 ⟨un, rfl, hon, hb2⟩
      obtain ⟨N, nq, rfl⟩ := hon.form
      have hnl := near_len t c
      have hrn := hon.rd (by omega)
      have HNI := hid (near_ok ht hc0 hc1)
      have HB2 := hid (HK.out.trans (hb2.mono HK.out.size))
      have HO2 := hid (HO.out.below hb2)
      have HAr := hid (HAA.out.below (HQ.out.trans (HB2.out.mono HQ.out.size)))
      have kH3 := box_cell hb2 kH2
      have HLW : Hid (lowest t c = (near t c).foldl (lower t) c) := rfl
      generalize near t c = ns at hrn hnl HNI HLW
      clear hon hb2 kR2 kC2 kH2 HP2 HR2
      go_wp2_with fail
      go_loopw [7, 31] (fun bv i wi => ∃ k : Nat, k ≤ ns.length ∧ i = .int .i64 k ∧ bv = .int .i64 ((ns.take k).foldl (lower t) c) ∧ ∃ q, wi = w2.more q) (fun _ i _ => ns.length - (intOf i).toNat)
      case atStart => exact ⟨0, Nat.zero_le _, rfl, rfl, more_self⟩
      case round =>
        obtain ⟨k, hk, rfl, rfl, qq, rfl⟩ := hrel
        have hbi := lower_in (t := t) (b := c) (ns.take k) ⟨hc0, hc1⟩ (fun n hn => HNI.out n (List.mem_of_mem_take hn))
        by_cases hlt : k < ns.length
        · obtain ⟨b2, off2, rfl, x1⟩ := hrn.int hlt
          have hni := HNI.out _ (List.getElem_mem hlt)
          have hs := lower_take (t := t) (c := c) hlt
          generalize (ns.take k).foldl (lower t) c = b at hs hbi ⊢
          have hbn : b.toNat < t.heights.length := by omega
          have hnn : (ns[k]).toNat < t.heights.length := by omega
          obtain ⟨b3, off3, rfl, y1⟩ := HAr.out.int hbn
          obtain ⟨b4, off4, hA4, y2⟩ := HAr.out.int hnn
          injection hA4 with hA4
          injection hA4 with i1 i2
          subst i1 i2
          rw [show lower t b ns[k] = if hAt t ns[k] < hAt t b then ns[k] else b from rfl, hAt_get hbn, hAt_get hnn] at hs
          have hb0' := hbi.1
          have hb1' := hbi.2
          have hn0' := hni.1
          have hn1' := hni.2
          by_cases hc : t.heights[(ns[k]).toNat] < t.heights[b.toNat]
          · rw [if_pos hc] at hs
            have HS := hid hs
            have hc' : decide (t.heights[(ns[k]).toNat] < t.heights[b.toNat]) = true := decide_eq_true hc
            clear hs hrn hbi hni
            go_wp2_with fail
            go_quiet (fail)
            go_wp2_with fail
            go_roundw
            case rel => exact ⟨k + 1, by omega, by go_num, by rw [HS.out], below_ex (more_below.drewN _)⟩
            case measure => simp [intOf]; omega
          · rw [if_neg hc] at hs
            have HS := hid hs
            have hc' : decide (t.heights[(ns[k]).toNat] < t.heights[b.toNat]) = false := decide_eq_false hc
            clear hs hrn hbi hni
            go_wp2_with fail
            go_quiet (fail)
            go_wp2_with fail
            go_roundw
            case rel => exact ⟨k + 1, by omega, by go_num, by rw [HS.out], below_ex (more_below.drewN _)⟩
            case measure => simp [intOf]; omega
        · have hkl : ns.take k = ns := List.take_of_length_le (by omega)
          rw [hkl] at hbi ⊢
          rw [← HLW.out] at hbi ⊢
          have HB3 := hid (HB2.out.trans ((more_below (w := w2) (x := qq)).mono HB2.out.size))
          have HO3 := hid (HO2.out.more (x := qq))
          obtain ⟨n1, rfl⟩ : ∃ n1, n = n1 + 1 := ⟨n - 1, by omega⟩
          have hwu : way t (n1 + 1) c acc = if lowest t c = c then acc else way t n1 (lowest t c) (acc ++ [lowest t c]) := rfl
          rw [HW.out] at hwu
          have hlo := fun h => lowest_ok ht hc0 hc1 h
          generalize lowest t c = b at hwu hbi hlo ⊢
          obtain ⟨wf, hwf⟩ : ∃ x, w2.more qq = x := ⟨_, rfl⟩
          rw [hwf] at HB3 HO3 ⊢
          clear hrn HNI HLW hwf hkl
          by_cases hbc : b = c
          · rw [if_pos hbc] at hwu
            have HU := hid hwu
            have hbc' : (b == c) = true := by simp [hbc]
            clear hwu hbc hlo
            go_wp2_with fail
            go_ret2
            exact ⟨_, by rw [HC.out]; rfl, by rw [HU.out]; exact HO3.out.mono HQ.out.size, HQ.out.trans (HB3.out.mono HQ.out.size)⟩
          · rw [if_neg hbc] at hwu
            have HU := hid hwu
            have hbc' : (b == c) = false := by simp [hbc]
            have hlo' := (hlo hbc).2.2
            have hbh := hAt_bound ht b
            clear hwu hbc hlo
            go_wp2_with (first | fail | (at_builtin; refine wpList_push elInt _ rfl (.tmp 53) (.tmp 55) rfl w1.heap.size _ acc b rfl (HO3.out.alloc _) _ rfl (heap_alloc_new _ _) (by omega) (le_alloc HB3.out.size) ?_; intro v' w' hown' hg' hat'; have hbn := below_own (HB3.out.alloc HB3.out.size _) (HO3.out.alloc _) hg' (Nat.le_refl _) (le_alloc HB3.out.size); have HO4 := hid hown'; have HB4 := hid hbn; clear hown' hg' hat' hbn))
            go_roundw
            case rel => exact ⟨n1, acc ++ [b], b, rfl, hbi.1, hbi.2, HO4.out, HU.out.symm, by omega, by simp; omega, HB4.out⟩
            case measure => simp [intOf]; omega
  · have HF : Hid (wayF t c0 = []) := by unfold wayF; rw [if_neg g]; exact rfl
    have kH : (w.alloc (.cells #[.int .i64 t.rows, .int .i64 t.columns, .slice A t.heights.length q] 28)).cell? ⟨w.heap.size, 2, none⟩ = some (.slice A t.heights.length q) := by simp [go_sem]
    by_cases gv : validL t = true
    · have g2 : inB c0 0 ((t.heights.length : Int) - 1) = false := by
        rw [← Bool.not_eq_true]; intro g2; exact g (by unfold codeCl; rw [if_pos gv, if_pos g2])
      have HC : Hid (codeCl t c0 = 2) := by unfold codeCl; rw [if_pos gv, g2]; exact rfl
      have hle := (lok gv).le
      clear g
      go_enter Try.func17, Try.ntmps17
      go_wp2_with fail
      refine (implValidLand _ _ _ HRD.out).mono ?_
      rintro e w1 ⟨rfl, hb⟩
      rw [gv]
      have HQ := hid (HB0.out.trans (hb.mono HB0.out.size))
      have kk := box_cell hb kH
      clear hb hp kH
      go_wp2_with (first | (go_at_call 49; refine (implIn_eq _ _ _ _ g2).mono ?_; rintro e w' ⟨rfl, rfl⟩) | (go_at_call 50; refine (sizeInts _ _ _ _ hn20).mono ?_; rintro e w' ⟨rfl, rfl⟩))
      go_ret2
      exact ⟨_, by rw [HC.out]; rfl, by rw [HF.out]; exact Own.empty HQ.out.size, HQ.out.alloc HQ.out.size _⟩
    · have HC : Hid (codeCl t c0 = 1) := by unfold codeCl; rw [if_neg gv]; exact rfl
      rw [Bool.not_eq_true] at gv
      clear g
      go_enter Try.func17, Try.ntmps17
      go_wp2_with fail
      refine (implValidLand _ _ _ HRD.out).mono ?_
      rintro e w1 ⟨rfl, hb⟩
      rw [gv]
      have HQ := hid (HB0.out.trans (hb.mono HB0.out.size))
      clear hb hp kH
      go_wp2_with fail
      go_ret2
      exact ⟨_, by rw [HC.out]; rfl, by rw [HF.out]; exact Own.empty HQ.out.size, HQ.out.alloc HQ.out.size _⟩
end Go.Proofs.Ytpinpkpjehbfmaa
