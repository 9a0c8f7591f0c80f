/- The best bid of a lot: the walks. -/
import Derived.Test.YtgkhjikkbjmadaaTenderValid
namespace Go.Proofs.Ytgkhjikkbjmadaa
open Go.RowKit
set_option linter.unusedVariables false
def offAt (xs : List Bid) (z : Int) : Int := match xs[z.toNat]? with | some x => x.offer | none => 0
/-- The best of the first k bids for a lot, without one of them; -1 if there is none. -/
def bestTo (lot wo : Int) (xs : List Bid) : Nat → Int
  | 0 => -1
  | k + 1 => match xs[k]? with
    | some x => if x.lot = lot ∧ (k : Int) ≠ wo ∧ (bestTo lot wo xs k < 0 ∨ x.offer < offAt xs (bestTo lot wo xs k)) then (k : Int) else bestTo lot wo xs k
    | none => bestTo lot wo xs k
def best (t : Tender) (lot wo : Int) : Int := bestTo lot wo t.bids t.bids.length
theorem best_step {lot wo : Int} {xs : List Bid} {k : Nat} (hk : k < xs.length) : bestTo lot wo xs (k + 1) = if xs[k].lot = lot ∧ (k : Int) ≠ wo ∧ (bestTo lot wo xs k < 0 ∨ xs[k].offer < offAt xs (bestTo lot wo xs k)) then (k : Int) else bestTo lot wo xs k := by
  simp only [bestTo, List.getElem?_eq_getElem hk]
theorem best_range (lot wo : Int) (xs : List Bid) : ∀ k : Nat, -1 ≤ bestTo lot wo xs k ∧ bestTo lot wo xs k < k
  | 0 => by simp only [bestTo]; omega
  | k + 1 => by
    have := best_range lot wo xs k
    simp only [bestTo]
    split
    · split <;> omega
    · omega
theorem off_get {xs : List Bid} {j : Nat} (hj : j < xs.length) : offAt xs (j : Int) = xs[j].offer := by
  simp [offAt, List.getElem?_eq_getElem hj]

set_option maxHeartbeats 4000000 in
theorem specBest (g o : Nat) (t : Tender) (lot : Int) (w : World) (h : PtTender w g o t) :
    Calls Try.prog 43 #[.pointer (some ⟨g, o, none⟩), .int .i64 lot] w fun e w' => e = .returned (.int .i64 (best t lot (-1))) ∧ Below w.heap.size w w' := by
  obtain ⟨A, c, B, d, ⟨e1, e2, e3⟩, hA, hB, hd⟩ := h
  have hn := hB.len
  clear hA
  unfold best
  go_enter Try.func43, Try.ntmps43
  go_wp2_with fail
  go_loopw [5, 6] (fun z i wr => ∃ k : Nat, k ≤ t.bids.length ∧ i = .int .i64 k ∧ z = .int .i64 (bestTo lot (-1) t.bids k) ∧ ∃ q, wr = w.more q) (fun _ i _ => t.bids.length - (intOf i).toNat)
  case atStart => exact ⟨0, Nat.zero_le _, rfl, rfl, more_self⟩
  case round =>
    obtain ⟨k, hk, rfl, rfl, q, rfl⟩ := hrel
    by_cases hlt : k < t.bids.length
    · have hs := best_step (lot := lot) (wo := -1) hlt
      have hr := best_range lot (-1) t.bids k
      obtain ⟨z, hz⟩ : ∃ z, bestTo lot (-1) t.bids k = z := ⟨_, rfl⟩
      rw [hz] at hs hr ⊢
      obtain ⟨b, off, rfl, c1, c2, c3⟩ := hB.bid hlt
      have hkw : (k : Int) ≠ -1 := by omega
      by_cases h1 : t.bids[k].lot = lot
      · have h1' : (t.bids[k].lot == lot) = true := by simp [h1]
        by_cases h2 : z < 0
        · have h2' : decide (z < 0) = true := decide_eq_true h2
          rw [if_pos ⟨h1, hkw, .inl h2⟩] at hs
          have HS := hid hs
          clear hs hz hB h1
          go_wp2_with fail
          go_quiet (fail)
          go_wp2_with fail
          go_roundw
          case rel => exact ⟨k + 1, by omega, by go_num, by rw [HS.out], below_ex (more_below.drewN _)⟩
          case measure => simp [intOf]; omega
        · obtain ⟨j, rfl⟩ : ∃ j : Nat, z = j := ⟨z.toNat, by omega⟩
          have hj : j < t.bids.length := by omega
          have h2' : decide ((j : Int) < 0) = false := decide_eq_false h2
          obtain ⟨b', off', hA', d1, d2, d3⟩ := hB.bid hj
          injection hA' with hA'
          injection hA' with hA1 hA2
          subst hA1 hA2
          rw [off_get hj] at hs
          by_cases h3 : t.bids[k].offer < t.bids[j].offer
          · have h3' : decide (t.bids[k].offer < t.bids[j].offer) = true := decide_eq_true h3
            rw [if_pos ⟨h1, hkw, .inr h3⟩] at hs
            have HS := hid hs
            clear hs hz hB h1
            go_wp2_with fail
            go_quiet (fail)
            go_wp2_with fail
            go_roundw
            case rel => exact ⟨k + 1, by omega, by go_num, by rw [HS.out], below_ex (more_below.drewN _)⟩
            case measure => simp [intOf]; omega
          · have h3' : decide (t.bids[k].offer < t.bids[j].offer) = false := decide_eq_false h3
            rw [if_neg (fun h => h.2.2.elim (fun h => h2 h) (fun h => h3 h))] at hs
            have HS := hid hs
            clear hs hz hB h1
            go_wp2_with fail
            go_quiet (fail)
            go_wp2_with fail
            go_roundw
            case rel => exact ⟨k + 1, by omega, by go_num, by rw [HS.out], below_ex (more_below.drewN _)⟩
            case measure => simp [intOf]; omega
      · have h1' : (t.bids[k].lot == lot) = false := by simp [h1]
        rw [if_neg (fun h => h1 h.1)] at hs
        have HS := hid hs
        clear hs hz hB h1
        go_wp2_with fail
        go_quiet (fail)
        go_wp2_with fail
        go_roundw
        case rel => exact ⟨k + 1, by omega, by go_num, by rw [HS.out], below_ex (more_below.drewN _)⟩
        case measure => simp [intOf]; omega
    · have hkl : Hid (k = t.bids.length) := by show k = t.bids.length; omega
      obtain ⟨z, hz⟩ : ∃ z, bestTo lot (-1) t.bids k = z := ⟨_, rfl⟩
      rw [hz]
      have HZ := hid hz
      clear hB hz
      go_wp2_with fail
      go_ret
      exact ⟨ret_int (by rw [← HZ.out, hkl.out]), more_below⟩
set_option maxHeartbeats 4000000 in
theorem implBest (v : Value) (t : Tender) (lot wo : Int) (w : World) (h : RdTender w v t) :
    Calls Try.prog 44 #[v, .int .i64 lot, .int .i64 wo] w fun e w' => e = .returned (.int .i64 (best t lot wo)) ∧ Below w.heap.size w w' := by
  obtain ⟨A, c, B, d, rfl, hA, hB, hd⟩ := h
  have hn := hB.len
  have HB := hid fun o => (Below.refl w.heap.size w).alloc (Nat.le_refl _) o
  clear hA
  unfold best
  go_enter Try.func44, Try.ntmps44
  go_wp2_with fail
  obtain ⟨w0, hw0⟩ : ∃ x, w.alloc (.cells #[.int .i64 t.lots, .slice A t.most.length c, .slice B t.bids.length d] 30) = x := ⟨_, rfl⟩
  rw [hw0]
  have hb0 : Below w.heap.size w w0 := by rw [← hw0]; exact HB.out _
  have k2 : w0.cell? ⟨w.heap.size, 2, none⟩ = some (.slice B t.bids.length d) := by rw [← hw0]; simp [go_sem]
  have HB0 := hid hb0
  have rB := hB.below hb0
  clear hw0 hb0 hB
  go_loopw [7, 13] (fun z i wr => ∃ k : Nat, k ≤ t.bids.length ∧ i = .int .i64 k ∧ z = .int .i64 (bestTo lot wo t.bids k) ∧ Below w0.heap.size w0 wr) (fun _ i _ => t.bids.length - (intOf i).toNat)
  case atStart => exact ⟨0, Nat.zero_le _, rfl, rfl, Below.refl _ _⟩
  case round =>
    obtain ⟨k, hk, rfl, rfl, hq⟩ := hrel
    have HQ := hid hq
    have k2' := box_cell hq k2
    have hB := rB.below hq
    clear k2 rB hq
    by_cases hlt : k < t.bids.length
    · have hs := best_step (lot := lot) (wo := wo) hlt
      have hr := best_range lot wo t.bids k
      obtain ⟨z, hz⟩ : ∃ z, bestTo lot wo t.bids k = z := ⟨_, rfl⟩
      rw [hz] at hs hr ⊢
      obtain ⟨b, off, rfl, c1, c2, c3⟩ := hB.bid hlt
      by_cases h1 : t.bids[k].lot = lot
      · have h1' : (t.bids[k].lot == lot) = true := by simp [h1]
        by_cases hkw : (k : Int) = wo
        · have hkw' : ((k : Int) != wo) = false := by simp [hkw]
          rw [if_neg (fun h => h.2.1 hkw)] at hs
          have HS := hid hs
          clear hs hz hB h1 hkw
          go_wp2_with fail
          go_quiet (fail)
          go_wp2_with fail
          go_roundw
          case rel => exact ⟨k + 1, by omega, by go_num, by rw [HS.out], HQ.out.trans (((Below.refl _ _).alloc (Nat.le_refl _) _).drewN _ |>.mono HQ.out.size)⟩
          case measure => simp [intOf]; omega
        · have hkw' : ((k : Int) != wo) = true := by simp [hkw]
          by_cases h2 : z < 0
          · have h2' : decide (z < 0) = true := decide_eq_true h2
            rw [if_pos ⟨h1, hkw, .inl h2⟩] at hs
            have HS := hid hs
            clear hs hz hB h1 hkw
            go_wp2_with fail
            go_quiet (fail)
            go_wp2_with fail
            go_roundw
            case rel => exact ⟨k + 1, by omega, by go_num, by rw [HS.out], HQ.out.trans (((Below.refl _ _).alloc (Nat.le_refl _) _).drewN _ |>.mono HQ.out.size)⟩
            case measure => simp [intOf]; omega
          · obtain ⟨j, rfl⟩ : ∃ j : Nat, z = j := ⟨z.toNat, by omega⟩
            have hj : j < t.bids.length := by omega
            have h2' : decide ((j : Int) < 0) = false := decide_eq_false h2
            obtain ⟨b', off', hA', d1, d2, d3⟩ := hB.bid hj
            injection hA' with hA'
            injection hA' with hA1 hA2
            subst hA1 hA2
            rw [off_get hj] at hs
            by_cases h3 : t.bids[k].offer < t.bids[j].offer
            · have h3' : decide (t.bids[k].offer < t.bids[j].offer) = true := decide_eq_true h3
              rw [if_pos ⟨h1, hkw, .inr h3⟩] at hs
              have HS := hid hs
              clear hs hz hB h1 hkw
              go_wp2_with fail
              go_quiet (fail)
              go_wp2_with fail
              go_roundw
              case rel => exact ⟨k + 1, by omega, by go_num, by rw [HS.out], HQ.out.trans (((Below.refl _ _).alloc (Nat.le_refl _) _).drewN _ |>.mono HQ.out.size)⟩
              case measure => simp [intOf]; omega
            · have h3' : decide (t.bids[k].offer < t.bids[j].offer) = false := decide_eq_false h3
              rw [if_neg (fun h => h.2.2.elim (fun h => h2 h) (fun h => h3 h))] at hs
              have HS := hid hs
              clear hs hz hB h1 hkw
              go_wp2_with fail
              go_quiet (fail)
              go_wp2_with fail
              go_roundw
              case rel => exact ⟨k + 1, by omega, by go_num, by rw [HS.out], HQ.out.trans (((Below.refl _ _).alloc (Nat.le_refl _) _).drewN _ |>.mono HQ.out.size)⟩
              case measure => simp [intOf]; omega
      · have h1' : (t.bids[k].lot == lot) = false := by simp [h1]
        rw [if_neg (fun h => h1 h.1)] at hs
        have HS := hid hs
        clear hs hz hB h1
        go_wp2_with fail
        go_quiet (fail)
        go_wp2_with fail
        go_roundw
        case rel => exact ⟨k + 1, by omega, by go_num, by rw [HS.out], HQ.out.trans (((Below.refl _ _).alloc (Nat.le_refl _) _).drewN _ |>.mono HQ.out.size)⟩
        case measure => simp [intOf]; omega
    · have hkl : Hid (k = t.bids.length) := by show k = t.bids.length; omega
      obtain ⟨z, hz⟩ : ∃ z, bestTo lot wo t.bids k = z := ⟨_, rfl⟩
      rw [hz]
      have HZ := hid hz
      clear hB hz
      go_wp2_with fail
      go_ret
      exact ⟨ret_int (by rw [← HZ.out, hkl.out]), HB0.out.trans (HQ.out.mono HB0.out.size)⟩

/-- The code of a tender and a lot. -/
def codeTd (t : Tender) (lot : Int) : Int := if validTd t then (if inB lot 0 (t.lots - 1) then 0 else 2) else 1
theorem valid_lots {t : Tender} (h : validTd t = true) : (1 ≤ t.lots ∧ t.lots ≤ 8) ∧ (1 ≤ t.most.length ∧ t.most.length ≤ 6) := by
  unfold validTd at h
  simp only [Bool.and_eq_true] at h
  obtain ⟨⟨⟨h1, h2⟩, h3⟩, h4⟩ := h
  have := inB_true.1 h1
  have := inB_true.1 h2
  omega
theorem valid_bid {t : Tender} (h : validTd t = true) {k : Nat} (hk : k < t.bids.length) : bidB t.bids[k] t.lots t.most.length = true := by
  unfold validTd at h
  simp only [Bool.and_eq_true] at h
  have h4 := h.2
  unfold bidsB at h4
  rw [decide_eq_true_eq] at h4
  have := h4 k hk
  unfold bidAt at this
  simp only [Bool.and_eq_true] at this
  exact this.1
theorem valid_offer {t : Tender} (h : validTd t = true) {k : Nat} (hk : k < t.bids.length) : 1 ≤ t.bids[k].offer ∧ t.bids[k].offer ≤ 1000000 := by
  have := valid_bid h hk
  unfold bidB at this
  simp only [Bool.and_eq_true] at this
  exact inB_true.1 this.2
set_option maxHeartbeats 1000000 in
theorem specCode (g o : Nat) (t : Tender) (lot : Int) (w : World) (h : PtTender w g o t) :
    Calls Try.prog 45 #[.pointer (some ⟨g, o, none⟩), .int .i64 lot] w fun e w' => e = .returned (.int .i64 (codeTd t lot)) ∧ Below w.heap.size w w' := by
  have h0 := h
  obtain ⟨A, c, B, d, ⟨e1, e2, e3⟩, hA, hB, hd⟩ := h0
  clear hA hB
  have HF : Hid (codeTd t lot = if validTd t then (if inB lot 0 (t.lots - 1) then 0 else 2) else 1) := rfl
  generalize codeTd t lot = C at HF ⊢
  go_enter Try.func45, Try.ntmps45
  go_wp2_with fail
  refine (specOkTd _ _ _ _ h).mono ?_
  rintro e w1 ⟨rfl, hb⟩
  have e1' := box_cell hb e1
  clear h
  by_cases h1 : validTd t = true
  · have hl := valid_lots h1
    rw [h1]
    have hf2 : C = if inB lot 0 (t.lots - 1) then 0 else 2 := by have := HF.out; rw [h1] at this; simpa using this
    have HF2 := hid hf2
    clear hf2
    clear HF
    by_cases h2 : inB lot 0 (t.lots - 1) = true
    all_goals
      go_wp2_with (go_at_call 54; refine (specIn _ _ _ _).mono ?_; rintro e w' ⟨rfl, rfl⟩)
      go_ret
      exact ⟨ret_int (by rw [HF2.out]; simp [h2]), hb⟩
  · rw [Bool.not_eq_true] at h1
    rw [h1]
    go_wp2_with fail
    go_ret
    exact ⟨ret_int (by rw [HF.out, h1]; rfl), hb⟩
set_option maxHeartbeats 1000000 in
theorem implCode (v : Value) (t : Tender) (lot : Int) (w : World) (h : RdTender w v t) :
    Calls Try.prog 46 #[v, .int .i64 lot] w fun e w' => e = .returned (.int .i64 (codeTd t lot)) ∧ Below w.heap.size w w' := by
  have h0 := h
  obtain ⟨A, c, B, d, rfl, hA, hB, hd⟩ := h0
  have hb0 : ∀ o, Below w.heap.size w (w.alloc o) := fun o => (Below.refl w.heap.size w).alloc (Nat.le_refl _) o
  have HB := hid hb0
  have h' := hid fun o => h.below (hb0 o)
  clear hA hB hb0 h
  have HF : Hid (codeTd t lot = if validTd t then (if inB lot 0 (t.lots - 1) then 0 else 2) else 1) := rfl
  generalize codeTd t lot = C at HF ⊢
  go_enter Try.func46, Try.ntmps46
  go_wp2_with fail
  refine (implValidTd0 _ t _ (h'.out _)).mono ?_
  rintro e w1 ⟨rfl, hb⟩
  have e1' : w1.cell? ⟨w.heap.size, 0, none⟩ = some (.int .i64 t.lots) := box_cell hb (by simp [go_sem])
  by_cases h1 : validTd t = true
  · have hl := valid_lots h1
    rw [h1]
    have hf2 : C = if inB lot 0 (t.lots - 1) then 0 else 2 := by have := HF.out; rw [h1] at this; simpa using this
    have HF2 := hid hf2
    clear hf2
    clear HF
    by_cases h2 : inB lot 0 (t.lots - 1) = true
    all_goals
      go_wp2_with (go_at_call 37; refine (implIn _ _ _ _).mono ?_; rintro e w' ⟨rfl, rfl⟩)
      go_ret
      exact ⟨ret_int (by rw [HF2.out]; simp [h2]), (HB.out _).trans (hb.mono (HB.out _).size)⟩
  · rw [Bool.not_eq_true] at h1
    rw [h1]
    go_wp2_with fail
    go_ret
    exact ⟨ret_int (by rw [HF.out, h1]; rfl), (HB.out _).trans (hb.mono (HB.out _).size)⟩
theorem code_ok {t : Tender} {lot : Int} (h : codeTd t lot = 0) : validTd t = true ∧ inB lot 0 (t.lots - 1) = true := by
  unfold codeTd at h
  split at h
  · rename_i h1
    split at h
    · rename_i h2; exact ⟨h1, h2⟩
    · omega
  · omega

def bestBidF (t : Tender) (lot : Int) : Int × Int := if codeTd t lot ≠ 0 then (0, codeTd t lot) else if best t lot (-1) < 0 then (0, 3) else (best t lot (-1), 0)
theorem ret_pair {a b : Int} {p : Int × Int} (h : p = (a, b)) : Ending.returned (.tuple #[.int .i64 a, .int .i64 b]) = .returned (.tuple #[.int .i64 p.1, .int .i64 p.2]) := by rw [h]
set_option maxHeartbeats 1000000 in
theorem specBestBid (v : Value) (t : Tender) (lot : Int) (w : World) (h : RdTender w v t) :
    Calls Try.prog 19 #[v, .int .i64 lot] w fun e w' => e = .returned (.tuple #[.int .i64 (bestBidF t lot).1, .int .i64 (bestBidF t lot).2]) ∧ Below w.heap.size w w' := by
  have hb0 : ∀ o, Below w.heap.size w (w.alloc o) := fun o => (Below.refl w.heap.size w).alloc (Nat.le_refl _) o
  have HB := hid hb0
  obtain ⟨cs, rfl, hp⟩ := h.box
  have HF : Hid (bestBidF t lot = if codeTd t lot ≠ 0 then (0, codeTd t lot) else if best t lot (-1) < 0 then (0, 3) else (best t lot (-1), 0)) := rfl
  clear h hb0
  generalize bestBidF t lot = F at HF ⊢
  go_enter Try.func19, Try.ntmps19
  go_wp2_with fail
  refine (specCode _ _ _ lot _ hp).mono ?_
  rintro e w1 ⟨rfl, hb⟩
  have hp1 := hp.below hb
  generalize codeTd t lot = C at HF ⊢
  by_cases h1 : C = 0
  · subst h1
    go_wp2_with fail
    refine (specBest _ _ _ lot _ hp1).mono ?_
    rintro e w2 ⟨rfl, hb2⟩
    generalize best t lot (-1) = Z at HF ⊢
    have HB2 := hid ((HB.out (.cells cs 30)).trans ((hb.trans (hb2.mono hb.size)).mono (HB.out _).size))
    clear hp hp1 hb hb2
    by_cases h2 : Z < 0
    all_goals
      go_wp2_with fail
      go_ret2
      exact ⟨ret_pair (by rw [HF.out]; simp; omega), HB2.out⟩
  · have h1' : (C != 0) = true := by simp [h1]
    have HC := hid h1
    clear h1
    go_wp2_with fail
    go_ret2
    exact ⟨ret_pair (by rw [HF.out]; simp [HC.out]), (HB.out _).trans (hb.mono (HB.out _).size)⟩

set_option maxHeartbeats 1000000 in
theorem implBestBid (v : Value) (t : Tender) (lot : Int) (w : World) (h : RdTender w v t) :
    Calls Try.prog 20 #[v, .int .i64 lot] w fun e w' => e = .returned (.tuple #[.int .i64 (bestBidF t lot).1, .int .i64 (bestBidF t lot).2]) ∧ Below w.heap.size w w' := by
  have h0 := h
  obtain ⟨A, c, B, d, rfl, hA, hB, hd⟩ := h0
  have hb0 : ∀ o, Below w.heap.size w (w.alloc o) := fun o => (Below.refl w.heap.size w).alloc (Nat.le_refl _) o
  have HB := hid hb0
  have h' := hid fun o => h.below (hb0 o)
  have HF : Hid (bestBidF t lot = if codeTd t lot ≠ 0 then (0, codeTd t lot) else if best t lot (-1) < 0 then (0, 3) else (best t lot (-1), 0)) := rfl
  clear h hb0 hA hB
  generalize bestBidF t lot = F at HF ⊢
  go_enter Try.func20, Try.ntmps20
  go_wp2_with fail
  refine (implCode _ t lot _ (h'.out _)).mono ?_
  rintro e w1 ⟨rfl, hb⟩
  have e0 : w1.cell? ⟨w.heap.size, 0, none⟩ = some (.int .i64 t.lots) := box_cell hb (by simp [go_sem])
  have e1 : w1.cell? ⟨w.heap.size, 1, none⟩ = some (.slice A t.most.length c) := box_cell hb (by simp [go_sem])
  have e2 : w1.cell? ⟨w.heap.size, 2, none⟩ = some (.slice B t.bids.length d) := box_cell hb (by simp [go_sem])
  have H1 := hid ((h'.out (.cells #[.int .i64 t.lots, .slice A t.most.length c, .slice B t.bids.length d] 30)).below hb)
  generalize codeTd t lot = C at HF ⊢
  by_cases h1 : C = 0
  · subst h1
    go_wp2_with fail
    refine (implBest _ t lot (-1) _ H1.out).mono ?_
    rintro e w2 ⟨rfl, hb2⟩
    generalize best t lot (-1) = Z at HF ⊢
    have HB2 := hid ((HB.out (.cells #[.int .i64 t.lots, .slice A t.most.length c, .slice B t.bids.length d] 30)).trans ((hb.trans (hb2.mono hb.size)).mono (HB.out _).size))
    clear hb hb2
    by_cases h2 : Z < 0
    all_goals
      go_wp2_with fail
      go_ret2
      exact ⟨ret_pair (by rw [HF.out]; simp; omega), HB2.out⟩
  · have h1' : (C != 0) = true := by simp [h1]
    have HC := hid h1
    clear h1
    go_wp2_with fail
    go_ret2
    exact ⟨ret_pair (by rw [HF.out]; simp [HC.out]), (HB.out _).trans (hb.mono (HB.out _).size)⟩
end Go.Proofs.Ytgkhjikkbjmadaa
