/- SecondOffer: the walks. -/
import Derived.Test.YtgkhjikkbjmadaaTenderBest
namespace Go.Proofs.Ytgkhjikkbjmadaa
open Go.RowKit
set_option linter.unusedVariables false
/-- The offer of a bid; -1 if there is none. -/
def offOr (xs : List Bid) (z : Int) : Int := if z < 0 then -1 else offAt xs z
def second (t : Tender) (lot : Int) : Int × Int := if codeTd t lot ≠ 0 then (0, codeTd t lot) else if best t lot (best t lot (-1)) < 0 then (0, 3) else (offAt t.bids (best t lot (best t lot (-1))), 0)

theorem best_lt2 (t : Tender) (lot wo : Int) : -1 ≤ best t lot wo ∧ best t lot wo < t.bids.length := best_range lot wo t.bids t.bids.length
set_option maxHeartbeats 4000000 in
theorem specSecond (v : Value) (t : Tender) (lot : Int) (w : World) (h : RdTender w v t) :
    Calls Try.prog 25 #[v, .int .i64 lot] w fun e w' => e = .returned (.tuple #[.int .i64 (second t lot).1, .int .i64 (second t lot).2]) ∧ Below w.heap.size w w' := by
  have hb0 : ∀ o, Below w.heap.size w (w.alloc o) := fun o => (Below.refl w.heap.size w).alloc (Nat.le_refl _) o
  have HB := hid hb0
  obtain ⟨cs, rfl, hp⟩ := h.box
  have HF : Hid (second t lot = if codeTd t lot ≠ 0 then (0, codeTd t lot) else if best t lot (best t lot (-1)) < 0 then (0, 3) else (offAt t.bids (best t lot (best t lot (-1))), 0)) := rfl
  clear h hb0
  generalize second t lot = F at HF ⊢
  go_enter Try.func25, Try.ntmps25
  go_wp2_with fail
  obtain ⟨w0, hw0⟩ : ∃ x, w.alloc (.cells cs 30) = x := ⟨_, rfl⟩
  have HB0 : Hid (Below w.heap.size w w0) := by rw [← hw0]; exact HB.out _
  rw [hw0] at hp ⊢
  clear hw0
  refine (specCode _ _ _ lot _ hp).mono ?_
  rintro e w1 ⟨rfl, hb⟩
  by_cases h1 : codeTd t lot = 0
  · have hv := (code_ok h1).1
    have HG : Hid (F = if best t lot (best t lot (-1)) < 0 then (0, 3) else (offAt t.bids (best t lot (best t lot (-1))), 0)) := by have := HF.out; rw [if_neg (by omega)] at this; exact this
    rw [h1]
    clear HF
    go_wp2_with fail
    refine (specBest _ _ _ lot _ (hp.below hb)).mono ?_
    rintro e w2 ⟨rfl, hb2⟩
    have hq0 := hb.trans (hb2.mono hb.size)
    have hp2 := hp.below hq0
    have HQ := hid hq0
    generalize best t lot (-1) = y at HG ⊢
    obtain ⟨A, c, B, d, ⟨e1, e2, e3⟩, hA, hB, hd⟩ := hp2
    have hn := hB.len
    clear hp hb hb2 hq0 hA
    go_wp2_with fail
    go_loop [8, 9] (fun z i => ∃ k : Nat, k ≤ t.bids.length ∧ i = .int .i64 k ∧ z = .int .i64 (offOr t.bids (bestTo lot y t.bids k))) (fun _ i => t.bids.length - (intOf i).toNat)
    case atStart => exact ⟨0, Nat.zero_le _, rfl, rfl⟩
    case round =>
      obtain ⟨k, hk, rfl, rfl⟩ := hrel
      by_cases hlt : k < t.bids.length
      · have hs := best_step (lot := lot) (wo := y) hlt
        have hr := best_range lot y t.bids k
        obtain ⟨z, hz⟩ : ∃ z, bestTo lot y t.bids k = z := ⟨_, rfl⟩
        rw [hz] at hs hr ⊢
        obtain ⟨b, off, rfl, c1, c2, c3⟩ := hB.bid hlt
        have ho := valid_offer hv hlt
        have hok : offOr t.bids (k : Int) = t.bids[k].offer := by unfold offOr; rw [if_neg (by omega), off_get hlt]
        by_cases g1 : t.bids[k].lot = lot
        · have g1' : (t.bids[k].lot == lot) = true := by simp [g1]
          by_cases g2 : (k : Int) = y
          · have g2' : ((k : Int) != y) = false := by simp [g2]
            rw [if_neg (fun h => h.2.1 g2)] at hs
            have HU : Hid (offOr t.bids (bestTo lot y t.bids (k + 1)) = offOr t.bids z) := by rw [hs]; rfl
            generalize offOr t.bids z = u at HU ⊢
            clear hs hz hB g1 g2 hok hr
            go_wp2_with fail
            go_round
            case rel => exact ⟨k + 1, by omega, by go_num, by rw [HU.out]⟩
            case measure => simp [intOf]; omega
          · have g2' : ((k : Int) != y) = true := by simp [g2]
            by_cases g3 : z < 0
            · rw [if_pos ⟨g1, g2, .inl g3⟩] at hs
              have HU : Hid (offOr t.bids (bestTo lot y t.bids (k + 1)) = t.bids[k].offer) := by rw [hs]; exact hok
              have hu : offOr t.bids z = -1 := by unfold offOr; rw [if_pos g3]
              rw [hu]
              clear hs hz hB g1 g2 hok hr hu g3
              go_wp2_with fail
              go_round
              case rel => exact ⟨k + 1, by omega, by go_num, by rw [HU.out]⟩
              case measure => simp [intOf]; omega
            · obtain ⟨j, rfl⟩ : ∃ j : Nat, z = j := ⟨z.toNat, by omega⟩
              have hj : j < t.bids.length := by omega
              have hu : offOr t.bids (j : Int) = t.bids[j].offer := by unfold offOr; rw [if_neg g3, off_get hj]
              have ho2 := valid_offer hv hj
              rw [off_get hj] at hs
              rw [hu]
              by_cases g4 : t.bids[k].offer < t.bids[j].offer
              · rw [if_pos ⟨g1, g2, .inr g4⟩] at hs
                have HU : Hid (offOr t.bids (bestTo lot y t.bids (k + 1)) = t.bids[k].offer) := by rw [hs]; exact hok
                clear hs hz hB g1 g2 hok hr hu g3
                go_wp2_with fail
                go_round
                case rel => exact ⟨k + 1, by omega, by go_num, by rw [HU.out]⟩
                case measure => simp [intOf]; omega
              · rw [if_neg (fun h => h.2.2.elim (fun h => g3 h) (fun h => g4 h))] at hs
                have HU : Hid (offOr t.bids (bestTo lot y t.bids (k + 1)) = t.bids[j].offer) := by rw [hs]; exact hu
                clear hs hz hB g1 g2 hok hr hu g3
                go_wp2_with fail
                go_round
                case rel => exact ⟨k + 1, by omega, by go_num, by rw [HU.out]⟩
                case measure => simp [intOf]; omega
        · have g1' : (t.bids[k].lot == lot) = false := by simp [g1]
          rw [if_neg (fun h => g1 h.1)] at hs
          have HU : Hid (offOr t.bids (bestTo lot y t.bids (k + 1)) = offOr t.bids z) := by rw [hs]; rfl
          generalize offOr t.bids z = u at HU ⊢
          clear hs hz hB g1 hok hr
          go_wp2_with fail
          go_round
          case rel => exact ⟨k + 1, by omega, by go_num, by rw [HU.out]⟩
          case measure => simp [intOf]; omega
      · have hkl : k = t.bids.length := by omega
        subst hkl
        have hr := best_lt2 t lot y
        have hbt : bestTo lot y t.bids t.bids.length = best t lot y := rfl
        rw [hbt]
        generalize best t lot y = z at HG hr ⊢
        clear hbt
        by_cases g3 : z < 0
        · have hu : offOr t.bids z = -1 := by unfold offOr; rw [if_pos g3]
          have HS : Hid (F = (0, 3)) := by rw [HG.out, if_pos g3]; rfl
          rw [hu]
          clear hB hu HG
          go_wp2_with fail
          go_ret2
          exact ⟨ret_pair HS.out, HB0.out.trans (HQ.out.mono HB0.out.size)⟩
        · obtain ⟨j, rfl⟩ : ∃ j : Nat, z = j := ⟨z.toNat, by omega⟩
          have hj : j < t.bids.length := by omega
          have hu : offOr t.bids (j : Int) = t.bids[j].offer := by unfold offOr; rw [if_neg g3, off_get hj]
          have ho2 := valid_offer hv hj
          have HS : Hid (F = (t.bids[j].offer, 0)) := by rw [HG.out, if_neg g3, off_get hj]; rfl
          rw [hu]
          clear hB hu HG
          go_wp2_with fail
          go_ret2
          exact ⟨ret_pair HS.out, HB0.out.trans (HQ.out.mono HB0.out.size)⟩
  · rw [if_pos h1] at HF
    have h1' : (codeTd t lot != 0) = true := by simp [h1]
    generalize codeTd t lot = C at HF h1 h1' ⊢
    have HQ := hid hb
    clear hp hb
    go_wp2_with fail
    go_ret2
    exact ⟨ret_pair HF.out, HB0.out.trans (HQ.out.mono HB0.out.size)⟩

theorem implBest_eq {z : Int} (v : Value) (t : Tender) (lot wo : Int) (w : World) (h : RdTender w v t) (hz : best t lot wo = z) :
    Calls Try.prog 44 #[v, .int .i64 lot, .int .i64 wo] w fun e w' => e = .returned (.int .i64 z) ∧ Below w.heap.size w w' := by
  subst hz; exact implBest v t lot wo w h
set_option maxHeartbeats 4000000 in
theorem implSecond (v : Value) (t : Tender) (lot : Int) (w : World) (h : RdTender w v t) :
    Calls Try.prog 26 #[v, .int .i64 lot] w fun e w' => e = .returned (.tuple #[.int .i64 (second t lot).1, .int .i64 (second t lot).2]) ∧ Below w.heap.size w w' := by
  have h0 := h
  obtain ⟨A, c, B, d, rfl, hA, hB, hd⟩ := h0
  have hb0 : ∀ o, Below w.heap.size w (w.alloc o) := fun o => (Below.refl w.heap.size w).alloc (Nat.le_refl _) o
  have HB := hid hb0
  have HF : Hid (second t lot = if codeTd t lot ≠ 0 then (0, codeTd t lot) else if best t lot (best t lot (-1)) < 0 then (0, 3) else (offAt t.bids (best t lot (best t lot (-1))), 0)) := rfl
  clear hb0 hA
  generalize second t lot = F at HF ⊢
  go_enter Try.func26, Try.ntmps26
  go_wp2_with fail
  obtain ⟨w0, hw0⟩ : ∃ x, w.alloc (.cells #[.int .i64 t.lots, .slice A t.most.length c, .slice B t.bids.length d] 30) = x := ⟨_, rfl⟩
  have hb0 : Below w.heap.size w w0 := by rw [← hw0]; exact HB.out _
  have k0 : w0.cell? ⟨w.heap.size, 0, none⟩ = some (.int .i64 t.lots) := by rw [← hw0]; simp [go_sem]
  have k1 : w0.cell? ⟨w.heap.size, 1, none⟩ = some (.slice A t.most.length c) := by rw [← hw0]; simp [go_sem]
  have k2 : w0.cell? ⟨w.heap.size, 2, none⟩ = some (.slice B t.bids.length d) := by rw [← hw0]; simp [go_sem]
  rw [hw0]
  have hr0 := h.below hb0
  have hB0 := hB.below hb0
  have HB0 := hid hb0
  clear hw0 hb0 h hB
  refine (implCode _ t lot _ hr0).mono ?_
  rintro e w1 ⟨rfl, hb⟩
  have e1 := box_cell hb k0
  have e2 := box_cell hb k1
  have e3 := box_cell hb k2
  have hr1 := hr0.below hb
  have hB1 := hB0.below hb
  have HQ := hid hb
  clear k0 k1 k2 hr0 hB0
  by_cases h1 : codeTd t lot = 0
  · have hv := (code_ok h1).1
    have HG : Hid (F = if best t lot (best t lot (-1)) < 0 then (0, 3) else (offAt t.bids (best t lot (best t lot (-1))), 0)) := by have := HF.out; rw [if_neg (by omega)] at this; exact this
    rw [h1]
    clear HF hb
    obtain ⟨y, hy⟩ : ∃ y, best t lot (-1) = y := ⟨_, rfl⟩
    have hr := best_lt2 t lot y
    obtain ⟨z, hz⟩ : ∃ z, best t lot y = z := ⟨_, rfl⟩
    rw [hz] at hr
    have HY := hid hy
    have HZ := hid hz
    have HG2 : Hid (F = if z < 0 then (0, 3) else (offAt t.bids z, 0)) := by have := HG.out; rw [hy, hz] at this; exact this
    have HR := hid hr1
    clear hy hz HG hr1
    go_wp2_with fail
    refine wp_region_more (by kernel_rfl) (by kernel_rfl) ?_
    repeat (go_big_quiet_step ((first
      | (go_at_call 44; exact quiet_below (implBest_eq _ t _ _ _ ((HR.out.below more_below).below (Below.refl _ _)) HY.out))
      | (go_at_call 44; exact quiet_below (implBest_eq _ t _ _ _ ((HR.out.below more_below).below (Below.refl _ _)) HZ.out)))))
    refine wpQuiet_nil ?_
    rintro _ ⟨nq, rfl⟩
    have HQ2 := hid (HQ.out.trans ((more_below (w := w1) (x := nq)).mono HQ.out.size))
    by_cases g3 : z < 0
    · have HS : Hid (F = (0, 3)) := by rw [HG2.out, if_pos g3]; rfl
      clear hB1
      go_wp2_with fail
      go_ret2
      exact ⟨ret_pair HS.out, HB0.out.trans (HQ2.out.mono HB0.out.size)⟩
    · obtain ⟨j, rfl⟩ : ∃ j : Nat, z = j := ⟨z.toNat, by omega⟩
      have hj : j < t.bids.length := by omega
      have HS : Hid (F = (t.bids[j].offer, 0)) := by rw [HG2.out, if_neg g3, off_get hj]; rfl
      obtain ⟨b, off, rfl, c1, c2, c3⟩ := hB1.bid hj
      clear hB1
      go_wp2_with fail
      go_ret2
      exact ⟨ret_pair HS.out, HB0.out.trans (HQ2.out.mono HB0.out.size)⟩
  · rw [if_pos h1] at HF
    have h1' : (codeTd t lot != 0) = true := by simp [h1]
    generalize codeTd t lot = C at HF h1 h1' ⊢
    clear hb hr1 hB1
    go_wp2_with fail
    go_ret2
    exact ⟨ret_pair HF.out, HB0.out.trans (HQ.out.mono HB0.out.size)⟩
end Go.Proofs.Ytgkhjikkbjmadaa
