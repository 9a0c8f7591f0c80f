/- SameTender: the walks. -/
import Derived.Test.YtgkhjikkbjmadaaTender
import Derived.Test.YtgkhjikkbjmadaaSameInt
import Derived.Test.YtgkhjikkbjmadaaIn
namespace Go.Proofs.Ytgkhjikkbjmadaa
open Go.RowKit
set_option linter.unusedVariables false
set_option maxHeartbeats 400000 in
theorem sameBid (A B : Option Addr) (xs ys : List Bid) (c d : Nat) (w : World) (hx : Rd w A xs) (hy : Rd w B ys) :
    Calls Try.prog 34 #[.slice A xs.length c, .slice B ys.length d] w fun e w' => e = .returned (.bool (xs == ys)) ∧ Below w.heap.size w w' := by
  have hn := hx.len
  have hm := hy.len
  by_cases hl : xs.length = ys.length
  · have Hl := hid hl
    have hl' : ((xs.length : Int) != ys.length) = false := by simp [hl]
    clear hl
    go_enter Try.func34, Try.ntmps34
    go_wp2
    go_loopw [14] (fun i wr => ∃ k : Nat, k ≤ xs.length ∧ i = .int .i64 k ∧ xs.take k = ys.take k ∧ (∃ m, wr = w.more m)) (fun i _ => xs.length - (intOf i).toNat)
    case atStart => exact ⟨0, Nat.zero_le _, rfl, rfl, more_self⟩
    case round =>
      obtain ⟨k, hk, rfl, ht, m, rfl⟩ := hrel
      have Ht := hid ht
      clear ht
      by_cases hlt : k < xs.length
      · have hlt2 : k < ys.length := by rw [← Hl.out]; exact hlt
        obtain ⟨b, off, rfl, c1, c2, c3⟩ := hx.bid hlt
        obtain ⟨b', off', rfl, d1, d2, d3⟩ := hy.bid hlt2
        clear hx hy
        by_cases he : xs[k] = ys[k]
        · have heb : ((⟨ys[k].bidder, ys[k].lot, ys[k].offer⟩ : Bid) == ⟨xs[k].bidder, xs[k].lot, xs[k].offer⟩) = true := by rw [he]; simp
          have He := hid he
          clear he
          go_wp2
          go_quiet (fail)
          go_wp2
          go_roundw
          case rel => exact ⟨k + 1, by omega, by go_num, same_step hlt hlt2 Ht.out He.out, below_ex ((more_below.alloc more_size _).drewN _)⟩
          case measure => simp [intOf]; omega
        · have heb : ((⟨ys[k].bidder, ys[k].lot, ys[k].offer⟩ : Bid) == ⟨xs[k].bidder, xs[k].lot, xs[k].offer⟩) = false := beq_no fun h => he h.symm
          have He := hid he
          clear he
          go_wp2
          go_quiet (fail)
          go_wp2
          go_ret
          exact ⟨ret_bool (same_no hlt hlt2 He.out), (more_below.alloc more_size _).drewN _⟩
      · go_wp2
        go_ret
        exact ⟨ret_bool (same_all Hl.out hlt Ht.out), more_below⟩
  · have Hl := hid hl
    have hl' : ((xs.length : Int) != ys.length) = true := by rw [bne_iff_ne]; omega
    clear hl
    go_enter Try.func34, Try.ntmps34
    go_wp2
    go_ret
    exact ⟨ret_bool (same_short Hl.out), Below.refl _ _⟩


theorem tender_beq (t t' : Tender) : (t == t') = (t.lots == t'.lots && t.most == t'.most && t.bids == t'.bids) := by
  obtain ⟨L, xs, ys⟩ := t
  obtain ⟨L', xs', ys'⟩ := t'
  rw [Bool.eq_iff_iff]; simp [and_assoc]
set_option maxHeartbeats 1000000 in
theorem implSameTender (v : Value) (t : Tender) (v' : Value) (t' : Tender) (w : World) (h : RdTender w v t) (h' : RdTender w v' t') :
    Calls Try.prog 13 #[v, v'] w fun e w' => e = .returned (.bool (t == t')) ∧ Below w.heap.size w w' := by
  rw [tender_beq]
  obtain ⟨A, c, B, d, rfl, hA, hB⟩ := h
  obtain ⟨A', c', B', d', rfl, hA', hB'⟩ := h'
  have hb1 : ∀ o1 o2, Below w.heap.size w ((w.alloc o1).alloc o2) := fun _ _ => ((Below.refl _ _).alloc (Nat.le_refl _) _).alloc (by simp) _
  have HB1 := hid hb1
  clear hb1
  by_cases h1 : t.lots = t'.lots
  · have H1 := hid h1
    have h1' : (t.lots == t'.lots) = true := by simp [h1]
    clear h1
    by_cases h2 : (t.most == t'.most) = true
    · go_enter Try.func13, Try.ntmps13
      go_wp2_with fail
      refine (implSameInts _ _ _ _ _ _ _ ((hA.alloc _).alloc _) ((hA'.alloc _).alloc _)).mono ?_
      rintro e w1 ⟨rfl, hb⟩
      rw [h2]
      have hb1 : Below w.heap.size w w1 := (HB1.out _ _).trans (hb.mono (by simp; omega))
      have a2 : w1.cell? ⟨w.heap.size, 2, none⟩ = some (.slice B t.bids.length d) := box_cell hb (by simp [go_sem])
      have b2 : w1.cell? ⟨w.heap.size + 1, 2, none⟩ = some (.slice B' t'.bids.length d') := box_cell hb (by simp [go_sem])
      clear hb
      go_wp2_with fail
      refine (sameBid _ _ _ _ _ _ _ (hB.below hb1) (hB'.below hb1)).mono ?_
      rintro e w2 ⟨rfl, hb⟩
      have hb2 := hb1.trans (hb.mono hb1.size)
      clear hb hb1 a2 b2
      go_wp2_with fail
      go_ret
      exact ⟨ret_bool (by rw [h1', h2]; simp), hb2⟩
    · rw [Bool.not_eq_true] at h2
      go_enter Try.func13, Try.ntmps13
      go_wp2_with fail
      refine (implSameInts _ _ _ _ _ _ _ ((hA.alloc _).alloc _) ((hA'.alloc _).alloc _)).mono ?_
      rintro e w1 ⟨rfl, hb⟩
      rw [h2]
      have hb1 : Below w.heap.size w w1 := (HB1.out _ _).trans (hb.mono (by simp; omega))
      clear hb
      go_wp2_with fail
      go_ret
      exact ⟨ret_bool (by rw [h2]; simp), hb1⟩
  · have h1' : (t.lots == t'.lots) = false := by simp [h1]
    go_enter Try.func13, Try.ntmps13
    go_wp2_with fail
    go_ret
    exact ⟨ret_bool (by simp [h1']), HB1.out _ _⟩

set_option maxHeartbeats 2000000 in
theorem specSameTender (v : Value) (t : Tender) (v' : Value) (t' : Tender) (w : World) (h : RdTender w v t) (h' : RdTender w v' t') :
    Calls Try.prog 11 #[v, v'] w fun e w' => e = .returned (.bool (t == t')) ∧ Below w.heap.size w w' := by
  rw [tender_beq]
  obtain ⟨A, c, B, d, rfl, hA, hB⟩ := h
  obtain ⟨A', c', B', d', rfl, hA', hB'⟩ := h'
  have hn := hB.len
  have hm := hB'.len
  have hb1 : ∀ o1 o2, Below w.heap.size w ((w.alloc o1).alloc o2) := fun _ _ => ((Below.refl _ _).alloc (Nat.le_refl _) _).alloc (by simp) _
  have HB1 := hid hb1
  clear hb1
  by_cases h1 : t.lots = t'.lots
  · have h1' : (t.lots == t'.lots) = true := by simp [h1]
    have h1n : (t.lots != t'.lots) = false := by simp [h1]
    clear h1
    by_cases h2 : (t.most == t'.most) = true
    · go_enter Try.func11, Try.ntmps11
      go_wp2_with fail
      refine (specSameInts _ _ _ _ _ _ _ ((hA.alloc _).alloc _) ((hA'.alloc _).alloc _)).mono ?_
      rintro e w1 ⟨rfl, hb⟩
      rw [h2]
      have hb1 : Below w.heap.size w w1 := (HB1.out _ _).trans (hb.mono (by simp; omega))
      have a2 : w1.cell? ⟨w.heap.size, 2, none⟩ = some (.slice B t.bids.length d) := box_cell hb (by simp [go_sem])
      have b2 : w1.cell? ⟨w.heap.size + 1, 2, none⟩ = some (.slice B' t'.bids.length d') := box_cell hb (by simp [go_sem])
      have rB := hB.below hb1
      have rB' := hB'.below hb1
      clear hb hB hB' hA hA'
      have HB2 := hid hb1
      clear hb1
      by_cases hl : t.bids.length = t'.bids.length
      · have Hl := hid hl
        have hl' : ((t.bids.length : Int) != t'.bids.length) = false := by simp [hl]
        clear hl
        go_wp2_with fail
        go_loopw [5] (fun i wr => ∃ k : Nat, k ≤ t.bids.length ∧ i = .int .i64 k ∧ t.bids.take k = t'.bids.take k ∧ (∃ m, wr = w1.more m)) (fun i _ => t.bids.length - (intOf i).toNat)
        case atStart => exact ⟨0, Nat.zero_le _, rfl, rfl, more_self⟩
        case round =>
          obtain ⟨k, hk, rfl, ht, m, rfl⟩ := hrel
          have Ht := hid ht
          clear ht
          by_cases hlt : k < t.bids.length
          · have hlt2 : k < t'.bids.length := by rw [← Hl.out]; exact hlt
            obtain ⟨b, off, rfl, c1, c2, c3⟩ := rB.bid hlt
            obtain ⟨b', off', rfl, d1, d2, d3⟩ := rB'.bid hlt2
            clear rB rB'
            by_cases he : t.bids[k] = t'.bids[k]
            · have heb : ((⟨t.bids[k].bidder, t.bids[k].lot, t.bids[k].offer⟩ : Bid) == ⟨t'.bids[k].bidder, t'.bids[k].lot, t'.bids[k].offer⟩) = true := by rw [he]; simp
              have He := hid he
              clear he
              go_wp2_with fail
              go_quiet (fail)
              go_wp2_with fail
              go_roundw
              case rel => exact ⟨k + 1, by omega, by go_num, same_step hlt hlt2 Ht.out He.out, below_ex (more_below.drewN _)⟩
              case measure => simp [intOf]; omega
            · have heb : ((⟨t.bids[k].bidder, t.bids[k].lot, t.bids[k].offer⟩ : Bid) == ⟨t'.bids[k].bidder, t'.bids[k].lot, t'.bids[k].offer⟩) = false := beq_no he
              have He := hid he
              clear he
              go_wp2_with fail
              go_quiet (fail)
              go_wp2_with fail
              go_ret
              exact ⟨ret_bool (by rw [← same_no hlt hlt2 He.out]; simp), HB2.out.trans ((more_below.drewN _).mono HB2.out.size)⟩
          · go_wp2_with fail
            go_ret
            exact ⟨ret_bool (by rw [← same_all Hl.out hlt Ht.out, h1', h2]; rfl), HB2.out.trans (more_below.mono HB2.out.size)⟩
      · have Hl := hid hl
        have hl' : ((t.bids.length : Int) != t'.bids.length) = true := by rw [bne_iff_ne]; omega
        clear hl
        go_wp2_with fail
        go_ret
        exact ⟨ret_bool (by rw [← same_short Hl.out]; simp), HB2.out⟩
    · rw [Bool.not_eq_true] at h2
      go_enter Try.func11, Try.ntmps11
      go_wp2_with fail
      refine (specSameInts _ _ _ _ _ _ _ ((hA.alloc _).alloc _) ((hA'.alloc _).alloc _)).mono ?_
      rintro e w1 ⟨rfl, hb⟩
      rw [h2]
      have hb1 : Below w.heap.size w w1 := (HB1.out _ _).trans (hb.mono (by simp; omega))
      clear hb
      go_wp2_with fail
      go_ret
      exact ⟨ret_bool (by rw [h2]; simp), hb1⟩
  · have h1' : (t.lots == t'.lots) = false := by simp [h1]
    have h1n : (t.lots != t'.lots) = true := by simp [h1]
    go_enter Try.func11, Try.ntmps11
    go_wp2_with fail
    go_ret
    exact ⟨ret_bool (by simp [h1']), HB1.out _ _⟩
end Go.Proofs.Ytgkhjikkbjmadaa
