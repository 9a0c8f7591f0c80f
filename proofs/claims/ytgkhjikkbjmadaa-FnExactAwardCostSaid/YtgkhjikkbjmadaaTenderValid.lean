/- ValidTender: the walks. -/
import Derived.Test.YtgkhjikkbjmadaaTenderOk
namespace Go.Proofs.Ytgkhjikkbjmadaa
open Go.RowKit
set_option linter.unusedVariables false
def bidAt (t : Tender) (k : Nat) (h : k < t.bids.length) : Bool := bidB t.bids[k] t.lots t.most.length && decide (findAt t.bids[k].bidder t.bids[k].lot 0 (t.bids.take k) < 0)
def mostTo (l : List Int) (n : Nat) : Prop := ∀ k, k < n → (h : k < l.length) → inB l[k] 0 8 = true
def mostB (l : List Int) : Bool := decide (∀ k, (h : k < l.length) → inB l[k] 0 8 = true)
def bidsTo (t : Tender) (n : Nat) : Prop := ∀ k, k < n → (h : k < t.bids.length) → bidAt t k h = true
def bidsB (t : Tender) : Bool := decide (∀ k, (h : k < t.bids.length) → bidAt t k h = true)
def validTd (t : Tender) : Bool := inB t.lots 1 8 && inB t.most.length 1 6 && mostB t.most && bidsB t
theorem most_all {l : List Int} (h : mostTo l l.length) : mostB l = true := by
  unfold mostB; rw [decide_eq_true_eq]; exact fun k hk => h k hk hk
theorem most_no {l : List Int} {k : Nat} (hk : k < l.length) (h : inB l[k] 0 8 = false) : mostB l = false := by
  unfold mostB; rw [decide_eq_false_iff_not]; intro h2; rw [h2 k hk] at h; cases h
theorem most_next {l : List Int} {k : Nat} (h : mostTo l k) (hk : k < l.length) (h1 : inB l[k] 0 8 = true) : mostTo l (k + 1) := fun j hj hj2 => by
  by_cases hjk : j = k
  · subst hjk; exact h1
  · exact h j (by omega) hj2
theorem bids_all {t : Tender} (h : bidsTo t t.bids.length) : bidsB t = true := by
  unfold bidsB; rw [decide_eq_true_eq]; exact fun k hk => h k hk hk
theorem bids_no {t : Tender} {k : Nat} (hk : k < t.bids.length) (h : bidAt t k hk = false) : bidsB t = false := by
  unfold bidsB; rw [decide_eq_false_iff_not]; intro h2; rw [h2 k hk] at h; cases h
theorem bids_next {t : Tender} {k : Nat} (h : bidsTo t k) (hk : k < t.bids.length) (h1 : bidAt t k hk = true) : bidsTo t (k + 1) := fun j hj hj2 => by
  by_cases hjk : j = k
  · subst hjk; exact h1
  · exact h j (by omega) hj2
theorem bidAt_eq {t : Tender} {k : Nat} {hk : k < t.bids.length} {r : Bool} {z : Int} (h1 : bidB t.bids[k] t.lots t.most.length = r) (h2 : findAt t.bids[k].bidder t.bids[k].lot 0 (t.bids.take k) = z) : bidAt t k hk = (r && decide (z < 0)) := by
  unfold bidAt; rw [h1, h2]

set_option maxHeartbeats 400000 in
theorem closure8 (n : Int) (w : World) : Calls Try.prog 40 #[.int .i64 n] w fun e w' => e = .returned (.bool (inB n 0 8)) ∧ w = w' := by
  go_enter Try.func40, Try.ntmps40
  go_wp2_with (go_at_call 37; refine (implIn _ _ _ _).mono ?_; rintro e w' ⟨rfl, rfl⟩)
  go_ret
  exact ⟨rfl, rfl⟩
set_option maxHeartbeats 400000 in
theorem sizeInts (A : Option Addr) (n c : Nat) (w : World) : Calls Try.prog 38 #[.slice A n c] w fun e w' => e = .returned (.int .i64 n) ∧ w = w' := by
  go_enter Try.func38, Try.ntmps38
  go_wp2
  go_ret
  exact ⟨rfl, rfl⟩
set_option maxHeartbeats 1000000 in
theorem implAll8 (A : Option Addr) (xs : List Int) (c : Nat) (w : World) (hx : Rd w A xs) :
    Calls Try.prog 39 #[.slice A xs.length c, .func (.func 40) #[] #[]] w fun e w' => e = .returned (.bool (mostB xs)) ∧ w = w' := by
  have hn := hx.len
  go_enter Try.func39, Try.ntmps39
  go_wp2
  go_loop [9] (fun i => ∃ k : Nat, k ≤ xs.length ∧ i = .int .i64 k ∧ mostTo xs k) (fun i => xs.length - (intOf i).toNat)
  case atStart => exact ⟨0, Nat.zero_le _, rfl, fun k hk => absurd hk (by omega)⟩
  case round =>
    obtain ⟨k, hk, rfl, hm⟩ := hrel
    have Hm := hid hm
    clear hm
    by_cases hlt : k < xs.length
    · obtain ⟨b, off, rfl, c1⟩ := hx.int hlt
      clear hx
      by_cases h1 : inB xs[k] 0 8 = true
      · go_wp2_with (go_at_call 40; refine (closure8 _ _).mono ?_; rintro e w' ⟨rfl, rfl⟩)
        go_round
        case rel => exact ⟨k + 1, by omega, by go_num, most_next Hm.out hlt h1⟩
        case measure => simp [intOf]; omega
      · rw [Bool.not_eq_true] at h1
        go_wp2_with (go_at_call 40; refine (closure8 _ _).mono ?_; rintro e w' ⟨rfl, rfl⟩)
        go_ret
        exact ⟨ret_bool (most_no hlt h1).symm, rfl⟩
    · have hkl : Hid (k = xs.length) := by show k = xs.length; omega
      clear hx
      go_wp2
      go_ret
      exact ⟨ret_bool (most_all (by have := Hm.out; rw [hkl.out] at this; exact this)).symm, rfl⟩
theorem implBidOk_eq {r : Bool} (x : Bid) (lots bidders : Int) (w : World) (h1 : 0 ≤ lots ∧ lots ≤ 1000000) (h2 : 0 ≤ bidders ∧ bidders ≤ 2000000) (h : bidB x lots bidders = r) :
    Calls Try.prog 41 #[.agg #[.int .i64 x.bidder, .int .i64 x.lot, .int .i64 x.offer], .int .i64 lots, .int .i64 bidders] w fun e w' => e = .returned (.bool r) ∧ Below w.heap.size w w' := by
  subst h; exact implBidOk x lots bidders w h1 h2
theorem implFind_eq {z : Int} (A : Option Addr) (xs : List Bid) (n c : Nat) (b l : Int) (w : World) (hx : Rd w A xs) (hnx : n = xs.length) (h : findAt b l 0 xs = z) :
    Calls Try.prog 42 #[.slice A n c, .int .i64 b, .int .i64 l] w fun e w' => e = .returned (.int .i64 z) ∧ Below w.heap.size w w' := by
  subst h; exact implFind A xs n c b l w hx hnx
theorem take_len {α : Type} {xs : List α} {k : Nat} (h : k < xs.length) : k = (xs.take k).length := by rw [List.length_take]; omega

set_option maxHeartbeats 2000000 in
theorem implValidTd0 (v : Value) (t : Tender) (w : World) (h : RdTender w v t) :
    Calls Try.prog 16 #[v] w fun e w' => e = .returned (.bool (validTd t)) ∧ Below w.heap.size w w' := by
  obtain ⟨A, c, B, d, rfl, hA, hB, hd⟩ := h
  have HB := hid fun o => (Below.refl w.heap.size w).alloc (Nat.le_refl _) o
  unfold validTd
  by_cases h1 : inB t.lots 1 8 = true
  · by_cases h2 : inB t.most.length 1 6 = true
    · have b1 := inB_true.1 h1
      have b2 := inB_true.1 h2
      have hn := hB.len
      go_enter Try.func16, Try.ntmps16
      go_wp2_with (first | (go_at_call 37; refine (implIn _ _ _ _).mono ?_; rintro e w' ⟨rfl, rfl⟩) | (go_at_call 38; refine (sizeInts _ _ _ _).mono ?_; rintro e w' ⟨rfl, rfl⟩))
      refine (implAll8 _ _ _ _ (hA.alloc _)).mono ?_
      rintro e w' ⟨rfl, rfl⟩
      by_cases h3 : mostB t.most = true
      · rw [h3]
        go_wp2_with fail
        obtain ⟨w0, hw0⟩ : ∃ x, w.alloc (.cells #[.int .i64 t.lots, .slice A t.most.length c, .slice B t.bids.length d] 30) = x := ⟨_, rfl⟩
        rw [hw0]
        have hb0 : Below w.heap.size w w0 := by rw [← hw0]; exact HB.out _
        have k0 : w0.cell? ⟨w.heap.size, 0, none⟩ = some (.int .i64 t.lots) := by rw [← hw0]; simp [go_sem]
        have k1 : w0.cell? ⟨w.heap.size, 1, none⟩ = some (.slice A t.most.length c) := by rw [← hw0]; simp [go_sem]
        have k2 : w0.cell? ⟨w.heap.size, 2, none⟩ = some (.slice B t.bids.length d) := by rw [← hw0]; simp [go_sem]
        have HB0 := hid hb0
        have rB := hB.below hb0
        clear hw0 hb0 hB hA
        go_loopw [25] (fun i wr => ∃ k : Nat, k ≤ t.bids.length ∧ i = .int .i64 k ∧ bidsTo t k ∧ Below w0.heap.size w0 wr) (fun i _ => t.bids.length - (intOf i).toNat)
        case atStart => exact ⟨0, Nat.zero_le _, rfl, fun k hk => absurd hk (by omega), Below.refl _ _⟩
        case round =>
          obtain ⟨k, hk, rfl, hm, hq⟩ := hrel
          have Hm := hid hm
          have HQ := hid hq
          have k0' := box_cell hq k0
          have k1' := box_cell hq k1
          have k2' := box_cell hq k2
          clear hm k0 k1 k2
          by_cases hlt : k < t.bids.length
          · have r2 := rB.below hq
            have RT := hid (r2.take k)
            obtain ⟨b, off, rfl, c1, c2, c3⟩ := r2.bid hlt
            have hkd : k ≤ d := by omega
            clear r2 rB hq
            cases g1 : bidB t.bids[k] t.lots t.most.length with
            | true =>
              obtain ⟨z, hz⟩ : ∃ z, findAt t.bids[k].bidder t.bids[k].lot 0 (t.bids.take k) = z := ⟨_, rfl⟩
              have HZ := hid hz
              have G1 := hid g1
              have HV := hid (bidAt_eq (hk := hlt) g1 hz)
              by_cases g3 : z < 0
              · clear hz g1
                go_wp2_with fail
                refine wp_region_more (by kernel_rfl) (by kernel_rfl) ?_
                repeat (go_big_quiet_step ((first
                  | (go_at_call 38; exact quiet_same (sizeInts _ _ _ _))
                  | (go_at_call 41; exact quiet_below (implBidOk_eq _ _ _ _ (by omega) (by omega) G1.out))
                  | (go_at_call 42; exact quiet_below (implFind_eq _ _ _ _ _ _ _ (RT.out.alloc _).more (take_len hlt) HZ.out)))))
                refine wpQuiet_nil ?_
                rintro _ ⟨nq, rfl⟩
                go_wp2_with fail
                go_roundw
                case rel => exact ⟨k + 1, by omega, by go_num, bids_next Hm.out hlt (by rw [HV.out]; simp; exact g3), HQ.out.trans ((((Below.refl _ _).alloc (Nat.le_refl _) _).trans (more_below.mono (by simp))).mono HQ.out.size)⟩
                case measure => simp [intOf]; omega
              · clear hz g1
                go_wp2_with fail
                refine wp_region_more (by kernel_rfl) (by kernel_rfl) ?_
                repeat (go_big_quiet_step ((first
                  | (go_at_call 38; exact quiet_same (sizeInts _ _ _ _))
                  | (go_at_call 41; exact quiet_below (implBidOk_eq _ _ _ _ (by omega) (by omega) G1.out))
                  | (go_at_call 42; exact quiet_below (implFind_eq _ _ _ _ _ _ _ (RT.out.alloc _).more (take_len hlt) HZ.out)))))
                refine wpQuiet_nil ?_
                rintro _ ⟨nq, rfl⟩
                go_wp2_with fail
                go_ret
                exact ⟨ret_bool (by rw [bids_no hlt (by rw [HV.out]; simp; omega)]; simp), (HB0.out.trans (HQ.out.mono HB0.out.size)).trans ((((Below.refl _ _).alloc (Nat.le_refl _) _).trans (more_below.mono (by simp))).mono (HB0.out.trans (HQ.out.mono HB0.out.size)).size)⟩
            | false =>
              have G1 := hid g1
              have HV := hid (bidAt_eq (hk := hlt) g1 rfl)
              have HZ : Hid (findAt t.bids[k].bidder t.bids[k].lot 0 (t.bids.take k) = findAt t.bids[k].bidder t.bids[k].lot 0 (t.bids.take k)) := hid rfl
              clear g1
              go_wp2_with fail
              refine wp_region_more (by kernel_rfl) (by kernel_rfl) ?_
              repeat (go_big_quiet_step ((first
                | (go_at_call 38; exact quiet_same (sizeInts _ _ _ _))
                | (go_at_call 41; exact quiet_below (implBidOk_eq _ _ _ _ (by omega) (by omega) G1.out))
                | (go_at_call 42; exact quiet_below (implFind_eq _ _ _ _ _ _ _ (RT.out.alloc _).more (take_len hlt) HZ.out)))))
              refine wpQuiet_nil ?_
              rintro _ ⟨nq, rfl⟩
              go_wp2_with fail
              go_ret
              exact ⟨ret_bool (by rw [bids_no hlt (by rw [HV.out]; rfl)]; simp), (HB0.out.trans (HQ.out.mono HB0.out.size)).trans ((((Below.refl _ _).alloc (Nat.le_refl _) _).trans (more_below.mono (by simp))).mono (HB0.out.trans (HQ.out.mono HB0.out.size)).size)⟩
          · have hkl : Hid (k = t.bids.length) := by show k = t.bids.length; omega
            clear rB hq
            go_wp2_with fail
            go_ret
            exact ⟨ret_bool (by rw [h1, h2, h3, bids_all (by have := Hm.out; rw [hkl.out] at this; exact this)]; rfl), HB0.out.trans (HQ.out.mono HB0.out.size)⟩
      · rw [Bool.not_eq_true] at h3
        rw [h3]
        go_wp2_with fail
        go_ret
        exact ⟨ret_bool (by rw [h3]; simp), HB.out _⟩
    · go_enter Try.func16, Try.ntmps16
      go_wp2_with (first | (go_at_call 37; refine (implIn _ _ _ _).mono ?_; rintro e w' ⟨rfl, rfl⟩) | (go_at_call 38; refine (sizeInts _ _ _ _).mono ?_; rintro e w' ⟨rfl, rfl⟩))
      go_ret
      exact ⟨ret_bool (by rw [Bool.not_eq_true] at h2; simp [h2]), HB.out _⟩
  · go_enter Try.func16, Try.ntmps16
    go_wp2_with (first | (go_at_call 37; refine (implIn _ _ _ _).mono ?_; rintro e w' ⟨rfl, rfl⟩) | (go_at_call 38; refine (sizeInts _ _ _ _).mono ?_; rintro e w' ⟨rfl, rfl⟩))
    go_ret
    exact ⟨ret_bool (by rw [Bool.not_eq_true] at h1; simp [h1]), HB.out _⟩
theorem specBid_eq {r : Bool} (b off : Nat) (x : Bid) (lots bidders : Int) (w : World) (c1 : w.cell? ⟨b, off, none⟩ = some (.int .i64 x.bidder)) (c2 : w.cell? ⟨b, off + 1, none⟩ = some (.int .i64 x.lot)) (c3 : w.cell? ⟨b, off + 2, none⟩ = some (.int .i64 x.offer))
    (h1 : 0 ≤ lots ∧ lots ≤ 1000000) (h2 : 0 ≤ bidders ∧ bidders ≤ 2000000) (h : bidB x lots bidders = r) :
    Calls Try.prog 55 #[.pointer (some ⟨b, off, none⟩), .int .i64 lots, .int .i64 bidders] w fun e w' => e = .returned (.bool r) ∧ w = w' := by
  subst h; exact specBid b off x lots bidders w c1 c2 c3 h1 h2
theorem specFind_eq {z : Int} (A : Option Addr) (xs : List Bid) (n c : Nat) (b l : Int) (w : World) (hx : Rd w A xs) (hnx : n = xs.length) (h : findAt b l 0 xs = z) :
    Calls Try.prog 56 #[.slice A n c, .int .i64 b, .int .i64 l] w fun e w' => e = .returned (.int .i64 z) ∧ w = w' := by
  subst h; exact specFind A xs n c b l w hx hnx
theorem box_more {w x : World} {p : Addr} {v : Value} (h : w.cell? p = some v) : (w.more x).cell? p = some v := box_cell more_below h

set_option maxHeartbeats 4000000 in
theorem specOkTd (g o : Nat) (t : Tender) (w : World) (h : PtTender w g o t) :
    Calls Try.prog 36 #[.pointer (some ⟨g, o, none⟩)] w fun e w' => e = .returned (.bool (validTd t)) ∧ Below w.heap.size w w' := by
  obtain ⟨A, c, B, d, ⟨e1, e2, e3⟩, hA, hB, hd⟩ := h
  have hm := hA.len
  have hn := hB.len
  unfold validTd
  by_cases h1 : inB t.lots 1 8 = true
  · by_cases h2 : inB t.most.length 1 6 = true
    · have b1 := inB_true.1 h1
      have b2 := inB_true.1 h2
      go_enter Try.func36, Try.ntmps36
      go_wp2_with (go_at_call 54; refine (specIn _ _ _ _).mono ?_; rintro e w' ⟨rfl, rfl⟩)
      go_loop [4] (fun i => ∃ k : Nat, k ≤ t.most.length ∧ i = .int .i64 k ∧ mostTo t.most k) (fun i => t.most.length - (intOf i).toNat)
      case atStart => exact ⟨0, Nat.zero_le _, rfl, fun k hk => absurd hk (by omega)⟩
      case round =>
        obtain ⟨k, hk, rfl, hmt⟩ := hrel
        have Hm := hid hmt
        clear hmt
        by_cases hlt : k < t.most.length
        · obtain ⟨b, off, rfl, c1⟩ := hA.int hlt
          clear hA hB
          by_cases h3 : inB t.most[k] 0 8 = true
          · go_wp2_with (go_at_call 54; refine (specIn _ _ _ _).mono ?_; rintro e w' ⟨rfl, rfl⟩)
            go_round
            case rel => exact ⟨k + 1, by omega, by go_num, most_next Hm.out hlt h3⟩
            case measure => simp [intOf]; omega
          · rw [Bool.not_eq_true] at h3
            go_wp2_with (go_at_call 54; refine (specIn _ _ _ _).mono ?_; rintro e w' ⟨rfl, rfl⟩)
            go_ret
            exact ⟨ret_bool (by rw [most_no hlt h3]; simp), Below.refl _ _⟩
        · have hkl : Hid (k = t.most.length) := by show k = t.most.length; omega
          have HM : Hid (mostB t.most = true) := most_all (by have := Hm.out; rw [hkl.out] at this; exact this)
          clear hA
          go_wp2_with fail
          go_loopw [5] (fun i wr => ∃ k : Nat, k ≤ t.bids.length ∧ i = .int .i64 k ∧ bidsTo t k ∧ ∃ q, wr = w.more q) (fun i _ => t.bids.length - (intOf i).toNat)
          case atStart => exact ⟨0, Nat.zero_le _, rfl, fun k hk => absurd hk (by omega), more_self⟩
          case round =>
            obtain ⟨k, hk, rfl, hm, q, rfl⟩ := hrel
            have Hm := hid hm
            clear hm
            by_cases hlt : k < t.bids.length
            · have RT := hid (hB.take k)
              obtain ⟨b, off, rfl, c1, c2, c3⟩ := hB.bid hlt
              have hkd : k ≤ d := by omega
              clear hB
              cases g1 : bidB t.bids[k] t.lots t.most.length with
              | true =>
                obtain ⟨z, hz⟩ : ∃ z, findAt t.bids[k].bidder t.bids[k].lot 0 (t.bids.take k) = z := ⟨_, rfl⟩
                have HZ := hid hz
                have G1 := hid g1
                have HV := hid (bidAt_eq (hk := hlt) g1 hz)
                by_cases g3 : z < 0
                · clear hz g1
                  go_wp2_with fail
                  refine wp_region_more (by kernel_rfl) (by kernel_rfl) ?_
                  repeat (go_big_quiet_step ((first
                    | (go_at_call 55; exact quiet_same (specBid_eq _ _ _ _ _ _ (box_more (box_more c1)) (box_more (box_more c2)) (box_more (box_more c3)) (by omega) (by omega) G1.out))
                    | (go_at_call 56; exact quiet_same (specFind_eq _ _ _ _ _ _ _ RT.out.more.more (take_len hlt) HZ.out)))))
                  refine wpQuiet_nil ?_
                  rintro _ ⟨nq, rfl⟩
                  go_wp2_with fail
                  go_roundw
                  case rel => exact ⟨k + 1, by omega, by go_num, bids_next Hm.out hlt (by rw [HV.out]; simp; exact g3), more_trans⟩
                  case measure => simp [intOf]; omega
                · clear hz g1
                  go_wp2_with fail
                  refine wp_region_more (by kernel_rfl) (by kernel_rfl) ?_
                  repeat (go_big_quiet_step ((first
                    | (go_at_call 55; exact quiet_same (specBid_eq _ _ _ _ _ _ (box_more (box_more c1)) (box_more (box_more c2)) (box_more (box_more c3)) (by omega) (by omega) G1.out))
                    | (go_at_call 56; exact quiet_same (specFind_eq _ _ _ _ _ _ _ RT.out.more.more (take_len hlt) HZ.out)))))
                  refine wpQuiet_nil ?_
                  rintro _ ⟨nq, rfl⟩
                  go_wp2_with fail
                  go_ret
                  exact ⟨ret_bool (by rw [bids_no hlt (by rw [HV.out]; simp; omega)]; simp), below_go more_below more_size⟩
              | false =>
                have G1 := hid g1
                have HV := hid (bidAt_eq (hk := hlt) g1 rfl)
                have HZ : Hid (findAt t.bids[k].bidder t.bids[k].lot 0 (t.bids.take k) = findAt t.bids[k].bidder t.bids[k].lot 0 (t.bids.take k)) := hid rfl
                clear g1
                go_wp2_with fail
                refine wp_region_more (by kernel_rfl) (by kernel_rfl) ?_
                repeat (go_big_quiet_step ((first
                  | (go_at_call 55; exact quiet_same (specBid_eq _ _ _ _ _ _ (box_more (box_more c1)) (box_more (box_more c2)) (box_more (box_more c3)) (by omega) (by omega) G1.out))
                  | (go_at_call 56; exact quiet_same (specFind_eq _ _ _ _ _ _ _ RT.out.more.more (take_len hlt) HZ.out)))))
                refine wpQuiet_nil ?_
                rintro _ ⟨nq, rfl⟩
                go_wp2_with fail
                go_ret
                exact ⟨ret_bool (by rw [bids_no hlt (by rw [HV.out]; rfl)]; simp), below_go more_below more_size⟩
            · have hkl : Hid (k = t.bids.length) := by show k = t.bids.length; omega
              clear hB
              go_wp2_with fail
              go_ret
              exact ⟨ret_bool (by rw [h1, h2, HM.out, bids_all (by have := Hm.out; rw [hkl.out] at this; exact this)]; rfl), more_below⟩
    · go_enter Try.func36, Try.ntmps36
      go_wp2_with (go_at_call 54; refine (specIn _ _ _ _).mono ?_; rintro e w' ⟨rfl, rfl⟩)
      go_ret
      exact ⟨ret_bool (by rw [Bool.not_eq_true] at h2; simp [h2]), Below.refl _ _⟩
  · go_enter Try.func36, Try.ntmps36
    go_wp2_with (go_at_call 54; refine (specIn _ _ _ _).mono ?_; rintro e w' ⟨rfl, rfl⟩)
    go_ret
    exact ⟨ret_bool (by rw [Bool.not_eq_true] at h1; simp [h1]), Below.refl _ _⟩

theorem RdTender.box {w : World} {v : Value} {t : Tender} (h : RdTender w v t) : ∃ cs : Array Value, v = .agg cs ∧ PtTender (w.alloc (.cells cs 30)) w.heap.size 0 t := by
  obtain ⟨A, c, B, d, rfl, hA, hB, hd⟩ := h
  exact ⟨_, rfl, A, c, B, d, ⟨by simp [go_sem], by simp [go_sem], by simp [go_sem]⟩, hA.alloc _, hB.alloc _, hd⟩
set_option maxHeartbeats 1000000 in
theorem specValidTd (v : Value) (t : Tender) (w : World) (h : RdTender w v t) :
    Calls Try.prog 15 #[v] w fun e w' => e = .returned (.bool (validTd t)) ∧ Below w.heap.size w w' := by
  have hb : ∀ o, Below w.heap.size w (w.alloc o) := fun o => (Below.refl w.heap.size w).alloc (Nat.le_refl _) o
  obtain ⟨cs, rfl, hp⟩ := h.box
  clear h
  go_enter Try.func15, Try.ntmps15
  go_wp2_with fail
  refine (specOkTd _ _ _ _ hp).mono ?_
  rintro e w' ⟨rfl, hb2⟩
  go_wp2_with fail
  go_ret
  exact ⟨rfl, (hb _).trans (hb2.mono (hb _).size)⟩
end Go.Proofs.Ytgkhjikkbjmadaa
