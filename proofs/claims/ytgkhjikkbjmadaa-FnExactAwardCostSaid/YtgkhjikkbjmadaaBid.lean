/- Bid: what a slice of them is in cells, and what the law's own helpers make of it. Written by a program (genstruct.py). -/
import Derived.Test.YtgkhjikkbjmadaaLaw
import Derived.Test.YtgkhjikkbjmadaaMarkInt
namespace Go.Proofs.Ytgkhjikkbjmadaa
open Go.RowKit
structure Bid where
  bidder : Int
  lot : Int
  offer : Int
  deriving DecidableEq
instance : Enc Bid := ⟨3, fun d => [.int .i64 d.bidder, .int .i64 d.lot, .int .i64 d.offer], fun _ => rfl, fun _ u h => by simp at h; rcases h with rfl | rfl | rfl <;> rfl⟩
theorem Rd.bid {w : World} {A : Option Addr} {xs : List Bid} (h : Rd w A xs) {k : Nat} (hk : k < xs.length) : ∃ b off, A = some ⟨b, off, none⟩ ∧
    w.cell? ⟨b, off + k * 3, none⟩ = some (.int .i64 xs[k].bidder) ∧ w.cell? ⟨b, off + k * 3 + 1, none⟩ = some (.int .i64 xs[k].lot) ∧ w.cell? ⟨b, off + k * 3 + 2, none⟩ = some (.int .i64 xs[k].offer) := by
  obtain ⟨b, off, hA, hc⟩ := h.2 k hk
  exact ⟨b, off, hA, hc 0 _ rfl, hc 1 _ rfl, hc 2 _ rfl⟩
theorem guardBid : Try.prog.eqGuardType Try.prog.depth 46 = false := by kernel_rfl
theorem stoodBid : Try.prog.stoodInHeld 46 = false := by kernel_rfl
theorem fieldsBid : Try.prog.underlying 46 = some (.struct (Try.prog.fieldsOf 46)) := by kernel_rfl
attribute [go_sem] guardBid
theorem bid_beq (d e : Bid) : (d == e) = (d.bidder == e.bidder && d.lot == e.lot && d.offer == e.offer) := by
  rw [Bool.eq_iff_iff]
  cases d; cases e; simp [and_assoc]
@[go_sem ↓] theorem neqBid (a0 b0 c0 a1 b1 c1 : Int) (w : World) : (binOp .neq 46 (.agg #[.int .i64 a0, .int .i64 b0, .int .i64 c0]) (.agg #[.int .i64 a1, .int .i64 b1, .int .i64 c1])).run Try.prog w = .ok (.bool (!((⟨a0, b0, c0⟩ : Bid) == ⟨a1, b1, c1⟩))) w := by
  rw [run_neq_struct, run_equalIn_struct _ _ _ _ _ fieldsBid stoodBid]
  simp [go_sem, Try.underlying46]
  by_cases h0 : a0 = a1 <;> by_cases h1 : b0 = b1 <;> by_cases h2 : c0 = c1 <;> simp [h0, h1, h2]
theorem elBid : El Try.prog 28 46 (⟨0, 0, 0⟩ : Bid) :=
  El.mk' (z := .agg #[.int .i64 0, .int .i64 0, .int .i64 0]) (bytes := 24) Try.underlying28 (by kernel_rfl) (by decide) rfl (by decide)
instance : OfInts Bid := ⟨fun g => ⟨⟨g 0, g 1, g 2⟩, fun j hj => by
  have : j = 0 ∨ j = 1 ∨ j = 2 := by have : j < 3 := hj; omega
  rcases this with rfl | rfl | rfl <;> rfl⟩⟩
theorem Own.bid {w : World} {base : Nat} {e : TypeId} {g n c : Nat} {xs : List Bid} (h : Own w base e (.slice (some ⟨g, 0, none⟩) n c) xs) {k : Nat} (hk : k < xs.length) :
    (w.cell? ⟨g, k * 3, none⟩ = some (.int .i64 xs[k].bidder) ∧ w.cell? ⟨g, k * 3 + 1, none⟩ = some (.int .i64 xs[k].lot) ∧ w.cell? ⟨g, k * 3 + 2, none⟩ = some (.int .i64 xs[k].offer)) ∧
    (w.frozen? ⟨g, k * 3, none⟩ = false ∧ w.frozen? ⟨g, k * 3 + 1, none⟩ = false ∧ w.frozen? ⟨g, k * 3 + 2, none⟩ = false) :=
  ⟨⟨h.cell (j := 0) hk rfl, h.cell (j := 1) hk rfl, h.cell (j := 2) hk rfl⟩, h.free _, h.free _, h.free _⟩
theorem Own.bidSet {w : World} {base : Nat} {e : TypeId} {g n c : Nat} {xs : List Bid} (h : Own w base e (.slice (some ⟨g, 0, none⟩) n c) xs) {k : Nat} (hk : k < xs.length) (d : Bid) :
    Own (((w.setCell ⟨g, k * 3, none⟩ (.int .i64 d.bidder)).setCell ⟨g, k * 3 + 1, none⟩ (.int .i64 d.lot)).setCell ⟨g, k * 3 + 2, none⟩ (.int .i64 d.offer)) base e (.slice (some ⟨g, 0, none⟩) n c) (xs.set k d) := by
  have h1 := h.set (j := 0) (u := .int .i64 d.bidder) (y := ⟨d.bidder, xs[k].lot, xs[k].offer⟩) (k := k) (by simpa using hk) (by decide) (by simp [Enc.enc])
  have h2 := h1.set (j := 1) (u := .int .i64 d.lot) (y := ⟨d.bidder, d.lot, xs[k].offer⟩) (k := k) (by simpa using hk) (by decide) (by simp [Enc.enc])
  have h3 := h2.set (j := 2) (u := .int .i64 d.offer) (y := d) (k := k) (by simpa using hk) (by decide) (by simp [Enc.enc])
  simp only [List.set_set] at h3
  exact h3
theorem Own.bid_bidder {w : World} {base : Nat} {e : TypeId} {g n c : Nat} {xs : List Bid} (h : Own w base e (.slice (some ⟨g, 0, none⟩) n c) xs) {k : Nat} (hk : k < xs.length) (z : Int) :
    Own (w.setCell ⟨g, k * 3, none⟩ (.int .i64 z)) base e (.slice (some ⟨g, 0, none⟩) n c) (xs.set k { xs[k] with bidder := z }) :=
  h.set (j := 0) hk (by decide) rfl
theorem Own.bid_lot {w : World} {base : Nat} {e : TypeId} {g n c : Nat} {xs : List Bid} (h : Own w base e (.slice (some ⟨g, 0, none⟩) n c) xs) {k : Nat} (hk : k < xs.length) (z : Int) :
    Own (w.setCell ⟨g, k * 3 + 1, none⟩ (.int .i64 z)) base e (.slice (some ⟨g, 0, none⟩) n c) (xs.set k { xs[k] with lot := z }) :=
  h.set (j := 1) hk (by decide) rfl
theorem Own.bid_offer {w : World} {base : Nat} {e : TypeId} {g n c : Nat} {xs : List Bid} (h : Own w base e (.slice (some ⟨g, 0, none⟩) n c) xs) {k : Nat} (hk : k < xs.length) (z : Int) :
    Own (w.setCell ⟨g, k * 3 + 2, none⟩ (.int .i64 z)) base e (.slice (some ⟨g, 0, none⟩) n c) (xs.set k { xs[k] with offer := z }) :=
  h.set (j := 2) hk (by decide) rfl

set_option maxHeartbeats 400000 in
theorem szBidS (A : Option Addr) (n c : Nat) (left : Int) (w : World) (hn : n ≤ maxLen) (hl : 0 ≤ left) (hl2 : left ≤ 1048576) :
    Calls Try.prog 30 #[.slice A n c, .int .i64 left] w fun e w' => e = .returned (.int .i64 (if left < n then -1 else left - n)) ∧ w = w' := by
  unfold maxLen at hn
  go_enter Try.func30, Try.ntmps30
  go_wp2
  · go_ret
    exact ⟨rfl, rfl⟩
  · go_ret
    exact ⟨rfl, rfl⟩
set_option maxHeartbeats 400000 in
theorem toBid (a0 b0 c0 : Int) (w : World) :
    Calls Try.prog 52 #[.agg #[.int .i64 a0, .int .i64 b0, .int .i64 c0]] w fun e w' => e = .returned (.agg #[.int .i64 a0, .int .i64 b0, .int .i64 c0]) ∧ Below w.heap.size w w' := by
  go_enter Try.func52, Try.ntmps52
  go_wp2
  exact bodyPost_ret (v := .agg #[.int .i64 a0, .int .i64 b0, .int .i64 c0]) (by simp [results, Try.results52, go_sem]) rfl ⟨rfl, (((Below.refl _ _).alloc (Nat.le_refl _) _).alloc (by simp) _).alloc (by simp; omega) _⟩
set_option maxHeartbeats 400000 in
theorem eqBid (a0 b0 c0 a1 b1 c1 : Int) (w : World) :
    Calls Try.prog 53 #[.agg #[.int .i64 a0, .int .i64 b0, .int .i64 c0], .agg #[.int .i64 a1, .int .i64 b1, .int .i64 c1]] w fun e w' => e = .returned (.bool ((⟨a0, b0, c0⟩ : Bid) == ⟨a1, b1, c1⟩)) ∧ Below w.heap.size w w' := by
  have hb : ∀ o1 o2, Below w.heap.size w ((w.alloc o1).alloc o2) := fun _ _ => ((Below.refl _ _).alloc (Nat.le_refl _) _).alloc (by simp) _
  have HB := hid hb
  clear hb
  rw [bid_beq]
  go_enter Try.func53, Try.ntmps53
  go_wp2
  all_goals
    go_ret
    exact ⟨ret_bool (by simp_all), HB.out _ _⟩
set_option maxHeartbeats 400000 in
theorem eqBidS (A B : Option Addr) (xs ys : List Bid) (c d : Nat) (w : World) (hx : Rd w A xs) (hy : Rd w B ys) :
    Calls Try.prog 35 #[.slice A xs.length c, .slice B ys.length d] w fun e w' => e = .returned (.bool (xs == ys)) ∧ Below w.heap.size w w' := by
  have hn := hx.len
  have hm := hy.len
  by_cases hl : xs.length = ys.length
  · have Hl := hid hl
    have hl' : ((xs.length : Int) != ys.length) = false := by simp [hl]
    clear hl
    go_enter Try.func35, Try.ntmps35
    go_wp2
    go_loopw [5] (fun i wr => ∃ k : Nat, k ≤ xs.length ∧ i = .int .i64 k ∧ xs.take k = ys.take k ∧ (∃ m, wr = w.more m)) (fun i _ => xs.length - (intOf i).toNat)
    case atStart => exact ⟨0, Nat.zero_le _, rfl, rfl, more_self⟩
    case round =>
      obtain ⟨k, hk, rfl, ht, m, rfl⟩ := hrel
      have Ht := hid ht
      clear ht
      by_cases hlt : k < xs.length
      · have hlt2 : k < ys.length := by rw [← Hl.out]; exact hlt
        obtain ⟨b, off, rfl, c0, c1, c2⟩ := hx.bid hlt
        obtain ⟨b', off', rfl, d0, d1, d2⟩ := hy.bid hlt2
        clear hx hy
        by_cases he : xs[k] = ys[k]
        · have heb : ((⟨xs[k].bidder, xs[k].lot, xs[k].offer⟩ : Bid) == ⟨ys[k].bidder, ys[k].lot, ys[k].offer⟩) = true := by rw [he]; simp
          have He := hid he
          clear he
          go_wp2
          refine wp_region_more (by kernel_rfl) (by kernel_rfl) ?_
          repeat (go_big_quiet_step ((go_at_call 53; exact quiet_below (eqBid _ _ _ _ _ _ _))))
          refine wpQuiet_nil ?_
          rintro _ ⟨nq, rfl⟩
          go_wp2
          go_roundw
          case rel => exact ⟨k + 1, by omega, by go_num, same_step hlt hlt2 Ht.out He.out, more_trans⟩
          case measure => simp [intOf]; omega
        · have heb : ((⟨xs[k].bidder, xs[k].lot, xs[k].offer⟩ : Bid) == ⟨ys[k].bidder, ys[k].lot, ys[k].offer⟩) = false := beq_no he
          have He := hid he
          clear he
          go_wp2
          refine wp_region_more (by kernel_rfl) (by kernel_rfl) ?_
          repeat (go_big_quiet_step ((go_at_call 53; exact quiet_below (eqBid _ _ _ _ _ _ _))))
          refine wpQuiet_nil ?_
          rintro _ ⟨nq, rfl⟩
          go_wp2
          go_ret
          exact ⟨ret_bool (same_no hlt hlt2 He.out), below_go more_below more_size⟩
      · go_wp2
        go_ret
        exact ⟨ret_bool (same_all Hl.out hlt Ht.out), more_below⟩
  · have Hl := hid hl
    have hl' : ((xs.length : Int) != ys.length) = true := by rw [bne_iff_ne]; omega
    clear hl
    go_enter Try.func35, Try.ntmps35
    go_wp2
    go_ret
    exact ⟨ret_bool (same_short Hl.out), Below.refl _ _⟩
set_option maxHeartbeats 400000 in
theorem toBidS (A : Option Addr) (xs : List Bid) (c : Nat) (w : World) (hx : Rd w A xs) :
    Calls Try.prog 32 #[.slice A xs.length c] w fun e w' => ∃ v, e = .returned v ∧ Own w' w.heap.size 46 v xs ∧ Below w.heap.size w w' := by
  have hn := hx.len
  go_enter Try.func32, Try.ntmps32
  go_wp2_with (at_make; refine wpList_make' elBid _ rfl _ _ rfl w.heap.size .i64 .i64 _ _ xs.length rfl rfl rfl rfl hn (Nat.le_refl _) ?_; intro w1 hown hb1)
  go_loopw [4] (fun i wr => ∃ k : Nat, k ≤ xs.length ∧ i = .int .i64 k ∧ Own wr w.heap.size 46 (.slice (some ⟨w.heap.size, 0, none⟩) xs.length xs.length) (xs.take k ++ List.replicate (xs.length - k) ⟨0, 0, 0⟩) ∧ Below w.heap.size w wr) (fun i _ => xs.length - (intOf i).toNat)
  case atStart => exact ⟨0, Nat.zero_le _, rfl, by simpa using hown, hb1⟩
  case round =>
    obtain ⟨k, hk, rfl, hown, hb⟩ := hrel
    clear hb1
    by_cases hlt : k < xs.length
    · obtain ⟨b, off, rfl, c0, c1, c2⟩ := (hx.below hb).bid hlt
      have hk' : k < (xs.take k ++ List.replicate (xs.length - k) (⟨0, 0, 0⟩ : Bid)).length := by simp; omega
      clear hx
      go_wp2_with fail
      refine (toBid _ _ _ _).mono ?_
      rintro e w2 ⟨rfl, hb2⟩
      obtain ⟨y, rfl⟩ := below_ex hb2
      have hown2 := hown.more (x := y)
      obtain ⟨⟨d0, d1, d2⟩, f0, f1, f2⟩ := hown2.bid hk'
      have hown3 := hown2.bidSet hk' xs[k]
      rw [set_step rfl hlt] at hown3
      have HO := hid hown3
      clear hown hown2 hown3
      go_wp2
      go_roundw
      case rel => exact ⟨k + 1, by omega, by go_num, HO.out, (((below_go hb hb.size).setCell (Nat.le_refl _) _).setCell (Nat.le_refl _) _).setCell (Nat.le_refl _) _⟩
      case measure => simp [intOf]; omega
    · go_wp2
      go_ret
      refine ⟨_, rfl, ?_, hb⟩
      rw [List.take_of_length_le (by omega), Nat.sub_eq_zero_of_le (by omega)] at hown
      simpa using hown
end Go.Proofs.Ytgkhjikkbjmadaa
