/- ValidTender: the walks. -/
import Derived.Test.YtgkhjikkbjmadaaTender
import Derived.Test.YtgkhjikkbjmadaaIn
namespace Go.Proofs.Ytgkhjikkbjmadaa
open Go.RowKit
set_option linter.unusedVariables false
def bidB (x : Bid) (lots bidders : Int) : Bool := inB x.bidder 0 (bidders - 1) && inB x.lot 0 (lots - 1) && inB x.offer 1 1000000
/-- The index of the first bid of a bidder for a lot, counted from k; -1 if there is none. -/
def findAt (b l : Int) : Nat → List Bid → Int
  | _, [] => -1
  | k, x :: r => if x.bidder = b ∧ x.lot = l then (k : Int) else findAt b l (k + 1) r
theorem find_drop {b l : Int} {xs : List Bid} {k : Nat} (hk : k < xs.length) : findAt b l k (xs.drop k) = if xs[k].bidder = b ∧ xs[k].lot = l then (k : Int) else findAt b l (k + 1) (xs.drop (k + 1)) := by
  rw [List.drop_eq_getElem_cons hk]
  rfl
theorem find_end {b l : Int} {xs : List Bid} {k : Nat} (hk : ¬ k < xs.length) : findAt b l k (xs.drop k) = -1 := by
  rw [List.drop_of_length_le (by omega)]
  rfl
theorem find_le (b l : Int) : ∀ (xs : List Bid) (k : Nat), -1 ≤ findAt b l k xs ∧ findAt b l k xs < k + xs.length
  | [], k => by simp only [findAt]; omega
  | x :: r, k => by
    simp only [findAt, List.length_cons]
    split
    · omega
    · have := find_le b l r (k + 1)
      omega

set_option maxHeartbeats 1000000 in
theorem specFind (A : Option Addr) (xs : List Bid) (n c : Nat) (b l : Int) (w : World) (hx : Rd w A xs) (hnx : n = xs.length) :
    Calls Try.prog 56 #[.slice A n c, .int .i64 b, .int .i64 l] w fun e w' => e = .returned (.int .i64 (findAt b l 0 xs)) ∧ w = w' := by
  subst hnx
  have hn := hx.len
  go_enter Try.func56, Try.ntmps56
  go_wp2
  go_loop [7] (fun i => ∃ k : Nat, k ≤ xs.length ∧ i = .int .i64 k ∧ findAt b l k (xs.drop k) = findAt b l 0 xs) (fun i => xs.length - (intOf i).toNat)
  case atStart => exact ⟨0, Nat.zero_le _, rfl, rfl⟩
  case round =>
    obtain ⟨k, hk, rfl, hr⟩ := hrel
    by_cases hlt : k < xs.length
    · obtain ⟨b', off, rfl, c1, c2, c3⟩ := hx.bid hlt
      rw [find_drop hlt] at hr
      clear hx
      by_cases h1 : xs[k].bidder = b
      · by_cases h2 : xs[k].lot = l
        · rw [if_pos ⟨h1, h2⟩] at hr
          have Hr := hid hr
          clear hr
          go_wp2
          go_ret
          exact ⟨ret_int Hr.out, rfl⟩
        · rw [if_neg (fun h => h2 h.2)] at hr
          have Hr := hid hr
          clear hr
          go_wp2
          go_round
          case rel => exact ⟨k + 1, by omega, by go_num, Hr.out⟩
          case measure => simp [intOf]; omega
      · rw [if_neg (fun h => h1 h.1)] at hr
        have Hr := hid hr
        clear hr
        go_wp2
        go_round
        case rel => exact ⟨k + 1, by omega, by go_num, Hr.out⟩
        case measure => simp [intOf]; omega
    · rw [find_end hlt] at hr
      have Hr := hid hr
      clear hr hx
      go_wp2
      go_ret
      exact ⟨ret_int Hr.out, rfl⟩

set_option maxHeartbeats 1000000 in
theorem implFind (A : Option Addr) (xs : List Bid) (n c : Nat) (b l : Int) (w : World) (hx : Rd w A xs) (hnx : n = xs.length) :
    Calls Try.prog 42 #[.slice A n c, .int .i64 b, .int .i64 l] w fun e w' => e = .returned (.int .i64 (findAt b l 0 xs)) ∧ Below w.heap.size w w' := by
  subst hnx
  have hn := hx.len
  go_enter Try.func42, Try.ntmps42
  go_wp2
  go_loopw [11] (fun i wr => ∃ k : Nat, k ≤ xs.length ∧ i = .int .i64 k ∧ findAt b l k (xs.drop k) = findAt b l 0 xs ∧ ∃ q, wr = w.more q) (fun i _ => xs.length - (intOf i).toNat)
  case atStart => exact ⟨0, Nat.zero_le _, rfl, rfl, more_self⟩
  case round =>
    obtain ⟨k, hk, rfl, hr, q, rfl⟩ := hrel
    by_cases hlt : k < xs.length
    · obtain ⟨b', off, rfl, c1, c2, c3⟩ := hx.bid hlt
      rw [find_drop hlt] at hr
      clear hx
      by_cases h1 : xs[k].bidder = b
      · by_cases h2 : xs[k].lot = l
        · rw [if_pos ⟨h1, h2⟩] at hr
          have Hr := hid hr
          clear hr
          go_wp2
          go_ret
          exact ⟨ret_int Hr.out, more_below.alloc more_size _⟩
        · rw [if_neg (fun h => h2 h.2)] at hr
          have Hr := hid hr
          clear hr
          go_wp2
          go_roundw
          case rel => exact ⟨k + 1, by omega, by go_num, Hr.out, below_ex (more_below.alloc more_size _)⟩
          case measure => simp [intOf]; omega
      · rw [if_neg (fun h => h1 h.1)] at hr
        have Hr := hid hr
        clear hr
        go_wp2
        go_roundw
        case rel => exact ⟨k + 1, by omega, by go_num, Hr.out, below_ex (more_below.alloc more_size _)⟩
        case measure => simp [intOf]; omega
    · rw [find_end hlt] at hr
      have Hr := hid hr
      clear hr hx
      go_wp2
      go_ret
      exact ⟨ret_int Hr.out, more_below⟩

set_option maxHeartbeats 1000000 in
theorem implBidOk (x : Bid) (lots bidders : Int) (w : World) (h1 : 0 ≤ lots ∧ lots ≤ 1000000) (h2 : 0 ≤ bidders ∧ bidders ≤ 2000000) :
    Calls Try.prog 41 #[.agg #[.int .i64 x.bidder, .int .i64 x.lot, .int .i64 x.offer], .int .i64 lots, .int .i64 bidders] w fun e w' => e = .returned (.bool (bidB x lots bidders)) ∧ Below w.heap.size w w' := by
  have HB := hid fun o => (Below.refl w.heap.size w).alloc (Nat.le_refl _) o
  unfold bidB
  by_cases g1 : inB x.bidder 0 (bidders - 1) = true
  · by_cases g2 : inB x.lot 0 (lots - 1) = true
    all_goals
      go_enter Try.func41, Try.ntmps41
      go_wp2_with (go_at_call 37; refine (implIn _ _ _ _).mono ?_; rintro e w' ⟨rfl, rfl⟩)
      go_ret
      exact ⟨ret_bool (by simp [g1, g2]), HB.out _⟩
  · go_enter Try.func41, Try.ntmps41
    go_wp2_with (go_at_call 37; refine (implIn _ _ _ _).mono ?_; rintro e w' ⟨rfl, rfl⟩)
    go_ret
    exact ⟨ret_bool (by simp [g1]), HB.out _⟩
set_option maxHeartbeats 1000000 in
theorem specBid (b off : Nat) (x : Bid) (lots bidders : Int) (w : World) (c1 : w.cell? ⟨b, off, none⟩ = some (.int .i64 x.bidder)) (c2 : w.cell? ⟨b, off + 1, none⟩ = some (.int .i64 x.lot)) (c3 : w.cell? ⟨b, off + 2, none⟩ = some (.int .i64 x.offer))
    (h1 : 0 ≤ lots ∧ lots ≤ 1000000) (h2 : 0 ≤ bidders ∧ bidders ≤ 2000000) :
    Calls Try.prog 55 #[.pointer (some ⟨b, off, none⟩), .int .i64 lots, .int .i64 bidders] w fun e w' => e = .returned (.bool (bidB x lots bidders)) ∧ w = w' := by
  unfold bidB
  by_cases g1 : inB x.bidder 0 (bidders - 1) = true
  · by_cases g2 : inB x.lot 0 (lots - 1) = true
    all_goals
      go_enter Try.func55, Try.ntmps55
      go_wp2_with (go_at_call 54; refine (specIn _ _ _ _).mono ?_; rintro e w' ⟨rfl, rfl⟩)
      go_ret
      exact ⟨ret_bool (by simp [g1, g2]), rfl⟩
  · go_enter Try.func55, Try.ntmps55
    go_wp2_with (go_at_call 54; refine (specIn _ _ _ _).mono ?_; rintro e w' ⟨rfl, rfl⟩)
    go_ret
    exact ⟨ret_bool (by simp [g1]), rfl⟩
end Go.Proofs.Ytgkhjikkbjmadaa
