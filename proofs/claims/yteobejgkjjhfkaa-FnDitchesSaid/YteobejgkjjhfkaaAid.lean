/- The laws' own small helpers: a2Long, a2At, a2Has, a2Rises. -/
import Derived.Test.YteobejgkjjhfkaaBytes
import Derived.Test.YteobejgkjjhfkaaHas
namespace Go.Proofs.Yteobejgkjjhfkaa
open Go.RowKit
set_option linter.unusedVariables false
theorem hid_drop_cons {α : Type} {xs : List α} {k : Nat} (h : k < xs.length) : xs.drop k = xs[k] :: xs.drop (k + 1) := List.drop_eq_getElem_cons h
set_option maxHeartbeats 1000000 in
theorem l2Long_ (A B : Option Addr) (n m c d : Nat) (w : World) :
    Calls Try.prog 12 #[.slice A n c, .slice B m d] w fun e w' => e = .returned (.bool (decide (3000 < n) || decide (3000 < m))) ∧ w = w' := by
  by_cases h1 : 3000 < n
  · go_enter Try.func12, Try.ntmps12
    go_wp2
    go_ret
    exact ⟨ret_bool (by simp <;> omega), rfl⟩
  · by_cases h2 : 3000 < m
    all_goals
      go_enter Try.func12, Try.ntmps12
      go_wp2
      go_ret
      exact ⟨ret_bool (by first | (rw [Bool.eq_iff_iff]; simp; omega) | (simp [h1, h2]; done) | (simp; omega)), rfl⟩
set_option maxHeartbeats 1000000 in
theorem l2At_ (A : Option Addr) (bs : List Byt) (c : Nat) (i n : Int) (w : World) (hx : Rd w A bs) (hb : BytOk bs) (hi : 0 ≤ i) (hn : 1 ≤ n ∧ n ≤ 100000) :
    Calls Try.prog 14 #[.slice A bs.length c, .int .i64 i, .int .i64 n] w fun e w' => ∃ r, e = .returned (.int .i64 r) ∧ (0 ≤ r ∧ r ≤ n - 1) ∧ w = w' := by
  have hl := hx.len
  by_cases h1 : i < bs.length
  · have hk : i.toNat < bs.length := by omega
    obtain ⟨b, off, rfl, c1⟩ := hx.byt hk
    have hbb := hb _ (List.getElem_mem hk)
    generalize bs[i.toNat].n = bv at c1 hbb
    clear hx
    go_enter Try.func14, Try.ntmps14
    go_wp2
    go_ret
    exact ⟨bv % n, rfl, ⟨Int.emod_nonneg _ (by omega), by have := Int.emod_lt_of_pos bv (show 0 < n by omega); omega⟩, rfl⟩
  · clear hx
    go_enter Try.func14, Try.ntmps14
    go_wp2
    go_ret
    exact ⟨0, rfl, by omega, rfl⟩
set_option maxHeartbeats 1000000 in
theorem l2Has_ (A : Option Addr) (xs : List Int) (c : Nat) (n : Int) (w : World) (hx : Rd w A xs) :
    Calls Try.prog 34 #[.slice A xs.length c, .int .i64 n] w fun e w' => e = .returned (.bool (hasB xs n)) ∧ w = w' := by
  have hn := hx.len
  go_enter Try.func34, Try.ntmps34
  go_wp2
  go_loop [5] (fun i => ∃ k : Nat, k ≤ xs.length ∧ i = .int .i64 k ∧ hasNot xs n k) (fun i => xs.length - (intOf i).toNat)
  case atStart => exact ⟨0, Nat.zero_le _, rfl, fun k hk => absurd hk (by omega)⟩
  case round =>
    obtain ⟨k, hk, rfl, hr⟩ := hrel
    have Hr := hid hr
    clear hr
    by_cases hlt : k < xs.length
    · obtain ⟨b, off, rfl, c1⟩ := hx.int hlt
      clear hx
      by_cases h1 : xs[k] = n
      · have H1 := hid (has_yes hlt h1)
        have h1' : (xs[k] == n) = true := by simp [h1]
        clear h1
        go_wp2
        go_ret
        exact ⟨ret_bool H1.out, rfl⟩
      · have H1 := hid (has_next Hr.out hlt h1)
        have h1' : (xs[k] == n) = false := by simp [h1]
        clear h1
        go_wp2
        go_round
        case rel => exact ⟨k + 1, by omega, by go_num, H1.out⟩
        case measure => simp [intOf]; omega
    · clear hx
      go_wp2
      go_ret
      exact ⟨ret_bool (has_no hlt Hr.out), rfl⟩
/-- Strictly rising from 0 up to below n. -/
def UpTo (n : Int) (l : List Int) : Prop := (∀ a ∈ l, 0 ≤ a ∧ a < n) ∧ l.Pairwise (· < ·)
theorem upTo_at {n : Int} {l : List Int} (h : UpTo n l) {k : Nat} (hk : k < l.length) : (0 ≤ l[k] ∧ l[k] < n) ∧ ∀ h' : k - 1 < l.length, 0 < k → l[k - 1] < l[k] :=
  ⟨h.1 _ (List.getElem_mem hk), fun h' h0 => List.pairwise_iff_getElem.1 h.2 (k - 1) k h' hk (by omega)⟩
set_option maxHeartbeats 1000000 in
theorem l2Rises_ (A : Option Addr) (xs : List Int) (c : Nat) (n : Int) (w : World) (hx : Rd w A xs) (hu : UpTo n xs) (hn : 0 ≤ n ∧ n ≤ 100000) :
    Calls Try.prog 33 #[.slice A xs.length c, .int .i64 n] w fun e w' => e = .returned (.bool true) ∧ Below w.heap.size w w' := by
  have hl := hx.len
  go_enter Try.func33, Try.ntmps33
  go_wp2
  go_loopw [5] (fun i wr => ∃ k : Nat, k ≤ xs.length ∧ i = .int .i64 k ∧ ∃ q, wr = w.more q) (fun i _ => xs.length - (intOf i).toNat)
  case atStart => exact ⟨0, Nat.zero_le _, rfl, more_self⟩
  case round =>
    obtain ⟨k, hk, rfl, q, rfl⟩ := hrel
    by_cases hlt : k < xs.length
    · obtain ⟨b, off, rfl, c1⟩ := hx.int hlt
      have hat := upTo_at hu hlt
      have ha1 := hat.1
      by_cases h0 : 0 < k
      · obtain ⟨b', off', hA, c2⟩ := hx.int (k := k - 1) (by omega)
        injection hA with hA
        injection hA with hb ho
        subst hb ho
        have h0' : (0 : Int) < k := by omega
        have h2 := hat.2 (by omega) h0
        have d1 : decide (xs[k] < 0) = false := decide_eq_false (by omega)
        have d2 : decide (n ≤ xs[k]) = false := decide_eq_false (by omega)
        have d3 : decide ((0 : Int) < k) = true := decide_eq_true h0'
        have d4 : decide (xs[k] ≤ xs[k - 1]) = false := decide_eq_false (by omega)
        generalize xs[k] = x at c1 d1 d2 d4
        generalize xs[k - 1] = y at c2 d4
        clear hx hat ha1 h2
        go_wp2_with fail
        go_quiet (fail)
        go_wp2_with fail
        go_roundw
        case rel => exact ⟨k + 1, by omega, by go_num, below_ex (more_below.drewN _)⟩
        case measure => simp [intOf]; omega
      · have hk0 : k ≤ 0 := by omega
        have d1 : decide (xs[k] < 0) = false := decide_eq_false (by omega)
        have d2 : decide (n ≤ xs[k]) = false := decide_eq_false (by omega)
        have d3 : decide ((0 : Int) < k) = false := decide_eq_false (by omega)
        generalize xs[k] = x at c1 d1 d2
        clear hx hat ha1
        go_wp2_with fail
        go_quiet (fail)
        go_wp2_with fail
        go_roundw
        case rel => exact ⟨k + 1, by omega, by go_num, below_ex (more_below.drewN _)⟩
        case measure => simp [intOf]; omega
    · clear hx
      go_wp2
      go_ret
      exact ⟨rfl, more_below⟩
end Go.Proofs.Yteobejgkjjhfkaa
