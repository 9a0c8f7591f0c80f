/- DutyOf, CountParts: the walks. -/
import Derived.Test.YtjamkomgdfgmlaaDutyAt
namespace Go.Proofs.Ytjamkomgdfgmlaa
open Go.RowKit
set_option linter.unusedVariables false

set_option maxHeartbeats 600000 in
theorem specDutyOf (A : Option Addr) (xs : List Duty) (c : Nat) (len o : Int) (w : World) (hx : Rd w A xs) :
    Calls Try.prog 22 #[.slice A xs.length c, .int .i64 len, .int .i64 o] w fun e w' => e = .returned (.tuple #[.int .i64 (dutyOfB xs len o).1, .int .i64 (dutyOfB xs len o).2]) ∧ Below w.heap.size w w' := by
  have hn := hx.len
  by_cases hv : validB xs len = true
  · by_cases hm : inB o 0 39 = true
    · have HF : Hid (dutyOfB xs len o = (sumOf o xs, 0)) := by unfold dutyOfB; rw [if_pos hv, if_pos hm]; exact rfl
      go_enter Try.func22, Try.ntmps22
      go_wp2_with (first | (go_at_call 48; refine (specOk _ _ _ _ _ hx).mono ?_; rintro e w' ⟨rfl, rfl⟩) | (go_at_call 55; refine (specOwner _ _).mono ?_; rintro e w' ⟨rfl, rfl⟩) | fail)
      go_loopw [8, 9] (fun a i wr => ∃ k : Nat, k ≤ xs.length ∧ i = .int .i64 k ∧ a = .int .i64 (sumOf o (xs.take k)) ∧ ∃ q, wr = w.more q) (fun _ i _ => xs.length - (intOf i).toNat)
      case atStart => exact ⟨0, Nat.zero_le _, rfl, rfl, more_self⟩
      case round =>
        obtain ⟨k, hk, rfl, rfl, q, rfl⟩ := hrel
        by_cases hlt : k < xs.length
        · obtain ⟨b, off, rfl, c1, c2, c3⟩ := hx.duty hlt
          have hva := valid_at hv hlt
          have hsb := sumOf_bound (o := o) hv k (by omega)
          have hk40 := (valid_len hv).2.2.1
          have g1 : xs[k].t ≤ 300000 := hva.2.2.2.1
          have g2 : 0 ≤ xs[k].f := by omega
          have g3 : xs[k].f < xs[k].t := by omega
          have HS : Hid (sumOf o (xs.take (k + 1)) = sumStep o (sumOf o (xs.take k)) xs[k]) := foldl_take _ _ hlt
          clear hva hx hv hm
          generalize sumOf o (xs.take k) = z at HS hsb ⊢
          by_cases hp : xs[k].o = o
          · have hp' : (xs[k].o == o) = true := by simp [hp]
            have HP := hid hp
            clear hp
            go_wp2
            go_quiet (fail)
            go_wp2
            go_roundw
            case rel => exact ⟨k + 1, by omega, by go_num, by rw [HS.out, sumStep, if_pos HP.out], below_ex (more_below.drewN _)⟩
            case measure => simp [intOf]; omega
          · have hp' : (xs[k].o == o) = false := by simp [hp]
            go_wp2
            go_roundw
            case rel => exact ⟨k + 1, by omega, by go_num, by rw [HS.out, sumStep, if_neg hp], q, rfl⟩
            case measure => simp [intOf]; omega
        · have ht : xs.take k = xs := List.take_of_length_le (by omega)
          rw [ht]
          clear hx hv hm
          go_wp2
          go_ret2
          exact ⟨ret_pair HF.out, more_below⟩
    · have HF : Hid (dutyOfB xs len o = (0, 2)) := by unfold dutyOfB; rw [if_pos hv, if_neg hm]; exact rfl
      go_enter Try.func22, Try.ntmps22
      go_wp2_with (first | (go_at_call 48; refine (specOk _ _ _ _ _ hx).mono ?_; rintro e w' ⟨rfl, rfl⟩) | (go_at_call 55; refine (specOwner _ _).mono ?_; rintro e w' ⟨rfl, rfl⟩) | fail)
      go_ret2
      exact ⟨ret_pair HF.out, Below.refl _ _⟩
  · have HF : Hid (dutyOfB xs len o = (0, 1)) := by unfold dutyOfB; rw [if_neg hv]; exact rfl
    go_enter Try.func22, Try.ntmps22
    go_wp2_with (first | (go_at_call 48; refine (specOk _ _ _ _ _ hx).mono ?_; rintro e w' ⟨rfl, rfl⟩) | fail)
    go_ret2
    exact ⟨ret_pair HF.out, Below.refl _ _⟩

set_option maxHeartbeats 600000 in
theorem implSum (A : Option Addr) (xs : List Duty) (c : Nat) (len o : Int) (w : World) (hx : Rd w A xs) (hv : validB xs len = true) :
    Calls Try.prog 56 #[.slice A xs.length c, .int .i64 o] w fun e w' => e = .returned (.int .i64 (sumOf o xs)) ∧ Below w.heap.size w w' := by
  have hn := hx.len
  go_enter Try.func56, Try.ntmps56
  go_wp2
  go_loopw [5, 10] (fun a i wr => ∃ k : Nat, k ≤ xs.length ∧ i = .int .i64 k ∧ a = .int .i64 (sumOf o (xs.take k)) ∧ ∃ q, wr = w.more q) (fun _ i _ => xs.length - (intOf i).toNat)
  case atStart => exact ⟨0, Nat.zero_le _, rfl, rfl, more_self⟩
  case round =>
    obtain ⟨k, hk, rfl, rfl, q, rfl⟩ := hrel
    by_cases hlt : k < xs.length
    · obtain ⟨b, off, rfl, c1, c2, c3⟩ := hx.duty hlt
      have hva := valid_at hv hlt
      have hsb := sumOf_bound (o := o) hv k (by omega)
      have hk40 := (valid_len hv).2.2.1
      have g1 : xs[k].t ≤ 300000 := hva.2.2.2.1
      have g2 : 0 ≤ xs[k].f := by omega
      have g3 : xs[k].f < xs[k].t := by omega
      have HS : Hid (sumOf o (xs.take (k + 1)) = sumStep o (sumOf o (xs.take k)) xs[k]) := foldl_take _ _ hlt
      clear hva hx hv
      generalize sumOf o (xs.take k) = z at HS hsb ⊢
      by_cases hp : xs[k].o = o
      · have hp' : (xs[k].o == o) = true := by simp [hp]
        have HP := hid hp
        clear hp
        go_wp2
        go_roundw
        case rel => exact ⟨k + 1, by omega, by go_num, by rw [HS.out, sumStep, if_pos HP.out], below_ex (more_below.alloc more_size _)⟩
        case measure => simp [intOf]; omega
      · have hp' : (xs[k].o == o) = false := by simp [hp]
        go_wp2
        go_roundw
        case rel => exact ⟨k + 1, by omega, by go_num, by rw [HS.out, sumStep, if_neg hp], below_ex (more_below.alloc more_size _)⟩
        case measure => simp [intOf]; omega
    · have ht : xs.take k = xs := List.take_of_length_le (by omega)
      rw [ht]
      clear hx hv
      go_wp2
      go_ret
      exact ⟨rfl, more_below⟩

set_option maxHeartbeats 600000 in
theorem implDutyOf (A : Option Addr) (xs : List Duty) (c : Nat) (len o : Int) (w : World) (hx : Rd w A xs) :
    Calls Try.prog 23 #[.slice A xs.length c, .int .i64 len, .int .i64 o] w fun e w' => e = .returned (.tuple #[.int .i64 (dutyOfB xs len o).1, .int .i64 (dutyOfB xs len o).2]) ∧ Below w.heap.size w w' := by
  by_cases hv : validB xs len = true
  · by_cases hm : inB o 0 39 = true
    · have HF : Hid (dutyOfB xs len o = (sumOf o xs, 0)) := by unfold dutyOfB; rw [if_pos hv, if_pos hm]; exact rfl
      go_enter Try.func23, Try.ntmps23
      go_wp2_with fail
      refine (implValid _ _ _ _ _ hx).mono ?_
      rintro e w1 ⟨rfl, hb1⟩
      obtain ⟨y1, rfl⟩ := below_ex hb1
      go_wp2_with (first | (go_at_call 52; refine (implOwner _ _).mono ?_; rintro e w' ⟨rfl, rfl⟩) | fail)
      refine (implSum _ _ _ len _ _ hx.more hv).mono ?_
      rintro e w2 ⟨rfl, hb2⟩
      obtain ⟨y2, rfl⟩ := below_ex hb2
      go_wp2
      go_ret2
      exact ⟨ret_pair HF.out, below_next more_below⟩
    · have HF : Hid (dutyOfB xs len o = (0, 2)) := by unfold dutyOfB; rw [if_pos hv, if_neg hm]; exact rfl
      go_enter Try.func23, Try.ntmps23
      go_wp2_with fail
      refine (implValid _ _ _ _ _ hx).mono ?_
      rintro e w1 ⟨rfl, hb1⟩
      go_wp2_with (first | (go_at_call 52; refine (implOwner _ _).mono ?_; rintro e w' ⟨rfl, rfl⟩) | fail)
      go_ret2
      exact ⟨ret_pair HF.out, hb1⟩
  · have HF : Hid (dutyOfB xs len o = (0, 1)) := by unfold dutyOfB; rw [if_neg hv]; exact rfl
    go_enter Try.func23, Try.ntmps23
    go_wp2_with fail
    refine (implValid _ _ _ _ _ hx).mono ?_
    rintro e w1 ⟨rfl, hb1⟩
    go_wp2
    go_ret2
    exact ⟨ret_pair HF.out, hb1⟩
end Go.Proofs.Ytjamkomgdfgmlaa
