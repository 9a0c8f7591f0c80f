/- DutyAt, DutyOf: the walks. -/
import Derived.Test.YtjamkomgdfgmlaaDutyOk
namespace Go.Proofs.Ytjamkomgdfgmlaa
open Go.RowKit
set_option linter.unusedVariables false
theorem ret_pair {a b : Int} {p : Int × Int} (h : p = (a, b)) : Ending.returned (.tuple #[.int .i64 a, .int .i64 b]) = .returned (.tuple #[.int .i64 p.1, .int .i64 p.2]) := by rw [h]

def IsAt (m : Int) (xs : List Duty) (e : Ending) : Prop := ∃ k : Nat, ∃ hk : k < xs.length, e = .returned (.int .i64 k) ∧ xs[k].o = atB m xs
set_option maxHeartbeats 400000 in
theorem specAt (A : Option Addr) (xs : List Duty) (c : Nat) (m len : Int) (w : World) (hx : Rd w A xs) (hv : validB xs len = true) (h0 : 0 ≤ m) (h1 : m < len) :
    Calls Try.prog 54 #[.slice A xs.length c, .int .i64 m] w fun e w' => IsAt m xs e ∧ w = w' := by
  have hn := hx.len
  have hvl := valid_len hv
  have HV := hid hv
  have HE := hid hvl.2.2.2
  clear hv hvl
  go_enter Try.func54, Try.ntmps54
  go_wp2
  go_loop [5] (fun i => ∃ k : Nat, k < xs.length ∧ i = .int .i64 k ∧ atB m (xs.drop k) = atB m xs) (fun i => xs.length - (intOf i).toNat)
  case atStart => exact ⟨0, by have := valid_len HV.out; omega, rfl, rfl⟩
  case round =>
    obtain ⟨k, hk, rfl, ha⟩ := hrel
    have Ha := hid ha
    clear ha
    obtain ⟨b, off, rfl, c1, c2, c3⟩ := hx.duty hk
    clear hx
    by_cases ht : xs[k].t ≤ m
    · have hk1 : k + 1 < xs.length := by
        rcases Nat.lt_or_ge (k + 1) xs.length with h | h
        · exact h
        · exfalso
          have h2 := endB_last xs 0 (by omega)
          rw [HE.out] at h2
          have h3 : xs.length - 1 = k := by omega
          have h4 : xs[xs.length - 1].t = xs[k].t := by congr 2
          omega
      go_wp2
      go_round
      case rel => exact ⟨k + 1, by omega, by go_num, by rw [← Ha.out, atB_drop hk, if_pos ht]⟩
      case measure => simp [intOf]; omega
    · have Hr : Hid (xs[k].o = atB m xs) := by
        have := Ha.out
        rw [atB_drop hk, if_neg ht] at this
        exact this
      go_wp2
      go_ret
      exact ⟨⟨k, hk, rfl, Hr.out⟩, rfl⟩

set_option maxHeartbeats 400000 in
theorem specDutyAt (A : Option Addr) (xs : List Duty) (c : Nat) (len m : Int) (w : World) (hx : Rd w A xs) :
    Calls Try.prog 20 #[.slice A xs.length c, .int .i64 len, .int .i64 m] w fun e w' => e = .returned (.tuple #[.int .i64 (dutyAt xs len m).1, .int .i64 (dutyAt xs len m).2]) ∧ Below w.heap.size w w' := by
  by_cases hv : validB xs len = true
  · have hvl := (valid_len hv).1
    by_cases hm : inB m 0 (len - 1) = true
    · have hm' := inB_true.1 hm
      have HF : Hid (dutyAt xs len m = (atB m xs, 0)) := by unfold dutyAt; rw [if_pos hv, if_pos hm]; exact rfl
      go_enter Try.func20, Try.ntmps20
      go_wp2_with (first | (go_at_call 48; refine (specOk _ _ _ _ _ hx).mono ?_; rintro e w' ⟨rfl, rfl⟩) | (go_at_call 53; refine (specIn _ _ _ _).mono ?_; rintro e w' ⟨rfl, rfl⟩) | fail)
      refine (specAt _ _ _ _ len _ hx hv hm'.1 (by omega)).mono ?_
      rintro e w' ⟨⟨k, hk, rfl, hko⟩, rfl⟩
      obtain ⟨b, off, rfl, c1, c2, c3⟩ := hx.duty hk
      have HK := hid hko
      clear hko
      go_wp2
      go_ret2
      exact ⟨ret_pair (by rw [HF.out, HK.out]), Below.refl _ _⟩
    · have HF : Hid (dutyAt xs len m = (0, 2)) := by unfold dutyAt; rw [if_pos hv, if_neg hm]; exact rfl
      go_enter Try.func20, Try.ntmps20
      go_wp2_with (first | (go_at_call 48; refine (specOk _ _ _ _ _ hx).mono ?_; rintro e w' ⟨rfl, rfl⟩) | (go_at_call 53; refine (specIn _ _ _ _).mono ?_; rintro e w' ⟨rfl, rfl⟩) | fail)
      go_ret2
      exact ⟨ret_pair HF.out, Below.refl _ _⟩
  · have HF : Hid (dutyAt xs len m = (0, 1)) := by unfold dutyAt; rw [if_neg hv]; exact rfl
    go_enter Try.func20, Try.ntmps20
    go_wp2_with (first | (go_at_call 48; refine (specOk _ _ _ _ _ hx).mono ?_; rintro e w' ⟨rfl, rfl⟩) | fail)
    go_ret2
    exact ⟨ret_pair HF.out, Below.refl _ _⟩

set_option maxHeartbeats 600000 in
theorem implDutyAt (A : Option Addr) (xs : List Duty) (c : Nat) (len m : Int) (w : World) (hx : Rd w A xs) :
    Calls Try.prog 21 #[.slice A xs.length c, .int .i64 len, .int .i64 m] w fun e w' => e = .returned (.tuple #[.int .i64 (dutyAt xs len m).1, .int .i64 (dutyAt xs len m).2]) ∧ Below w.heap.size w w' := by
  have hn := hx.len
  by_cases hv : validB xs len = true
  · have hvl := (valid_len hv).1
    by_cases hm : inB m 0 (len - 1) = true
    · have hm' := inB_true.1 hm
      have HF : Hid (dutyAt xs len m = (xs.foldl (pickB m) 0, 0)) := by
        unfold dutyAt
        rw [if_pos hv, if_pos hm]
        have h5 := hv
        simp only [validB, Bool.and_eq_true] at h5
        rw [(pick_at m xs 0 0 h5.2).2 hm'.1 (by have := (valid_len hv).2.2.2; omega)]
        exact rfl
      go_enter Try.func21, Try.ntmps21
      go_wp2_with fail
      refine (implValid _ _ _ _ _ hx).mono ?_
      rintro e w1 ⟨rfl, hb1⟩
      obtain ⟨y1, rfl⟩ := below_ex hb1
      clear hb1
      go_wp2_with (go_at_call 50; refine (implIn _ _ _ _).mono ?_; rintro e w' ⟨rfl, rfl⟩)
      have hx := hx.more (x := y1)
      go_loopw [8, 24] (fun a i wr => ∃ k : Nat, k ≤ xs.length ∧ i = .int .i64 k ∧ a = .int .i64 ((xs.take k).foldl (pickB m) 0) ∧ ∃ q, wr = (w.more y1).more q) (fun _ i _ => xs.length - (intOf i).toNat)
      case atStart => exact ⟨0, Nat.zero_le _, rfl, rfl, more_self⟩
      case round =>
        obtain ⟨k, hk, rfl, rfl, q, rfl⟩ := hrel
        by_cases hlt : k < xs.length
        · obtain ⟨b, off, rfl, c1, c2, c3⟩ := hx.duty hlt
          have hva := valid_at hv hlt
          have g1 : xs[k].t ≤ 300000 := hva.2.2.2.1
          have g2 : 0 ≤ xs[k].t := by omega
          clear hva
          have HS := hid (foldl_take (pickB m) 0 hlt)
          clear hx hv hm
          generalize (xs.take k).foldl (pickB m) 0 = z at HS ⊢
          by_cases hp : inB m xs[k].f (xs[k].t - 1) = true
          · go_wp2_with (go_at_call 50; refine (implIn _ _ _ _).mono ?_; rintro e w' ⟨rfl, rfl⟩)
            go_roundw
            case rel => exact ⟨k + 1, by omega, by go_num, by rw [HS.out, pickB, if_pos hp], below_ex (more_below.alloc more_size _)⟩
            case measure => simp [intOf]; omega
          · go_wp2_with (go_at_call 50; refine (implIn _ _ _ _).mono ?_; rintro e w' ⟨rfl, rfl⟩)
            go_roundw
            case rel => exact ⟨k + 1, by omega, by go_num, by rw [HS.out, pickB, if_neg hp], below_ex (more_below.alloc more_size _)⟩
            case measure => simp [intOf]; omega
        · have ht : xs.take k = xs := List.take_of_length_le (by omega)
          rw [ht]
          clear hx hv hm
          go_wp2
          go_ret2
          exact ⟨ret_pair HF.out, below_next more_below⟩
    · have HF : Hid (dutyAt xs len m = (0, 2)) := by unfold dutyAt; rw [if_pos hv, if_neg hm]; exact rfl
      go_enter Try.func21, Try.ntmps21
      go_wp2_with fail
      refine (implValid _ _ _ _ _ hx).mono ?_
      rintro e w1 ⟨rfl, hb1⟩
      go_wp2_with (go_at_call 50; refine (implIn _ _ _ _).mono ?_; rintro e w' ⟨rfl, rfl⟩)
      go_ret2
      exact ⟨ret_pair HF.out, hb1⟩
  · have HF : Hid (dutyAt xs len m = (0, 1)) := by unfold dutyAt; rw [if_neg hv]; exact rfl
    go_enter Try.func21, Try.ntmps21
    go_wp2_with fail
    refine (implValid _ _ _ _ _ hx).mono ?_
    rintro e w1 ⟨rfl, hb1⟩
    go_wp2
    go_ret2
    exact ⟨ret_pair HF.out, hb1⟩
end Go.Proofs.Ytjamkomgdfgmlaa
