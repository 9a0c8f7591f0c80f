/- The walks of the small tests: in, isOwner, ValidDuties and their kin. -/
import Derived.Test.YtampbbknhbhcbaaDoorDutyPlain
namespace Go.Proofs.YtampbbknhbhcbaaDoor
open Go.RowKit
set_option linter.unusedVariables false
set_option maxHeartbeats 400000 in
theorem implOwner (n : Int) (w : World) : Calls Tryd.prog 56 #[.int .i64 n] w fun e w' => e = .returned (.bool (inB n 0 39)) ∧ w = w' := by
  go_enter Tryd.func56, Tryd.ntmps56
  go_wp2_with (go_at_call 54; refine (implIn _ _ _ _).mono ?_; rintro e w' ⟨rfl, rfl⟩)
  go_ret
  exact ⟨rfl, rfl⟩

set_option maxHeartbeats 400000 in
theorem specOwner (n : Int) (w : World) : Calls Tryd.prog 50 #[.int .i64 n] w fun e w' => e = .returned (.bool (inB n 0 39)) ∧ w = w' := by
  go_enter Tryd.func50, Tryd.ntmps50
  go_wp2_with (go_at_call 51; refine (specIn _ _ _ _).mono ?_; rintro e w' ⟨rfl, rfl⟩)
  go_ret
  exact ⟨rfl, rfl⟩

set_option maxHeartbeats 400000 in
theorem implDikeLength (n : Int) (w : World) : Calls Tryd.prog 53 #[.int .i64 n] w fun e w' => e = .returned (.bool (inB n 1 300000)) ∧ w = w' := by
  go_enter Tryd.func53, Tryd.ntmps53
  go_wp2_with (go_at_call 54; refine (implIn _ _ _ _).mono ?_; rintro e w' ⟨rfl, rfl⟩)
  go_ret
  exact ⟨rfl, rfl⟩

set_option maxHeartbeats 400000 in
theorem specLength (n : Int) (w : World) : Calls Tryd.prog 52 #[.int .i64 n] w fun e w' => e = .returned (.bool (inB n 1 300000)) ∧ w = w' := by
  go_enter Tryd.func52, Tryd.ntmps52
  go_wp2_with (go_at_call 51; refine (specIn _ _ _ _).mono ?_; rintro e w' ⟨rfl, rfl⟩)
  go_ret
  exact ⟨rfl, rfl⟩

set_option maxHeartbeats 400000 in
theorem sizeDuty (A : Option Addr) (n c : Nat) (w : World) : Calls Tryd.prog 55 #[.slice A n c] w fun e w' => e = .returned (.int .i64 n) ∧ w = w' := by
  go_enter Tryd.func55, Tryd.ntmps55
  go_wp2
  go_ret
  exact ⟨rfl, rfl⟩

set_option maxHeartbeats 1000000 in
theorem specOk (A : Option Addr) (xs : List Duty) (c : Nat) (len : Int) (w : World) (hx : Rd w A xs) :
    Calls Tryd.prog 28 #[.slice A xs.length c, .int .i64 len] w fun e w' => e = .returned (.bool (validB xs len)) ∧ w = w' := by
  have hn := hx.len
  rw [← ok_valid]
  go_enter Tryd.func28, Tryd.ntmps28
  go_wp2
  go_loop [5, 6] (fun a i => ∃ (k : Nat) (z : Int), k ≤ xs.length ∧ i = .int .i64 k ∧ a = .int .i64 z ∧ okB len 0 (xs.take k) = true ∧ z = endB 0 (xs.take k)) (fun _ i => xs.length - (intOf i).toNat)
  case atStart => exact ⟨0, 0, Nat.zero_le _, rfl, rfl, rfl, rfl⟩
  case round =>
    obtain ⟨k, z, hk, rfl, rfl, hok, hz⟩ := hrel
    have Hok := hid hok
    have Hz := hid hz
    clear hok hz
    by_cases hlt : k < xs.length
    · obtain ⟨b, off, rfl, c1, c2, c3⟩ := hx.duty hlt
      clear hx
      by_cases h1 : inB xs[k].o 0 39 = true
      · by_cases h2 : xs[k].f = z
        · have h2' : (xs[k].f != z) = false := by simp [h2]
          have H2 := hid h2
          clear h2
          by_cases h3 : inB xs[k].t (wrap64 (z + 1)) len = true
          · go_wp2_with (first | (go_at_call 50; refine (specOwner _ _).mono ?_; rintro e w' ⟨rfl, rfl⟩) | (go_at_call 51; refine (specIn _ _ _ _).mono ?_; rintro e w' ⟨rfl, rfl⟩))
            go_round
            case rel =>
              have := okB_step (len := len) hlt Hz.out Hok.out (by rw [h1, h3, H2.out]; simp)
              exact ⟨k + 1, _, by omega, by go_num, rfl, this.1, this.2⟩
            case measure => simp [intOf]; omega
          · go_wp2_with (first | (go_at_call 50; refine (specOwner _ _).mono ?_; rintro e w' ⟨rfl, rfl⟩) | (go_at_call 51; refine (specIn _ _ _ _).mono ?_; rintro e w' ⟨rfl, rfl⟩))
            go_ret
            exact ⟨ret_bool (by rw [okB_no hlt Hz.out (by simp at h3; simp [h3])]; rfl), rfl⟩
        · have h2' : (xs[k].f != z) = true := by simp [h2]
          go_wp2_with (first | (go_at_call 50; refine (specOwner _ _).mono ?_; rintro e w' ⟨rfl, rfl⟩) | (go_at_call 51; refine (specIn _ _ _ _).mono ?_; rintro e w' ⟨rfl, rfl⟩))
          go_ret
          exact ⟨ret_bool (by rw [okB_no hlt Hz.out (by simp [h2])]; rfl), rfl⟩
      · go_wp2_with (first | (go_at_call 50; refine (specOwner _ _).mono ?_; rintro e w' ⟨rfl, rfl⟩) | (go_at_call 51; refine (specIn _ _ _ _).mono ?_; rintro e w' ⟨rfl, rfl⟩))
        go_ret
        exact ⟨ret_bool (by rw [okB_no hlt Hz.out (by simp at h1; simp [h1])]; rfl), rfl⟩
    · have ht : xs.take k = xs := List.take_of_length_le (by omega)
      rw [ht] at Hok Hz
      have H4 : Hid (okB len 0 xs = true) := Hok.out
      by_cases h1 : inB len 1 300000 = true
      · by_cases h2 : (z == len) = true
        · go_wp2_with (go_at_call 52; refine (specLength _ _).mono ?_; rintro e w' ⟨rfl, rfl⟩)
          go_ret
          exact ⟨ret_bool (by rw [H4.out, ← Hz.out, h1, h2]; simp; omega), rfl⟩
        · go_wp2_with (go_at_call 52; refine (specLength _ _).mono ?_; rintro e w' ⟨rfl, rfl⟩)
          go_ret
          exact ⟨ret_bool (by rw [← Hz.out]; simp at h2; simp [h2]), rfl⟩
      · go_wp2_with (go_at_call 52; refine (specLength _ _).mono ?_; rintro e w' ⟨rfl, rfl⟩)
        go_ret
        exact ⟨ret_bool (by simp at h1; simp [h1]), rfl⟩

set_option maxHeartbeats 1000000 in
theorem implValid (A : Option Addr) (xs : List Duty) (c : Nat) (len : Int) (w : World) (hx : Rd w A xs) :
    Calls Tryd.prog 31 #[.slice A xs.length c, .int .i64 len] w fun e w' => e = .returned (.bool (validB xs len)) ∧ Below w.heap.size w w' := by
  have hn := hx.len
  by_cases h1 : inB len 1 300000 = true
  · by_cases h2 : inB xs.length 1 40 = true
    · have h2' := inB_true.1 h2
      have H2 := hid h2'
      obtain ⟨b, off, rfl, c1, c2, c3⟩ := hx.duty (k := xs.length - 1) (by omega)
      have he := endB_last xs 0 (by omega)
      by_cases h3 : xs[xs.length - 1].t = len
      · have h3' : (xs[xs.length - 1].t != len) = false := by simp [h3]
        have H3 := hid (he.trans h3)
        clear h3 he
        go_enter Tryd.func31, Tryd.ntmps31
        go_wp2_with (first | (go_at_call 53; refine (implDikeLength _ _).mono ?_; rintro e w' ⟨rfl, rfl⟩) | (go_at_call 55; refine (sizeDuty _ _ _ _).mono ?_; rintro e w' ⟨rfl, rfl⟩) | (go_at_call 54; refine (implIn _ _ _ _).mono ?_; rintro e w' ⟨rfl, rfl⟩))
        clear c1 c2 c3
        go_loopw [5, 30] (fun a i wr => ∃ (k : Nat) (z : Int), k ≤ xs.length ∧ i = .int .i64 k ∧ a = .int .i64 z ∧ vdB 0 (xs.take k) = true ∧ z = endB 0 (xs.take k) ∧ ∃ m, wr = w.more m) (fun _ i _ => xs.length - (intOf i).toNat)
        case atStart => exact ⟨0, 0, Nat.zero_le _, rfl, rfl, rfl, rfl, more_self⟩
        case round =>
          obtain ⟨k, z, hk, rfl, rfl, hok, hz, m, rfl⟩ := hrel
          have Hok := hid hok
          have Hz := hid hz
          clear hok hz
          by_cases hlt : k < xs.length
          · obtain ⟨b', off', hA, c1, c2, c3⟩ := hx.duty hlt
            injection hA with hA
            injection hA with hb ho
            subst hb ho
            clear hx
            by_cases g1 : inB xs[k].o 0 39 = true
            · by_cases g2 : xs[k].f = z
              · have g2' : (xs[k].f != z) = false := by simp [g2]
                have G2 := hid g2
                clear g2
                by_cases g3 : xs[k].f < xs[k].t
                · go_wp2_with (go_at_call 56; refine (implOwner _ _).mono ?_; rintro e w' ⟨rfl, rfl⟩)
                  go_roundw
                  case rel =>
                    have := vdB_step hlt Hz.out Hok.out (by rw [g1, decide_eq_true g3, beq_iff_eq.2 G2.out]; rfl)
                    exact ⟨k + 1, _, by omega, by go_num, rfl, this.1, this.2, below_ex (more_below.alloc more_size _)⟩
                  case measure => simp [intOf]; omega
                · go_wp2_with (go_at_call 56; refine (implOwner _ _).mono ?_; rintro e w' ⟨rfl, rfl⟩)
                  go_ret
                  exact ⟨ret_bool (by simp only [validB]; rw [vdB_no hlt Hz.out (by simp; omega)]; simp), more_below.alloc more_size _⟩
              · have g2' : (xs[k].f != z) = true := by simp [g2]
                go_wp2_with (go_at_call 56; refine (implOwner _ _).mono ?_; rintro e w' ⟨rfl, rfl⟩)
                go_ret
                exact ⟨ret_bool (by simp only [validB]; rw [vdB_no hlt Hz.out (by simp [g2])]; simp), more_below.alloc more_size _⟩
            · go_wp2_with (go_at_call 56; refine (implOwner _ _).mono ?_; rintro e w' ⟨rfl, rfl⟩)
              go_ret
              exact ⟨ret_bool (by simp only [validB]; rw [vdB_no hlt Hz.out (by simp at g1; simp [g1])]; simp), more_below.alloc more_size _⟩
          · have ht : xs.take k = xs := List.take_of_length_le (by omega)
            rw [ht] at Hok Hz
            go_wp2
            go_ret
            exact ⟨ret_bool (by simp only [validB]; have h5 := H2.out; rw [h1, H3.out, show vdB 0 xs = true from Hok.out, decide_eq_true (show 1 ≤ xs.length by omega), decide_eq_true (show xs.length ≤ 40 by omega)]; simp), more_below⟩
      · have h3' : (xs[xs.length - 1].t != len) = true := by simp [h3]
        have H3 : Hid (¬ endB 0 xs = len) := by rw [he]; exact h3
        clear h3 he
        go_enter Tryd.func31, Tryd.ntmps31
        go_wp2_with (first | (go_at_call 53; refine (implDikeLength _ _).mono ?_; rintro e w' ⟨rfl, rfl⟩) | (go_at_call 55; refine (sizeDuty _ _ _ _).mono ?_; rintro e w' ⟨rfl, rfl⟩) | (go_at_call 54; refine (implIn _ _ _ _).mono ?_; rintro e w' ⟨rfl, rfl⟩))
        go_ret
        exact ⟨ret_bool (by simp [validB, H3.out]), Below.refl _ _⟩
    · go_enter Tryd.func31, Tryd.ntmps31
      go_wp2_with (first | (go_at_call 53; refine (implDikeLength _ _).mono ?_; rintro e w' ⟨rfl, rfl⟩) | (go_at_call 55; refine (sizeDuty _ _ _ _).mono ?_; rintro e w' ⟨rfl, rfl⟩) | (go_at_call 54; refine (implIn _ _ _ _).mono ?_; rintro e w' ⟨rfl, rfl⟩))
      go_ret
      refine ⟨ret_bool ?_, Below.refl _ _⟩
      rw [Bool.not_eq_true, inB_false] at h2
      have : decide (1 ≤ xs.length) = false ∨ decide (xs.length ≤ 40) = false := by
        rcases h2 with h | h
        · exact .inl (decide_eq_false (by omega))
        · exact .inr (decide_eq_false (by omega))
      rcases this with h | h <;> simp [validB, h]
  · go_enter Tryd.func31, Tryd.ntmps31
    go_wp2_with (first | (go_at_call 53; refine (implDikeLength _ _).mono ?_; rintro e w' ⟨rfl, rfl⟩) | (go_at_call 55; refine (sizeDuty _ _ _ _).mono ?_; rintro e w' ⟨rfl, rfl⟩) | (go_at_call 54; refine (implIn _ _ _ _).mono ?_; rintro e w' ⟨rfl, rfl⟩))
    go_ret
    exact ⟨ret_bool (by rw [Bool.not_eq_true] at h1; simp [validB, h1]), Below.refl _ _⟩


end Go.Proofs.YtampbbknhbhcbaaDoor
