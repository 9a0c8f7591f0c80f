/- FnExactSameDuties answers true, and the arguments read as they did. -/
import Derived.Test.YtjamkomgdfgmlaaDutyS
import Derived.Test.YtjamkomgdfgmlaaLaw
namespace Go.Proofs.Ytjamkomgdfgmlaa
open Go.RowKit
set_option maxHeartbeats 1000000 in
theorem lawSameDuties (A : Option Addr) (n c : Nat) {w : World} (ax : Arg Duty w A n) (B : Option Addr) (m d : Nat) (ay : Arg Duty w B m) :
    Calls Try.prog 3 #[.slice A n c, .slice B m d] w fun e w' => e = .returned (.bool true) ∧ Below w.heap.size w w' := by
  obtain ⟨hn, hx⟩ := ax
  obtain ⟨hm, hy⟩ := ay
  by_cases h1 : (1048576 : Int) < n
  · go_enter Try.func3, Try.ntmps3
    go_wp2_with fail
    refine (szDutyS A n c 1048576 _ hn (by omega) (by omega)).mono ?_
    rintro e w' ⟨rfl, rfl⟩
    rw [if_pos (by omega)]
    go_wp2_with fail
    go_ret
    exact ⟨rfl, Below.refl _ _⟩
  · obtain ⟨xs, rfl, hx, _⟩ := hx (by omega)
    by_cases h2 : (1048576 : Int) - xs.length < m
    · go_enter Try.func3, Try.ntmps3
      go_wp2_with fail
      refine (szDutyS A xs.length c 1048576 _ hn (by omega) (by omega)).mono ?_
      rintro e w' ⟨rfl, rfl⟩
      rw [if_neg (by omega)]
      go_wp2_with fail
      refine (szDutyS B m d _ _ hm (by omega) (by omega)).mono ?_
      rintro e w' ⟨rfl, rfl⟩
      rw [if_pos (by omega)]
      go_wp2_with fail
      go_ret
      exact ⟨rfl, Below.refl _ _⟩
    · obtain ⟨ys, rfl, hy, _⟩ := hy (by omega)
      go_enter Try.func3, Try.ntmps3
      go_wp2_with fail
      refine (szDutyS A xs.length c 1048576 _ hn (by omega) (by omega)).mono ?_
      rintro e w' ⟨rfl, rfl⟩
      rw [if_neg (by omega)]
      go_wp2_with fail
      refine (szDutyS B ys.length d _ _ hm (by omega) (by omega)).mono ?_
      rintro e w' ⟨rfl, rfl⟩
      rw [if_neg (by omega)]
      go_wp2_with fail
      refine Calls.mono (toDutyS A xs c _ ?_) ?_
      · with_reducible repeat (first | assumption | apply Rd.more)
      rintro e w1 ⟨v1, rfl, o1, b1⟩
      obtain ⟨A1, c1, rfl⟩ := o1.form
      have r1 := o1.rd (by omega)
      obtain ⟨y1, rfl⟩ := below_ex b1
      clear b1 o1
      go_wp2_with fail
      refine Calls.mono (toDutyS B ys d _ ?_) ?_
      · with_reducible repeat (first | assumption | apply Rd.more)
      rintro e w2 ⟨v2, rfl, o2, b2⟩
      obtain ⟨A2, c2, rfl⟩ := o2.form
      have r2 := o2.rd (by omega)
      obtain ⟨y2, rfl⟩ := below_ex b2
      clear b2 o2
      go_wp2_with fail
      refine Calls.mono (specSameDuties A1 A2 xs ys _ _ _ ?_ ?_) ?_
      · with_reducible repeat (first | assumption | apply Rd.more)
      · with_reducible repeat (first | assumption | apply Rd.more)
      rintro e w3 ⟨rfl, b3⟩
      obtain ⟨y3, rfl⟩ := below_ex b3
      clear b3
      go_wp2_with fail
      refine Calls.mono (toDutyS A xs c _ ?_) ?_
      · with_reducible repeat (first | assumption | apply Rd.more)
      rintro e w4 ⟨v4, rfl, o4, b4⟩
      obtain ⟨A4, c4, rfl⟩ := o4.form
      have r4 := o4.rd (by omega)
      obtain ⟨y4, rfl⟩ := below_ex b4
      clear b4 o4
      go_wp2_with fail
      refine Calls.mono (toDutyS B ys d _ ?_) ?_
      · with_reducible repeat (first | assumption | apply Rd.more)
      rintro e w5 ⟨v5, rfl, o5, b5⟩
      obtain ⟨A5, c5, rfl⟩ := o5.form
      have r5 := o5.rd (by omega)
      obtain ⟨y5, rfl⟩ := below_ex b5
      clear b5 o5
      go_wp2_with fail
      refine Calls.mono (implSameDuties A4 A5 xs ys _ _ _ ?_ ?_) ?_
      · with_reducible repeat (first | assumption | apply Rd.more)
      · with_reducible repeat (first | assumption | apply Rd.more)
      rintro e w6 ⟨rfl, b6⟩
      obtain ⟨y6, rfl⟩ := below_ex b6
      clear b6
      go_wp2_with fail
      refine Calls.mono (toDutyS A xs c _ ?_) ?_
      · with_reducible repeat (first | assumption | apply Rd.more)
      rintro e w7 ⟨v7, rfl, o7, b7⟩
      obtain ⟨A7, c7, rfl⟩ := o7.form
      have r7 := o7.rd (by omega)
      obtain ⟨y7, rfl⟩ := below_ex b7
      clear b7 o7
      go_wp2_with fail
      refine Calls.mono (eqDutyS A4 A7 xs xs _ _ _ ?_ ?_) ?_
      · with_reducible repeat (first | assumption | apply Rd.more)
      · with_reducible repeat (first | assumption | apply Rd.more)
      rintro e w8 ⟨rfl, b8⟩
      obtain ⟨y8, rfl⟩ := below_ex b8
      clear b8
      go_wp2_with fail
      refine Calls.mono (toDutyS B ys d _ ?_) ?_
      · with_reducible repeat (first | assumption | apply Rd.more)
      rintro e w9 ⟨v9, rfl, o9, b9⟩
      obtain ⟨A9, c9, rfl⟩ := o9.form
      have r9 := o9.rd (by omega)
      obtain ⟨y9, rfl⟩ := below_ex b9
      clear b9 o9
      go_wp2_with fail
      refine Calls.mono (eqDutyS A5 A9 ys ys _ _ _ ?_ ?_) ?_
      · with_reducible repeat (first | assumption | apply Rd.more)
      · with_reducible repeat (first | assumption | apply Rd.more)
      rintro e w10 ⟨rfl, b10⟩
      obtain ⟨y10, rfl⟩ := below_ex b10
      clear b10
      go_wp2_with fail
      go_ret
      exact ⟨rfl, by with_reducible repeat (first | exact more_below | apply below_next)⟩
end Go.Proofs.Ytjamkomgdfgmlaa
