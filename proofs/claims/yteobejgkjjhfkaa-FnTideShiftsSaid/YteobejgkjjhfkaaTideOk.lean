/- A table is valid: walked. -/
import Derived.Test.YteobejgkjjhfkaaTide
namespace Go.Proofs.Yteobejgkjjhfkaa
open Go.RowKit
set_option linter.unusedVariables false
set_option maxHeartbeats 1000000 in
theorem isTide_ (t : Tide) (h : (0 ≤ t.m ∧ t.m ≤ 100000) ∧ -2000 ≤ t.l ∧ t.l ≤ 2000) (w : World) : Calls Try.prog 128 #[.agg #[.int .i64 t.m, .int .i64 t.l]] w fun e w' => e = .returned (.bool true) ∧ Below w.heap.size w w' := by
  have H1 : Hid (inB t.m 0 100000 = true) := inB_lit h.1
  have H2 : Hid (inB t.l (-2000) 2000 = true) := inB_lit h.2
  obtain ⟨m, l⟩ := t
  go_enter Try.func128, Try.ntmps128
  go_wp2_with (first | (go_at_call 59; refine (implIn _ _ _ _).mono ?_; rintro e w' ⟨rfl, rfl⟩; rw [H1.out]) | (go_at_call 93; refine (validLevel_ _ _).mono ?_; rintro e w' ⟨rfl, rfl⟩; rw [H2.out]))
  go_ret
  exact ⟨rfl, (Below.refl _ _).alloc (Nat.le_refl _) _⟩
set_option maxHeartbeats 1000000 in
theorem allTide_ (A : Option Addr) (xs : List Tide) (c : Nat) (w : World) (hx : Rd w A xs) (hok : ∀ x ∈ xs, (0 ≤ x.m ∧ x.m ≤ 100000) ∧ -2000 ≤ x.l ∧ x.l ≤ 2000) :
    Calls Try.prog 127 #[.slice A xs.length c, .func (.func 128) #[] #[]] w fun e w' => e = .returned (.bool true) ∧ Below w.heap.size w w' := by
  have hn := hx.len
  have HX := hid hx
  have HOK := hid hok
  clear hx hok
  go_enter Try.func127, Try.ntmps127
  go_wp2_with fail
  go_loopw [9] (fun i wr => ∃ k : Nat, k ≤ xs.length ∧ i = .int .i64 k ∧ Below w.heap.size w wr) (fun i _ => xs.length - (intOf i).toNat)
  case atStart => exact ⟨0, Nat.zero_le _, rfl, Below.refl _ _⟩
  case round =>
    obtain ⟨k, hk, rfl, hq⟩ := hrel
    obtain ⟨wo, rfl⟩ : ∃ wo : World, wo = wr := ⟨_, rfl⟩
    have HQ := hid hq
    have HX2 := hid (HX.out.below hq)
    clear hq
    by_cases hlt : k < xs.length
    · obtain ⟨b, off, rfl, c1, c2⟩ := HX2.out.tide hlt
      have HM := hid (HOK.out _ (List.getElem_mem hlt))
      generalize xs[k] = m at c1 c2 HM
      go_wp2_with (go_at_call 128; refine (isTide_ m HM.out _).mono ?_; rintro e w' ⟨rfl, hb⟩; have HB := hid hb; clear hb)
      go_roundw
      case rel => exact ⟨k + 1, by omega, by go_num, (HQ.out.alloc HQ.out.size _).trans (HB.out.mono (le_alloc HQ.out.size))⟩
      case measure => simp [intOf]; omega
    · go_wp2_with fail
      go_ret
      exact ⟨rfl, HQ.out⟩
theorem sizeTides (A : Option Addr) (n c : Nat) (w : World) (hn : n ≤ 1048576) : Calls Try.prog 126 #[.slice A n c] w fun e w' => e = .returned (.int .i64 n) ∧ w = w' := by
  go_enter Try.func126, Try.ntmps126
  go_wp2_with fail
  go_ret
  exact ⟨rfl, rfl⟩
set_option maxRecDepth 100000 in
set_option maxHeartbeats 8000000 in
theorem validTides_ (A : Option Addr) (xs : List Tide) (c : Nat) (w : World) (hx : Rd w A xs) (hok : TideOk xs) :
    Calls Try.prog 88 #[.slice A xs.length c] w fun e w' => e = .returned (.bool true) ∧ Below w.heap.size w w' := by
  have hn := hx.len
  have HX := hid hx
  have HOK := hid hok
  have hlen := hok.len
  have H1 : Hid (inB (xs.length : Int) 2 40 = true) := inB_lit (by omega)
  obtain ⟨b, off, rfl, hc⟩ := hx.tides (by omega)
  have HC := hid hc
  clear hx hok hc
  go_enter Try.func88, Try.ntmps88
  go_wp2_with fail
  go_loopw [3] (fun i wr => ∃ k : Nat, 1 ≤ k ∧ k ≤ xs.length ∧ i = .int .i64 k ∧ ∃ n, wr = w.drewN n) (fun i _ => xs.length - (intOf i).toNat)
  case atStart => exact ⟨1, Nat.le_refl _, by omega, rfl, 0, rfl⟩
  case round =>
    obtain ⟨k, hk1, hk, rfl, n, rfl⟩ := hrel
    by_cases hlt : k < xs.length
    · obtain ⟨j, rfl⟩ : ∃ j, k = j + 1 := ⟨k - 1, by omega⟩
      have hst := HOK.out.step j hlt
      have c1 := HC.out j (by omega)
      have c2 := HC.out (j + 1) hlt
      by_cases hj0 : j < 1
      · obtain ⟨c1, d1⟩ := c1
        obtain ⟨c2, d2⟩ := c2
        generalize xs[j] = x at c1 d1 hst
        generalize xs[j + 1] = y at c2 d2 hst
        obtain ⟨s1, s2⟩ := hst
        have s3 : (x.l == y.l) = false := beq_no s2
        have s4 : decide (y.m ≤ x.m) = false := decide_eq_false (by omega)
        have s6 : decide ((1 : Int) < (j : Int) + 1) = false := decide_eq_false (by omega)
        go_upto_region 4 with fail
        go_quiet (fail)
        go_upto_region 6 with fail
        go_quiet (fail)
        go_wp2_with fail
        go_roundw
        case rel => exact ⟨j + 1 + 1, by omega, by omega, by go_num, by first | exact ⟨_, rfl⟩ | exact ⟨_, World.drewN_drewN⟩⟩
        case measure => simp [intOf]; omega
      · obtain ⟨p, rfl⟩ : ∃ p, j = p + 1 := ⟨j - 1, by omega⟩
        have c0 := HC.out p (by omega)
        have hal := HOK.out.alt p (by omega)
        obtain ⟨c0, d0⟩ := c0
        obtain ⟨c1, d1⟩ := c1
        obtain ⟨c2, d2⟩ := c2
        generalize xs[p] = z at c0 d0 hal
        generalize xs[p + 1] = x at c1 d1 hst hal
        generalize xs[p + 1 + 1] = y at c2 d2 hst hal
        obtain ⟨s1, s2⟩ := hst
        have s3 : (x.l == y.l) = false := beq_no s2
        have s4 : decide (y.m ≤ x.m) = false := decide_eq_false (by omega)
        have s5 : (decide (z.l < x.l) == decide (x.l < y.l)) = false := by
          rw [beq_eq_false_iff_ne]
          intro e
          have := decide_eq_decide.mp e
          by_cases hz : z.l < x.l
          · exact (hal.mp hz) (this.mp hz)
          · by_cases hy : x.l < y.l
            · exact hz (this.mpr hy)
            · exact hz (hal.mpr hy)
        have s6 : decide ((1 : Int) < (p : Int) + 1 + 1) = true := decide_eq_true (by omega)
        have s7 : (p : Int) + 1 + 1 - 2 = (p : Int) := by omega
        clear hal s2
        go_upto_region 4 with fail
        go_quiet (fail)
        go_upto_region 6 with fail
        go_quiet (fail)
        go_wp2_with fail
        go_roundw
        case rel => exact ⟨p + 1 + 1 + 1, by omega, by omega, by go_num, by first | exact ⟨_, rfl⟩ | exact ⟨_, World.drewN_drewN⟩⟩
        case measure => simp [intOf]; omega
    · have HX2 := hid (HX.out.drewN n)
      go_wp2_with (first | (go_at_call 126; refine (sizeTides _ _ _ _ hn).mono ?_; rintro e w' ⟨rfl, rfl⟩) | (go_at_call 59; refine (implIn _ _ _ _).mono ?_; rintro e w' ⟨rfl, rfl⟩; rw [H1.out]))
      refine (allTide_ _ _ _ _ HX2.out HOK.out.each).mono ?_
      rintro e w2 ⟨rfl, hb⟩
      have HB := hid (((Below.refl _ w).drewN n).trans hb)
      clear hb
      go_wp2_with fail
      go_ret
      exact ⟨rfl, HB.out⟩
end Go.Proofs.Yteobejgkjjhfkaa
