/- The reference's tides: walked. -/
import Derived.Test.YteobejgkjjhfkaaTideNext
import Derived.Test.YteobejgkjjhfkaaGcd
namespace Go.Proofs.Yteobejgkjjhfkaa
open Go.RowKit
set_option linter.unusedVariables false
theorem specLevel_ (n : Int) (w : World) : Calls Try.prog 137 #[.int .i64 n] w fun e w' => e = .returned (.bool (inB n (-2000) 2000)) ∧ w = w' := by
  go_enter Try.func137, Try.ntmps137
  go_wp2_with (go_at_call 136; refine (specIn _ _ _ _).mono ?_; rintro e w' ⟨rfl, rfl⟩)
  go_ret
  exact ⟨rfl, rfl⟩
set_option maxRecDepth 100000 in
set_option maxHeartbeats 8000000 in
theorem l08Ok_ (A : Option Addr) (xs : List Tide) (c : Nat) (w : World) (hx : Rd w A xs) (hok : TideOk xs) :
    Calls Try.prog 110 #[.slice A xs.length c] w fun e w' => e = .returned (.bool true) ∧ ∃ n, w' = w.drewN n := by
  have hn := hx.len
  have HOK := hid hok
  have hlen := hok.len
  have H1 : Hid (inB (xs.length : Int) 2 40 = true) := inB_lit (by omega)
  obtain ⟨b, off, rfl, hc⟩ := hx.tides (by omega)
  have HC := hid hc
  clear hx hok hc
  go_enter Try.func110, Try.ntmps110
  go_wp2_with fail
  go_loopw [3] (fun i wr => ∃ k : Nat, k ≤ xs.length ∧ i = .int .i64 k ∧ ∃ n, wr = w.drewN n) (fun i _ => xs.length - (intOf i).toNat)
  case atStart => exact ⟨0, by omega, rfl, 0, rfl⟩
  case round =>
    obtain ⟨k, hk, rfl, n, rfl⟩ := hrel
    by_cases hlt : k < xs.length
    · have he := HOK.out.each _ (List.getElem_mem hlt)
      have HE1 : Hid (inB xs[k].m 0 100000 = true) := inB_lit he.1
      have HE2 : Hid (inB xs[k].l (-2000) 2000 = true) := inB_lit he.2
      by_cases hk0 : k < 1
      · have c2 := HC.out k hlt
        generalize xs[k] = y at c2 HE1 HE2 he
        obtain ⟨c2, d2⟩ := c2
        have s5 : decide ((0 : Int) < (k : Int)) = false := decide_eq_false (by omega)
        have s6 : decide ((1 : Int) < (k : Int)) = false := decide_eq_false (by omega)
        have s5n : decide (0 < k) = false := decide_eq_false (by omega)
        have s6n : decide (1 < k) = false := decide_eq_false (by omega)
        go_upto_region 6 with (first | (go_at_call 136; refine (specIn _ _ _ _).mono ?_; rintro e w' ⟨rfl, rfl⟩; rw [HE1.out]) | (go_at_call 137; refine (specLevel_ _ _).mono ?_; rintro e w' ⟨rfl, rfl⟩; rw [HE2.out]))
        go_quiet (fail)
        go_upto_region 8 with fail
        go_quiet (fail)
        go_wp2_with fail
        go_roundw
        case rel => exact ⟨k + 1, by omega, by go_num, by first | exact ⟨_, rfl⟩ | exact ⟨_, World.drewN_drewN⟩⟩
        case measure => simp [intOf]; omega
      · obtain ⟨j, rfl⟩ : ∃ j, k = j + 1 := ⟨k - 1, by omega⟩
        have hst := HOK.out.step j hlt
        have c1 := HC.out j (by omega)
        have c2 := HC.out (j + 1) hlt
        by_cases hj0 : j < 1
        · obtain ⟨c1, d1⟩ := c1
          obtain ⟨c2, d2⟩ := c2
          generalize xs[j] = x at c1 d1 hst
          generalize xs[j + 1] = y at c2 d2 hst HE1 HE2 he
          obtain ⟨s1, s2⟩ := hst
          have s3 : (x.l == y.l) = false := beq_no s2
          have s4 : decide (y.m ≤ x.m) = false := decide_eq_false (by omega)
          have s5 : decide ((0 : Int) < (j : Int) + 1) = true := decide_eq_true (by omega)
          have s6 : decide ((1 : Int) < (j : Int) + 1) = false := decide_eq_false (by omega)
          go_upto_region 6 with (first | (go_at_call 136; refine (specIn _ _ _ _).mono ?_; rintro e w' ⟨rfl, rfl⟩; rw [HE1.out]) | (go_at_call 137; refine (specLevel_ _ _).mono ?_; rintro e w' ⟨rfl, rfl⟩; rw [HE2.out]))
          go_quiet (fail)
          go_upto_region 8 with fail
          go_quiet (fail)
          go_wp2_with fail
          go_roundw
          case rel => exact ⟨j + 1 + 1, by omega, by go_num, by first | exact ⟨_, rfl⟩ | exact ⟨_, World.drewN_drewN⟩⟩
          case measure => simp [intOf]; omega
        · obtain ⟨p, rfl⟩ : ∃ p, j = p + 1 := ⟨j - 1, by omega⟩
          have c0 := HC.out p (by omega)
          have hal := HOK.out.alt p (by omega)
          obtain ⟨c0, d0⟩ := c0
          obtain ⟨c1, d1⟩ := c1
          obtain ⟨c2, d2⟩ := c2
          generalize xs[p] = z at c0 d0 hal
          generalize xs[p + 1] = x at c1 d1 hst hal
          generalize xs[p + 1 + 1] = y at c2 d2 hst hal HE1 HE2 he
          obtain ⟨s1, s2⟩ := hst
          have s3 : (x.l == y.l) = false := beq_no s2
          have s4 : decide (y.m ≤ x.m) = false := decide_eq_false (by omega)
          have s8 : (decide (z.l < x.l) == decide (x.l < y.l)) = false := by
            rw [beq_eq_false_iff_ne]
            intro e
            have := decide_eq_decide.mp e
            by_cases hz : z.l < x.l
            · exact (hal.mp hz) (this.mp hz)
            · by_cases hy : x.l < y.l
              · exact hz (this.mpr hy)
              · exact hz (hal.mpr hy)
          have s5 : decide ((0 : Int) < (p : Int) + 1 + 1) = true := decide_eq_true (by omega)
          have s6 : decide ((1 : Int) < (p : Int) + 1 + 1) = true := decide_eq_true (by omega)
          have s7 : (p : Int) + 1 + 1 - 2 = (p : Int) := by omega
          clear hal s2
          go_upto_region 6 with (first | (go_at_call 136; refine (specIn _ _ _ _).mono ?_; rintro e w' ⟨rfl, rfl⟩; rw [HE1.out]) | (go_at_call 137; refine (specLevel_ _ _).mono ?_; rintro e w' ⟨rfl, rfl⟩; rw [HE2.out]))
          go_quiet (fail)
          go_upto_region 8 with fail
          go_quiet (fail)
          go_wp2_with fail
          go_roundw
          case rel => exact ⟨p + 1 + 1 + 1, by omega, by go_num, by first | exact ⟨_, rfl⟩ | exact ⟨_, World.drewN_drewN⟩⟩
          case measure => simp [intOf]; omega
    · go_wp2_with (go_at_call 136; refine (specIn _ _ _ _).mono ?_; rintro e w' ⟨rfl, rfl⟩; rw [H1.out])
      go_ret
      exact ⟨rfl, n, rfl⟩
end Go.Proofs.Yteobejgkjjhfkaa
