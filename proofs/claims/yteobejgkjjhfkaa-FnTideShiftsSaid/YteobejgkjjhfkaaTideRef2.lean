/- The reference's TideAt: walked. -/
import Derived.Test.YteobejgkjjhfkaaTideRef
import Derived.OwnWalk
namespace Go.Proofs.Yteobejgkjjhfkaa
open Go.RowKit
set_option linter.unusedVariables false
set_option maxHeartbeats 1000000 in
theorem l08In_ (A : Option Addr) (xs : List Tide) (c : Nat) (m : Int) (w : World) (hx : Rd w A xs) (hok : TT xs) :
    Calls Try.prog 111 #[.slice A xs.length c, .int .i64 m] w fun e w' => e = .returned (.bool (inB m (firstT xs) (lastT xs))) ∧ Below w.heap.size w w' := by
  have hlen := hok.ok.len
  obtain ⟨b, off, rfl, hc⟩ := hx.tides (by omega)
  have hc0 := (hc 0 (by omega)).1
  have hcl := (hc (xs.length - 1) (by omega)).1
  rw [← getD_tide (show 0 < xs.length by omega)] at hc0
  rw [← getD_tide (show xs.length - 1 < xs.length by omega)] at hcl
  have hc0 : w.cell? ⟨b, off, none⟩ = some (.int .i64 (firstT xs)) := by rw [Nat.zero_mul, Nat.add_zero] at hc0; exact hc0
  obtain ⟨n, hn⟩ : ∃ n, xs.length = n + 1 := ⟨xs.length - 1, by omega⟩
  have hcl : w.cell? ⟨b, off + n * 2, none⟩ = some (.int .i64 (lastT xs)) := by rw [show n = xs.length - 1 by omega]; exact hcl
  have hn40 : n ≤ 39 := by omega
  rw [hn]
  generalize firstT xs = a at *
  generalize lastT xs = z at *
  clear hx hok hc hn hlen
  have i0 : (0 : Int) < (n : Int) + 1 := by omega
  go_enter Try.func111, Try.ntmps111
  go_upto_region 1 with fail
  refine wp_region_more (by kernel_rfl) (by kernel_rfl) ?_
  repeat (go_big_quiet_step ((go_at_call 136; exact quiet_same (specIn _ _ _ _))))
  refine wpQuiet_nil ?_
  rintro _ ⟨nq, rfl⟩
  go_wp2_with fail
  go_ret
  exact ⟨rfl, more_below⟩
set_option maxHeartbeats 1000000 in
theorem l08Code_ (A : Option Addr) (xs : List Tide) (c : Nat) (m : Int) (w : World) (hx : Rd w A xs) (hok : TT xs) (hm : firstT xs ≤ m ∧ m ≤ lastT xs) :
    Calls Try.prog 67 #[.slice A xs.length c, .int .i64 m] w fun e w' => e = .returned (.int .i64 0) ∧ Below w.heap.size w w' := by
  have HX := hid hx
  have HOK := hid hok
  have HI : Hid (inB m (firstT xs) (lastT xs) = true) := inB_lit hm
  clear hx hok
  go_enter Try.func67, Try.ntmps67
  go_wp2_with fail
  refine (l08Ok_ _ _ _ _ HX.out HOK.out.ok).mono ?_
  rintro e w1 ⟨rfl, n, rfl⟩
  have HX1 := hid (HX.out.drewN n)
  go_wp2_with fail
  refine (l08In_ _ _ _ m _ HX1.out HOK.out).mono ?_
  rintro e w2 ⟨rfl, hb⟩
  rw [HI.out]
  have HB := hid (((Below.refl _ w).drewN n).trans hb)
  clear hb
  go_wp2_with fail
  go_ret
  exact ⟨rfl, HB.out⟩
set_option maxRecDepth 100000 in
set_option maxHeartbeats 8000000 in
theorem l08At_ (A : Option Addr) (xs : List Tide) (c : Nat) (m : Int) (w : World) (hx : Rd w A xs) (hok : TB xs) (hm : -1000 ≤ m ∧ m ≤ 2000) :
    Calls Try.prog 68 #[.slice A xs.length c, .int .i64 m] w fun e w' => e = .returned (.tuple #[.int .i64 (tnum xs m), .int .i64 (tden xs m)]) ∧ Below w.heap.size w w' := by
  have hlen := hok.len
  have HOK := hid hok.each
  obtain ⟨b, off, rfl, hc⟩ := hx.tides (by omega)
  have HC := hid hc
  obtain ⟨P, hP⟩ : ∃ P, tnum xs m = P := ⟨_, rfl⟩
  obtain ⟨Q, hQ⟩ : ∃ Q, tden xs m = Q := ⟨_, rfl⟩
  obtain ⟨S, hS⟩ : ∃ S, segOf xs m = S := ⟨_, rfl⟩
  rw [hP, hQ]
  unfold tnum tA tB at hP
  unfold tden tA tB at hQ
  rw [hS] at hP hQ
  have HP := hid hP
  have HQ := hid hQ
  have HS : Hid (segF xs m (xs.length - 0) 0 = S) := hS
  clear hx hok hc hP hQ hS
  go_enter Try.func68, Try.ntmps68
  go_wp2_with fail
  go_loop [6] (fun i => ∃ k : Nat, k + 1 < xs.length ∧ i = .int .i64 k ∧ segF xs m (xs.length - k) k = S) (fun i => xs.length - (intOf i).toNat)
  case atStart => exact ⟨0, by omega, rfl, HS.out⟩
  case round =>
    obtain ⟨k, hk, rfl, hsg⟩ := hrel
    have c1 := HC.out (k + 1) hk
    have hr1 := HOK.out _ (List.getElem_mem hk)
    have hgd := getD_tide hk
    obtain ⟨n, hn⟩ : ∃ n, xs.length - k = n + 1 := ⟨xs.length - k - 1, by omega⟩
    have hn2 : n = xs.length - (k + 1) := by omega
    rw [hn] at hsg
    unfold segF at hsg
    rw [hgd] at hsg
    obtain ⟨c1, d1⟩ := c1
    by_cases hcd : k + 2 < xs.length ∧ xs[k + 1].m ≤ m
    · rw [if_pos hcd, hn2] at hsg
      obtain ⟨e1, e2⟩ := hcd
      generalize xs[k + 1] = y at c1 d1 e2 hr1
      clear hn hn2 hgd
      go_wp2_with fail
      go_round
      case rel => exact ⟨k + 1, by omega, by go_num, hsg⟩
      case measure => simp [intOf]; omega
    · rw [if_neg hcd] at hsg
      subst hsg
      have c0 := HC.out k (by omega)
      have hr0 := HOK.out _ (List.getElem_mem (show k < xs.length by omega))
      obtain ⟨c0, d0⟩ := c0
      have hP := HP.out
      have hQ := HQ.out
      rw [hgd, getD_tide (show k < xs.length by omega)] at hP hQ
      have hcd' : k + 2 < xs.length → ¬ xs[k + 1].m ≤ m := fun h1 h2 => hcd ⟨h1, h2⟩
      generalize xs[k + 1] = y at c1 d1 hr1 hP hQ hcd'
      generalize xs[k] = x at c0 d0 hr0 hP hQ
      obtain ⟨xm, xl⟩ := x
      obtain ⟨ym, yl⟩ := y
      simp only at c0 d0 c1 d1 hr0 hr1 hP hQ hcd'
      have q1 := mul_small (a := xl) (b := ym - xm) (A := 2000) (B := 1000) (by omega) (by omega) (by omega) (by omega)
      have q2 := mul_small (a := yl - xl) (b := m - xm) (A := 4000) (B := 2000) (by omega) (by omega) (by omega) (by omega)
      have HP2 := hid hP
      have HQ2 := hid hQ
      clear hcd hn hn2 hgd hP hQ HP HQ
      by_cases hk2 : k + 2 < xs.length
      · have hmy := hcd' hk2
        clear hcd'
        go_wp2_with fail
        go_ret2
        exact ⟨by rw [← HP2.out, ← HQ2.out]; rfl, ((Below.refl _ _).alloc (Nat.le_refl _) _).alloc (by simp) _⟩
      · clear hcd'
        go_wp2_with fail
        go_ret2
        exact ⟨by rw [← HP2.out, ← HQ2.out]; rfl, ((Below.refl _ _).alloc (Nat.le_refl _) _).alloc (by simp) _⟩
theorem l02Size_ (a : Int) (w : World) (ha : -1000000000000 ≤ a ∧ a ≤ 1000000000000) : Calls Try.prog 113 #[.int .i64 a] w fun e w' => e = .returned (.int .i64 (a.natAbs : Int)) ∧ w = w' := by
  by_cases h : a < 0
  · rw [show (a.natAbs : Int) = -a by omega]
    go_enter Try.func113, Try.ntmps113
    go_wp2_with fail
    go_ret
    exact ⟨by first | rfl | exact ret_int (by omega), rfl⟩
  · rw [show (a.natAbs : Int) = a by omega]
    go_enter Try.func113, Try.ntmps113
    go_wp2_with fail
    go_ret
    exact ⟨by first | rfl | exact ret_int (by omega), rfl⟩
set_option maxHeartbeats 1000000 in
theorem l02Gcd_ (a b : Int) (w : World) (ha : 0 ≤ a ∧ a ≤ 9223372036854775807) (hb : 0 ≤ b ∧ b ≤ 9223372036854775807) :
    Calls Try.prog 112 #[.int .i64 a, .int .i64 b] w fun e w' => e = .returned (.int .i64 (Nat.gcd a.toNat b.toNat)) ∧ Below w.heap.size w w' := by
  obtain ⟨G, hG⟩ : ∃ G, Nat.gcd a.toNat b.toNat = G := ⟨_, rfl⟩
  rw [hG]
  have HG := hid hG
  clear hG
  go_enter Try.func112, Try.ntmps112
  go_wp2_with fail
  go_loop [0, 1] (fun u v => ∃ x y : Int, u = .int .i64 x ∧ v = .int .i64 y ∧ 0 ≤ x ∧ x ≤ 9223372036854775807 ∧ 0 ≤ y ∧ y ≤ 9223372036854775807 ∧ Nat.gcd x.toNat y.toNat = G) (fun _ v => (intOf v).toNat)
  case atStart => exact ⟨a, b, rfl, rfl, ha.1, ha.2, hb.1, hb.2, HG.out⟩
  case round =>
    obtain ⟨x, y, rfl, rfl, hx0, hx1, hy0, hy1, hg⟩ := hrel
    have HX := hid hg
    clear hg
    by_cases hy : 0 < y
    · have hs := gcd_step hx0 hy
      have HS := hid hs
      have hm0 := Int.emod_nonneg x (show y ≠ 0 by omega)
      have hm1 := Int.emod_lt_of_pos x hy
      clear hs
      go_wp2_with fail
      go_round
      case rel => exact ⟨y, x % y, rfl, rfl, by omega, by omega, hm0, by omega, by rw [HS.out]; exact HX.out⟩
      case measure => simp [intOf]; omega
    · have hy2 : y = 0 := by omega
      have HG2 : Hid (x = (G : Int)) := by
        have h1 := HX.out
        rw [hy2] at h1
        simp at h1
        show x = _
        omega
      clear hy2
      go_wp2_with fail
      go_ret
      exact ⟨ret_int HG2.out, Below.refl _ _⟩
set_option maxHeartbeats 2000000 in
theorem l02Make_ (num den : Int) (w : World) (hn : -1000000000000 ≤ num ∧ num ≤ 1000000000000) (hd : 1 ≤ den ∧ den ≤ 1000000) :
    Calls Try.prog 69 #[.int .i64 num, .int .i64 den] w fun e w' => ∃ N D g : Int, e = .returned (.agg #[.int .i64 N, .int .i64 D]) ∧ 1 ≤ g ∧ N * g = num ∧ D * g = den ∧ Below w.heap.size w w' := by
  obtain ⟨g, hg⟩ : ∃ g : Nat, Nat.gcd ((num.natAbs : Int)).toNat den.toNat = g := ⟨_, rfl⟩
  have hgp : 0 < g := by rw [← hg]; exact Nat.gcd_pos_of_pos_right _ (by omega)
  have hgn : (g : Int) ∣ num := by
    rw [← hg, Int.toNat_natCast]
    exact Int.dvd_natAbs.mp (Int.natCast_dvd_natCast.mpr (Nat.gcd_dvd_left _ _))
  have hgd : (g : Int) ∣ den := by
    have := Int.natCast_dvd_natCast.mpr (Nat.gcd_dvd_right ((num.natAbs : Int)).toNat den.toNat)
    rw [hg, Int.toNat_of_nonneg (by omega)] at this
    exact this
  have hgb : (g : Int) ≤ 1000000 := by have := Int.le_of_dvd (by omega) hgd; omega
  obtain ⟨N, hN⟩ := hgn
  obtain ⟨D, hD⟩ := hgd
  have hq1 : num.tdiv (g : Int) = N := by rw [hN]; exact Int.mul_tdiv_cancel_left _ (by omega)
  have hq2 : den.tdiv (g : Int) = D := by rw [hD]; exact Int.mul_tdiv_cancel_left _ (by omega)
  have hq3 : den / (g : Int) = D := by rw [hD]; exact Int.mul_ediv_cancel_left _ (by omega)
  have hNb : -1000000000000 ≤ N ∧ N ≤ 1000000000000 := by
    have h1 : N.natAbs ≤ num.natAbs := by
      rw [hN, Int.natAbs_mul]
      exact Nat.le_mul_of_pos_left _ (by omega)
    omega
  have hDb : 0 ≤ D ∧ D ≤ 1000000 := by
    have h1 : D.natAbs ≤ den.natAbs := by
      rw [hD, Int.natAbs_mul]
      exact Nat.le_mul_of_pos_left _ (by omega)
    rw [← hq3]
    exact ⟨Int.ediv_nonneg (by omega) (by omega), by rw [hq3]; omega⟩
  have H1 := hid hN
  have H2 := hid hD
  have HG := hid hg
  have hg0 : ¬ (g : Int) = 0 := by omega
  have hg1 : ¬ g = 0 := by omega
  clear hN hD hg
  obtain ⟨w0, hw0⟩ : ∃ x, w.alloc (.cells #[.int .i64 0, .int .i64 0] 40) = x := ⟨_, rfl⟩
  have hb0 : Below w.heap.size w w0 := by rw [← hw0]; exact (Below.refl _ _).alloc (Nat.le_refl _) _
  have k0 : w0.cell? ⟨w.heap.size, 0, none⟩ = some (.int .i64 0) := by rw [← hw0]; simp [go_sem]
  have k1 : w0.cell? ⟨w.heap.size, 1, none⟩ = some (.int .i64 0) := by rw [← hw0]; simp [go_sem]
  have f0 : w0.frozen? ⟨w.heap.size, 0, none⟩ = false := by rw [← hw0]; simp [go_sem]
  have f1 : w0.frozen? ⟨w.heap.size, 1, none⟩ = false := by rw [← hw0]; simp [go_sem]
  have HW := hid hw0
  have HB0 := hid hb0
  clear hw0 hb0
  go_enter Try.func69, Try.ntmps69
  go_upto_region 1 with fail
  rw [HW.out]
  clear HW
  go_wp2_with (go_at_call 113; refine (l02Size_ num _ hn).mono ?_; rintro e w' ⟨rfl, rfl⟩)
  refine (l02Gcd_ (num.natAbs : Int) den _ (by omega) (by omega)).mono ?_
  rintro e w1 ⟨rfl, hb⟩
  rw [HG.out]
  have k0' := box_cell hb k0
  have k1' := box_cell hb k1
  have f0' := box_free hb (by rw [k0]; rfl) f0
  have f1' := box_free hb (by rw [k1]; rfl) f1
  have HB := hid (HB0.out.trans (hb.mono HB0.out.size))
  clear hb k0 k1 f0 f1
  go_wp2_with fail
  go_region
  all_goals
    go_wp2_with fail
    (try simp only [Exit.inBlock, Exit.then])
    refine bodyPost_ret (v := .agg #[.int .i64 N, .int .i64 D]) ?_ rfl ?_
    · simp [results, go_sem, k0', k1']
    · exact ⟨N, D, g, rfl, by omega, by rw [H1.out, Int.mul_comm], by rw [H2.out, Int.mul_comm], by first | exact ((HB.out.setCell (Nat.le_refl _) _).setCell (Nat.le_refl _) _).drew | exact ((HB.out.drew).setCell (Nat.le_refl _) _).setCell (Nat.le_refl _) _⟩
end Go.Proofs.Yteobejgkjjhfkaa
