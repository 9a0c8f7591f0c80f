/- ShiftTides, TideAt, SameTides, the nearest number: walked. -/
import Derived.Test.YteobejgkjjhfkaaTideMvP
namespace Go.Proofs.Yteobejgkjjhfkaa
open Go.RowKit
set_option linter.unusedVariables false
set_option maxHeartbeats 400000 in
theorem absZ_ (a : Int) (w : World) (ha : -1000000000000 ≤ a ∧ a ≤ 1000000000000) : Calls Try.prog 109 #[.int .i64 a] w fun e w' => e = .returned (.int .i64 (a.natAbs : Int)) ∧ w = w' := by
  go_enter Try.func109, Try.ntmps109
  go_wp2
  all_goals
    go_ret
    exact ⟨ret_int (by first | rfl | omega | (split <;> omega)), rfl⟩
set_option maxHeartbeats 2000000 in
theorem fracZ_ (num den : Int) (w : World) (hn : -1000000000000 ≤ num ∧ num ≤ 1000000000000) (hd : 1 ≤ den ∧ den ≤ 1000000) :
    Calls Try.prog 62 #[.int .i64 num, .int .i64 den] w fun e w' => ∃ N D : Int, e = .returned (.agg #[.int .i64 N, .int .i64 D]) ∧ N * (Int.gcd num den : Nat) = num ∧ D * (Int.gcd num den : Nat) = den ∧ Below w.heap.size w w' := by
  obtain ⟨g, hg⟩ : ∃ g : Nat, Nat.gcd ((num.natAbs : Int)).toNat den.toNat = g := ⟨_, rfl⟩
  have hgi : Int.gcd num den = g := by
    show Nat.gcd num.natAbs den.natAbs = g
    rw [← hg, Int.toNat_natCast, show den.natAbs = den.toNat by omega]
  rw [hgi]
  clear hgi
  have hgp : 0 < g := by rw [← hg]; exact Nat.gcd_pos_of_pos_right _ (by omega)
  have hgn : (g : Int) ∣ num := by
    rw [← hg, Int.toNat_natCast]
    exact Int.dvd_natAbs.mp (Int.natCast_dvd_natCast.mpr (Nat.gcd_dvd_left _ _))
  have hgd : (g : Int) ∣ den := by
    have := Int.natCast_dvd_natCast.mpr (Nat.gcd_dvd_right ((num.natAbs : Int)).toNat den.toNat)
    rw [hg, Int.toNat_of_nonneg (by omega)] at this
    exact this
  have hgb : (g : Int) ≤ 1000000 := by have := Int.le_of_dvd (by omega) hgd; omega
  obtain ⟨N, hN⟩ := hgn
  obtain ⟨D, hD⟩ := hgd
  have hq1 : num.tdiv (g : Int) = N := by rw [hN]; exact Int.mul_tdiv_cancel_left _ (by omega)
  have hq2 : den.tdiv (g : Int) = D := by rw [hD]; exact Int.mul_tdiv_cancel_left _ (by omega)
  have hq3 : den / (g : Int) = D := by rw [hD]; exact Int.mul_ediv_cancel_left _ (by omega)
  have hNb : -1000000000000 ≤ N ∧ N ≤ 1000000000000 := by
    have h1 : N.natAbs ≤ num.natAbs := by
      rw [hN, Int.natAbs_mul]
      exact Nat.le_mul_of_pos_left _ (by omega)
    omega
  have hDb : 0 ≤ D ∧ D ≤ 1000000 := by
    have h1 : D.natAbs ≤ den.natAbs := by
      rw [hD, Int.natAbs_mul]
      exact Nat.le_mul_of_pos_left _ (by omega)
    rw [← hq3]
    exact ⟨Int.ediv_nonneg (by omega) (by omega), by rw [hq3]; omega⟩
  have H1 := hid hN
  have H2 := hid hD
  have HG := hid hg
  have hg0 : ¬ (g : Int) = 0 := by omega
  have hg1 : ¬ g = 0 := by omega
  clear hN hD hg
  obtain ⟨w0, hw0⟩ : ∃ x, w.alloc (.cells #[.int .i64 0, .int .i64 0] 40) = x := ⟨_, rfl⟩
  have hb0 : Below w.heap.size w w0 := by rw [← hw0]; exact (Below.refl _ _).alloc (Nat.le_refl _) _
  have k0 : w0.cell? ⟨w.heap.size, 0, none⟩ = some (.int .i64 0) := by rw [← hw0]; simp [go_sem]
  have k1 : w0.cell? ⟨w.heap.size, 1, none⟩ = some (.int .i64 0) := by rw [← hw0]; simp [go_sem]
  have f0 : w0.frozen? ⟨w.heap.size, 0, none⟩ = false := by rw [← hw0]; simp [go_sem]
  have f1 : w0.frozen? ⟨w.heap.size, 1, none⟩ = false := by rw [← hw0]; simp [go_sem]
  have HW := hid hw0
  have HB0 := hid hb0
  clear hw0 hb0
  go_enter Try.func62, Try.ntmps62
  go_upto_region 1 with fail
  rw [HW.out]
  clear HW
  go_wp2_with (go_at_call 109; refine (absZ_ num _ hn).mono ?_; rintro e w' ⟨rfl, rfl⟩)
  refine (gcd_ (num.natAbs : Int) den _ (by omega) (by omega)).mono ?_
  rintro e w1 ⟨rfl, hb⟩
  rw [HG.out]
  have k0' := box_cell hb k0
  have k1' := box_cell hb k1
  have f0' := box_free hb (by rw [k0]; rfl) f0
  have f1' := box_free hb (by rw [k1]; rfl) f1
  have HB := hid (HB0.out.trans (hb.mono HB0.out.size))
  clear hb k0 k1 f0 f1
  go_wp2_with fail
  go_region
  all_goals
    go_wp2_with fail
    (try simp only [Exit.inBlock, Exit.then])
    refine bodyPost_ret (v := .agg #[.int .i64 N, .int .i64 D]) ?_ rfl ?_
    · simp [results, go_sem, k0', k1']
    · exact ⟨N, D, rfl, by rw [H1.out, Int.mul_comm], by rw [H2.out, Int.mul_comm], by first | exact ((HB.out.setCell (Nat.le_refl _) _).setCell (Nat.le_refl _) _).drew | exact ((HB.out.drew).setCell (Nat.le_refl _) _).setCell (Nat.le_refl _) _⟩
set_option maxHeartbeats 4000000 in
theorem implTideAt_ (A : Option Addr) (xs : List Tide) (c : Nat) (m : Int) (w : World) (hx : Rd w A xs) (hok : TT xs) (hm : firstT xs ≤ m ∧ m ≤ lastT xs) :
    Calls Try.prog 40 #[.slice A xs.length c, .int .i64 m] w fun e w' => ∃ N D : Int, e = .returned (.tuple #[.agg #[.int .i64 N, .int .i64 D], .int .i64 0]) ∧ N * (Int.gcd (tnum xs m) (tden xs m) : Nat) = tnum xs m ∧ D * (Int.gcd (tnum xs m) (tden xs m) : Nat) = tden xs m ∧ Below w.heap.size w w' := by
  obtain ⟨hnb, hdb⟩ := tb_num hok hm
  obtain ⟨_, hf0, hl0⟩ := first_last hok
  have HX := hid hx
  have HOK := hid hok
  have HIM : Hid (inB m (firstT xs) (lastT xs) = true) := inB_lit hm
  have hm2 : -1000 ≤ m ∧ m ≤ 2000 := by omega
  obtain ⟨w0, hw0⟩ : ∃ x, w.alloc (.cells #[.int .i64 0, .int .i64 0] 40) = x := ⟨_, rfl⟩
  have hb0 : Below w.heap.size w w0 := by rw [← hw0]; exact (Below.refl _ _).alloc (Nat.le_refl _) _
  have k0 : w0.cell? ⟨w.heap.size, 0, none⟩ = some (.int .i64 0) := by rw [← hw0]; simp [go_sem]
  have k1 : w0.cell? ⟨w.heap.size, 1, none⟩ = some (.int .i64 0) := by rw [← hw0]; simp [go_sem]
  have f0 : w0.frozen? ⟨w.heap.size, 0, none⟩ = false := by rw [← hw0]; simp [go_sem]
  have f1 : w0.frozen? ⟨w.heap.size, 1, none⟩ = false := by rw [← hw0]; simp [go_sem]
  have HW := hid hw0
  have HB0 := hid hb0
  have HX0 := hid (hx.below hb0)
  clear hx hok hm hw0 hb0
  go_enter Try.func40, Try.ntmps40
  go_upto_region 1 with fail
  rw [HW.out]
  clear HW
  go_wp2_with fail
  refine (validTides_ _ _ _ _ HX0.out HOK.out.ok).mono ?_
  rintro e w1 ⟨rfl, hb⟩
  have a0 := box_cell hb k0
  have a1 := box_cell hb k1
  have b0 := box_free hb (by rw [k0]; rfl) f0
  have b1 := box_free hb (by rw [k1]; rfl) f1
  have HB1 := hid (HB0.out.trans (hb.mono HB0.out.size))
  have HX1 := hid (HX0.out.below hb)
  clear hb k0 k1 f0 f1
  go_wp2_with fail
  refine (isMinuteOf_ _ _ _ m _ HX1.out HOK.out).mono ?_
  rintro e w2 ⟨rfl, hb⟩
  rw [HIM.out]
  have k0 := box_cell hb a0
  have k1 := box_cell hb a1
  have f0 := box_free hb (by rw [a0]; rfl) b0
  have f1 := box_free hb (by rw [a1]; rfl) b1
  have HB2 := hid (HB1.out.trans (hb.mono HB1.out.size))
  have HX2 := hid (HX1.out.below hb)
  clear hb a0 a1 b0 b1
  go_wp2_with fail
  refine (tideAt_ _ _ _ m _ HX2.out HOK.out.tb hm2).mono ?_
  rintro e w3 ⟨rfl, hb⟩
  have a0 := box_cell hb k0
  have a1 := box_cell hb k1
  have b0 := box_free hb (by rw [k0]; rfl) f0
  have b1 := box_free hb (by rw [k1]; rfl) f1
  have HB3 := hid (HB2.out.trans (hb.mono HB2.out.size))
  clear hb k0 k1 f0 f1
  have hlt3 := HB3.out.size
  have hlt4 : w.heap.size < w3.heap.size := World.block_lt_of_cell? w3 _ a0
  go_wp2_with fail
  refine (fracZ_ (tnum xs m) (tden xs m) _ hnb (by omega)).mono ?_
  rintro e w4 ⟨N, D, rfl, e1, e2, hb⟩
  have k0 := box_cell hb (p := ⟨w.heap.size, 0, none⟩) (v := .int .i64 0) (by simp [go_sem, a0])
  have k1 := box_cell hb (p := ⟨w.heap.size, 1, none⟩) (v := .int .i64 0) (by simp [go_sem, a1])
  have f0 := box_free hb (p := ⟨w.heap.size, 0, none⟩) (by simp [go_sem, a0]) (by simp [go_sem, a0, b0])
  have f1 := box_free hb (p := ⟨w.heap.size, 1, none⟩) (by simp [go_sem, a1]) (by simp [go_sem, a1, b1])
  have HB4 := hid ((HB3.out.alloc HB3.out.size _).trans (hb.mono (le_alloc HB3.out.size)))
  have E1 := hid e1
  have E2 := hid e2
  clear hb a0 a1 b0 b1 e1 e2
  go_wp2_with fail
  (try simp only [Exit.inBlock, Exit.then])
  refine bodyPost_ret (v := .tuple #[.agg #[.int .i64 N, .int .i64 D], .int .i64 0]) ?_ rfl ?_
  · simp [results, go_sem, k0, k1]
  · exact ⟨N, D, rfl, E1.out, E2.out, (HB4.out.setCell (Nat.le_refl _) _).setCell (Nat.le_refl _) _⟩
theorem floor_neg {n d : Int} (hn : n < 0) (hd : 0 < d) : (n.tmod d < 0 → n.tdiv d - 1 = n / d) ∧ (¬ n.tmod d < 0 → n.tdiv d = n / d) := by
  obtain ⟨p, rfl⟩ : ∃ p, n = -p := ⟨-n, by omega⟩
  have hp : 0 ≤ p := by omega
  rw [Int.neg_tmod, Int.neg_tdiv, Int.tmod_eq_emod_of_nonneg hp, Int.tdiv_eq_ediv_of_nonneg hp]
  have h1 := Int.emod_nonneg p (show d ≠ 0 by omega)
  have h2 := Int.emod_lt_of_pos p hd
  have h3 := Int.mul_ediv_add_emod p d
  constructor
  · intro h
    have := (Int.ediv_emod_unique (a := -p) (b := d) (r := d - p % d) (q := -(p / d) - 1) hd).2 ⟨by rw [Int.mul_sub, Int.mul_neg]; omega, by omega, by omega⟩
    exact this.1.symm
  · intro h
    have := (Int.ediv_emod_unique (a := -p) (b := d) (r := 0) (q := -(p / d)) hd).2 ⟨by rw [Int.mul_neg]; omega, by omega, by omega⟩
    exact this.1.symm
set_option maxHeartbeats 1000000 in
theorem floorDiv_ (n d : Int) (w : World) (hn : -10000000000000 ≤ n ∧ n ≤ 10000000000000) (hd : 1 ≤ d ∧ d ≤ 10000000000000) :
    Calls Try.prog 129 #[.int .i64 n, .int .i64 d] w fun e w' => e = .returned (.int .i64 (n / d)) ∧ w = w' := by
  have hd0 : ¬ d = 0 := by omega
  by_cases h : n < 0
  · obtain ⟨h1, h2⟩ := floor_neg h (show 0 < d by omega)
    have b1 : -10000000000000 ≤ n.tdiv d ∧ n.tdiv d ≤ 0 := by
      obtain ⟨p, rfl⟩ : ∃ p, n = -p := ⟨-n, by omega⟩
      rw [Int.neg_tdiv, Int.tdiv_eq_ediv_of_nonneg (by omega)]
      have := Int.ediv_nonneg (a := p) (b := d) (by omega) (by omega)
      have := Int.ediv_le_self (a := p) d (by omega)
      omega
    by_cases hm : n.tmod d < 0
    · have H1 := hid (h1 hm)
      clear h1 h2
      go_enter Try.func129, Try.ntmps129
      go_wp2_with fail
      go_ret
      exact ⟨ret_int (by have := H1.out; first | omega | exact this), rfl⟩
    · have H2 := hid (h2 hm)
      clear h1 h2
      go_enter Try.func129, Try.ntmps129
      go_wp2_with fail
      go_ret
      exact ⟨ret_int H2.out, rfl⟩
  · have h0 : 0 ≤ n := by omega
    have h1 := Int.emod_nonneg n hd0
    have h2 := Int.ediv_nonneg (a := n) (b := d) (by omega) (by omega)
    have h3 := Int.ediv_le_self (a := n) d (by omega)
    go_enter Try.func129, Try.ntmps129
    go_wp2_with fail
    go_ret
    exact ⟨rfl, rfl⟩
set_option maxHeartbeats 1000000 in
theorem nearest_ (N D : Int) (w : World) (hn : -1000000000000 ≤ N ∧ N ≤ 1000000000000) (hd : 1 ≤ D ∧ D ≤ 1000000) :
    Calls Try.prog 90 #[.agg #[.int .i64 N, .int .i64 D]] w fun e w' => e = .returned (.int .i64 (near N D)) ∧ Below w.heap.size w w' := by
  unfold near
  go_enter Try.func90, Try.ntmps90
  go_wp2_with (go_at_call 129; refine (floorDiv_ _ _ _ (by omega) (by omega)).mono ?_; rintro e w' ⟨rfl, rfl⟩)
  go_ret
  exact ⟨rfl, (Below.refl _ _).alloc (Nat.le_refl _) _⟩
theorem guardTide : Try.prog.eqGuardType Try.prog.depth 52 = false := by kernel_rfl
theorem stoodTide : Try.prog.stoodInHeld 52 = false := by kernel_rfl
theorem fieldsTide : Try.prog.underlying 52 = some (.struct (Try.prog.fieldsOf 52)) := by kernel_rfl
attribute [go_sem] guardTide
theorem tide_beq (d e : Tide) : (d == e) = (d.m == e.m && d.l == e.l) := by
  rw [Bool.eq_iff_iff]
  cases d; cases e; simp
@[go_sem ↓] theorem neqTide (a0 b0 a1 b1 : Int) (w : World) : (binOp .neq 52 (.agg #[.int .i64 a0, .int .i64 b0]) (.agg #[.int .i64 a1, .int .i64 b1])).run Try.prog w = .ok (.bool (!((⟨a0, b0⟩ : Tide) == ⟨a1, b1⟩))) w := by
  rw [run_neq_struct, run_equalIn_struct _ _ _ _ _ fieldsTide stoodTide]
  simp [go_sem, Try.underlying52]
  by_cases h0 : a0 = a1 <;> by_cases h1 : b0 = b1 <;> simp [h0, h1]
set_option maxHeartbeats 2000000 in
theorem specSameT_ (A B : Option Addr) (xs : List Tide) (c d : Nat) (w : World) (hx : Rd w A xs) (hy : Rd w B xs) :
    Calls Try.prog 39 #[.slice A xs.length c, .slice B xs.length d] w fun e w' => e = .returned (.bool true) ∧ ∃ n, w' = w.drewN n := by
  have hn := hx.len
  have HX := hid hx
  have HY := hid hy
  clear hx hy
  go_enter Try.func39, Try.ntmps39
  go_wp2_with fail
  go_loopw [5] (fun i wr => ∃ k : Nat, k ≤ xs.length ∧ i = .int .i64 k ∧ ∃ n, wr = w.drewN n) (fun i _ => xs.length - (intOf i).toNat)
  case atStart => exact ⟨0, Nat.zero_le _, rfl, 0, rfl⟩
  case round =>
    obtain ⟨k, hk, rfl, n, rfl⟩ := hrel
    by_cases hlt : k < xs.length
    · obtain ⟨b, off, rfl, c1, c2⟩ := HX.out.tide hlt
      obtain ⟨b2, off2, rfl, d1, d2⟩ := HY.out.tide hlt
      generalize xs[k] = x at c1 c2 d1 d2
      obtain ⟨x1, x2⟩ := x
      simp only at c1 c2 d1 d2
      have he : ((⟨x1, x2⟩ : Tide) == ⟨x1, x2⟩) = true := by simp
      have i2 : (k : Int) < (xs.length : Int) := by omega
      go_upto_region 6 with fail
      go_quiet (fail)
      go_wp2_with fail
      go_roundw
      case rel => exact ⟨k + 1, by omega, by go_num, by first | exact ⟨_, rfl⟩ | exact ⟨_, World.drewN_drewN⟩⟩
      case measure => simp [intOf]; omega
    · go_wp2_with fail
      go_ret
      exact ⟨rfl, n, rfl⟩
end Go.Proofs.Yteobejgkjjhfkaa
