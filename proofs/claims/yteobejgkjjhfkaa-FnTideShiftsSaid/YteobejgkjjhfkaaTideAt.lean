/- The tide at a minute: walked. -/
import Derived.Test.YteobejgkjjhfkaaTideOk
import Derived.Deep.RegionHeld3
import Derived.OwnWalk
namespace Go.Proofs.Yteobejgkjjhfkaa
open Go.RowKit
set_option linter.unusedVariables false
def segF (xs : List Tide) (m : Int) : Nat → Nat → Nat
  | 0, i => i
  | n + 1, i => if i + 2 < xs.length ∧ (xs.getD (i + 1) ⟨0, 0⟩).m ≤ m then segF xs m n (i + 1) else i
def segOf (xs : List Tide) (m : Int) : Nat := segF xs m xs.length 0
theorem segF_lt (xs : List Tide) (m : Int) : ∀ n i, i + 1 < xs.length → segF xs m n i + 1 < xs.length
  | 0, i, h => h
  | n + 1, i, h => by
    unfold segF
    split
    · exact segF_lt xs m n (i + 1) (by omega)
    · exact h
def tA (xs : List Tide) (m : Int) : Tide := xs.getD (segOf xs m) ⟨0, 0⟩
def tB (xs : List Tide) (m : Int) : Tide := xs.getD (segOf xs m + 1) ⟨0, 0⟩
def tnum (xs : List Tide) (m : Int) : Int := (tA xs m).l * ((tB xs m).m - (tA xs m).m) + ((tB xs m).l - (tA xs m).l) * (m - (tA xs m).m)
def tden (xs : List Tide) (m : Int) : Int := (tB xs m).m - (tA xs m).m
structure TB (xs : List Tide) : Prop where
  len : 2 ≤ xs.length ∧ xs.length ≤ 40
  each : ∀ x ∈ xs, (0 ≤ x.m ∧ x.m ≤ 1000) ∧ -2000 ≤ x.l ∧ x.l ≤ 2000
theorem getD_tide {xs : List Tide} {k : Nat} (h : k < xs.length) : xs.getD k ⟨0, 0⟩ = xs[k] := by simp [List.getD, h]
/-- A product of small numbers is small. -/
theorem mul_small {a b A B : Int} (ha : -A ≤ a ∧ a ≤ A) (hb : -B ≤ b ∧ b ≤ B) (hA : 0 ≤ A) (hB : 0 ≤ B) : -(A * B) ≤ a * b ∧ a * b ≤ A * B := by
  have h := Int.natAbs_mul a b
  have h1 : a.natAbs ≤ A.toNat := by omega
  have h2 : b.natAbs ≤ B.toNat := by omega
  have h3 : (a * b).natAbs ≤ A.toNat * B.toNat := by rw [h]; exact Nat.mul_le_mul h1 h2
  have h4 : ((A.toNat * B.toNat : Nat) : Int) = A * B := by rw [Int.natCast_mul, Int.toNat_of_nonneg hA, Int.toNat_of_nonneg hB]
  omega
set_option maxRecDepth 100000 in
set_option maxHeartbeats 8000000 in
theorem tideAt_ (A : Option Addr) (xs : List Tide) (c : Nat) (m : Int) (w : World) (hx : Rd w A xs) (hok : TB xs) (hm : -1000 ≤ m ∧ m ≤ 2000) :
    Calls Try.prog 89 #[.slice A xs.length c, .int .i64 m] w fun e w' => e = .returned (.agg #[.int .i64 (tnum xs m), .int .i64 (tden xs m)]) ∧ Below w.heap.size w w' := by
  have hlen := hok.len
  have HOK := hid hok.each
  obtain ⟨w0, hw0⟩ : ∃ x, w.alloc (.cells #[.int .i64 0, .int .i64 0] 40) = x := ⟨_, rfl⟩
  have hb0 : Below w.heap.size w w0 := by rw [← hw0]; exact (Below.refl _ _).alloc (Nat.le_refl _) _
  have k0 : w0.cell? ⟨w.heap.size, 0, none⟩ = some (.int .i64 0) := by rw [← hw0]; simp [go_sem]
  have k1 : w0.cell? ⟨w.heap.size, 1, none⟩ = some (.int .i64 0) := by rw [← hw0]; simp [go_sem]
  have f0 : w0.frozen? ⟨w.heap.size, 0, none⟩ = false := by rw [← hw0]; simp [go_sem]
  have f1 : w0.frozen? ⟨w.heap.size, 1, none⟩ = false := by rw [← hw0]; simp [go_sem]
  obtain ⟨b, off, rfl, hc⟩ := (hx.below hb0).tides (by omega)
  have HC := hid hc
  have HB0 := hid hb0
  have HW := hid hw0
  obtain ⟨P, hP⟩ : ∃ P, tnum xs m = P := ⟨_, rfl⟩
  obtain ⟨Q, hQ⟩ : ∃ Q, tden xs m = Q := ⟨_, rfl⟩
  obtain ⟨S, hS⟩ : ∃ S, segOf xs m = S := ⟨_, rfl⟩
  rw [hP, hQ]
  unfold tnum tA tB at hP
  unfold tden tA tB at hQ
  rw [hS] at hP hQ
  have HP := hid hP
  have HQ := hid hQ
  have HS : Hid (segF xs m (xs.length - 0) 0 = S) := hS
  clear hx hok hb0 hw0 hc hP hQ hS
  go_enter Try.func89, Try.ntmps89
  go_upto_region 1 with fail
  rw [HW.out]
  clear HW
  go_wp2_with fail
  go_loop [5] (fun i => ∃ k : Nat, k + 1 < xs.length ∧ i = .int .i64 k ∧ segF xs m (xs.length - k) k = S) (fun i => xs.length - (intOf i).toNat)
  case atStart => exact ⟨0, by omega, rfl, HS.out⟩
  case round =>
    obtain ⟨k, hk, rfl, hsg⟩ := hrel
    have c1 := HC.out (k + 1) hk
    have hr1 := HOK.out _ (List.getElem_mem hk)
    have hgd := getD_tide hk
    obtain ⟨n, hn⟩ : ∃ n, xs.length - k = n + 1 := ⟨xs.length - k - 1, by omega⟩
    have hn2 : n = xs.length - (k + 1) := by omega
    rw [hn] at hsg
    unfold segF at hsg
    rw [hgd] at hsg
    obtain ⟨c1, d1⟩ := c1
    by_cases hcd : k + 2 < xs.length ∧ xs[k + 1].m ≤ m
    · rw [if_pos hcd, hn2] at hsg
      obtain ⟨e1, e2⟩ := hcd
      generalize xs[k + 1] = y at c1 d1 e2 hr1
      clear hn hn2 hgd
      go_wp2_with fail
      go_round
      case rel => exact ⟨k + 1, by omega, by go_num, hsg⟩
      case measure => simp [intOf]; omega
    · rw [if_neg hcd] at hsg
      subst hsg
      have c0 := HC.out k (by omega)
      have hr0 := HOK.out _ (List.getElem_mem (show k < xs.length by omega))
      obtain ⟨c0, d0⟩ := c0
      have hP := HP.out
      have hQ := HQ.out
      rw [hgd, getD_tide (show k < xs.length by omega)] at hP hQ
      have hcd' : k + 2 < xs.length → ¬ xs[k + 1].m ≤ m := fun h1 h2 => hcd ⟨h1, h2⟩
      generalize xs[k + 1] = y at c1 d1 hr1 hP hQ hcd'
      generalize xs[k] = x at c0 d0 hr0 hP hQ
      obtain ⟨xm, xl⟩ := x
      obtain ⟨ym, yl⟩ := y
      simp only at c0 d0 c1 d1 hr0 hr1 hP hQ hcd'
      have q1 := mul_small (a := xl) (b := ym - xm) (A := 2000) (B := 1000) (by omega) (by omega) (by omega) (by omega)
      have q2 := mul_small (a := yl - xl) (b := m - xm) (A := 4000) (B := 2000) (by omega) (by omega) (by omega) (by omega)
      have HP2 := hid hP
      have HQ2 := hid hQ
      clear hcd hn hn2 hgd hP hQ HP HQ
      by_cases hk2 : k + 2 < xs.length
      · have hmy := hcd' hk2
        clear hcd'
        go_upto_region 4 with fail
        have i0 : k < xs.length := by omega
        have i4 : IntKind.i64.wrap ((k : Int) + 1) = (k : Int) + 1 := IntWalk.i64_in _ (by omega)
        have i5 : (0 : Int) ≤ (k : Int) + 1 := by omega
        have i2 : (k : Int) < (xs.length : Int) := by omega
        have i3 : (k : Int) + 1 < (xs.length : Int) := by omega
        go_region_held3 (fun w' => w'.cell? ⟨b, off + k * 2, none⟩ = some (.int .i64 xm) ∧ w'.cell? ⟨b, off + k * 2 + 1, none⟩ = some (.int .i64 xl) ∧ w'.cell? ⟨b, off + (k + 1) * 2, none⟩ = some (.int .i64 ym) ∧ w'.cell? ⟨b, off + (k + 1) * 2 + 1, none⟩ = some (.int .i64 yl))
          (first | go_keep)
          (first | fail)
        all_goals
          go_wp2_with fail
          (try simp only [Exit.inBlock, Exit.then])
          refine bodyPost_ret (v := .agg #[.int .i64 P, .int .i64 Q]) ?_ rfl ?_
          · rw [← HP2.out, ← HQ2.out]
            have z0 : ∀ o1 o2, ((w0.alloc o1).alloc o2).cell? ⟨w.heap.size, 0, none⟩ = some (.int .i64 0) := fun o1 o2 => by simp [go_sem, k0]
            have z1 : ∀ o1 o2, ((w0.alloc o1).alloc o2).cell? ⟨w.heap.size, 1, none⟩ = some (.int .i64 0) := fun o1 o2 => by simp [go_sem, k1]
            simp [results, go_sem, z0, z1]
          · exact ⟨rfl, ((((HB0.out.alloc HB0.out.size _).alloc (le_alloc HB0.out.size) _).drew).setCell (Nat.le_refl _) _).setCell (Nat.le_refl _) _⟩
      · clear hcd'
        go_upto_region 4 with fail
        have i0 : k < xs.length := by omega
        have i4 : IntKind.i64.wrap ((k : Int) + 1) = (k : Int) + 1 := IntWalk.i64_in _ (by omega)
        have i5 : (0 : Int) ≤ (k : Int) + 1 := by omega
        have i2 : (k : Int) < (xs.length : Int) := by omega
        have i3 : (k : Int) + 1 < (xs.length : Int) := by omega
        go_region_held3 (fun w' => w'.cell? ⟨b, off + k * 2, none⟩ = some (.int .i64 xm) ∧ w'.cell? ⟨b, off + k * 2 + 1, none⟩ = some (.int .i64 xl) ∧ w'.cell? ⟨b, off + (k + 1) * 2, none⟩ = some (.int .i64 ym) ∧ w'.cell? ⟨b, off + (k + 1) * 2 + 1, none⟩ = some (.int .i64 yl))
          (first | go_keep)
          (first | fail)
        all_goals
          go_wp2_with fail
          (try simp only [Exit.inBlock, Exit.then])
          refine bodyPost_ret (v := .agg #[.int .i64 P, .int .i64 Q]) ?_ rfl ?_
          · rw [← HP2.out, ← HQ2.out]
            have z0 : ∀ o1 o2, ((w0.alloc o1).alloc o2).cell? ⟨w.heap.size, 0, none⟩ = some (.int .i64 0) := fun o1 o2 => by simp [go_sem, k0]
            have z1 : ∀ o1 o2, ((w0.alloc o1).alloc o2).cell? ⟨w.heap.size, 1, none⟩ = some (.int .i64 0) := fun o1 o2 => by simp [go_sem, k1]
            simp [results, go_sem, z0, z1]
          · exact ⟨rfl, ((((HB0.out.alloc HB0.out.size _).alloc (le_alloc HB0.out.size) _).drew).setCell (Nat.le_refl _) _).setCell (Nat.le_refl _) _⟩
end Go.Proofs.Yteobejgkjjhfkaa
