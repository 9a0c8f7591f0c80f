/- A greatest common divisor, a number without its sign: walked. -/
import Derived.Test.YteobejgkjjhfkaaKind
import Derived.Test.YteobejgkjjhfkaaIn
namespace Go.Proofs.Yteobejgkjjhfkaa
open Go.RowKit
set_option linter.unusedVariables false
theorem gcd_step {a b : Int} (ha : 0 ≤ a) (hb : 0 < b) : Nat.gcd b.toNat (a % b).toNat = Nat.gcd a.toNat b.toNat := by
  have h1 : (a % b).toNat = a.toNat % b.toNat := by
    have h2 : a = (a.toNat : Int) := by omega
    have h3 : b = (b.toNat : Int) := by omega
    rw [h2, h3, ← Int.natCast_emod, Int.toNat_natCast, Int.toNat_natCast, Int.toNat_natCast]
  rw [h1, Nat.gcd_comm, ← Nat.gcd_rec, Nat.gcd_comm]
set_option maxHeartbeats 1000000 in
theorem gcd_ (a b : Int) (w : World) (ha : 0 ≤ a ∧ a ≤ 9223372036854775807) (hb : 0 ≤ b ∧ b ≤ 9223372036854775807) :
    Calls Try.prog 108 #[.int .i64 a, .int .i64 b] w fun e w' => e = .returned (.int .i64 (Nat.gcd a.toNat b.toNat)) ∧ Below w.heap.size w w' := by
  obtain ⟨G, hG⟩ : ∃ G, Nat.gcd a.toNat b.toNat = G := ⟨_, rfl⟩
  rw [hG]
  have HG := hid hG
  clear hG
  go_enter Try.func108, Try.ntmps108
  go_wp2_with fail
  go_loopw [0, 1] (fun u v wr => ∃ x y : Int, u = .int .i64 x ∧ v = .int .i64 y ∧ 0 ≤ x ∧ x ≤ 9223372036854775807 ∧ 0 ≤ y ∧ y ≤ 9223372036854775807 ∧ Nat.gcd x.toNat y.toNat = G ∧ Below w.heap.size w wr) (fun _ v _ => (intOf v).toNat)
  case atStart => exact ⟨a, b, rfl, rfl, ha.1, ha.2, hb.1, hb.2, HG.out, Below.refl _ _⟩
  case round =>
    obtain ⟨x, y, rfl, rfl, hx0, hx1, hy0, hy1, hg, hq⟩ := hrel
    have HQ := hid hq
    have HX := hid hg
    clear hq hg
    by_cases hy : 0 < y
    · have hs := gcd_step hx0 hy
      have HS := hid hs
      have hm0 := Int.emod_nonneg x (show y ≠ 0 by omega)
      have hm1 := Int.emod_lt_of_pos x hy
      clear hs
      go_wp2_with fail
      go_region
      all_goals
        go_wp2_with fail
        go_roundw
        case rel => exact ⟨y, x % y, rfl, rfl, by omega, by omega, hm0, by omega, by rw [HS.out]; exact HX.out, HQ.out.trans ((Below.refl _ _).drew.mono HQ.out.size)⟩
        case measure => simp [intOf]; omega
    · have hy2 : y = 0 := by omega
      have HG2 : Hid (x = (G : Int)) := by
        have h1 := HX.out
        rw [hy2] at h1
        simp at h1
        show x = _
        omega
      clear hy2
      go_wp2_with fail
      go_ret
      exact ⟨ret_int HG2.out, HQ.out⟩
set_option maxHeartbeats 400000 in
theorem abs_ (a : Int) (w : World) (ha : 0 ≤ a ∧ a ≤ 9223372036854775807) : Calls Try.prog 109 #[.int .i64 a] w fun e w' => e = .returned (.int .i64 a) ∧ w = w' := by
  go_enter Try.func109, Try.ntmps109
  go_wp2
  all_goals
    go_ret
    exact ⟨ret_int (by first | rfl | omega | (split <;> omega)), rfl⟩
set_option maxHeartbeats 2000000 in
theorem fraction_ (n d : Int) (w : World) (hn : 1 ≤ n ∧ n ≤ 1000000) (hd : 1 ≤ d ∧ d ≤ 1000000) :
    Calls Try.prog 62 #[.int .i64 n, .int .i64 d] w fun e w' => e = .returned (.agg #[.int .i64 (n / (Nat.gcd n.toNat d.toNat : Int)), .int .i64 (d / (Nat.gcd n.toNat d.toNat : Int))]) ∧ Below w.heap.size w w' := by
  have hg0 : 0 < Nat.gcd n.toNat d.toNat := Nat.gcd_pos_of_pos_left _ (by omega)
  have HB : ∀ o : Obj, Hid (Below w.heap.size w (w.alloc o)) := fun o => (Below.refl _ _).alloc (Nat.le_refl _) o
  go_enter Try.func62, Try.ntmps62
  go_wp2_with (first | (go_at_call 109; refine (abs_ n _ (by omega)).mono ?_; rintro e w' ⟨rfl, rfl⟩) | (go_at_call 108; refine keep_ ?_))
  refine go_ ?_
  refine (gcd_ n d _ (by omega) (by omega)).mono ?_
  rintro e w1 ⟨rfl, hb⟩
  generalize hgg : Nat.gcd n.toNat d.toNat = g at hg0 ⊢
  have HGG := hid hgg
  clear hgg
  have k0 : w1.cell? ⟨w.heap.size, 0, none⟩ = some (.int .i64 0) := box_cell hb (by simp [go_sem])
  have k1 : w1.cell? ⟨w.heap.size, 1, none⟩ = some (.int .i64 0) := box_cell hb (by simp [go_sem])
  have f0 : w1.frozen? ⟨w.heap.size, 0, none⟩ = false := box_free hb (by simp [go_sem]) (by simp [go_sem])
  have f1 : w1.frozen? ⟨w.heap.size, 1, none⟩ = false := box_free hb (by simp [go_sem]) (by simp [go_sem])
  have HB1 := hid ((HB _).out.trans (hb.mono (HB _).out.size))
  have hg2 : ¬ (g : Int) = 0 := by omega
  have q0 : 0 ≤ n / (g : Int) := Int.ediv_nonneg (by omega) (by omega)
  have q1 : n / (g : Int) ≤ n := Int.ediv_le_self _ (by omega)
  have q2 : 0 ≤ d / (g : Int) := Int.ediv_nonneg (by omega) (by omega)
  have q3 : d / (g : Int) ≤ d := Int.ediv_le_self _ (by omega)
  clear hb
  go_wp2_with fail
  go_region
  all_goals
    generalize hwz : World.drew _ = wz
    have z0 : wz.cell? ⟨w.heap.size, 0, none⟩ = some (.int .i64 (n / (g : Int))) := by rw [← hwz]; simp [go_sem, k0]
    have z1 : wz.cell? ⟨w.heap.size, 1, none⟩ = some (.int .i64 (d / (g : Int))) := by rw [← hwz]; simp [go_sem, k1]
    have zb : Below w.heap.size w wz := by rw [← hwz]; exact ((HB1.out.setCell (Nat.le_refl _) _).setCell (Nat.le_refl _) _).drew
    have ZB := hid zb
    clear hwz zb k0 k1 f0 f1
    go_wp2_with fail
    (try simp only [Exit.inBlock, Exit.then])
    refine bodyPost_ret (v := .agg #[.int .i64 (n / (g : Int)), .int .i64 (d / (g : Int))]) ?_ rfl ?_
    · simp [results, go_sem, z0, z1]
    · exact ⟨by rw [HGG.out], ZB.out⟩
end Go.Proofs.Yteobejgkjjhfkaa
