/- impl.sum; the comparison of impl.shareOut: walked. -/
import Derived.Test.YtampbbknhbhcbaaShareSpec
import Derived.Test.YtampbbknhbhcbaaSortIn
namespace Go.Proofs.Ytampbbknhbhcbaa
open Go.RowKit Go.Sort Go.Lib
set_option linter.unusedVariables false
theorem sumW_mono {ws : List Int} (hr : ∀ x ∈ ws, 0 ≤ x ∧ x ≤ 1000000000) : ∀ k, k ≤ ws.length → 0 ≤ sumW ws k ∧ sumW ws k ≤ 1000000000 * k
  | 0, _ => by simp [sumW]
  | k + 1, h => by
    have h1 := sumW_mono hr k (by omega)
    have h2 := hr _ (List.getElem_mem (show k < ws.length by omega))
    simp only [sumW]
    rw [getD_int (show k < ws.length by omega)]
    omega
set_option maxHeartbeats 1000000 in
theorem implSum_ (A : Option Addr) (xs : List Int) (c : Nat) (w : World) (hx : Rd w A xs) (hl : xs.length ≤ 1000) (hr : ∀ x ∈ xs, 0 ≤ x ∧ x ≤ 1000000000) :
    Calls Try.prog 59 #[.slice A xs.length c] w fun e w' => e = .returned (.int .i64 (sumW xs xs.length)) ∧ w = w' := by
  have HX := hid hx
  have HR := hid hr
  clear hx hr
  go_enter Try.func59, Try.ntmps59
  go_wp2_with fail
  go_loop [3, 8] (fun m j => ∃ k : Nat, k ≤ xs.length ∧ j = .int .i64 k ∧ m = .int .i64 (sumW xs k)) (fun _ j => xs.length - (intOf j).toNat)
  case atStart => exact ⟨0, Nat.zero_le _, rfl, rfl⟩
  case round =>
    obtain ⟨k, hk, rfl, rfl⟩ := hrel
    have hm := sumW_mono HR.out k hk
    by_cases hlt : k < xs.length
    · obtain ⟨b, off, rfl, c1⟩ := HX.out.int hlt
      have hxr := HR.out _ (List.getElem_mem hlt)
      have hs : sumW xs (k + 1) = sumW xs k + xs[k] := by simp only [sumW]; rw [getD_int hlt]
      generalize xs[k] = x at c1 hxr hs
      have HS := hid hs
      clear hs
      generalize sumW xs k = a at hm HS ⊢
      go_wp2_with fail
      go_round
      case rel => exact ⟨k + 1, by omega, by go_num, by rw [HS.out]⟩
      case measure => simp [intOf]; omega
    · have hke : k = xs.length := by omega
      rw [hke]
      rw [hke] at hm
      go_wp2_with fail
      go_ret
      exact ⟨rfl, rfl⟩
set_option maxRecDepth 100000 in
set_option maxHeartbeats 4000000 in
theorem lessShare_ (b2 b3 b7 b5 wb woff blk off n c1 c2 i j x y : Nat) (T S u v : Int) (W : World) (hi : i < n) (hj : j < n) (hx : x < n) (hy : y < n) (hn : n ≤ 1000) (hS : 1 ≤ S) (hu : 0 ≤ T * u ∧ T * u ≤ 1000000000000000000) (hv : 0 ≤ T * v ∧ T * v ≤ 1000000000000000000)
    (k2 : W.cell? ⟨b2, 0, none⟩ = some (.int .i64 T)) (k3 : W.cell? ⟨b3, 0, none⟩ = some (.slice (some ⟨wb, woff, none⟩) n c1)) (k7 : W.cell? ⟨b7, 0, none⟩ = some (.slice (some ⟨blk, off, none⟩) n c2)) (k5 : W.cell? ⟨b5, 0, none⟩ = some (.int .i64 S))
    (oi : W.cell? ⟨blk, off + i, none⟩ = some (.int .i64 (x : Int))) (oj : W.cell? ⟨blk, off + j, none⟩ = some (.int .i64 (y : Int))) (wx : W.cell? ⟨wb, woff + x, none⟩ = some (.int .i64 u)) (wy : W.cell? ⟨wb, woff + y, none⟩ = some (.int .i64 v)) :
    Calls Try.prog 61 #[.int .i64 i, .int .i64 j, .pointer (some ⟨b2, 0, none⟩), .pointer (some ⟨b3, 0, none⟩), .pointer (some ⟨b7, 0, none⟩), .pointer (some ⟨b5, 0, none⟩)] W fun e w' => e = .returned (.bool (decide ((T * v) % S < (T * u) % S))) ∧ ∃ q, w' = W.drewN q := by
  obtain ⟨u1, u2⟩ := hu
  obtain ⟨v1, v2⟩ := hv
  have hS0 : ¬ S = 0 := by omega
  have i1 : (i : Int) < (n : Int) := by omega
  have i2 : (j : Int) < (n : Int) := by omega
  have i3 : (x : Int) < (n : Int) := by omega
  have i4 : (y : Int) < (n : Int) := by omega
  have e1 : IntKind.i64.wrap (T * u) = T * u := IntWalk.i64_in _ (by omega)
  have e2 : IntKind.i64.wrap (T * v) = T * v := IntWalk.i64_in _ (by omega)
  go_enter Try.func61, Try.ntmps61
  go_upto_region 1 with fail
  go_quiet (fail)
  go_wp2_with fail
  go_ret
  exact ⟨rfl, nq, rfl⟩
end Go.Proofs.Ytampbbknhbhcbaa
