/- NextBelow: walked. -/
import Derived.Test.YteobejgkjjhfkaaTideSp
namespace Go.Proofs.Yteobejgkjjhfkaa
open Go.RowKit
set_option linter.unusedVariables false
set_option maxHeartbeats 4000000 in
theorem nextBelow_ (A : Option Addr) (xs : List Tide) (c : Nat) (lv s : Int) (w : World) (hx : Rd w A xs) (hok : TT xs) (hlv : -2000 ≤ lv ∧ lv ≤ 2000) (hs : firstT xs ≤ s ∧ s ≤ lastT xs) :
    Calls Try.prog 26 #[.slice A xs.length c, .int .i64 lv, .int .i64 s] w fun e w' => e = .returned (.tuple #[.int .i64 (nextT (lowB xs lv) s (lastT xs - s + 1).toNat).1, .int .i64 (nextT (lowB xs lv) s (lastT xs - s + 1).toNat).2]) ∧ Below w.heap.size w w' := by
  have HX := hid hx
  have HOK := hid hok
  obtain ⟨hfl, hf0, hl0⟩ := first_last hok
  have HMI : Hid (∀ m w1, Below w.heap.size w w1 → Calls Try.prog 70 #[.slice A xs.length c, .int .i64 m] w1 fun e w' => e = .returned (.bool (inB m (firstT xs) (lastT xs))) ∧ Below w1.heap.size w1 w') := fun m w1 hb => isMinuteOf_ A xs c m w1 (hx.below hb) hok
  have HBA : Hid (∀ m w1, Below w.heap.size w w1 → -1000 ≤ m ∧ m ≤ 2000 → Calls Try.prog 71 #[.slice A xs.length c, .int .i64 lv, .int .i64 m] w1 fun e w' => e = .returned (.bool (lowB xs lv m)) ∧ Below w1.heap.size w1 w') := fun m w1 hb hm => belowAt_ A xs c lv m w1 (hx.below hb) hok.tb hm hlv
  obtain ⟨R1, R2, hR⟩ : ∃ R1 R2, nextT (lowB xs lv) s (lastT xs - s + 1).toNat = (R1, R2) := ⟨_, _, rfl⟩
  rw [hR]
  have HR := hid hR
  generalize firstT xs = a at *
  generalize lastT xs = z at *
  generalize lowB xs lv = low at *
  have HIN : Hid (inB s a z = true) := inB_lit hs
  clear hx hok hR
  go_enter Try.func26, Try.ntmps26
  go_wp2_with fail
  refine (tidesCode_ _ _ _ _ _ HX.out HOK.out hlv).mono ?_
  rintro e w1 ⟨rfl, hb⟩
  have HB := hid hb
  clear hb
  go_wp2_with fail
  refine (HMI.out s _ HB.out).mono ?_
  rintro e w2 ⟨rfl, hb⟩
  rw [HIN.out]
  have HB2 := hid (HB.out.trans (hb.mono HB.out.size))
  clear hb
  go_wp2_with fail
  go_loopw [2] (fun i wr => ∃ m : Int, i = .int .i64 m ∧ (a ≤ m ∧ m ≤ z + 1) ∧ nextT low m (z - m + 1).toNat = (R1, R2) ∧ Below w.heap.size w wr) (fun i _ => (z + 1 - intOf i).toNat)
  case atStart => exact ⟨s, rfl, by omega, HR.out, HB2.out⟩
  case round =>
    obtain ⟨m, rfl, hm, hnx, hq⟩ := hrel
    obtain ⟨wo, rfl⟩ : ∃ wo : World, wo = wr := ⟨_, rfl⟩
    have HQ := hid hq
    clear hq
    by_cases hlt : m ≤ z
    · have hin : inB m a z = true := inB_lit (by omega)
      obtain ⟨n, hn⟩ : ∃ n, (z - m + 1).toNat = n + 1 := ⟨(z - m).toNat, by omega⟩
      rw [hn] at hnx
      simp only [nextT] at hnx
      have hn2 : n = (z - (m + 1) + 1).toNat := by omega
      obtain ⟨bl, hbl⟩ : ∃ x, low m = x := ⟨_, rfl⟩
      rw [hbl] at hnx
      have HBL := hid hbl
      have HIN2 := hid hin
      clear hbl hin hn
      go_wp2_with fail
      refine (HMI.out m _ HQ.out).mono ?_
      rintro e w3 ⟨rfl, hb⟩
      rw [HIN2.out]
      have HQ3 := hid (HQ.out.trans (hb.mono HQ.out.size))
      clear hb
      go_wp2_with fail
      refine (HBA.out m _ HQ3.out (by omega)).mono ?_
      rintro e w4 ⟨rfl, hb⟩
      rw [HBL.out]
      have HQ4 := hid (HQ3.out.trans (hb.mono HQ3.out.size))
      clear hb
      cases bl with
      | true =>
        rw [if_pos rfl] at hnx
        simp only [Prod.mk.injEq] at hnx
        obtain ⟨e1, e2⟩ := hnx
        subst e1 e2
        go_wp2_with fail
        go_ret2
        exact ⟨rfl, HQ4.out⟩
      | false =>
        rw [if_neg (by simp), hn2] at hnx
        have HNX := hid hnx
        clear hnx hn2
        go_wp2_with fail
        go_roundw
        case rel => exact ⟨m + 1, rfl, by omega, HNX.out, HQ4.out⟩
        case measure => simp [intOf]; omega
    · have hin : inB m a z = false := by
        rw [← Bool.not_eq_true, inB_true]
        omega
      have HIN2 := hid hin
      rw [show (z - m + 1).toNat = 0 by omega] at hnx
      simp only [nextT, Prod.mk.injEq] at hnx
      obtain ⟨e1, e2⟩ := hnx
      subst e1 e2
      clear hin
      go_wp2_with fail
      refine (HMI.out m _ HQ.out).mono ?_
      rintro e w3 ⟨rfl, hb⟩
      rw [HIN2.out]
      have HQ3 := hid (HQ.out.trans (hb.mono HQ.out.size))
      clear hb
      go_wp2_with fail
      go_ret2
      exact ⟨rfl, HQ3.out⟩
end Go.Proofs.Yteobejgkjjhfkaa
