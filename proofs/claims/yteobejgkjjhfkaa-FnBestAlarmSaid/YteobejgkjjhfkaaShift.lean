/- A shifted forecast, two equal lists: walked. -/
import Derived.Test.YteobejgkjjhfkaaFore
namespace Go.Proofs.Yteobejgkjjhfkaa
open Go.RowKit
set_option linter.unusedVariables false
set_option maxHeartbeats 4000000 in
theorem shiftForecast_ (A B : Option Addr) (ys : List Int) (c d : Nat) (w : World) (hx : Rd w A (plus7 ys)) (hy : Rd w B ys) (hok : LevOk ys) :
    Calls Try.prog 47 #[.slice A ys.length c, .slice B ys.length d, .slice A ys.length c] w fun e w' => ∃ V q, e = .returned (.tuple #[.slice V ys.length q, .int .i64 0]) ∧ Rd w' V ys ∧ Below w.heap.size w w' := by
  have HX := hid hx
  have HY := hid hy
  have HOK := hid hok
  have hl := hok.1
  have hc1 : ∀ w1, Below w.heap.size w w1 → Calls Try.prog 96 #[.slice A ys.length c] w1 fun e w' => e = .returned (.bool true) ∧ Below w1.heap.size w1 w' := fun w1 hb => by
    have h9 := areLevels_ A (plus7 ys) c w1 (hx.below hb) (plus7_ok hok)
    rwa [plus7_len] at h9
  have HC := hid hc1
  have hn9 : ys.length ≤ 1048576 := by omega
  clear hx hy hok hc1
  go_enter Try.func47, Try.ntmps47
  go_wp2_with fail
  refine (areForecasts_ _ _ _ _ _ _ HX.out HY.out HOK.out).mono ?_
  rintro e w1 ⟨rfl, hb⟩
  have HB := hid hb
  clear hb
  go_wp2_with fail
  refine (HC.out _ HB.out).mono ?_
  rintro e w2 ⟨rfl, hb⟩
  have HB2 := hid (HB.out.trans (hb.mono HB.out.size))
  clear hb HC
  have HX2 := hid (HX.out.below HB2.out)
  have HY2 := hid (HY.out.below HB2.out)
  go_wp2_with fail
  refine (errorsOf_ _ _ _ _ _ _ HX2.out HY2.out HOK.out).mono ?_
  rintro e w3 ⟨V, q, rfl, hr, hb⟩
  have HB3 := hid (HB2.out.trans (hb.mono HB2.out.size))
  have HX3 := hid (HX2.out.below hb)
  have hcall : Calls Try.prog 97 #[.slice V ys.length q] w3 fun e w' => e = .returned (.int .i64 (7 * (ys.length : Int))) ∧ w3 = w' := by
    have h9 := sum_ V (List.replicate ys.length (7 : Int)) q w3 hr (by simp; omega) (fun x hx => by have := List.eq_of_mem_replicate hx; omega)
    rw [sum7, List.length_replicate] at h9
    exact h9
  have HC := hid hcall
  clear hr hb hcall
  go_wp2_with (first | fail | (go_at_call 97; refine HC.out.mono ?_; rintro e w' ⟨rfl, rfl⟩) | (go_at_call 63; refine (sizeInts _ _ _ _ hn9).mono ?_; rintro e w' ⟨rfl, rfl⟩))
  refine (nearest7 (ys.length : Int) (by omega) _).mono ?_
  rintro e w4 ⟨rfl, hb⟩
  have HB4 := hid (HB3.out.trans (hb.mono HB3.out.size))
  have HX4 := hid (HX3.out.below hb)
  clear hb
  have hsz : w.heap.size ≤ w4.heap.size := HB4.out.size
  go_wp2_with fail
  go_loopw [9, 44] (fun ov i wr => ∃ k : Nat, k ≤ ys.length ∧ i = .int .i64 k ∧ Own wr w4.heap.size 2 ov (ys.take k) ∧ Below w4.heap.size w4 wr) (fun _ i _ => ys.length - (intOf i).toNat)
  case atStart => exact ⟨0, Nat.zero_le _, rfl, Own.empty (Nat.le_refl _), (Below.refl _ _).alloc (Nat.le_refl _) _⟩
  case round =>
    obtain ⟨k, hk, rfl, ho, hq⟩ := hrel
    obtain ⟨wo, rfl⟩ : ∃ wo : World, wo = wr := ⟨_, rfl⟩
    have HQ := hid hq
    have HO := hid ho
    have HX5 := hid (HX4.out.below hq)
    obtain ⟨V2, v2, rfl⟩ := ho.form
    have htl : (ys.take k).length = k := by rw [List.length_take]; omega
    rw [htl] at HO ⊢
    clear ho hq
    have HTL := hid htl
    clear htl
    by_cases hlt : k < ys.length
    · obtain ⟨b, off, rfl, c1⟩ := HX5.out.plus hlt
      have hyr := HOK.out.2 _ (List.getElem_mem hlt)
      have HT : Hid (ys.take (k + 1) = ys.take k ++ [ys[k]]) := List.take_succ_eq_append_getElem hlt
      generalize ys[k] = y at c1 hyr HT
      go_wp2_with (first | fail | (at_builtin; refine keep_ ?_))
      refine go_ ?_
      refine wpList_push elInt _ rfl (.tmp 48) (.tmp 52) rfl w4.heap.size _ (ys.take k) y rfl (HO.out.alloc _) _ rfl (heap_alloc_new _ _) (by rw [HTL.out]; omega) (le_alloc HQ.out.size) ?_
      intro v' w' hown' hg' hat'
      have hbn := below_own (HQ.out.alloc HQ.out.size _) (HO.out.alloc _) hg' (Nat.le_refl _) (le_alloc HQ.out.size)
      have Z1 := hid hbn
      have Z2 := hid hown'
      clear hbn hown' hg' hat'
      go_wp2_with fail
      go_roundw
      case rel => exact ⟨k + 1, by omega, by go_num, by rw [HT.out]; exact Z2.out, Z1.out⟩
      case measure => simp [intOf]; omega
    · have hke : k = ys.length := by omega
      subst hke
      have hO := HO.out
      rw [List.take_length] at hO
      have E1 := hid (hO.rd (by omega))
      clear hO
      go_wp2_with fail
      refine (areLevels_ _ _ _ _ E1.out (fun x hx => by have := HOK.out.2 x hx; omega)).mono ?_
      rintro e w5 ⟨rfl, hb⟩
      have HBF := hid ((HB4.out.trans (HQ.out.mono hsz)).trans (hb.mono (Nat.le_trans hsz HQ.out.size)))
      have E2 := hid (E1.out.below hb)
      clear hb
      go_wp2_with fail
      go_ret2
      exact ⟨V2, v2, rfl, E2.out, HBF.out⟩
set_option maxHeartbeats 2000000 in
theorem a2Same_ (A B : Option Addr) (ys : List Int) (c d : Nat) (w : World) (hx : Rd w A ys) (hy : Rd w B ys) :
    Calls Try.prog 48 #[.slice A ys.length c, .slice B ys.length d] w fun e w' => e = .returned (.bool true) ∧ Below w.heap.size w w' := by
  have hn := hx.len
  have HX := hid hx
  have HY := hid hy
  clear hx hy
  go_enter Try.func48, Try.ntmps48
  go_wp2_with fail
  go_loopw [5] (fun i wr => ∃ k : Nat, k ≤ ys.length ∧ i = .int .i64 k ∧ ∃ n, wr = w.drewN n) (fun i _ => ys.length - (intOf i).toNat)
  case atStart => exact ⟨0, Nat.zero_le _, rfl, 0, rfl⟩
  case round =>
    obtain ⟨k, hk, rfl, n, rfl⟩ := hrel
    by_cases hlt : k < ys.length
    · obtain ⟨b, off, rfl, c1⟩ := HX.out.int hlt
      obtain ⟨b2, off2, rfl, c2⟩ := HY.out.int hlt
      generalize ys[k] = y at c1 c2
      go_upto_region 6 with fail
      go_quiet (fail)
      go_wp2_with fail
      go_roundw
      case rel => exact ⟨k + 1, by omega, by go_num, by first | exact ⟨_, rfl⟩ | exact ⟨_, World.drewN_drewN⟩⟩
      case measure => simp [intOf]; omega
    · go_wp2_with fail
      go_ret
      exact ⟨rfl, (Below.refl _ _).drewN _⟩
end Go.Proofs.Yteobejgkjjhfkaa
