/- Ranks of rain, a greatest common divisor: walked. -/
import Derived.Test.YteobejgkjjhfkaaRunoff
namespace Go.Proofs.Yteobejgkjjhfkaa
open Go.RowKit
set_option linter.unusedVariables false
/-- How many are greater than n. -/
def moreThan (n : Int) : List Int → Int
  | [] => 0
  | x :: xs => (if n < x then 1 else 0) + moreThan n xs
theorem moreThan_range (n : Int) : ∀ xs : List Int, 0 ≤ moreThan n xs ∧ moreThan n xs ≤ xs.length
  | [] => by simp [moreThan]
  | x :: xs => by
    have := moreThan_range n xs
    simp only [moreThan, List.length_cons]
    split <;> omega
def rankOf (xs : List Int) (n : Int) : Int := 1 + moreThan n xs
set_option maxHeartbeats 4000000 in
theorem ranksOf_ (A : Option Addr) (xs : List Int) (c : Nat) (w : World) (hx : Rd w A xs) (h : RainOk xs) :
    Calls Try.prog 20 #[.slice A xs.length c] w fun e w' => ∃ u, e = .returned (.tuple #[u, .int .i64 0]) ∧ Own w' w.heap.size 2 u (xs.map (rankOf xs)) ∧ Below w.heap.size w w' := by
  have hn := hx.len
  have HX := hid hx
  have HO := hid h
  obtain ⟨F, hF⟩ : ∃ F, xs.map (rankOf xs) = F := ⟨_, rfl⟩
  rw [hF]
  have HF : Hid ([] ++ (xs.drop 0).map (rankOf xs) = F) := by rw [List.drop_zero]; exact hF
  have hxl : xs.length ≤ 16 := h.2.1
  clear hx h hF
  go_enter Try.func20, Try.ntmps20
  go_wp2_with fail
  refine (validRain_ _ _ _ _ HX.out HO.out).mono ?_
  rintro e w1 ⟨rfl, hb⟩
  have HB := hid hb
  have HX1 := hid (HX.out.below hb)
  clear hb
  go_wp2_with fail
  go_loopw [4, 17] (fun ov i wr => ∃ (k : Nat) (os : List Int), k ≤ xs.length ∧ i = .int .i64 k ∧ os.length = k ∧ os ++ (xs.drop k).map (rankOf xs) = F ∧ Own wr w1.heap.size 2 ov os ∧ Below w1.heap.size w1 wr) (fun _ i _ => xs.length - (intOf i).toNat)
  case atStart => exact ⟨0, [], Nat.zero_le _, rfl, rfl, HF.out, Own.empty (Nat.le_refl _), (Below.refl _ _).alloc (Nat.le_refl _) _⟩
  case round =>
    obtain ⟨k, os, hk, rfl, hol, hrl, ho, hq⟩ := hrel
    obtain ⟨wo, rfl⟩ : ∃ wo : World, wo = wr := ⟨_, rfl⟩
    have HQ := hid hq
    have HOO := hid ho
    obtain ⟨V, vq, rfl⟩ := ho.form
    have hos : os.length ≤ 1048576 := by omega
    have HOL := hid hol
    have HX2 := hid (HX1.out.below hq)
    by_cases hlt : k < xs.length
    · obtain ⟨g, off, rfl, c1⟩ := HX2.out.int hlt
      rw [drop_cons hlt, List.map_cons] at hrl
      generalize xs[k] = n at c1 hrl
      have HRL := hid hrl
      have HST : Hid (1 + moreThan n (xs.drop 0) = rankOf xs n) := by rw [List.drop_zero]; exact rfl
      generalize rankOf xs n = R at HRL HST
      clear hrl ho hq hol
      go_wp2_with fail
      go_loop [7, 23] (fun r j => ∃ (m : Nat) (a : Int), m ≤ xs.length ∧ j = .int .i64 m ∧ r = .int .i64 a ∧ a + moreThan n (xs.drop m) = R ∧ 1 ≤ a ∧ a ≤ 1 + m) (fun _ j => xs.length - (intOf j).toNat)
      case atStart => exact ⟨0, 1, Nat.zero_le _, rfl, rfl, HST.out, by omega, by omega⟩
      case round =>
        obtain ⟨m, a, hm, rfl, rfl, ha, ha1, ha2⟩ := hrel
        by_cases hlt2 : m < xs.length
        · obtain ⟨g2, off2, hA2, c2⟩ := HX2.out.int hlt2
          injection hA2 with hA2
          injection hA2 with i9 j9
          subst i9 j9
          rw [drop_cons hlt2] at ha
          simp only [moreThan] at ha
          generalize xs[m] = x at c2 ha
          by_cases hnx : n < x
          · rw [if_pos hnx] at ha
            go_wp2_with fail
            go_round
            case rel => exact ⟨m + 1, a + 1, by omega, by go_num, rfl, by omega, by omega, by omega⟩
            case measure => simp [intOf]; omega
          · rw [if_neg hnx] at ha
            go_wp2_with fail
            go_round
            case rel => exact ⟨m + 1, a, by omega, by go_num, rfl, by omega, by omega, by omega⟩
            case measure => simp [intOf]; omega
        · rw [drop_end hlt2] at ha
          have hrb : a = R := by simpa [moreThan] using ha
          subst hrb
          go_wp2_with (first | fail | (at_builtin; refine wpList_push elInt _ rfl (.tmp 33) (.tmp 35) rfl w1.heap.size _ os a rfl (HOO.out.alloc _) _ rfl (heap_alloc_new _ _) hos (le_alloc HQ.out.size) ?_; intro v' w' hown' hg' hat'; refine keep_ ?_))
          have hbn := below_own (HQ.out.alloc HQ.out.size _) (HOO.out.alloc _) hg' (Nat.le_refl _) (le_alloc HQ.out.size)
          have Z1 := hid hbn
          have Z2 := hid hown'
          clear hbn hown' hg' hat'
          refine go_ ?_
          go_wp2_with fail
          go_roundw
          case rel => exact ⟨k + 1, os ++ [a], by omega, by go_num, by rw [List.length_append, HOL.out]; rfl, by rw [List.append_assoc]; exact HRL.out, Z2.out, Z1.out⟩
          case measure => simp [intOf]; omega
    · rw [drop_end hlt] at hrl
      simp only [List.map_nil, List.append_nil] at hrl
      have E1 := hid hrl
      clear hrl ho hq hol
      go_wp2_with fail
      go_ret2
      exact ⟨_, rfl, by rw [← E1.out]; exact HOO.out.mono HB.out.size, HB.out.trans (HQ.out.mono HB.out.size)⟩
end Go.Proofs.Yteobejgkjjhfkaa
