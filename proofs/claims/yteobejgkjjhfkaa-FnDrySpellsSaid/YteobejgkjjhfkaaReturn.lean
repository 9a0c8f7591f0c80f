/- The return time of rain: walked. -/
import Derived.Test.YteobejgkjjhfkaaRunoff
import Derived.Test.YteobejgkjjhfkaaGcd
import Derived.Deep.CutBlock
namespace Go.Proofs.Yteobejgkjjhfkaa
open Go.RowKit
set_option linter.unusedVariables false
/-- How many reach n. -/
def atLeast (n : Int) : List Int → Int
  | [] => 0
  | x :: xs => (if n ≤ x then 1 else 0) + atLeast n xs
theorem atLeast_range (n : Int) : ∀ xs : List Int, 0 ≤ atLeast n xs ∧ atLeast n xs ≤ xs.length
  | [] => by simp [atLeast]
  | x :: xs => by
    have := atLeast_range n xs
    simp only [atLeast, List.length_cons]
    split <;> omega
def retNum (xs : List Int) (n : Int) : Int := if atLeast n xs = 0 then 0 else ((xs.length : Int) + 1) / (Nat.gcd ((xs.length : Int) + 1).toNat (atLeast n xs).toNat : Int)
def retDen (xs : List Int) (n : Int) : Int := if atLeast n xs = 0 then 0 else atLeast n xs / (Nat.gcd ((xs.length : Int) + 1).toNat (atLeast n xs).toNat : Int)
def retCode (xs : List Int) (n : Int) : Int := if atLeast n xs = 0 then 3 else 0
set_option maxHeartbeats 4000000 in
theorem returnTime_ (A : Option Addr) (xs : List Int) (c : Nat) (n : Int) (w : World) (hx : Rd w A xs) (h : RainOk xs) (hn : 0 ≤ n ∧ n ≤ 3000) :
    Calls Try.prog 21 #[.slice A xs.length c, .int .i64 n] w fun e w' => e = .returned (.tuple #[.agg #[.int .i64 (retNum xs n), .int .i64 (retDen xs n)], .int .i64 (retCode xs n)]) ∧ Below w.heap.size w w' := by
  have hxl : xs.length ≤ 16 := h.2.1
  have HO := hid h
  have h1 : inB n 0 3000 = true := inB_lit hn
  have H1 := hid h1
  obtain ⟨w0, hw0⟩ : ∃ x, w.alloc (.cells #[.int .i64 0, .int .i64 0] 40) = x := ⟨_, rfl⟩
  have hb0 : Below w.heap.size w w0 := by rw [← hw0]; exact (Below.refl _ _).alloc (Nat.le_refl _) _
  have k0 : w0.cell? ⟨w.heap.size, 0, none⟩ = some (.int .i64 0) := by rw [← hw0]; simp [go_sem]
  have k1 : w0.cell? ⟨w.heap.size, 1, none⟩ = some (.int .i64 0) := by rw [← hw0]; simp [go_sem]
  have f0 : w0.frozen? ⟨w.heap.size, 0, none⟩ = false := by rw [← hw0]; simp [go_sem]
  have f1 : w0.frozen? ⟨w.heap.size, 1, none⟩ = false := by rw [← hw0]; simp [go_sem]
  have HX := hid (hx.below hb0)
  have HB0 := hid hb0
  have HW := hid hw0
  obtain ⟨M, hM⟩ : ∃ M, atLeast n xs = M := ⟨_, rfl⟩
  have hMr := atLeast_range n xs
  rw [hM] at hMr
  have HM : Hid (0 + atLeast n (xs.drop 0) = M) := by rw [List.drop_zero, Int.zero_add]; exact hM
  obtain ⟨p1, e1⟩ : ∃ p, retNum xs n = p := ⟨_, rfl⟩
  obtain ⟨p2, e2⟩ : ∃ p, retDen xs n = p := ⟨_, rfl⟩
  obtain ⟨p3, e3⟩ : ∃ p, retCode xs n = p := ⟨_, rfl⟩
  rw [e1, e2, e3]
  have E1 := hid e1
  have E2 := hid e2
  have E3 := hid e3
  unfold retNum at E1
  unfold retDen at E2
  unfold retCode at E3
  rw [hM] at E1 E2 E3
  clear hx h1 h hb0 hw0 hM e1 e2 e3
  go_enter Try.func21, Try.ntmps21
  go_upto_region 1 with fail
  rw [HW.out]
  clear HW
  go_wp2_with fail
  refine (validRain_ _ _ _ _ HX.out HO.out).mono ?_
  rintro e w1 ⟨rfl, hb⟩
  have HB := hid (HB0.out.trans (hb.mono HB0.out.size))
  have HX1 := hid (HX.out.below hb)
  have f0' := box_free hb (by rw [k0]; rfl) f0
  have f1' := box_free hb (by rw [k1]; rfl) f1
  have k0' := box_cell hb k0
  have k1' := box_cell hb k1
  clear hb k0 k1 f0 f1
  go_wp2_with (go_at_call 57; refine (isRain_ _ _).mono ?_; rintro e w' ⟨rfl, rfl⟩; rw [H1.out])
  go_loop [6, 21] (fun r j => ∃ (m : Nat) (a : Int), m ≤ xs.length ∧ j = .int .i64 m ∧ r = .int .i64 a ∧ a + atLeast n (xs.drop m) = M ∧ 0 ≤ a ∧ a ≤ m) (fun _ j => xs.length - (intOf j).toNat)
  case atStart => exact ⟨0, 0, Nat.zero_le _, rfl, rfl, HM.out, by omega, by omega⟩
  case round =>
    obtain ⟨m, a, hm, rfl, rfl, ha, ha1, ha2⟩ := hrel
    by_cases hlt2 : m < xs.length
    · obtain ⟨g2, off2, rfl, c2⟩ := HX1.out.int hlt2
      rw [drop_cons hlt2] at ha
      simp only [atLeast] at ha
      generalize xs[m] = x at c2 ha
      by_cases hnx : n ≤ x
      · rw [if_pos hnx] at ha
        go_wp2_with fail
        go_round
        case rel => exact ⟨m + 1, a + 1, by omega, by go_num, rfl, by omega, by omega, by omega⟩
        case measure => simp [intOf]; omega
      · rw [if_neg hnx] at ha
        go_wp2_with fail
        go_round
        case rel => exact ⟨m + 1, a, by omega, by go_num, rfl, by omega, by omega, by omega⟩
        case measure => simp [intOf]; omega
    · rw [drop_end hlt2] at ha
      have hrb : a = M := by simpa [atLeast] using ha
      subst hrb
      have hlen : (xs.length : Int) ≤ 16 := by omega
      have hn20 : xs.length ≤ 1048576 := by omega
      have hwb := HB.out.size
      by_cases hM0 : a = 0
      · have E1' := E1.out
        have E2' := E2.out
        have E3' := E3.out
        rw [if_pos hM0] at E1' E2' E3'
        subst E1' E2' E3'
        subst hM0
        go_wp2_with fail
        (try simp only [Exit.inBlock, Exit.then])
        refine bodyPost_ret (v := .tuple #[.agg #[.int .i64 0, .int .i64 0], .int .i64 3]) ?_ rfl ?_
        · simp [results, go_sem, k0', k1']
        · exact ⟨rfl, (HB.out.setCell (Nat.le_refl _) _).setCell (Nat.le_refl _) _⟩
      · have hE1 := E1.out
        have hE2 := E2.out
        have hE3 := E3.out
        rw [if_neg hM0] at hE1 hE2 hE3
        have HE1 := hid hE1
        have HE2 := hid hE2
        subst hE3
        clear hE1 hE2 E1 E2 E3
        go_wp2_with (go_at_call 63; refine (sizeInts _ _ _ _ hn20).mono ?_; rintro e w' ⟨rfl, rfl⟩)
        refine (fraction_ ((xs.length : Int) + 1) a _ (by omega) (by omega)).mono ?_
        rintro e w2 ⟨rfl, hb⟩
        rw [HE1.out, HE2.out]
        have r0 := box_free hb (by rw [k0']; rfl) f0'
        have r1 := box_free hb (by rw [k1']; rfl) f1'
        have s0 := box_cell hb k0'
        have s1 := box_cell hb k1'
        have HB2 := hid (HB.out.trans (hb.mono hwb))
        clear hb k0' k1' f0' f1' HE1 HE2
        go_wp2_with fail
        (try simp only [Exit.inBlock, Exit.then])
        refine bodyPost_ret (v := .tuple #[.agg #[.int .i64 p1, .int .i64 p2], .int .i64 0]) ?_ rfl ?_
        · simp [results, go_sem, s0, s1]
        · exact ⟨rfl, (HB2.out.setCell (Nat.le_refl _) _).setCell (Nat.le_refl _) _⟩
end Go.Proofs.Yteobejgkjjhfkaa
