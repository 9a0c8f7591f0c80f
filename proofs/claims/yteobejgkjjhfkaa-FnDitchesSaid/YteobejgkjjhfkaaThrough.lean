/- Rates of stages, what all stages lift: walked. -/
import Derived.Test.YteobejgkjjhfkaaMill
import Derived.Test.YteobejgkjjhfkaaRanks
namespace Go.Proofs.Yteobejgkjjhfkaa
open Go.RowKit
set_option linter.unusedVariables false
def leastL (a : Int) : List Int → Int
  | [] => a
  | x :: xs => leastL (min a x) xs
theorem leastL_range {lo hi : Int} : ∀ (xs : List Int) (a : Int), lo ≤ a ∧ a ≤ hi → (∀ x ∈ xs, lo ≤ x ∧ x ≤ hi) → lo ≤ leastL a xs ∧ leastL a xs ≤ hi
  | [], a, h, _ => h
  | x :: xs, a, h, hx => leastL_range xs (min a x) (by have := hx x (by simp); omega) fun y hy => hx y (by simp [hy])
def leastOf : List Int → Int
  | [] => 0
  | x :: xs => leastL x (x :: xs)
def sumM (f : Int) (ms : List Mill) : Int := (ms.map (rateM f)).sum
theorem sumM_range (f : Int) : ∀ ms : List Mill, (∀ m ∈ ms, MillOk m) → 0 ≤ sumM f ms ∧ sumM f ms ≤ 1000 * ms.length
  | [], _ => by simp [sumM]
  | m :: ms, h => by
    have h1 := rateM_range (h m (by simp)) f
    have h2 := sumM_range f ms fun x hx => h x (by simp [hx])
    simp only [sumM, List.map_cons, List.sum_cons, List.length_cons] at h2 ⊢
    omega
def through (f : Int) (st : List (List Mill)) : Int := leastOf (st.map (sumM f))
theorem through_range (f : Int) {st : List (List Mill)} (h : StOk st) : 0 ≤ through f st ∧ through f st ≤ 5000 := by
  have hall : ∀ x ∈ st.map (sumM f), 0 ≤ x ∧ x ≤ 5000 := by
    intro x hx
    obtain ⟨ms, hm, rfl⟩ := List.mem_map.mp hx
    have h1 := h.2 ms hm
    have := sumM_range f ms h1.2
    have := h1.1
    omega
  unfold through
  cases hst : st.map (sumM f) with
  | nil => simp [leastOf]
  | cons x xs =>
    rw [hst] at hall
    exact leastL_range _ _ (hall x (by simp)) hall
set_option maxHeartbeats 1000000 in
theorem sum_ (A : Option Addr) (xs : List Int) (c : Nat) (w : World) (hx : Rd w A xs) (hl : xs.length ≤ 100) (hr : ∀ x ∈ xs, 0 ≤ x ∧ x ≤ 100000) :
    Calls Try.prog 97 #[.slice A xs.length c] w fun e w' => e = .returned (.int .i64 xs.sum) ∧ w = w' := by
  have HX := hid hx
  have HR := hid hr
  obtain ⟨S, hS⟩ : ∃ S, xs.sum = S := ⟨_, rfl⟩
  rw [hS]
  have HS : Hid (0 + (xs.drop 0).sum = S) := by rw [List.drop_zero, Int.zero_add]; exact hS
  clear hx hr hS
  go_enter Try.func97, Try.ntmps97
  go_wp2_with fail
  go_loop [3, 8] (fun m j => ∃ (k : Nat) (a : Int), k ≤ xs.length ∧ j = .int .i64 k ∧ m = .int .i64 a ∧ a + (xs.drop k).sum = S ∧ 0 ≤ a ∧ a ≤ 100000 * k) (fun _ j => xs.length - (intOf j).toNat)
  case atStart => exact ⟨0, 0, Nat.zero_le _, rfl, rfl, HS.out, by omega, by omega⟩
  case round =>
    obtain ⟨k, a, hk, rfl, rfl, ha, h0, h1⟩ := hrel
    by_cases hlt : k < xs.length
    · obtain ⟨b, off, rfl, c1⟩ := HX.out.int hlt
      have hxr := HR.out _ (List.getElem_mem hlt)
      rw [drop_cons hlt, List.sum_cons] at ha
      generalize xs[k] = x at c1 ha hxr
      go_wp2_with fail
      go_round
      case rel => exact ⟨k + 1, a + x, by omega, by go_num, rfl, by omega, by omega, by omega⟩
      case measure => simp [intOf]; omega
    · rw [drop_end hlt] at ha
      have hrb : a = S := by simpa using ha
      subst hrb
      go_wp2_with fail
      go_ret
      exact ⟨rfl, rfl⟩
set_option maxHeartbeats 1000000 in
theorem least_ (A : Option Addr) (xs : List Int) (c : Nat) (w : World) (hx : Rd w A xs) (h0 : 0 < xs.length) :
    Calls Try.prog 77 #[.slice A xs.length c] w fun e w' => e = .returned (.int .i64 (leastOf xs)) ∧ w = w' := by
  have hn := hx.len
  have HX := hid hx
  obtain ⟨S, hS⟩ : ∃ S, leastOf xs = S := ⟨_, rfl⟩
  rw [hS]
  have hh : leastOf xs = leastL xs[0] (xs.drop 0) := by
    rw [List.drop_zero]
    cases xs with
    | nil => simp at h0
    | cons x xs => rfl
  rw [hh] at hS
  obtain ⟨b, off, rfl, c0⟩ := hx.int h0
  generalize xs[0] = x0 at c0 hS
  have HS := hid hS
  clear hx hS hh
  rw [Nat.add_zero] at c0
  go_enter Try.func77, Try.ntmps77
  go_wp2_with fail
  go_loop [3, 11] (fun m j => ∃ (k : Nat) (a : Int), k ≤ xs.length ∧ j = .int .i64 k ∧ m = .int .i64 a ∧ leastL a (xs.drop k) = S) (fun _ j => xs.length - (intOf j).toNat)
  case atStart => exact ⟨0, x0, Nat.zero_le _, rfl, rfl, HS.out⟩
  case round =>
    obtain ⟨k, a, hk, rfl, rfl, ha⟩ := hrel
    by_cases hlt : k < xs.length
    · obtain ⟨b2, off2, hA2, c1⟩ := HX.out.int hlt
      injection hA2 with hA2
      injection hA2 with i9 j9
      subst i9 j9
      rw [drop_cons hlt] at ha
      simp only [leastL] at ha
      generalize xs[k] = x at c1 ha
      by_cases hc : x < a
      · rw [show min a x = x from by omega] at ha
        go_wp2_with fail
        all_goals (go_round)
        case rel => exact ⟨k + 1, x, by omega, by go_num, rfl, ha⟩
        case measure => simp [intOf]; omega
      · rw [show min a x = a from by omega] at ha
        go_wp2_with fail
        all_goals (go_round)
        case rel => exact ⟨k + 1, a, by omega, by go_num, rfl, ha⟩
        case measure => simp [intOf]; omega
    · rw [drop_end hlt] at ha
      simp only [leastL] at ha
      subst ha
      go_wp2_with fail
      go_ret
      exact ⟨rfl, rfl⟩
set_option maxHeartbeats 2000000 in
theorem stageRates_ (A : Option Addr) (xs : List (List Mill)) (c : Nat) (f : Int) (w : World) (hx : RdS w A xs) (hok : StOk xs) (hf : 0 ≤ f ∧ f ≤ 12) :
    Calls Try.prog 78 #[.slice A xs.length c, .int .i64 f] w fun e w' => ∃ u, e = .returned u ∧ Own w' w.heap.size 2 u (xs.map (sumM f)) ∧ Below w.heap.size w w' := by
  have hx3 := hok.1
  have HX := hid hx
  have HOK := hid hok.2
  obtain ⟨F, hF⟩ : ∃ F, xs.map (sumM f) = F := ⟨_, rfl⟩
  rw [hF]
  have HF : Hid ([] ++ (xs.drop 0).map (sumM f) = F) := by rw [List.drop_zero]; exact hF
  clear hx hok hF
  go_enter Try.func78, Try.ntmps78
  go_wp2_with fail
  go_loopw [5, 11] (fun ov i wr => ∃ (k : Nat) (os : List Int), k ≤ xs.length ∧ i = .int .i64 k ∧ os.length = k ∧ os ++ (xs.drop k).map (sumM f) = F ∧ Own wr w.heap.size 2 ov os ∧ Below w.heap.size w wr) (fun _ i _ => xs.length - (intOf i).toNat)
  case atStart => exact ⟨0, [], Nat.zero_le _, rfl, rfl, HF.out, Own.empty (Nat.le_refl _), (Below.refl _ _).alloc (Nat.le_refl _) _⟩
  case round =>
    obtain ⟨k, os, hk, rfl, hol, hrl, ho, hq⟩ := hrel
    obtain ⟨wo, rfl⟩ : ∃ wo : World, wo = wr := ⟨_, rfl⟩
    have HQ := hid hq
    have HOO := hid ho
    have HX2 := hid (HX.out.below hq)
    obtain ⟨V, vq, rfl⟩ := ho.form
    have hos : os.length ≤ 1048576 := by omega
    have HOL := hid hol
    clear ho hq hol
    by_cases hlt : k < xs.length
    · obtain ⟨b, off, g, q, rfl, c1, hms⟩ := HX2.out.at_ hlt
      have HMS := hid hms
      have HM := hid (HOK.out _ (List.getElem_mem hlt))
      rw [List.drop_eq_getElem_cons hlt, List.map_cons] at hrl
      clear hms
      generalize xs[k] = ms at c1 HMS HM hrl
      have HRL := hid hrl
      clear hrl
      go_wp2_with fail
      refine (millRates_ _ _ _ f _ HMS.out HM.out hf).mono ?_
      rintro e w2 ⟨u, rfl, ho2, hb⟩
      obtain ⟨V2, v2, rfl⟩ := ho2.form
      have hml := HM.out.1
      have HO2 := hid (HOO.out.below hb)
      have HQ2 := hid (HQ.out.trans (hb.mono HQ.out.size))
      have hcall : Calls Try.prog 97 #[.slice V2 ms.length v2] w2 fun e w' => e = .returned (.int .i64 (sumM f ms)) ∧ w2 = w' := by
        have h9 := sum_ V2 (ms.map (rateM f)) v2 w2 (ho2.rd (by simp; omega)) (by simp; omega) (fun x hx => by
          obtain ⟨m, hm, rfl⟩ := List.mem_map.mp hx
          have := rateM_range (HM.out.2 m hm) f
          omega)
        rw [List.length_map] at h9
        exact h9
      have HC := hid hcall
      rw [List.length_map]
      generalize sumM f ms = S at HC HRL
      clear ho2 hb hcall
      go_wp2_with (first | fail | (go_at_call 97; refine HC.out.mono ?_; rintro e w' ⟨rfl, rfl⟩) | (at_builtin; refine wpList_push elInt _ rfl (.tmp 15) (.tmp 20) rfl w.heap.size _ os S rfl (HO2.out.alloc _) _ rfl (heap_alloc_new _ _) hos (le_alloc HQ2.out.size) ?_; intro v' w' hown' hg' hat'; refine keep_ ?_))
      have hbn := below_own (HQ2.out.alloc HQ2.out.size _) (HO2.out.alloc _) hg' (Nat.le_refl _) (le_alloc HQ2.out.size)
      have Z1 := hid hbn
      have Z2 := hid hown'
      clear hbn hown' hg' hat'
      refine go_ ?_
      go_wp2_with fail
      go_roundw
      case rel => exact ⟨k + 1, os ++ [S], by omega, by go_num, by rw [List.length_append, HOL.out]; rfl, by rw [List.append_assoc]; exact HRL.out, Z2.out, Z1.out⟩
      case measure => simp [intOf]; omega
    · rw [List.drop_eq_nil_of_le (by omega)] at hrl
      simp only [List.map_nil, List.append_nil] at hrl
      have E1 := hid hrl
      clear hrl
      go_wp2_with fail
      go_ret
      exact ⟨_, rfl, by rw [← E1.out]; exact HOO.out, HQ.out⟩
theorem isForce_ (n : Int) (w : World) : Calls Try.prog 76 #[.int .i64 n] w fun e w' => e = .returned (.bool (inB n 0 12)) ∧ w = w' := by
  go_enter Try.func76, Try.ntmps76
  go_wp2_with (go_at_call 59; refine (implIn _ _ _ _).mono ?_; rintro e w' ⟨rfl, rfl⟩)
  go_ret
  exact ⟨rfl, rfl⟩
/-- The least of all stages' rates, from the call for the rates. -/
theorem least_st {w : World} {f : Int} {xs : List (List Mill)} (hok : StOk xs) {V : Option Addr} {v : Nat} {base : Nat} (ho : Own w base 2 (.slice V (xs.map (sumM f)).length v) (xs.map (sumM f))) :
    Calls Try.prog 77 #[.slice V xs.length v] w fun e w' => e = .returned (.int .i64 (through f xs)) ∧ w = w' := by
  have h3 := hok.1
  have h9 := least_ V (xs.map (sumM f)) v w (ho.rd (by simp; omega)) (by simp; omega)
  rw [List.length_map] at h9
  exact h9
set_option maxHeartbeats 1000000 in
theorem stagesCode_ (A : Option Addr) (xs : List (List Mill)) (c : Nat) (f : Int) (w : World) (hx : RdS w A xs) (hok : StOk xs) (hf : 0 ≤ f ∧ f ≤ 12) :
    Calls Try.prog 79 #[.slice A xs.length c, .int .i64 f] w fun e w' => e = .returned (.int .i64 0) ∧ Below w.heap.size w w' := by
  have HX := hid hx
  have HOK := hid hok
  have H1 : Hid (inB f 0 12 = true) := inB_lit hf
  clear hx hok
  go_enter Try.func79, Try.ntmps79
  go_wp2_with fail
  refine (validStages_ _ _ _ _ HX.out HOK.out).mono ?_
  rintro e w1 ⟨rfl, hb⟩
  have HB := hid hb
  clear hb
  go_wp2_with (go_at_call 76; refine (isForce_ _ _).mono ?_; rintro e w' ⟨rfl, rfl⟩; rw [H1.out])
  go_ret
  exact ⟨rfl, HB.out⟩
set_option maxHeartbeats 1000000 in
theorem throughOf_ (A : Option Addr) (xs : List (List Mill)) (c : Nat) (f : Int) (w : World) (hx : RdS w A xs) (hok : StOk xs) (hf : 0 ≤ f ∧ f ≤ 12) :
    Calls Try.prog 29 #[.slice A xs.length c, .int .i64 f] w fun e w' => e = .returned (.tuple #[.int .i64 (through f xs), .int .i64 0]) ∧ Below w.heap.size w w' := by
  have HX := hid hx
  have HOK := hid hok
  obtain ⟨R, hR⟩ : ∃ R, through f xs = R := ⟨_, rfl⟩
  rw [hR]
  have HR := hid hR
  clear hx hok hR
  go_enter Try.func29, Try.ntmps29
  go_wp2_with fail
  refine (stagesCode_ _ _ _ f _ HX.out HOK.out hf).mono ?_
  rintro e w1 ⟨rfl, hb⟩
  have HB := hid hb
  have HX1 := hid (HX.out.below hb)
  clear hb
  go_wp2_with fail
  refine (stageRates_ _ _ _ f _ HX1.out HOK.out hf).mono ?_
  rintro e w2 ⟨u, rfl, ho, hb⟩
  obtain ⟨V, v, rfl⟩ := ho.form
  have hc := least_st HOK.out ho
  rw [HR.out] at hc
  have HC := hid hc
  have HB2 := hid (HB.out.trans (hb.mono HB.out.size))
  rw [List.length_map]
  clear ho hb hc
  go_wp2_with (go_at_call 77; refine HC.out.mono ?_; rintro e w' ⟨rfl, rfl⟩)
  go_ret2
  exact ⟨rfl, HB2.out⟩
end Go.Proofs.Yteobejgkjjhfkaa
