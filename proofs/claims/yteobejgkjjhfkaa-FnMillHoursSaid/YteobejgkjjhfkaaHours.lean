/- Hours to lift: walked. -/
import Derived.Test.YteobejgkjjhfkaaThrough
namespace Go.Proofs.Yteobejgkjjhfkaa
open Go.RowKit
set_option linter.unusedVariables false
/-- The hours and the code. -/
def hoursL (v : Int) (st : List (List Mill)) (l h : Int) : List Int → Int × Int
  | [] => if l < v then (0, 3) else (h, 0)
  | f :: fs => if v ≤ l then (h, 0) else hoursL v st (l + through f st) (h + 1) fs
theorem hours_code (v : Int) (st : List (List Mill)) : ∀ (fs : List Int) (l h : Int), (hoursL v st l h fs).2 = 0 ∨ (hoursL v st l h fs).2 = 3
  | [], l, h => by
    simp only [hoursL]
    split <;> simp
  | f :: fs, l, h => by
    simp only [hoursL]
    split
    · simp
    · exact hours_code v st fs _ _
theorem hours_ge (v : Int) (st : List (List Mill)) : ∀ (fs : List Int) (l h : Int), (hoursL v st l h fs).2 = 0 → h ≤ (hoursL v st l h fs).1 ∧ (hoursL v st l h fs).1 ≤ h + fs.length
  | [], l, h, hz => by
    simp only [hoursL] at hz ⊢
    split at hz
    · simp at hz
    · rw [if_neg (by assumption)]; simp
  | f :: fs, l, h, hz => by
    simp only [hoursL] at hz ⊢
    split at hz
    · rw [if_pos (by assumption)]; simp only [List.length_cons]; omega
    · rw [if_neg (by assumption)]
      have := hours_ge v st fs _ _ hz
      simp only [List.length_cons]
      omega
set_option maxHeartbeats 1000000 in
theorem implAll_Force (A : Option Addr) (xs : List Int) (c : Nat) (p : Int → Bool) (w : World) (hx : Rd w A xs)
    (hcl : ∀ x ∈ xs, ∀ w', Below w.heap.size w w' → Calls Try.prog 76 #[.int .i64 x] w' fun e w'' => e = .returned (.bool (p x)) ∧ Below w'.heap.size w' w'') :
    Calls Try.prog 75 #[.slice A xs.length c, .func (.func 76) #[] #[]] w fun e w' => e = .returned (.bool (xs.all p)) ∧ Below w.heap.size w w' := by
  have hn := hx.len
  go_enter Try.func75, Try.ntmps75
  go_wp2
  go_loopw [9] (fun i wr => ∃ k : Nat, k ≤ xs.length ∧ i = .int .i64 k ∧ (xs.take k).all p = true ∧ ∃ q, wr = w.more q) (fun i _ => xs.length - (intOf i).toNat)
  case atStart => exact ⟨0, Nat.zero_le _, rfl, rfl, more_self⟩
  case round =>
    obtain ⟨k, hk, rfl, ht, q, rfl⟩ := hrel
    have Ht := hid ht
    clear ht
    by_cases hlt : k < xs.length
    · obtain ⟨b, off, rfl, c1⟩ := hx.int hlt
      have hc := hcl _ (List.getElem_mem hlt) (w.more q) more_below
      have hmem := List.getElem_mem hlt
      have HT : Hid ((xs.take (k + 1)).all p = p xs[k]) := by
        show (xs.take (k + 1)).all p = p xs[k]
        rw [take_next hlt, List.all_append, Ht.out]; simp
      have HF : Hid (p xs[k] = false → xs.all p = false) := fun h => by
        rw [List.all_eq_false]
        exact ⟨xs[k], hmem, by simp [h]⟩
      generalize xs[k] = x at c1 hc HT HF
      clear hx hcl hmem
      by_cases h1 : p x = true
      · go_wp2_with (go_at_call 76; refine hc.mono ?_; rintro e w' ⟨rfl, hb⟩; rw [h1])
        go_roundw
        case rel => exact ⟨k + 1, by omega, by go_num, by rw [HT.out]; exact h1, below_ex (more_below.trans (hb.mono more_size))⟩
        case measure => simp [intOf]; omega
      · rw [Bool.not_eq_true] at h1
        go_wp2_with (go_at_call 76; refine hc.mono ?_; rintro e w' ⟨rfl, hb⟩; rw [h1])
        go_ret
        exact ⟨ret_bool (HF.out h1).symm, more_below.trans (hb.mono more_size)⟩
    · have HE : Hid (xs.all p = true) := by
        have := Ht.out
        rw [List.take_of_length_le (by omega)] at this
        exact this
      clear hx hcl
      go_wp2
      go_ret
      exact ⟨ret_bool HE.out.symm, more_below⟩
set_option maxHeartbeats 4000000 in
theorem hoursToLift_ (A B : Option Addr) (st : List (List Mill)) (fs : List Int) (c d : Nat) (v : Int) (w : World) (hx : RdS w A st) (hok : StOk st) (hf : Rd w B fs) (hfr : fs.length = 8 ∧ ∀ f ∈ fs, 0 ≤ f ∧ f ≤ 12) (hv : 0 ≤ v ∧ v ≤ 100000) :
    Calls Try.prog 28 #[.slice A st.length c, .slice B fs.length d, .int .i64 v] w fun e w' => e = .returned (.tuple #[.int .i64 (hoursL v st 0 0 fs).1, .int .i64 (hoursL v st 0 0 fs).2]) ∧ Below w.heap.size w w' := by
  have HX := hid hx
  have HF := hid hf
  have HOK := hid hok
  have HFR := hid hfr.2
  have hfl : fs.length ≤ 8 := by omega
  have HA : Hid (fs.all (fun n => inB n 0 12) = true) := by
    show fs.all (fun n => inB n 0 12) = true
    rw [List.all_eq_true]
    exact fun x hx => inB_lit (hfr.2 x hx)
  have H1 : Hid (inB v 0 1000000000 = true) := inB_lit (by omega)
  obtain ⟨R1, hR1⟩ : ∃ R, (hoursL v st 0 0 fs).1 = R := ⟨_, rfl⟩
  obtain ⟨R2, hR2⟩ : ∃ R, (hoursL v st 0 0 fs).2 = R := ⟨_, rfl⟩
  rw [hR1, hR2]
  have HR : Hid (hoursL v st 0 0 (fs.drop 0) = (R1, R2)) := by rw [List.drop_zero, ← hR1, ← hR2]; exact rfl
  clear hx hok hf hfr hR1 hR2
  go_enter Try.func28, Try.ntmps28
  go_wp2_with fail
  refine (validStages_ _ _ _ _ HX.out HOK.out).mono ?_
  rintro e w1 ⟨rfl, hb⟩
  have HB := hid hb
  have HX1 := hid (HX.out.below hb)
  have HF1 := hid (HF.out.below hb)
  clear hb
  go_wp2_with fail
  refine (implAll_Force _ _ _ (fun n => inB n 0 12) _ HF1.out (fun x _ w' _ => (isForce_ x w').mono ?_)).mono ?_
  · rintro e w2 ⟨rfl, rfl⟩
    exact ⟨rfl, Below.refl _ _⟩
  rintro e w2 ⟨rfl, hb⟩
  rw [HA.out]
  have HB2 := hid (HB.out.trans (hb.mono HB.out.size))
  have HX2 := hid (HX1.out.below hb)
  have HF2 := hid (HF1.out.below hb)
  clear hb HX1 HF1
  go_wp2_with (go_at_call 59; refine (implIn _ _ _ _).mono ?_; rintro e w' ⟨rfl, rfl⟩; rw [H1.out])
  go_loopw [8, 31] (fun m j wr => ∃ (k : Nat) (l : Int), k ≤ fs.length ∧ j = .int .i64 k ∧ m = .int .i64 l ∧ hoursL v st l k (fs.drop k) = (R1, R2) ∧ 0 ≤ l ∧ l ≤ 5000 * k ∧ Below w.heap.size w wr ∧ Below w2.heap.size w2 wr) (fun _ j _ => fs.length - (intOf j).toNat)
  case atStart => exact ⟨0, 0, Nat.zero_le _, rfl, rfl, HR.out, by omega, by omega, HB2.out, Below.refl _ _⟩
  case round =>
    obtain ⟨k, l, hk, rfl, rfl, hh, h0, h1, hq, hq2⟩ := hrel
    obtain ⟨wo, rfl⟩ : ∃ wo : World, wo = wr := ⟨_, rfl⟩
    have HQ := hid hq
    have HQ2 := hid hq2
    have HX3 := hid (HX2.out.below hq2)
    have HF3 := hid (HF2.out.below hq2)
    clear hq hq2
    by_cases hlt : k < fs.length
    · obtain ⟨b, off, rfl, c1⟩ := HF3.out.int hlt
      have hfr := HFR.out _ (List.getElem_mem hlt)
      rw [drop_cons hlt] at hh
      simp only [hoursL] at hh
      generalize fs[k] = f at c1 hh hfr
      by_cases hvl : v ≤ l
      · rw [if_pos hvl] at hh
        injection hh with e1 e2
        subst e1 e2
        go_wp2_with fail
        go_ret2
        exact ⟨rfl, HQ.out⟩
      · rw [if_neg hvl] at hh
        have htr := through_range f HOK.out
        have HH := hid hh
        clear hh
        go_wp2_with fail
        refine (stageRates_ _ _ _ f _ HX3.out HOK.out hfr).mono ?_
        rintro e w3 ⟨u, rfl, ho, hb⟩
        obtain ⟨V, vv, rfl⟩ := ho.form
        have hc := least_st HOK.out ho
        have HC := hid hc
        have HQ3 := hid (HQ.out.trans (hb.mono HQ.out.size))
        have HQ4 := hid (HQ2.out.trans (hb.mono HQ2.out.size))
        rw [List.length_map]
        generalize through f st = t at HC HH htr
        clear ho hb hc
        go_wp2_with (go_at_call 77; refine HC.out.mono ?_; rintro e w' ⟨rfl, rfl⟩)
        go_roundw
        case rel => exact ⟨k + 1, l + t, by omega, by go_num, rfl, HH.out, by omega, by omega, HQ3.out, HQ4.out⟩
        case measure => simp [intOf]; omega
    · rw [drop_end hlt] at hh
      simp only [hoursL] at hh
      have hn8 : fs.length ≤ 1048576 := by omega
      by_cases hvl : l < v
      · rw [if_pos hvl] at hh
        injection hh with e1 e2
        subst e1 e2
        go_wp2_with fail
        go_ret2
        exact ⟨rfl, HQ.out⟩
      · rw [if_neg hvl] at hh
        injection hh with e1 e2
        have hke : k = fs.length := by omega
        subst hke
        subst e1 e2
        go_wp2_with (go_at_call 63; refine (sizeInts _ _ _ _ hn8).mono ?_; rintro e w' ⟨rfl, rfl⟩)
        go_ret2
        exact ⟨rfl, HQ.out⟩
end Go.Proofs.Yteobejgkjjhfkaa
