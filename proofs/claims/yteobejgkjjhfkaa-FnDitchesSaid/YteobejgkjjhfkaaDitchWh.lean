/- impl.Net.reached's last step: the junctions that have been reached, in order. -/
import Derived.Test.YteobejgkjjhfkaaDitchAdd
namespace Go.Proofs.Yteobejgkjjhfkaa
open Go.RowKit
set_option linter.unusedVariables false
set_option linter.unusedSimpArgs false
def whereTo (p : Nat → Bool) (n : Nat) : List Int := ((List.range n).filter p).map fun (i : Nat) => (i : Int)
theorem whereTo_next (p : Nat → Bool) (n : Nat) : whereTo p (n + 1) = if p n = true then whereTo p n ++ [(n : Int)] else whereTo p n := by
  unfold whereTo
  rw [List.range_succ, List.filter_append, List.map_append]
  cases h : p n <;> simp [h]
theorem whereTo_len (p : Nat → Bool) (n : Nat) : (whereTo p n).length ≤ n := by
  unfold whereTo
  rw [List.length_map]
  exact Nat.le_trans (List.length_filter_le _ _) (by simp)
set_option maxHeartbeats 1000000 in
theorem implWhere_Reach (q0 : Value) (n : Nat) (p : Nat → Bool) (w : World) (hn : n ≤ 1048576)
    (hcl : ∀ k : Nat, k < n → ∀ w', Below w.heap.size w w' → Calls Try.prog 125 #[.int .i64 (k : Int), q0] w' fun e w'' => e = .returned (.bool (p k)) ∧ Below w'.heap.size w' w'') :
    Calls Try.prog 124 #[.int .i64 n, .func (.func 125) #[] #[q0]] w fun e w' => ∃ v, e = .returned v ∧ Own w' w.heap.size 2 v (whereTo p n) ∧ Below w.heap.size w w' := by
  go_enter Try.func124, Try.ntmps124
  go_wp2
  go_loopw [5, 6] (fun v i wr => ∃ k : Nat, k ≤ n ∧ i = .int .i64 k ∧ Own wr w.heap.size 2 v (whereTo p k) ∧ Below w.heap.size w wr) (fun _ i _ => n - (intOf i).toNat)
  case atStart => exact ⟨0, Nat.zero_le _, rfl, Own.empty (Nat.le_refl _), (Below.refl _ _).alloc (Nat.le_refl _) _⟩
  case round =>
    obtain ⟨k, hk, rfl, ho, hb⟩ := hrel
    obtain ⟨wo, rfl⟩ : ∃ wo : World, wo = wr := ⟨_, rfl⟩
    by_cases hlt : k < n
    · have hc := hcl k hlt wo hb
      have HN := hid (whereTo_next p k)
      have hwl := whereTo_len p k
      have HB := hid hb
      obtain ⟨V, vq, rfl⟩ := ho.form
      generalize whereTo p k = L at ho HN hwl
      have HO := hid ho
      clear hcl hb ho
      by_cases h1 : p k = true
      · have HN2 : Hid (whereTo p (k + 1) = L ++ [(k : Int)]) := by rw [HN.out, if_pos h1]; exact rfl
        go_wp2_with (first | (go_at_call 125; refine hc.mono ?_; rintro e w1 ⟨rfl, hb1⟩; rw [h1]; have HB1 := hid (HB.out.trans (hb1.mono HB.out.size)); have HO1 := hid (HO.out.below hb1); clear hb1) | (at_builtin; refine wpList_push elInt _ rfl (.tmp 16) (.tmp 18) rfl w.heap.size _ L (k : Int) rfl (HO1.out.alloc _) _ rfl (heap_alloc_new _ _) (by omega) (le_alloc HB1.out.size) ?_; intro v' w' hown' hg' hat'; have hbn := below_own (HB1.out.alloc HB1.out.size _) (HO1.out.alloc _) hg' (Nat.le_refl _) (le_alloc HB1.out.size); have HO2 := hid hown'; have HBN := hid hbn; clear hown' hg' hat' hbn))
        go_roundw
        case rel => exact ⟨k + 1, by omega, by go_num, by rw [HN2.out]; exact HO2.out, HBN.out⟩
        case measure => simp [intOf]; omega
      · have HN2 : Hid (whereTo p (k + 1) = L) := by rw [HN.out, if_neg h1]; exact rfl
        rw [Bool.not_eq_true] at h1
        go_wp2_with (go_at_call 125; refine hc.mono ?_; rintro e w1 ⟨rfl, hb1⟩; rw [h1]; have HB1 := hid (HB.out.trans (hb1.mono HB.out.size)); have HO1 := hid (HO.out.below hb1); clear hb1)
        go_roundw
        case rel => exact ⟨k + 1, by omega, by go_num, by rw [HN2.out]; exact HO1.out, HB1.out⟩
        case measure => simp [intOf]; omega
    · have hkl : Hid (k = n) := by show k = n; omega
      have HO := hid ho
      have HB := hid hb
      clear ho hcl hb
      go_wp2
      go_ret
      exact ⟨_, rfl, by rw [← hkl.out]; exact HO.out, HB.out⟩
set_option maxHeartbeats 1000000 in
theorem implReach2 (j : Int) (pl : Nat) (A : Option Addr) (ks : List Int) (q : Nat) (w : World) (hx : Rd w A ks) (hc : w.cell? ⟨pl, 0, none⟩ = some (.slice A ks.length q)) :
    Calls Try.prog 125 #[.int .i64 j, .pointer (some ⟨pl, 0, none⟩)] w fun e w' => e = .returned (.bool (hasB ks j)) ∧ Below w.heap.size w w' := by
  have HH := hid (implHas A ks q j w hx)
  clear hx
  go_enter Try.func125, Try.ntmps125
  go_wp2_with (go_at_call 107; refine HH.out.mono ?_; rintro e w' ⟨rfl, rfl⟩)
  go_ret
  exact ⟨rfl, Below.refl _ _⟩
end Go.Proofs.Yteobejgkjjhfkaa
