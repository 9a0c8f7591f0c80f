/- Strictly rising lists: the two tests. -/
import Derived.Test.YteobejgkjjhfkaaKind
import Derived.Test.YteobejgkjjhfkaaIn
namespace Go.Proofs.Yteobejgkjjhfkaa
open Go.RowKit
set_option linter.unusedVariables false
/-- Strictly rising, each in its range. -/
def risesB (lo hi : Int) (l : List Int) : Bool := decide (∀ k, (h : k < l.length) → (lo ≤ l[k] ∧ l[k] ≤ hi) ∧ ∀ h' : k - 1 < l.length, 0 < k → l[k - 1] < l[k])
def risesTo (lo hi : Int) (l : List Int) (n : Nat) : Prop := ∀ k, k < n → (h : k < l.length) → (lo ≤ l[k] ∧ l[k] ≤ hi) ∧ ∀ h' : k - 1 < l.length, 0 < k → l[k - 1] < l[k]
theorem risesTo_all {lo hi : Int} {l : List Int} (h : risesTo lo hi l l.length) : risesB lo hi l = true := by
  unfold risesB
  rw [decide_eq_true_eq]
  exact fun k hk => h k hk hk
theorem rises_no {lo hi : Int} {l : List Int} {k : Nat} (hk : k < l.length) (h : ¬ ((lo ≤ l[k] ∧ l[k] ≤ hi) ∧ ∀ h' : k - 1 < l.length, 0 < k → l[k - 1] < l[k])) : false = risesB lo hi l := by
  symm
  unfold risesB
  rw [decide_eq_false_iff_not]
  exact fun h2 => h (h2 k hk)
theorem rises_at {lo hi : Int} {l : List Int} (h : risesB lo hi l = true) {k : Nat} (hk : k < l.length) : (lo ≤ l[k] ∧ l[k] ≤ hi) ∧ ∀ h' : k - 1 < l.length, 0 < k → l[k - 1] < l[k] := by
  unfold risesB at h
  rw [decide_eq_true_eq] at h
  exact h k hk

set_option maxHeartbeats 1000000 in
theorem implRises (A : Option Addr) (xs : List Int) (c : Nat) (lo hi : Int) (w : World) (hx : Rd w A xs) :
    Calls Try.prog 85 #[.slice A xs.length c, .int .i64 lo, .int .i64 hi] w fun e w' => e = .returned (.bool (risesB lo hi xs)) ∧ w = w' := by
  have hn := hx.len
  go_enter Try.func85, Try.ntmps85
  go_wp2
  go_loop [11] (fun i => ∃ k : Nat, k ≤ xs.length ∧ i = .int .i64 k ∧ risesTo lo hi xs k) (fun i => xs.length - (intOf i).toNat)
  case atStart => exact ⟨0, Nat.zero_le _, rfl, fun k hk => absurd hk (by omega)⟩
  case round =>
    obtain ⟨k, hk, rfl, hr⟩ := hrel
    have Hr := hid hr
    clear hr
    by_cases hlt : k < xs.length
    · obtain ⟨b, off, rfl, c1⟩ := hx.int hlt
      by_cases h1 : inB xs[k] lo hi = true
      · by_cases h0 : 0 < k
        · obtain ⟨b', off', hA, c2⟩ := hx.int (k := k - 1) (by omega)
          injection hA with hA
          injection hA with hb ho
          subst hb ho
          have h0' : (0 : Int) < k := by omega
          have H1 := hid (inB_true.1 h1)
          by_cases h2 : xs[k - 1] < xs[k]
          · have h2' : ¬ xs[k] ≤ xs[k - 1] := by omega
            clear hx
            go_wp2_with (go_at_call 59; refine (implIn _ _ _ _).mono ?_; rintro e w' ⟨rfl, rfl⟩)
            go_round
            case rel =>
              refine ⟨k + 1, by omega, by go_num, fun j hj hj2 => ?_⟩
              by_cases hjk : j = k
              · subst hjk
                exact ⟨H1.out, fun _ _ => h2⟩
              · exact Hr.out j (by omega) hj2
            case measure => simp [intOf]; omega
          · have h2' : xs[k] ≤ xs[k - 1] := by omega
            clear hx
            go_wp2_with (go_at_call 59; refine (implIn _ _ _ _).mono ?_; rintro e w' ⟨rfl, rfl⟩)
            go_ret
            exact ⟨ret_bool (rises_no hlt fun h => by have := h.2 (by omega) h0; omega), rfl⟩
        · have hk0 : k ≤ 0 := by omega
          have H1 := hid (inB_true.1 h1)
          clear hx
          go_wp2_with (go_at_call 59; refine (implIn _ _ _ _).mono ?_; rintro e w' ⟨rfl, rfl⟩)
          go_round
          case rel =>
            refine ⟨k + 1, by omega, by go_num, fun j hj hj2 => ?_⟩
            have : j = k := by omega
            subst this
            exact ⟨H1.out, fun _ h => absurd h (by omega)⟩
          case measure => simp [intOf]; omega
      · have H1 := hid h1
        clear hx
        go_wp2_with (go_at_call 59; refine (implIn _ _ _ _).mono ?_; rintro e w' ⟨rfl, rfl⟩)
        go_ret
        exact ⟨ret_bool (rises_no hlt fun h => H1.out (inB_true.2 h.1)), rfl⟩
    · have hkl : k = xs.length := by omega
      have HK := hid hkl
      clear hkl hx
      go_wp2
      go_ret
      exact ⟨ret_bool (risesTo_all (by have := Hr.out; rw [HK.out] at this; exact this)).symm, rfl⟩


end Go.Proofs.Yteobejgkjjhfkaa
