/- Is a number in a list? -/
import Derived.Test.YteobejgkjjhfkaaIn
namespace Go.Proofs.Yteobejgkjjhfkaa
open Go.RowKit
set_option linter.unusedVariables false
def hasB (xs : List Int) (n : Int) : Bool := decide (n ∈ xs)
def hasNot (xs : List Int) (n : Int) (k : Nat) : Prop := ∀ j, j < k → (h : j < xs.length) → xs[j] ≠ n
theorem has_yes {xs : List Int} {n : Int} {k : Nat} (hk : k < xs.length) (h : xs[k] = n) : true = hasB xs n := by
  symm; unfold hasB; rw [decide_eq_true_eq, ← h]; exact List.getElem_mem hk
theorem has_no {xs : List Int} {n : Int} {k : Nat} (hk : ¬ k < xs.length) (h : hasNot xs n k) : false = hasB xs n := by
  symm; unfold hasB; rw [decide_eq_false_iff_not]
  intro hm
  obtain ⟨j, hj, he⟩ := List.getElem_of_mem hm
  exact h j (by omega) hj he
theorem has_next {xs : List Int} {n : Int} {k : Nat} (h : hasNot xs n k) (hk : k < xs.length) (hn : ¬ xs[k] = n) : hasNot xs n (k + 1) := fun j hj hl => by
  by_cases hjk : j = k
  · subst hjk; exact hn
  · exact h j (by omega) hl
set_option maxHeartbeats 1000000 in
theorem implHas (A : Option Addr) (xs : List Int) (c : Nat) (n : Int) (w : World) (hx : Rd w A xs) :
    Calls Try.prog 107 #[.slice A xs.length c, .int .i64 n] w fun e w' => e = .returned (.bool (hasB xs n)) ∧ w = w' := by
  have hn := hx.len
  go_enter Try.func107, Try.ntmps107
  go_wp2
  go_loop [9] (fun i => ∃ k : Nat, k ≤ xs.length ∧ i = .int .i64 k ∧ hasNot xs n k) (fun i => xs.length - (intOf i).toNat)
  case atStart => exact ⟨0, Nat.zero_le _, rfl, fun k hk => absurd hk (by omega)⟩
  case round =>
    obtain ⟨k, hk, rfl, hr⟩ := hrel
    have Hr := hid hr
    clear hr
    by_cases hlt : k < xs.length
    · obtain ⟨b, off, rfl, c1⟩ := hx.int hlt
      clear hx
      by_cases h1 : xs[k] = n
      · have H1 := hid (has_yes hlt h1)
        have h1' : (xs[k] == n) = true := by simp [h1]
        clear h1
        go_wp2
        go_ret
        exact ⟨ret_bool H1.out, rfl⟩
      · have H1 := hid (has_next Hr.out hlt h1)
        have h1' : (xs[k] == n) = false := by simp [h1]
        clear h1
        go_wp2
        go_round
        case rel => exact ⟨k + 1, by omega, by go_num, H1.out⟩
        case measure => simp [intOf]; omega
    · clear hx
      go_wp2
      go_ret
      exact ⟨ret_bool (has_no hlt Hr.out), rfl⟩

end Go.Proofs.Yteobejgkjjhfkaa
