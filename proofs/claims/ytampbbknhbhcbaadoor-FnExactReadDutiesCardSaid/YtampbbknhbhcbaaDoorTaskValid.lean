/- ValidTasks, SameTasks: the walks. -/
import Derived.Test.YtampbbknhbhcbaaDoorTaskOk
namespace Go.Proofs.YtampbbknhbhcbaaDoor
open Go.RowKit
set_option linter.unusedVariables false
def aloneB (d c y : Int) : Bool := inB d 1 1000 && inB c 0 1000000 && inB y 0 10000
def oneB (hi : Int) (t : Task) : Bool := aloneB t.days t.cost t.clay && risesB 0 hi t.after
def validT (xs : List Task) : Bool := decide (xs.length ≤ 12 ∧ ∀ k, (h : k < xs.length) → oneB ((k : Int) - 1) xs[k] = true)
def validTo (xs : List Task) (n : Nat) : Prop := ∀ k, k < n → (h : k < xs.length) → oneB ((k : Int) - 1) xs[k] = true
theorem validT_no {xs : List Task} {k : Nat} (hk : k < xs.length) (h : oneB ((k : Int) - 1) xs[k] = false) : false = validT xs := by
  symm
  unfold validT
  rw [decide_eq_false_iff_not]
  rintro ⟨_, h2⟩
  rw [h2 k hk] at h
  cases h
theorem validT_all {xs : List Task} (h : validTo xs xs.length) : decide ((xs.length : Int) ≤ 12) = validT xs := by
  unfold validT
  congr 1
  rw [eq_iff_iff]
  constructor
  · intro h1
    exact ⟨by omega, fun k hk => h k hk hk⟩
  · rintro ⟨h1, _⟩
    omega
theorem validTo_next {xs : List Task} {k : Nat} (h : validTo xs k) (hk : k < xs.length) (h1 : oneB ((k : Int) - 1) xs[k] = true) : validTo xs (k + 1) := fun j hj hj2 => by
  by_cases hjk : j = k
  · subst hjk; exact h1
  · exact h j (by omega) hj2

set_option maxHeartbeats 400000 in
theorem implAlone (d c y : Int) (v : Value) (w : World) :
    Calls Tryd.prog 46 #[.agg #[.int .i64 d, .int .i64 c, .int .i64 y, v]] w fun e w' => e = .returned (.bool (aloneB d c y)) ∧ Below w.heap.size w w' := by
  unfold aloneB
  by_cases h1 : inB d 1 1000 = true
  · by_cases h2 : inB c 0 1000000 = true
    all_goals
      go_enter Tryd.func46, Tryd.ntmps46
      go_wp2_with (go_at_call 54; refine (implIn _ _ _ _).mono ?_; rintro e w' ⟨rfl, rfl⟩)
      go_ret
      exact ⟨ret_bool (by simp [h1, h2]), (Below.refl _ _).alloc (Nat.le_refl _) _⟩
  · go_enter Tryd.func46, Tryd.ntmps46
    go_wp2_with (go_at_call 54; refine (implIn _ _ _ _).mono ?_; rintro e w' ⟨rfl, rfl⟩)
    go_ret
    exact ⟨ret_bool (by simp [h1]), (Below.refl _ _).alloc (Nat.le_refl _) _⟩


set_option maxHeartbeats 1000000 in
theorem specOne (b off : Nat) (t : Task) (P : Option Addr) (p : Nat) (n : Int) (w : World) (c1 : w.cell? ⟨b, off, none⟩ = some (.int .i64 t.days)) (c2 : w.cell? ⟨b, off + 1, none⟩ = some (.int .i64 t.cost)) (c3 : w.cell? ⟨b, off + 2, none⟩ = some (.int .i64 t.clay))
    (c4 : w.cell? ⟨b, off + 3, none⟩ = some (.slice P t.after.length p)) (hP : Rd w P t.after) (h0 : 0 ≤ n) (h1 : n ≤ 1048576) :
    Calls Tryd.prog 44 #[.pointer (some ⟨b, off, none⟩), .int .i64 n] w fun e w' => e = .returned (.bool (oneB (n - 1) t)) ∧ Below w.heap.size w w' := by
  unfold oneB aloneB
  by_cases g1 : inB t.days 1 1000 = true
  · by_cases g2 : inB t.cost 0 1000000 = true
    · by_cases g3 : inB t.clay 0 10000 = true
      · go_enter Tryd.func44, Tryd.ntmps44
        go_wp2_with (first | (go_at_call 51; refine (specIn _ _ _ _).mono ?_; rintro e w' ⟨rfl, rfl⟩) | fail)
        refine (specRises _ _ _ _ _ _ hP).mono ?_
        rintro e w1 ⟨rfl, hb⟩
        go_wp2_with fail
        go_ret
        exact ⟨ret_bool (by simp [g1, g2, g3]), hb⟩
      · go_enter Tryd.func44, Tryd.ntmps44
        go_wp2_with (first | (go_at_call 51; refine (specIn _ _ _ _).mono ?_; rintro e w' ⟨rfl, rfl⟩) | fail)
        go_ret
        exact ⟨ret_bool (by simp [g3]), Below.refl _ _⟩
    · go_enter Tryd.func44, Tryd.ntmps44
      go_wp2_with (first | (go_at_call 51; refine (specIn _ _ _ _).mono ?_; rintro e w' ⟨rfl, rfl⟩) | fail)
      go_ret
      exact ⟨ret_bool (by simp [g2]), Below.refl _ _⟩
  · go_enter Tryd.func44, Tryd.ntmps44
    go_wp2_with (first | (go_at_call 51; refine (specIn _ _ _ _).mono ?_; rintro e w' ⟨rfl, rfl⟩) | fail)
    go_ret
    exact ⟨ret_bool (by simp [g1]), Below.refl _ _⟩



end Go.Proofs.YtampbbknhbhcbaaDoor
