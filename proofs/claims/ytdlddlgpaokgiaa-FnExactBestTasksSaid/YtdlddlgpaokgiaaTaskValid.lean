/- ValidTasks, SameTasks: the walks. -/
import Derived.Test.YtdlddlgpaokgiaaTaskOk
namespace Go.Proofs.Ytdlddlgpaokgiaa
open Go.RowKit
set_option linter.unusedVariables false
def aloneB (d c y : Int) : Bool := inB d 1 1000 && inB c 0 1000000 && inB y 0 10000
def oneB (hi : Int) (t : Task) : Bool := aloneB t.days t.cost t.clay && risesB 0 hi t.after
def validT (xs : List Task) : Bool := decide (xs.length ≤ 12 ∧ ∀ k, (h : k < xs.length) → oneB ((k : Int) - 1) xs[k] = true)
def validTo (xs : List Task) (n : Nat) : Prop := ∀ k, k < n → (h : k < xs.length) → oneB ((k : Int) - 1) xs[k] = true
theorem validT_no {xs : List Task} {k : Nat} (hk : k < xs.length) (h : oneB ((k : Int) - 1) xs[k] = false) : false = validT xs := by
  symm
  unfold validT
  rw [decide_eq_false_iff_not]
  rintro ⟨_, h2⟩
  rw [h2 k hk] at h
  cases h
theorem validT_all {xs : List Task} (h : validTo xs xs.length) : decide ((xs.length : Int) ≤ 12) = validT xs := by
  unfold validT
  congr 1
  rw [eq_iff_iff]
  constructor
  · intro h1
    exact ⟨by omega, fun k hk => h k hk hk⟩
  · rintro ⟨h1, _⟩
    omega
theorem validTo_next {xs : List Task} {k : Nat} (h : validTo xs k) (hk : k < xs.length) (h1 : oneB ((k : Int) - 1) xs[k] = true) : validTo xs (k + 1) := fun j hj hj2 => by
  by_cases hjk : j = k
  · subst hjk; exact h1
  · exact h j (by omega) hj2

set_option maxHeartbeats 400000 in
theorem implAlone (d c y : Int) (v : Value) (w : World) :
    Calls Try.prog 52 #[.agg #[.int .i64 d, .int .i64 c, .int .i64 y, v]] w fun e w' => e = .returned (.bool (aloneB d c y)) ∧ Below w.heap.size w w' := by
  unfold aloneB
  by_cases h1 : inB d 1 1000 = true
  · by_cases h2 : inB c 0 1000000 = true
    all_goals
      go_enter Try.func52, Try.ntmps52
      go_wp2_with (go_at_call 35; refine (implIn _ _ _ _).mono ?_; rintro e w' ⟨rfl, rfl⟩)
      go_ret
      exact ⟨ret_bool (by simp [h1, h2]), (Below.refl _ _).alloc (Nat.le_refl _) _⟩
  · go_enter Try.func52, Try.ntmps52
    go_wp2_with (go_at_call 35; refine (implIn _ _ _ _).mono ?_; rintro e w' ⟨rfl, rfl⟩)
    go_ret
    exact ⟨ret_bool (by simp [h1]), (Below.refl _ _).alloc (Nat.le_refl _) _⟩

set_option maxHeartbeats 1000000 in
theorem implValidTasks (A : Option Addr) (xs : List Task) (c : Nat) (w : World) (hx : RdT w A xs) :
    Calls Try.prog 32 #[.slice A xs.length c] w fun e w' => e = .returned (.bool (validT xs)) ∧ Below w.heap.size w w' := by
  have hn := hx.len
  go_enter Try.func32, Try.ntmps32
  go_wp2_with fail
  go_loopw [7] (fun i wr => ∃ k : Nat, k ≤ xs.length ∧ i = .int .i64 k ∧ validTo xs k ∧ ∃ q, wr = w.more q) (fun i _ => xs.length - (intOf i).toNat)
  case atStart => exact ⟨0, Nat.zero_le _, rfl, fun k hk => absurd hk (by omega), more_self⟩
  case round =>
    obtain ⟨k, hk, rfl, hv, q, rfl⟩ := hrel
    have Hv := hid hv
    clear hv
    by_cases hlt : k < xs.length
    · obtain ⟨b, off, P, p, rfl, c1, c2, c3, c4, hP⟩ := (hx.more (x := q)).at_ hlt
      clear hx
      by_cases h1 : aloneB xs[k].days xs[k].cost xs[k].clay = true
      · by_cases h2 : risesB 0 ((k : Int) - 1) xs[k].after = true
        · go_wp2_with fail
          refine (implAlone _ _ _ _ _).mono ?_
          rintro e w1 ⟨rfl, hb⟩
          rw [h1]
          obtain ⟨y, rfl⟩ := below_ex hb
          go_wp2_with fail
          refine (implRises _ _ _ _ _ _ (hP.alloc _).more).mono ?_
          rintro e w2 ⟨rfl, rfl⟩
          rw [h2]
          have HB : Below w.heap.size w _ := (more_below.alloc more_size _).trans (hb.mono (le_alloc more_size))
          go_wp2_with fail
          go_roundw
          case rel => exact ⟨k + 1, by omega, by go_num, validTo_next Hv.out hlt (by unfold oneB; rw [h1, h2]; rfl), below_ex HB⟩
          case measure => simp [intOf]; omega
        · have h2' : risesB 0 ((k : Int) - 1) xs[k].after = false := by simpa using h2
          go_wp2_with fail
          refine (implAlone _ _ _ _ _).mono ?_
          rintro e w1 ⟨rfl, hb⟩
          rw [h1]
          obtain ⟨y, rfl⟩ := below_ex hb
          go_wp2_with fail
          refine (implRises _ _ _ _ _ _ (hP.alloc _).more).mono ?_
          rintro e w2 ⟨rfl, rfl⟩
          rw [h2']
          have HB : Below w.heap.size w _ := (more_below.alloc more_size _).trans (hb.mono (le_alloc more_size))
          go_wp2_with fail
          go_ret
          exact ⟨ret_bool (validT_no hlt (by unfold oneB; rw [h2']; simp)), HB⟩
      · have h1' : aloneB xs[k].days xs[k].cost xs[k].clay = false := by simpa using h1
        go_wp2_with fail
        refine (implAlone _ _ _ _ _).mono ?_
        rintro e w1 ⟨rfl, hb⟩
        rw [h1']
        have HB : Below w.heap.size w _ := (more_below.alloc more_size _).trans (hb.mono (le_alloc more_size))
        go_wp2_with fail
        go_ret
        exact ⟨ret_bool (validT_no hlt (by unfold oneB; rw [h1']; simp)), HB⟩
    · have hkl : k = xs.length := by omega
      have HK := hid hkl
      clear hkl hx
      go_wp2_with fail
      go_ret
      exact ⟨ret_bool (validT_all (by have := Hv.out; rw [HK.out] at this; exact this)), more_below⟩

set_option maxHeartbeats 1000000 in
theorem specOne (b off : Nat) (t : Task) (P : Option Addr) (p : Nat) (n : Int) (w : World) (c1 : w.cell? ⟨b, off, none⟩ = some (.int .i64 t.days)) (c2 : w.cell? ⟨b, off + 1, none⟩ = some (.int .i64 t.cost)) (c3 : w.cell? ⟨b, off + 2, none⟩ = some (.int .i64 t.clay))
    (c4 : w.cell? ⟨b, off + 3, none⟩ = some (.slice P t.after.length p)) (hP : Rd w P t.after) (h0 : 0 ≤ n) (h1 : n ≤ 1048576) :
    Calls Try.prog 50 #[.pointer (some ⟨b, off, none⟩), .int .i64 n] w fun e w' => e = .returned (.bool (oneB (n - 1) t)) ∧ Below w.heap.size w w' := by
  unfold oneB aloneB
  by_cases g1 : inB t.days 1 1000 = true
  · by_cases g2 : inB t.cost 0 1000000 = true
    · by_cases g3 : inB t.clay 0 10000 = true
      · go_enter Try.func50, Try.ntmps50
        go_wp2_with (first | (go_at_call 28; refine (specIn _ _ _ _).mono ?_; rintro e w' ⟨rfl, rfl⟩) | fail)
        refine (specRises _ _ _ _ _ _ hP).mono ?_
        rintro e w1 ⟨rfl, hb⟩
        go_wp2_with fail
        go_ret
        exact ⟨ret_bool (by simp [g1, g2, g3]), hb⟩
      · go_enter Try.func50, Try.ntmps50
        go_wp2_with (first | (go_at_call 28; refine (specIn _ _ _ _).mono ?_; rintro e w' ⟨rfl, rfl⟩) | fail)
        go_ret
        exact ⟨ret_bool (by simp [g3]), Below.refl _ _⟩
    · go_enter Try.func50, Try.ntmps50
      go_wp2_with (first | (go_at_call 28; refine (specIn _ _ _ _).mono ?_; rintro e w' ⟨rfl, rfl⟩) | fail)
      go_ret
      exact ⟨ret_bool (by simp [g2]), Below.refl _ _⟩
  · go_enter Try.func50, Try.ntmps50
    go_wp2_with (first | (go_at_call 28; refine (specIn _ _ _ _).mono ?_; rintro e w' ⟨rfl, rfl⟩) | fail)
    go_ret
    exact ⟨ret_bool (by simp [g1]), Below.refl _ _⟩

set_option maxHeartbeats 1000000 in
theorem specTasksOk (A : Option Addr) (xs : List Task) (c : Nat) (w : World) (hx : RdT w A xs) :
    Calls Try.prog 27 #[.slice A xs.length c] w fun e w' => e = .returned (.bool (validT xs)) ∧ Below w.heap.size w w' := by
  have hn := hx.len
  go_enter Try.func27, Try.ntmps27
  go_wp2_with fail
  go_loopw [3] (fun i wr => ∃ k : Nat, k ≤ xs.length ∧ i = .int .i64 k ∧ validTo xs k ∧ ∃ q, wr = w.more q) (fun i _ => xs.length - (intOf i).toNat)
  case atStart => exact ⟨0, Nat.zero_le _, rfl, fun k hk => absurd hk (by omega), more_self⟩
  case round =>
    obtain ⟨k, hk, rfl, hv, q, rfl⟩ := hrel
    have Hv := hid hv
    clear hv
    by_cases hlt : k < xs.length
    · obtain ⟨b, off, P, p, rfl, c1, c2, c3, c4, hP⟩ := (hx.more (x := q)).at_ hlt
      clear hx
      by_cases h1 : oneB ((k : Int) - 1) xs[k] = true
      · go_wp2_with fail
        refine (specOne _ _ xs[k] P p _ _ c1 c2 c3 c4 hP (by omega) (by omega)).mono ?_
        rintro e w1 ⟨rfl, hb⟩
        rw [h1]
        have HB : Below w.heap.size w _ := more_below.trans (hb.mono more_size)
        go_wp2_with fail
        go_roundw
        case rel => exact ⟨k + 1, by omega, by go_num, validTo_next Hv.out hlt h1, below_ex HB⟩
        case measure => simp [intOf]; omega
      · have h1' : oneB ((k : Int) - 1) xs[k] = false := by simpa using h1
        go_wp2_with fail
        refine (specOne _ _ xs[k] P p _ _ c1 c2 c3 c4 hP (by omega) (by omega)).mono ?_
        rintro e w1 ⟨rfl, hb⟩
        rw [h1']
        have HB : Below w.heap.size w _ := more_below.trans (hb.mono more_size)
        go_wp2_with fail
        go_ret
        exact ⟨ret_bool (validT_no hlt h1'), HB⟩
    · have hkl : k = xs.length := by omega
      have HK := hid hkl
      clear hkl hx
      go_wp2_with fail
      go_ret
      exact ⟨ret_bool (validT_all (by have := Hv.out; rw [HK.out] at this; exact this)), more_below⟩


end Go.Proofs.Ytdlddlgpaokgiaa
