/- Is a register of parcels valid? The walks. -/
import Derived.Test.YtampbbknhbhcbaaParcel
import Derived.Test.YtampbbknhbhcbaaDutyOk
import Derived.Deep.CutBlock
namespace Go.Proofs.Ytampbbknhbhcbaa
open Go.RowKit
set_option linter.unusedVariables false
def parB (x : Parcel) : Bool := inB x.i 1 9999 && inB x.o 0 39 && inB x.a 1 10000000 && inB x.k 0 3
/-- The ids rise. -/
def risB : List Parcel → Bool
  | [] => true
  | [_] => true
  | x :: y :: r => decide (x.i < y.i) && risB (y :: r)
def okP (xs : List Parcel) : Bool := decide (xs.length ≤ 60) && xs.all parB && risB xs
theorem risB_iff : ∀ (xs : List Parcel), risB xs = true ↔ ∀ k, (h : k + 1 < xs.length) → xs[k].i < xs[k + 1].i
  | [] => by simp [risB]
  | [_] => by simp [risB]
  | x :: y :: r => by
    rw [risB, Bool.and_eq_true, decide_eq_true_eq, risB_iff (y :: r)]
    constructor
    · rintro ⟨h1, h2⟩ k h
      cases k with
      | zero => exact h1
      | succ k => exact h2 k (by simpa using h)
    · intro h
      exact ⟨h 0 (by simp), fun k hk => h (k + 1) (by simpa using hk)⟩
theorem risB_no {xs : List Parcel} {k : Nat} (h : k + 1 < xs.length) (h2 : ¬ xs[k].i < xs[k + 1].i) : risB xs = false := by
  rw [Bool.eq_false_iff]
  intro h3
  exact h2 ((risB_iff xs).1 h3 k h)
theorem implIn_at {r : Bool} (n lo hi : Int) (w : World) (h : inB n lo hi = r) : Calls Try.prog 58 #[.int .i64 n, .int .i64 lo, .int .i64 hi] w fun e w' => e = .returned (.bool r) ∧ w = w' := by
  subst h; exact implIn n lo hi w
set_option maxHeartbeats 400000 in
theorem implParcelId (n : Int) (w : World) : Calls Try.prog 72 #[.int .i64 n] w fun e w' => e = .returned (.bool (inB n 1 9999)) ∧ w = w' := by
  go_enter Try.func72, Try.ntmps72
  go_wp2_with (go_at_call 58; refine (implIn _ _ _ _).mono ?_; rintro e w' ⟨rfl, rfl⟩)
  go_ret
  exact ⟨rfl, rfl⟩
set_option maxHeartbeats 400000 in
theorem implParcelArea (n : Int) (w : World) : Calls Try.prog 73 #[.int .i64 n] w fun e w' => e = .returned (.bool (inB n 1 10000000)) ∧ w = w' := by
  go_enter Try.func73, Try.ntmps73
  go_wp2_with (go_at_call 58; refine (implIn _ _ _ _).mono ?_; rintro e w' ⟨rfl, rfl⟩)
  go_ret
  exact ⟨rfl, rfl⟩
set_option maxHeartbeats 400000 in
theorem specParcelId (n : Int) (w : World) : Calls Try.prog 71 #[.int .i64 n] w fun e w' => e = .returned (.bool (inB n 1 9999)) ∧ w = w' := by
  go_enter Try.func71, Try.ntmps71
  go_wp2_with (go_at_call 52; refine (specIn _ _ _ _).mono ?_; rintro e w' ⟨rfl, rfl⟩)
  go_ret
  exact ⟨rfl, rfl⟩
set_option maxHeartbeats 1000000 in
theorem implParcel (x : Parcel) (w : World) :
    Calls Try.prog 57 #[.agg #[.int .i64 x.i, .int .i64 x.o, .int .i64 x.a, .int .i64 x.k]] w fun e w' => e = .returned (.bool (parB x)) ∧ Below w.heap.size w w' := by
  have HB := hid fun o => (Below.refl w.heap.size w).alloc (Nat.le_refl _) o
  unfold parB
  by_cases g1 : inB x.i 1 9999 = true
  · by_cases g2 : inB x.o 0 39 = true
    · by_cases g3 : inB x.a 1 10000000 = true
      all_goals
        go_enter Try.func57, Try.ntmps57
        go_wp2_with (first | (go_at_call 72; refine (implParcelId _ _).mono ?_; rintro e w' ⟨rfl, rfl⟩) | (go_at_call 64; refine (implOwner _ _).mono ?_; rintro e w' ⟨rfl, rfl⟩) | (go_at_call 73; refine (implParcelArea _ _).mono ?_; rintro e w' ⟨rfl, rfl⟩) | (go_at_call 58; refine (implIn _ _ _ _).mono ?_; rintro e w' ⟨rfl, rfl⟩))
        go_ret
        exact ⟨ret_bool (by simp [g1, g2, g3]), HB.out _⟩
    · go_enter Try.func57, Try.ntmps57
      go_wp2_with (first | (go_at_call 72; refine (implParcelId _ _).mono ?_; rintro e w' ⟨rfl, rfl⟩) | (go_at_call 64; refine (implOwner _ _).mono ?_; rintro e w' ⟨rfl, rfl⟩))
      go_ret
      exact ⟨ret_bool (by simp [g1, g2]), HB.out _⟩
  · go_enter Try.func57, Try.ntmps57
    go_wp2_with (go_at_call 72; refine (implParcelId _ _).mono ?_; rintro e w' ⟨rfl, rfl⟩)
    go_ret
    exact ⟨ret_bool (by simp [g1]), HB.out _⟩
set_option maxHeartbeats 1000000 in
theorem specParcel (b off : Nat) (x : Parcel) (w : World) (c1 : w.cell? ⟨b, off, none⟩ = some (.int .i64 x.i)) (c2 : w.cell? ⟨b, off + 1, none⟩ = some (.int .i64 x.o)) (c3 : w.cell? ⟨b, off + 2, none⟩ = some (.int .i64 x.a)) (c4 : w.cell? ⟨b, off + 3, none⟩ = some (.int .i64 x.k)) :
    Calls Try.prog 51 #[.pointer (some ⟨b, off, none⟩)] w fun e w' => e = .returned (.bool (parB x)) ∧ w = w' := by
  unfold parB
  by_cases g1 : inB x.i 1 9999 = true
  · by_cases g2 : inB x.o 0 39 = true
    · by_cases g3 : inB x.a 1 10000000 = true
      all_goals
        go_enter Try.func51, Try.ntmps51
        go_wp2_with (first | (go_at_call 71; refine (specParcelId _ _).mono ?_; rintro e w' ⟨rfl, rfl⟩) | (go_at_call 62; refine (specOwner _ _).mono ?_; rintro e w' ⟨rfl, rfl⟩) | (go_at_call 52; refine (specIn _ _ _ _).mono ?_; rintro e w' ⟨rfl, rfl⟩))
        go_ret
        exact ⟨ret_bool (by simp [g1, g2, g3]), rfl⟩
    · go_enter Try.func51, Try.ntmps51
      go_wp2_with (first | (go_at_call 71; refine (specParcelId _ _).mono ?_; rintro e w' ⟨rfl, rfl⟩) | (go_at_call 62; refine (specOwner _ _).mono ?_; rintro e w' ⟨rfl, rfl⟩))
      go_ret
      exact ⟨ret_bool (by simp [g1, g2]), rfl⟩
  · go_enter Try.func51, Try.ntmps51
    go_wp2_with (go_at_call 71; refine (specParcelId _ _).mono ?_; rintro e w' ⟨rfl, rfl⟩)
    go_ret
    exact ⟨ret_bool (by simp [g1]), rfl⟩
set_option maxHeartbeats 1000000 in
theorem allParcels (A : Option Addr) (xs : List Parcel) (c : Nat) (w : World) (hx : Rd w A xs) :
    Calls Try.prog 56 #[.slice A xs.length c, .func (.func 57) #[] #[]] w fun e w' => e = .returned (.bool (xs.all parB)) ∧ Below w.heap.size w w' := by
  have hn := hx.len
  go_enter Try.func56, Try.ntmps56
  go_wp2
  go_loopw [9] (fun i wr => ∃ k : Nat, k ≤ xs.length ∧ i = .int .i64 k ∧ (xs.take k).all parB = true ∧ ∃ q, wr = w.more q) (fun i _ => xs.length - (intOf i).toNat)
  case atStart => exact ⟨0, Nat.zero_le _, rfl, rfl, more_self⟩
  case round =>
    obtain ⟨k, hk, rfl, ht, q, rfl⟩ := hrel
    have Ht := hid ht
    clear ht
    by_cases hlt : k < xs.length
    · obtain ⟨b, off, rfl, c1, c2, c3, c4⟩ := hx.parcel hlt
      have hmem := List.getElem_mem hlt
      have HT : Hid ((xs.take (k + 1)).all parB = parB xs[k]) := by
        show (xs.take (k + 1)).all parB = parB xs[k]
        rw [take_next hlt, List.all_append, Ht.out]; simp
      have HF : Hid (parB xs[k] = false → xs.all parB = false) := fun h => by
        rw [List.all_eq_false]
        exact ⟨xs[k], hmem, by simp [h]⟩
      generalize xs[k] = x at c1 c2 c3 c4 HT HF
      clear hx hmem
      by_cases h1 : parB x = true
      · go_wp2_with (go_at_call 57; refine (implParcel x _).mono ?_; rintro e w' ⟨rfl, hb⟩; rw [h1])
        go_roundw
        case rel => exact ⟨k + 1, by omega, by go_num, by rw [HT.out]; exact h1, below_ex ((more_below.alloc more_size _).trans (hb.mono (more_below.alloc more_size _).size))⟩
        case measure => simp [intOf]; omega
      · rw [Bool.not_eq_true] at h1
        go_wp2_with (go_at_call 57; refine (implParcel x _).mono ?_; rintro e w' ⟨rfl, hb⟩; rw [h1])
        go_ret
        exact ⟨ret_bool (HF.out h1).symm, (more_below.alloc more_size _).trans (hb.mono (more_below.alloc more_size _).size)⟩
    · have HE : Hid (xs.all parB = true) := by
        have := Ht.out
        rw [List.take_of_length_le (by omega)] at this
        exact this
      clear hx
      go_wp2
      go_ret
      exact ⟨ret_bool HE.out.symm, more_below⟩
set_option maxHeartbeats 1000000 in
theorem implParcels (A : Option Addr) (xs : List Parcel) (c : Nat) (w : World) (hx : Rd w A xs) :
    Calls Try.prog 35 #[.slice A xs.length c] w fun e w' => e = .returned (.bool (okP xs)) ∧ Below w.heap.size w w' := by
  have hn := hx.len
  have HX := hid hx
  go_enter Try.func35, Try.ntmps35
  go_wp2
  go_loopw [3] (fun i wr => ∃ k : Nat, (k < xs.length ∨ k = 0) ∧ i = .int .i64 (k + 1 : Nat) ∧ (∀ j, (h : j + 1 < xs.length) → j < k → xs[j].i < xs[j + 1].i) ∧ ∃ q, wr = w.more q) (fun i _ => xs.length + 1 - (intOf i).toNat)
  case atStart => exact ⟨0, .inr rfl, rfl, fun j _ h => absurd h (by omega), more_self⟩
  case round =>
    obtain ⟨k, hk, rfl, ht, q, rfl⟩ := hrel
    have Ht := hid ht
    clear ht
    by_cases hlt : k + 1 < xs.length
    · have hlt0 : k < xs.length := by omega
      obtain ⟨b, off, hA, c1, c2, c3, c4⟩ := hx.parcel hlt0
      obtain ⟨b', off', hA', d1, d2, d3, d4⟩ := hx.parcel hlt
      subst hA
      injection hA' with hA'
      injection hA' with hb ho
      subst hb ho
      have HN : Hid (¬ xs[k].i < xs[k + 1].i → risB xs = false) := fun h => risB_no hlt h
      have HT : Hid (xs[k].i < xs[k + 1].i → ∀ j, (h : j + 1 < xs.length) → j < k + 1 → xs[j].i < xs[j + 1].i) := fun h2 j h h3 => by
        rcases Nat.lt_or_eq_of_le (Nat.le_of_lt_succ h3) with h4 | rfl
        · exact Ht.out j h h4
        · exact h2
      have hsub : ((k + 1 : Nat) : Int) - 1 = (k : Int) := by omega
      generalize xs[k].i = u at c1 HN HT
      generalize xs[k + 1].i = v at d1 HN HT
      clear hx c2 c3 c4 d2 d3 d4
      by_cases h1 : u < v
      · go_wp2
        go_quiet (fail)
        go_wp2
        go_roundw
        case rel => exact ⟨k + 1, by omega, by go_num, HT.out h1, below_ex (more_below.drewN _)⟩
        case measure => simp [intOf]; omega
      · go_wp2
        go_quiet (fail)
        go_wp2
        go_ret
        exact ⟨ret_bool (by simp [okP, HN.out h1]), more_below.drewN _⟩
    · have HR : Hid (risB xs = true) := (risB_iff xs).2 fun j h => Ht.out j h (by omega)
      clear hx
      by_cases h1 : xs.length ≤ 60
      · go_wp2_with (go_at_call 56; refine (allParcels _ _ _ _ HX.out.more).mono ?_; rintro e w' ⟨rfl, hb⟩)
        go_ret
        exact ⟨ret_bool (by simp [okP, HR.out, h1]), more_below.trans (hb.mono more_size)⟩
      · go_wp2
        go_ret
        exact ⟨ret_bool (by simp [okP, h1]), more_below⟩
theorem specParcel_at {r : Bool} {b off p k : Nat} {xs : List Parcel} {w : World} (hx : Rd w (some ⟨b, off, none⟩) xs) (hk : k < xs.length) (hr : parB xs[k] = r) (hp : p = off + k * 4) :
    Calls Try.prog 51 #[.pointer (some ⟨b, p, none⟩)] w fun e w' => e = .returned (.bool r) ∧ w = w' := by
  obtain ⟨b', off', hA, c1, c2, c3, c4⟩ := hx.parcel hk
  injection hA with hA
  injection hA with hb ho
  subst hb ho hp hr
  exact specParcel _ _ _ _ c1 c2 c3 c4
set_option maxHeartbeats 1000000 in
theorem specParcels (A : Option Addr) (xs : List Parcel) (c : Nat) (w : World) (hx : Rd w A xs) :
    Calls Try.prog 31 #[.slice A xs.length c] w fun e w' => e = .returned (.bool (okP xs)) ∧ Below w.heap.size w w' := by
  have hn := hx.len
  have HX := hid hx
  go_enter Try.func31, Try.ntmps31
  go_wp2
  go_loopw [3] (fun i wr => ∃ k : Nat, k ≤ xs.length ∧ i = .int .i64 k ∧ (xs.take k).all parB = true ∧ (∀ j, (h : j + 1 < xs.length) → j + 1 < k → xs[j].i < xs[j + 1].i) ∧ ∃ q, wr = w.more q) (fun i _ => xs.length - (intOf i).toNat)
  case atStart => exact ⟨0, Nat.zero_le _, rfl, rfl, fun j _ h => absurd h (by omega), more_self⟩
  case round =>
    obtain ⟨k, hk, rfl, hq, ht, q, rfl⟩ := hrel
    have Ht := hid ht
    have Hq := hid hq
    clear ht hq
    by_cases hlt : k < xs.length
    · obtain ⟨b, off, rfl, c1, c2, c3, c4⟩ := hx.parcel hlt
      have hmem := List.getElem_mem hlt
      have HQ : Hid ((xs.take (k + 1)).all parB = parB xs[k]) := by
        show (xs.take (k + 1)).all parB = parB xs[k]
        rw [take_next hlt, List.all_append, Hq.out]; simp
      have HF : Hid (parB xs[k] = false → xs.all parB = false) := fun h => by
        rw [List.all_eq_false]
        exact ⟨xs[k], hmem, by simp [h]⟩
      have HP : Hid (∀ r : Bool, parB xs[k] = r → ∀ (p : Nat) (W : World), Rd W (some ⟨b, off, none⟩) xs → p = off + k * 4 → Calls Try.prog 51 #[.pointer (some ⟨b, p, none⟩)] W fun e w' => e = .returned (.bool r) ∧ W = w') := fun r h p W hW hp => specParcel_at hW hlt h hp
      rcases Nat.eq_zero_or_pos k with rfl | h0
      · have HT : Hid (∀ j, (h : j + 1 < xs.length) → j + 1 < 0 + 1 → xs[j].i < xs[j + 1].i) := fun j h h3 => absurd h3 (by omega)
        generalize xs[0] = x at c1 c2 c3 c4 HQ HF HP
        clear hx hmem
        rcases hp : parB x with _ | _
        · go_wp2
          refine wp_region_more (by kernel_rfl) (by kernel_rfl) ?_
          repeat (go_big_quiet_step ((go_at_call 51; exact quiet_same (HP.out _ hp _ _ HX.out.more.more (by omega)))))
          refine wpQuiet_nil ?_
          rintro _ ⟨nq, rfl⟩
          go_wp2
          go_ret
          exact ⟨ret_bool (by simp [okP, HF.out hp]), more_below.trans (more_below.mono more_size)⟩
        · go_wp2
          refine wp_region_more (by kernel_rfl) (by kernel_rfl) ?_
          repeat (go_big_quiet_step ((go_at_call 51; exact quiet_same (HP.out _ hp _ _ HX.out.more.more (by omega)))))
          refine wpQuiet_nil ?_
          rintro _ ⟨nq, rfl⟩
          go_wp2
          go_roundw
          case rel => exact ⟨1, by omega, by go_num, by rw [HQ.out]; exact hp, HT.out, below_ex (more_below.trans (more_below.mono more_size))⟩
          case measure => simp [intOf]; omega
      · obtain ⟨n, rfl⟩ : ∃ n, k = n + 1 := ⟨k - 1, by omega⟩
        have hlt0 : n < xs.length := by omega
        obtain ⟨b', off', hA', d1, d2, d3, d4⟩ := hx.parcel hlt0
        injection hA' with hA'
        injection hA' with hb ho
        subst hb ho
        have HN : Hid (¬ xs[n].i < xs[n + 1].i → risB xs = false) := fun h => risB_no hlt h
        have HT : Hid (xs[n].i < xs[n + 1].i → ∀ j, (h : j + 1 < xs.length) → j + 1 < n + 1 + 1 → xs[j].i < xs[j + 1].i) := fun h2 j h h3 => by
          rcases Nat.lt_or_eq_of_le (Nat.le_of_lt_succ (Nat.lt_of_succ_lt_succ h3)) with h4 | rfl
          · exact Ht.out j h (by omega)
          · exact h2
        have hsub : ((n + 1 : Nat) : Int) - 1 = (n : Int) := by omega
        generalize xs[n + 1] = x at c1 c2 c3 c4 HQ HF HN HT HP
        generalize xs[n].i = u at d1 HN HT
        clear hx hmem d2 d3 d4
        rcases hp : parB x with _ | _
        · by_cases h1 : u < x.i
          all_goals
            go_wp2
            refine wp_region_more (by kernel_rfl) (by kernel_rfl) ?_
            repeat (go_big_quiet_step ((go_at_call 51; exact quiet_same (HP.out _ hp _ _ HX.out.more.more (by omega)))))
            refine wpQuiet_nil ?_
            rintro _ ⟨nq, rfl⟩
            go_wp2
            go_ret
            exact ⟨ret_bool (by simp [okP, HF.out hp]), more_below.trans (more_below.mono more_size)⟩
        · by_cases h1 : u < x.i
          · go_wp2
            refine wp_region_more (by kernel_rfl) (by kernel_rfl) ?_
            repeat (go_big_quiet_step ((go_at_call 51; exact quiet_same (HP.out _ hp _ _ HX.out.more.more (by omega)))))
            refine wpQuiet_nil ?_
            rintro _ ⟨nq, rfl⟩
            go_wp2
            go_roundw
            case rel => exact ⟨n + 2, by omega, by go_num, by rw [HQ.out]; exact hp, HT.out h1, below_ex (more_below.trans (more_below.mono more_size))⟩
            case measure => simp [intOf]; omega
          · go_wp2
            refine wp_region_more (by kernel_rfl) (by kernel_rfl) ?_
            repeat (go_big_quiet_step ((go_at_call 51; exact quiet_same (HP.out _ hp _ _ HX.out.more.more (by omega)))))
            refine wpQuiet_nil ?_
            rintro _ ⟨nq, rfl⟩
            go_wp2
            go_ret
            exact ⟨ret_bool (by simp [okP, HN.out h1]), more_below.trans (more_below.mono more_size)⟩
    · have HR : Hid (okP xs = decide (xs.length ≤ 60)) := by
        have h1 := Hq.out
        rw [List.take_of_length_le (by omega)] at h1
        have h2 : risB xs = true := (risB_iff xs).2 fun j h => Ht.out j h (by omega)
        show okP xs = _
        simp [okP, h1, h2]
      clear hx
      by_cases h1 : xs.length ≤ 60
      all_goals
        go_wp2
        go_ret
        exact ⟨ret_bool (by rw [HR.out]; simp [h1]; omega), more_below⟩
end Go.Proofs.Ytampbbknhbhcbaa
