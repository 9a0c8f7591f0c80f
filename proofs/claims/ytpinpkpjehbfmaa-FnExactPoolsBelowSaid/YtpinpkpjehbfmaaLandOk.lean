/- Is a land valid? The walks. -/
import Derived.Test.YtpinpkpjehbfmaaLand
import Derived.Deep.CutBlock
namespace Go.Proofs.Ytpinpkpjehbfmaa
open Go.RowKit
set_option linter.unusedVariables false
set_option maxHeartbeats 400000 in
theorem specLevel (n : Int) (w : World) : Calls Try.prog 73 #[.int .i64 n] w fun e w' => e = .returned (.bool (inB n (-2000) 2000)) ∧ w = w' := by
  go_enter Try.func73, Try.ntmps73
  go_wp2_with (go_at_call 46; refine (specIn _ _ _ _).mono ?_; rintro e w' ⟨rfl, rfl⟩)
  go_ret
  exact ⟨rfl, rfl⟩
set_option maxHeartbeats 400000 in
theorem implLevel (n : Int) (w : World) : Calls Try.prog 54 #[.int .i64 n] w fun e w' => e = .returned (.bool (inB n (-2000) 2000)) ∧ w = w' := by
  go_enter Try.func54, Try.ntmps54
  go_wp2_with (go_at_call 49; refine (implIn _ _ _ _).mono ?_; rintro e w' ⟨rfl, rfl⟩)
  go_ret
  exact ⟨rfl, rfl⟩
set_option maxHeartbeats 400000 in
theorem sizeInts (A : Option Addr) (n c : Nat) (w : World) (hn : n ≤ 1048576) : Calls Try.prog 50 #[.slice A n c] w fun e w' => e = .returned (.int .i64 n) ∧ w = w' := by
  go_enter Try.func50, Try.ntmps50
  go_wp2
  go_ret
  exact ⟨rfl, rfl⟩
theorem implIn_eq {r : Bool} (n lo hi : Int) (w : World) (h : inB n lo hi = r) : Calls Try.prog 49 #[.int .i64 n, .int .i64 lo, .int .i64 hi] w fun e w' => e = .returned (.bool r) ∧ w = w' := by
  subst h; exact implIn n lo hi w
theorem specIn_eq {r : Bool} (n lo hi : Int) (w : World) (h : inB n lo hi = r) : Calls Try.prog 46 #[.int .i64 n, .int .i64 lo, .int .i64 hi] w fun e w' => e = .returned (.bool r) ∧ w = w' := by
  subst h; exact specIn n lo hi w
theorem all_step {α : Type} {p : α → Bool} {xs : List α} {k : Nat} (hk : k < xs.length) (h : (xs.take k).all p = true) (h1 : p xs[k] = true) : (xs.take (k + 1)).all p = true := by
  rw [take_next hk, List.all_append, h]; simpa using h1
theorem all_end {α : Type} {p : α → Bool} {xs : List α} {k : Nat} (hk : ¬ k < xs.length) (h : (xs.take k).all p = true) : xs.all p = true := by
  rwa [List.take_of_length_le (by omega)] at h
theorem all_bad {α : Type} {p : α → Bool} {xs : List α} {k : Nat} (hk : k < xs.length) (h1 : p xs[k] = false) : xs.all p = false := by
  rw [List.all_eq_false]; exact ⟨xs[k], List.getElem_mem hk, by simp [h1]⟩
theorem levelsB_all (xs : List Int) : levelsB xs = xs.all fun x => inB x (-2000) 2000 := by
  unfold levelsB
  rw [Bool.eq_iff_iff, decide_eq_true_eq, List.all_eq_true]
set_option maxHeartbeats 1000000 in
theorem implAll_Level (A : Option Addr) (xs : List Int) (c : Nat) (p : Int → Bool) (w : World) (hx : Rd w A xs)
    (hcl : ∀ x ∈ xs, ∀ w', Below w.heap.size w w' → Calls Try.prog 54 #[.int .i64 x] w' fun e w'' => e = .returned (.bool (p x)) ∧ Below w'.heap.size w' w'') :
    Calls Try.prog 85 #[.slice A xs.length c, .func (.func 54) #[] #[]] w fun e w' => e = .returned (.bool (xs.all p)) ∧ Below w.heap.size w w' := by
  have hn := hx.len
  go_enter Try.func85, Try.ntmps85
  go_wp2
  go_loopw [9] (fun i wr => ∃ k : Nat, k ≤ xs.length ∧ i = .int .i64 k ∧ (xs.take k).all p = true ∧ ∃ q, wr = w.more q) (fun i _ => xs.length - (intOf i).toNat)
  case atStart => exact ⟨0, Nat.zero_le _, rfl, rfl, more_self⟩
  case round =>
    obtain ⟨k, hk, rfl, ht, q, rfl⟩ := hrel
    have Ht := hid ht
    clear ht
    by_cases hlt : k < xs.length
    · obtain ⟨b, off, rfl, c1⟩ := hx.int hlt
      have hc := hcl _ (List.getElem_mem hlt) (w.more q) more_below
      have hmem := List.getElem_mem hlt
      have HT : Hid ((xs.take (k + 1)).all p = p xs[k]) := by
        show (xs.take (k + 1)).all p = p xs[k]
        rw [take_next hlt, List.all_append, Ht.out]; simp
      have HF : Hid (p xs[k] = false → xs.all p = false) := fun h => by
        rw [List.all_eq_false]
        exact ⟨xs[k], hmem, by simp [h]⟩
      generalize xs[k] = x at c1 hc HT HF
      clear hx hcl hmem
      by_cases h1 : p x = true
      · go_wp2_with (go_at_call 54; refine hc.mono ?_; rintro e w' ⟨rfl, hb⟩; rw [h1])
        go_roundw
        case rel => exact ⟨k + 1, by omega, by go_num, by rw [HT.out]; exact h1, below_ex (more_below.trans (hb.mono more_size))⟩
        case measure => simp [intOf]; omega
      · rw [Bool.not_eq_true] at h1
        go_wp2_with (go_at_call 54; refine hc.mono ?_; rintro e w' ⟨rfl, hb⟩; rw [h1])
        go_ret
        exact ⟨ret_bool (HF.out h1).symm, more_below.trans (hb.mono more_size)⟩
    · have HE : Hid (xs.all p = true) := by
        have := Ht.out
        rw [List.take_of_length_le (by omega)] at this
        exact this
      clear hx hcl
      go_wp2
      go_ret
      exact ⟨ret_bool HE.out.symm, more_below⟩
set_option maxHeartbeats 1000000 in
theorem areLevels_ (A : Option Addr) (xs : List Int) (c : Nat) (w : World) (hx : Rd w A xs) : Calls Try.prog 74 #[.slice A xs.length c] w fun e w' => e = .returned (.bool (levelsB xs)) ∧ Below w.heap.size w w' := by
  rw [levelsB_all]
  go_enter Try.func74, Try.ntmps74
  go_wp2_with fail
  refine (implAll_Level _ _ _ (fun x => inB x (-2000) 2000) _ hx fun x _ w' _ => (implLevel x w').mono fun e w2 h => ⟨h.1, h.2 ▸ Below.refl _ _⟩).mono ?_
  rintro e w1 ⟨rfl, hb⟩
  go_wp2_with fail
  go_ret
  exact ⟨rfl, hb⟩
set_option maxHeartbeats 2000000 in
theorem implValidLand (v : Value) (t : Land) (w : World) (h : RdLand w v t) :
    Calls Try.prog 48 #[v] w fun e w' => e = .returned (.bool (validL t)) ∧ Below w.heap.size w w' := by
  obtain ⟨A, c, rfl, hA⟩ := h
  have hn := hA.len
  have HB := hid fun o => (Below.refl w.heap.size w).alloc (Nat.le_refl _) o
  have HA := hid fun o => hA.alloc o
  have HD : Hid (validL t = (inB t.rows 1 12 && inB t.columns 1 12 && decide ((t.heights.length : Int) = t.rows * t.columns) && levelsB t.heights)) := rfl
  generalize validL t = R at HD ⊢
  clear hA
  by_cases h1 : inB t.rows 1 12 = true
  · by_cases h2 : inB t.columns 1 12 = true
    · have b1 := inB_true.1 h1
      have b2 := inB_true.1 h2
      have hm : 0 ≤ t.rows * t.columns ∧ t.rows * t.columns ≤ 144 := ⟨Int.mul_nonneg (by omega) (by omega), Int.le_trans (Int.mul_le_mul b1.2 b2.2 (by omega) (by omega)) (by omega)⟩
      have hw : IntKind.i64.wrap (t.rows * t.columns) = t.rows * t.columns := IntWalk.i64_in _ (by omega)
      by_cases h3 : (t.heights.length : Int) = t.rows * t.columns
      · have h3' : ((t.heights.length : Int) == t.rows * t.columns) = true := by simp [h3]
        have HD2 : Hid (R = levelsB t.heights) := by show R = _; rw [HD.out, h1, h2, decide_eq_true h3]; rfl
        have HW := hid hw
        clear h3
        go_enter Try.func48, Try.ntmps48
        go_wp2_with fail
        refine wp_region_more (by kernel_rfl) (by kernel_rfl) ?_
        repeat (go_big_quiet_step ((first | (go_at_call 49; first | exact quiet_same (implIn_eq _ _ _ _ h1) | exact quiet_same (implIn_eq _ _ _ _ h2)) | (go_at_call 50; exact quiet_same (sizeInts _ _ _ _ hn)) | (go_at_call 74; exact quiet_below (areLevels_ _ _ _ _ (HA.out _).more)))))
        refine wpQuiet_nil ?_
        rintro _ ⟨nq, rfl⟩
        go_wp2_with fail
        go_ret
        exact ⟨ret_bool HD2.out.symm, (HB.out _).trans (more_below.mono (HB.out _).size)⟩
      · have h3' : ((t.heights.length : Int) == t.rows * t.columns) = false := by simp [h3]
        have HD2 : Hid (R = false) := by show R = _; rw [HD.out, h1, h2, decide_eq_false h3]; rfl
        clear h3
        go_enter Try.func48, Try.ntmps48
        go_wp2_with fail
        refine wp_region_more (by kernel_rfl) (by kernel_rfl) ?_
        repeat (go_big_quiet_step ((first | (go_at_call 49; first | exact quiet_same (implIn_eq _ _ _ _ h1) | exact quiet_same (implIn_eq _ _ _ _ h2)) | (go_at_call 50; exact quiet_same (sizeInts _ _ _ _ hn)) | (go_at_call 74; exact quiet_below (areLevels_ _ _ _ _ (HA.out _).more)))))
        refine wpQuiet_nil ?_
        rintro _ ⟨nq, rfl⟩
        go_wp2_with fail
        go_ret
        exact ⟨ret_bool HD2.out.symm, (HB.out _).trans (more_below.mono (HB.out _).size)⟩
    · rw [Bool.not_eq_true] at h2
      have HD2 : Hid (R = false) := by show R = _; rw [HD.out, h1, h2]; rfl
      go_enter Try.func48, Try.ntmps48
      go_wp2_with fail
      refine wp_region_more (by kernel_rfl) (by kernel_rfl) ?_
      repeat (go_big_quiet_step ((first | (go_at_call 49; first | exact quiet_same (implIn_eq _ _ _ _ h1) | exact quiet_same (implIn_eq _ _ _ _ h2)) | (go_at_call 50; exact quiet_same (sizeInts _ _ _ _ hn)) | (go_at_call 74; exact quiet_below (areLevels_ _ _ _ _ (HA.out _).more)))))
      refine wpQuiet_nil ?_
      rintro _ ⟨nq, rfl⟩
      go_wp2_with fail
      go_ret
      exact ⟨ret_bool HD2.out.symm, (HB.out _).trans (more_below.mono (HB.out _).size)⟩
  · rw [Bool.not_eq_true] at h1
    have HD2 : Hid (R = false) := by show R = _; rw [HD.out, h1]; rfl
    go_enter Try.func48, Try.ntmps48
    go_wp2_with fail
    refine wp_region_more (by kernel_rfl) (by kernel_rfl) ?_
    repeat (go_big_quiet_step ((first | (go_at_call 49; first | exact quiet_same (implIn_eq _ _ _ _ h1) | exact quiet_same (implIn_eq _ _ _ _ h2)) | (go_at_call 50; exact quiet_same (sizeInts _ _ _ _ hn)) | (go_at_call 74; exact quiet_below (areLevels_ _ _ _ _ (HA.out _).more)))))
    refine wpQuiet_nil ?_
    rintro _ ⟨nq, rfl⟩
    go_wp2_with fail
    go_ret
    exact ⟨ret_bool HD2.out.symm, (HB.out _).trans (more_below.mono (HB.out _).size)⟩
set_option maxHeartbeats 2000000 in
theorem specLandOk (g o : Nat) (t : Land) (w : World) (h : PtLand w g o t) :
    Calls Try.prog 45 #[.pointer (some ⟨g, o, none⟩)] w fun e w' => e = .returned (.bool (validL t)) ∧ Below w.heap.size w w' := by
  obtain ⟨A, c, ⟨e1, e2, e3⟩, hA⟩ := h
  have hn := hA.len
  have HD : Hid (validL t = (inB t.rows 1 12 && inB t.columns 1 12 && decide ((t.heights.length : Int) = t.rows * t.columns) && levelsB t.heights)) := rfl
  generalize validL t = R at HD ⊢
  by_cases h1 : inB t.rows 1 12 = true
  · by_cases h2 : inB t.columns 1 12 = true
    · have b1 := inB_true.1 h1
      have b2 := inB_true.1 h2
      have hm : 0 ≤ t.rows * t.columns ∧ t.rows * t.columns ≤ 144 := ⟨Int.mul_nonneg (by omega) (by omega), Int.le_trans (Int.mul_le_mul b1.2 b2.2 (by omega) (by omega)) (by omega)⟩
      have hw : IntKind.i64.wrap (t.rows * t.columns) = t.rows * t.columns := IntWalk.i64_in _ (by omega)
      by_cases h3 : (t.heights.length : Int) = t.rows * t.columns
      · have h3' : ((t.heights.length : Int) != t.rows * t.columns) = false := by simp [h3]
        have HD2 : Hid (R = t.heights.all fun x => inB x (-2000) 2000) := by show R = _; rw [HD.out, h1, h2, decide_eq_true h3, levelsB_all]; rfl
        clear h3
        go_enter Try.func45, Try.ntmps45
        go_wp2_with fail
        refine wp_region_more (by kernel_rfl) (by kernel_rfl) ?_
        repeat (go_big_quiet_step ((go_at_call 46; first | exact quiet_same (specIn_eq _ _ _ _ h1) | exact quiet_same (specIn_eq _ _ _ _ h2))))
        refine wpQuiet_nil ?_
        rintro _ ⟨nq, rfl⟩
        go_wp2_with fail
        go_loop [3] (fun i => ∃ k : Nat, k ≤ t.heights.length ∧ i = .int .i64 k ∧ ((t.heights.take k).all fun x => inB x (-2000) 2000) = true) (fun i => t.heights.length - (intOf i).toNat)
        case atStart => exact ⟨0, Nat.zero_le _, rfl, rfl⟩
        case round =>
          obtain ⟨k, hk, rfl, hall⟩ := hrel
          have HAl := hid hall
          clear hall
          by_cases hlt : k < t.heights.length
          · obtain ⟨b, off, rfl, c1⟩ := hA.int hlt
            have HST := hid fun h => all_step (p := fun x => inB x (-2000) 2000) hlt HAl.out h
            have HBD := hid fun h => all_bad (p := fun x => inB x (-2000) 2000) hlt h
            generalize t.heights[k] = x at c1 HST HBD
            clear hA
            by_cases h4 : inB x (-2000) 2000 = true
            · go_wp2_with fail
              refine (specLevel _ _).mono ?_
              rintro e w' ⟨rfl, rfl⟩
              rw [h4]
              go_wp2_with fail
              go_round
              case rel => exact ⟨k + 1, by omega, by go_num, HST.out h4⟩
              case measure => simp [intOf]; omega
            · rw [Bool.not_eq_true] at h4
              go_wp2_with fail
              refine (specLevel _ _).mono ?_
              rintro e w' ⟨rfl, rfl⟩
              rw [h4]
              go_wp2_with fail
              go_ret
              exact ⟨ret_bool (by rw [HD2.out, HBD.out h4]), more_below⟩
          · have HE := hid (all_end (p := fun x => inB x (-2000) 2000) hlt HAl.out)
            clear hA
            go_wp2_with fail
            go_ret
            exact ⟨ret_bool (by rw [HD2.out, HE.out]), more_below⟩
      · have h3' : ((t.heights.length : Int) != t.rows * t.columns) = true := by simp [h3]
        have HD2 : Hid (R = false) := by show R = _; rw [HD.out, h1, h2, decide_eq_false h3]; rfl
        clear h3 hA
        go_enter Try.func45, Try.ntmps45
        go_wp2_with fail
        refine wp_region_more (by kernel_rfl) (by kernel_rfl) ?_
        repeat (go_big_quiet_step ((go_at_call 46; first | exact quiet_same (specIn_eq _ _ _ _ h1) | exact quiet_same (specIn_eq _ _ _ _ h2))))
        refine wpQuiet_nil ?_
        rintro _ ⟨nq, rfl⟩
        go_wp2_with fail
        go_ret
        exact ⟨ret_bool HD2.out.symm, more_below⟩
    · rw [Bool.not_eq_true] at h2
      have HD2 : Hid (R = false) := by show R = _; rw [HD.out, h1, h2]; rfl
      clear hA
      go_enter Try.func45, Try.ntmps45
      go_wp2_with fail
      refine wp_region_more (by kernel_rfl) (by kernel_rfl) ?_
      repeat (go_big_quiet_step ((go_at_call 46; first | exact quiet_same (specIn_eq _ _ _ _ h1) | exact quiet_same (specIn_eq _ _ _ _ h2))))
      refine wpQuiet_nil ?_
      rintro _ ⟨nq, rfl⟩
      go_wp2_with fail
      go_ret
      exact ⟨ret_bool HD2.out.symm, more_below⟩
  · rw [Bool.not_eq_true] at h1
    have HD2 : Hid (R = false) := by show R = _; rw [HD.out, h1]; rfl
    clear hA
    go_enter Try.func45, Try.ntmps45
    go_wp2_with fail
    refine wp_region_more (by kernel_rfl) (by kernel_rfl) ?_
    repeat (go_big_quiet_step ((go_at_call 46; first | exact quiet_same (specIn_eq _ _ _ _ h1) | exact quiet_same (specIn_eq _ _ _ _ h2))))
    refine wpQuiet_nil ?_
    rintro _ ⟨nq, rfl⟩
    go_wp2_with fail
    go_ret
    exact ⟨ret_bool HD2.out.symm, more_below⟩
end Go.Proofs.Ytpinpkpjehbfmaa
