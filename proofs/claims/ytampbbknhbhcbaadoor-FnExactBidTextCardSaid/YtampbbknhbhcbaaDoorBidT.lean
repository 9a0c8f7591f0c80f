/- BidText. -/
import Derived.Test.YtampbbknhbhcbaaDoorStr
import Derived.Test.YtampbbknhbhcbaaDoorKind
import Derived.Test.YtampbbknhbhcbaaDoorLaw
namespace Go.Proofs.YtampbbknhbhcbaaDoor
open Go.RowKit
set_option linter.unusedVariables false
set_option maxHeartbeats 400000 in
theorem toBid (a0 b0 c0 : Int) (w : World) :
    Calls Tryd.prog 21 #[.agg #[.int .i64 a0, .int .i64 b0, .int .i64 c0]] w fun e w' => e = .returned (.agg #[.int .i64 a0, .int .i64 b0, .int .i64 c0]) ∧ Below w.heap.size w w' := by
  go_enter Tryd.func21, Tryd.ntmps21
  go_wp2
  exact bodyPost_ret (v := .agg #[.int .i64 a0, .int .i64 b0, .int .i64 c0]) (by simp [results, Tryd.results21, go_sem]) rfl ⟨rfl, (((Below.refl _ _).alloc (Nat.le_refl _) _).alloc (by simp) _).alloc (by simp; omega) _⟩
def bidOkB (a b c : Int) : Bool := inB a 0 5 && inB b 0 7 && inB c 1 1000000
def bidTxt (a b c : Int) : List UInt8 := if bidOkB a b c = true then ((([98, 105, 100, 100, 101, 114, 32] ++ Lib.itoa a) ++ [32, 108, 111, 116, 32]) ++ Lib.itoa b) ++ [32] ++ Lib.itoa c else []
set_option maxHeartbeats 1000000 in
theorem implBidOk (a b c : Int) (w : World) :
    Calls Tryd.prog 42 #[.agg #[.int .i64 a, .int .i64 b, .int .i64 c], .int .i64 8, .int .i64 6] w fun e w' => e = .returned (.bool (bidOkB a b c)) ∧ Below w.heap.size w w' := by
  have HB := hid fun o => (Below.refl w.heap.size w).alloc (Nat.le_refl _) o
  unfold bidOkB
  by_cases g1 : inB a 0 5 = true
  · by_cases g2 : inB b 0 7 = true
    all_goals
      go_enter Tryd.func42, Tryd.ntmps42
      go_wp2_with (go_at_call 54; refine (implIn _ _ _ _).mono ?_; rintro e w' ⟨rfl, rfl⟩)
      go_ret
      exact ⟨ret_bool (by simp [g1, g2]), HB.out _⟩
  · go_enter Tryd.func42, Tryd.ntmps42
    go_wp2_with (go_at_call 54; refine (implIn _ _ _ _).mono ?_; rintro e w' ⟨rfl, rfl⟩)
    go_ret
    exact ⟨ret_bool (by simp [g1]), HB.out _⟩
set_option maxHeartbeats 1000000 in
theorem specBid (g off : Nat) (a b c : Int) (w : World) (c1 : w.cell? ⟨g, off, none⟩ = some (.int .i64 a)) (c2 : w.cell? ⟨g, off + 1, none⟩ = some (.int .i64 b)) (c3 : w.cell? ⟨g, off + 2, none⟩ = some (.int .i64 c)) :
    Calls Tryd.prog 40 #[.pointer (some ⟨g, off, none⟩), .int .i64 8, .int .i64 6] w fun e w' => e = .returned (.bool (bidOkB a b c)) ∧ w = w' := by
  unfold bidOkB
  by_cases g1 : inB a 0 5 = true
  · by_cases g2 : inB b 0 7 = true
    all_goals
      go_enter Tryd.func40, Tryd.ntmps40
      go_wp2_with (go_at_call 51; refine (specIn _ _ _ _).mono ?_; rintro e w' ⟨rfl, rfl⟩)
      go_ret
      exact ⟨ret_bool (by simp [g1, g2]), rfl⟩
  · go_enter Tryd.func40, Tryd.ntmps40
    go_wp2_with (go_at_call 51; refine (specIn _ _ _ _).mono ?_; rintro e w' ⟨rfl, rfl⟩)
    go_ret
    exact ⟨ret_bool (by simp [g1]), rfl⟩
theorem bid_bounds {a b c : Int} (h : bidOkB a b c = true) : (0 ≤ a ∧ a ≤ 5) ∧ (0 ≤ b ∧ b ≤ 7) ∧ (1 ≤ c ∧ c ≤ 1000000) := by
  unfold bidOkB at h
  simp only [Bool.and_eq_true, inB_true] at h
  exact ⟨h.1.1, h.1.2, h.2⟩
set_option maxRecDepth 100000 in
set_option maxHeartbeats 2000000 in
theorem specBidText (a b c : Int) (w : World) :
    Calls Tryd.prog 20 #[.agg #[.int .i64 a, .int .i64 b, .int .i64 c]] w fun e w' => e = .returned (.string ⟨(bidTxt a b c).toArray⟩) ∧ Below w.heap.size w w' := by
  obtain ⟨T, hT⟩ : ∃ T, bidTxt a b c = T := ⟨_, rfl⟩
  rw [hT]
  by_cases hv : bidOkB a b c = true
  · obtain ⟨ba, bb, bc⟩ := bid_bounds hv
    unfold bidTxt at hT
    rw [if_pos hv] at hT
    have la := itoa_len (n := a) (by omega) (by omega)
    have lb := itoa_len (n := b) (by omega) (by omega)
    have lc := itoa_len (n := c) (by omega) (by omega)
    obtain ⟨A, hA⟩ : ∃ A, Lib.itoa a = A := ⟨_, rfl⟩
    obtain ⟨B, hB⟩ : ∃ B, Lib.itoa b = B := ⟨_, rfl⟩
    obtain ⟨C, hC⟩ : ∃ C, Lib.itoa c = C := ⟨_, rfl⟩
    rw [hA, hB, hC] at hT
    rw [hA] at la
    rw [hB] at lb
    rw [hC] at lc
    have HA := hid hA
    have HB := hid hB
    have HC := hid hC
    clear hA hB hC
    have DA := specDecE a A (by omega) (by omega) HA
    have DB := specDecE b B (by omega) (by omega) HB
    have DC := specDecE c C (by omega) (by omega) HC
    obtain ⟨X1, h1⟩ : ∃ X, [98, 105, 100, 100, 101, 114, 32] ++ A = X := ⟨_, rfl⟩
    rw [h1] at hT
    obtain ⟨X2, h2⟩ : ∃ X, X1 ++ [32, 108, 111, 116, 32] = X := ⟨_, rfl⟩
    rw [h2] at hT
    obtain ⟨X3, h3⟩ : ∃ X, X2 ++ B = X := ⟨_, rfl⟩
    rw [h3] at hT
    obtain ⟨X4, h4⟩ : ∃ X, X3 ++ [32] = X := ⟨_, rfl⟩
    rw [h4] at hT
    have l1 : X1.length ≤ 100 := by rw [← h1, List.length_append]; simp; omega
    have l2 : X2.length ≤ 200 := by rw [← h2, List.length_append]; simp; omega
    have l3 : X3.length ≤ 300 := by rw [← h3, List.length_append]; omega
    have l4 : X4.length ≤ 400 := by rw [← h4, List.length_append]; simp; omega
    have k1 := cat h1 (by simp) (by omega)
    have k2 := cat h2 (by omega) (by simp)
    have k3 := cat h3 (by omega) (by omega)
    have k4 := cat h4 (by omega) (by simp)
    have k5 := cat hT (by omega) (by omega)
    clear hT h1 h2 h3 h4
    go_enter Tryd.func20, Tryd.ntmps20
    go_wp2_with ((go_at_call 40; refine Calls.mono (specBid _ _ a b c _ ?_ ?_ ?_) ?_; simp [go_sem]; simp [go_sem]; simp [go_sem]; rintro e w' ⟨rfl, rfl⟩; rw [hv]; refine keep_ ?_))
    refine go_ ?_
    have HW := hid ((Below.refl w.heap.size w).alloc (Nat.le_refl _) (.cells #[.int .i64 a, .int .i64 b, .int .i64 c] 42))
    go_wp2_with fail
    refine wp_region_more (by kernel_rfl) (by kernel_rfl) ?_
    repeat (go_big_quiet_step ((go_at_call 41; first | with_reducible exact quiet_below (DA _) | with_reducible exact quiet_below (DB _) | with_reducible exact quiet_below (DC _))))
    refine wpQuiet_nil ?_
    rintro _ ⟨nq, rfl⟩
    go_wp2_with fail
    go_ret
    exact ⟨rfl, below_go HW.out (le_alloc (Nat.le_refl _))⟩
  · have hv : bidOkB a b c = false := by simpa using hv
    have hE : T = [] := by rw [← hT]; unfold bidTxt; rw [hv]; rfl
    subst hE
    clear hT
    go_enter Tryd.func20, Tryd.ntmps20
    go_wp2_with ((go_at_call 40; refine Calls.mono (specBid _ _ a b c _ ?_ ?_ ?_) ?_; simp [go_sem]; simp [go_sem]; simp [go_sem]; rintro e w' ⟨rfl, rfl⟩; rw [hv]; refine keep_ ?_))
    refine go_ ?_
    have HW := hid ((Below.refl w.heap.size w).alloc (Nat.le_refl _) (.cells #[.int .i64 a, .int .i64 b, .int .i64 c] 42))
    go_wp2_with fail
    go_ret
    exact ⟨rfl, HW.out⟩
set_option maxRecDepth 100000 in
set_option maxHeartbeats 2000000 in
theorem implBidText (a b c : Int) (w : World) (ht : Tab w) :
    Calls Tryd.prog 22 #[.agg #[.int .i64 a, .int .i64 b, .int .i64 c]] w fun e w' => e = .returned (.string ⟨(bidTxt a b c).toArray⟩) ∧ Below w.heap.size w w' := by
  obtain ⟨T, hT⟩ : ∃ T, bidTxt a b c = T := ⟨_, rfl⟩
  rw [hT]
  by_cases hv : bidOkB a b c = true
  · obtain ⟨ba, bb, bc⟩ := bid_bounds hv
    unfold bidTxt at hT
    rw [if_pos hv] at hT
    have la := itoa_len (n := a) (by omega) (by omega)
    have lb := itoa_len (n := b) (by omega) (by omega)
    have lc := itoa_len (n := c) (by omega) (by omega)
    obtain ⟨A, hA⟩ : ∃ A, Lib.itoa a = A := ⟨_, rfl⟩
    obtain ⟨B, hB⟩ : ∃ B, Lib.itoa b = B := ⟨_, rfl⟩
    obtain ⟨C, hC⟩ : ∃ C, Lib.itoa c = C := ⟨_, rfl⟩
    rw [hA, hB, hC] at hT
    rw [hA] at la
    rw [hB] at lb
    rw [hC] at lc
    have HA := hid hA
    have HB := hid hB
    have HC := hid hC
    clear hA hB hC
    have DA := implDecE a A (by omega) (by omega) HA
    have DB := implDecE b B (by omega) (by omega) HB
    have DC := implDecE c C (by omega) (by omega) HC
    obtain ⟨X1, h1⟩ : ∃ X, [98, 105, 100, 100, 101, 114, 32] ++ A = X := ⟨_, rfl⟩
    rw [h1] at hT
    obtain ⟨X2, h2⟩ : ∃ X, X1 ++ [32, 108, 111, 116, 32] = X := ⟨_, rfl⟩
    rw [h2] at hT
    obtain ⟨X3, h3⟩ : ∃ X, X2 ++ B = X := ⟨_, rfl⟩
    rw [h3] at hT
    obtain ⟨X4, h4⟩ : ∃ X, X3 ++ [32] = X := ⟨_, rfl⟩
    rw [h4] at hT
    have l1 : X1.length ≤ 100 := by rw [← h1, List.length_append]; simp; omega
    have l2 : X2.length ≤ 200 := by rw [← h2, List.length_append]; simp; omega
    have l3 : X3.length ≤ 300 := by rw [← h3, List.length_append]; omega
    have l4 : X4.length ≤ 400 := by rw [← h4, List.length_append]; simp; omega
    have k1 := cat h1 (by simp) (by omega)
    have k2 := cat h2 (by omega) (by simp)
    have k3 := cat h3 (by omega) (by omega)
    have k4 := cat h4 (by omega) (by simp)
    have k5 := cat hT (by omega) (by omega)
    clear hT h1 h2 h3 h4
    go_enter Tryd.func22, Tryd.ntmps22
    go_wp2_with ((go_at_call 42; refine (implBidOk a b c _).mono ?_; rintro e w' ⟨rfl, hb⟩; rw [hv]; obtain ⟨y, rfl⟩ := below_ex hb; clear hb; refine keep_ ?_))
    refine go_ ?_
    have HW := hid (below_go (x := y) ((Below.refl w.heap.size w).alloc (Nat.le_refl _) (.cells #[.int .i64 a, .int .i64 b, .int .i64 c] 42)) (le_alloc (Nat.le_refl _)))
    have HT := hid (ht.below HW.out)
    go_wp2_with fail
    refine wp_region_more (by kernel_rfl) (by kernel_rfl) ?_
    repeat (go_big_quiet_step ((go_at_call 32; first | with_reducible exact quiet_below (DA _ HT.out.more) | with_reducible exact quiet_below (DB _ HT.out.more) | with_reducible exact quiet_below (DC _ HT.out.more))))
    refine wpQuiet_nil ?_
    rintro _ ⟨nq, rfl⟩
    go_wp2_with fail
    go_ret
    exact ⟨rfl, below_go HW.out HW.out.size⟩
  · have hv : bidOkB a b c = false := by simpa using hv
    have hE : T = [] := by rw [← hT]; unfold bidTxt; rw [hv]; rfl
    subst hE
    clear hT
    go_enter Tryd.func22, Tryd.ntmps22
    go_wp2_with ((go_at_call 42; refine (implBidOk a b c _).mono ?_; rintro e w' ⟨rfl, hb⟩; rw [hv]; obtain ⟨y, rfl⟩ := below_ex hb; clear hb; refine keep_ ?_))
    refine go_ ?_
    have HW := hid (below_go (x := y) ((Below.refl w.heap.size w).alloc (Nat.le_refl _) (.cells #[.int .i64 a, .int .i64 b, .int .i64 c] 42)) (le_alloc (Nat.le_refl _)))
    go_wp2_with fail
    go_ret
    exact ⟨rfl, HW.out⟩
end Go.Proofs.YtampbbknhbhcbaaDoor
