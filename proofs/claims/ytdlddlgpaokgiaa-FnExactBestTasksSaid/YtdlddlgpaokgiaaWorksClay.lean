/- The cost until a day, the clay on a day: the walks. -/
import Derived.Test.YtdlddlgpaokgiaaWorksEasy
namespace Go.Proofs.Ytdlddlgpaokgiaa
open Go.RowKit
set_option linter.unusedVariables false
def codeD (t : List Task) (day : Int) : Int := if validT t = true then (if inB day 0 100000 = true then 0 else 2) else 1
theorem codeD_ok {t : List Task} {day : Int} (h : codeD t day = 0) : validT t = true ∧ 0 ≤ day ∧ day ≤ 100000 := by
  unfold codeD at h
  split at h
  · rename_i h1
    split at h
    · rename_i h2; exact ⟨h1, inB_true.1 h2⟩
    · omega
  · omega
def costAt (xs : List Task) (k : Nat) : Int := (xs[k]?.map Task.cost).getD 0
def clayAt (xs : List Task) (k : Nat) : Int := (xs[k]?.map Task.clay).getD 0
theorem costAt_eq {xs : List Task} {k : Nat} (h : k < xs.length) : costAt xs k = xs[k].cost := by simp [costAt, h]
theorem clayAt_eq {xs : List Task} {k : Nat} (h : k < xs.length) : clayAt xs k = xs[k].clay := by simp [clayAt, h]
theorem valid_at {xs : List Task} (h : validT xs = true) {k : Nat} (hk : k < xs.length) : (1 ≤ xs[k].days ∧ xs[k].days ≤ 1000) ∧ (0 ≤ xs[k].cost ∧ xs[k].cost ≤ 1000000) ∧ (0 ≤ xs[k].clay ∧ xs[k].clay ≤ 10000) := by
  unfold validT at h
  rw [decide_eq_true_eq] at h
  have h1 := h.2 k hk
  unfold oneB aloneB at h1
  simp only [Bool.and_eq_true, inB_true] at h1
  exact ⟨h1.1.1.1, h1.1.1.2, h1.1.2⟩
def costStep (xs : List Task) (st : List Int) (day s : Int) (k : Nat) : Int := if st.getD k 0 + daysAt xs k ≤ day then s + costAt xs k else s
def costSum (xs : List Task) (st : List Int) (day : Int) (n : Nat) : Int := (List.range n).foldl (costStep xs st day) 0
theorem costSum_next (xs : List Task) (st : List Int) (day : Int) (n : Nat) : costSum xs st day (n + 1) = costStep xs st day (costSum xs st day n) n := by simp [costSum, List.range_succ]
theorem costSum_bound {xs : List Task} (h : validT xs = true) (st : List Int) (day : Int) {n : Nat} (hn : n ≤ xs.length) : 0 ≤ costSum xs st day n ∧ costSum xs st day n ≤ 1000000 * (n : Int) := by
  induction n with
  | zero => simp [costSum]
  | succ n ih =>
    have h1 := ih (by omega)
    have h2 := (valid_at h (show n < xs.length by omega)).2.1
    rw [costSum_next]
    unfold costStep
    rw [costAt_eq (show n < xs.length by omega)]
    split <;> omega
def clayStep (xs : List Task) (st : List Int) (day s : Int) (k : Nat) : Int := if inB day (st.getD k 0) (st.getD k 0 + daysAt xs k - 1) = true then s + clayAt xs k else s
def claySum (xs : List Task) (st : List Int) (day : Int) (n : Nat) : Int := (List.range n).foldl (clayStep xs st day) 0
theorem claySum_next (xs : List Task) (st : List Int) (day : Int) (n : Nat) : claySum xs st day (n + 1) = clayStep xs st day (claySum xs st day n) n := by simp [claySum, List.range_succ]
theorem claySum_bound {xs : List Task} (h : validT xs = true) (st : List Int) (day : Int) {n : Nat} (hn : n ≤ xs.length) : 0 ≤ claySum xs st day n ∧ claySum xs st day n ≤ 10000 * (n : Int) := by
  induction n with
  | zero => simp [claySum]
  | succ n ih =>
    have h1 := ih (by omega)
    have h2 := (valid_at h (show n < xs.length by omega)).2.2
    rw [claySum_next]
    unfold clayStep
    rw [clayAt_eq (show n < xs.length by omega)]
    split <;> omega
def costF (t : List Task) (day : Int) : Int × Int := if codeD t day = 0 then (costSum t (early t t.length).1 day t.length, 0) else (0, codeD t day)
def clayF (t : List Task) (day : Int) : Int × Int := if codeD t day = 0 then (claySum t (early t t.length).1 day t.length, 0) else (0, codeD t day)

set_option maxHeartbeats 400000 in
theorem implDay (n : Int) (w : World) : Calls Try.prog 61 #[.int .i64 n] w fun e w' => e = .returned (.bool (inB n 0 100000)) ∧ w = w' := by
  go_enter Try.func61, Try.ntmps61
  go_wp2_with (go_at_call 35; refine (implIn _ _ _ _).mono ?_; rintro e w' ⟨rfl, rfl⟩)
  go_ret
  exact ⟨rfl, rfl⟩



set_option maxHeartbeats 1000000 in
theorem implCode (A : Option Addr) (t : List Task) (c : Nat) (day : Int) (w : World) (hx : RdT w A t) :
    Calls Try.prog 48 #[.slice A t.length c, .int .i64 day] w fun e w' => e = .returned (.int .i64 (codeD t day)) ∧ Below w.heap.size w w' := by
  unfold codeD
  by_cases hv : validT t = true
  · by_cases hd : inB day 0 100000 = true
    all_goals
      first | rw [if_pos hv, if_pos hd] | (rw [if_pos hv, if_neg hd]; rw [Bool.not_eq_true] at hd)
      go_enter Try.func48, Try.ntmps48
      go_wp2_with fail
      refine (implValidTasks _ _ _ _ hx).mono ?_
      rintro e w1 ⟨rfl, hb⟩
      rw [hv]
      go_wp2_with (go_at_call 61; refine (implDay _ _).mono ?_; rintro e w' ⟨rfl, rfl⟩; rw [hd])
      go_ret
      exact ⟨rfl, hb⟩
  · rw [if_neg hv]
    rw [Bool.not_eq_true] at hv
    go_enter Try.func48, Try.ntmps48
    go_wp2_with fail
    refine (implValidTasks _ _ _ _ hx).mono ?_
    rintro e w1 ⟨rfl, hb⟩
    rw [hv]
    go_wp2_with fail
    go_ret
    exact ⟨rfl, hb⟩

set_option maxHeartbeats 2000000 in
theorem implCostUntil (v : Value) (t : List Task) (day : Int) (w : World) (h : RdTaskS w v t) :
    Calls Try.prog 25 #[v, .int .i64 day] w fun e w' => e = .returned (.tuple #[.int .i64 (costF t day).1, .int .i64 (costF t day).2]) ∧ Below w.heap.size w w' := by
  obtain ⟨A, c, rfl, hx⟩ := h
  by_cases h1 : codeD t day = 0
  · obtain ⟨hv, hd0, hd1⟩ := codeD_ok h1
    have HF : Hid (costF t day = (costSum t (early t t.length).1 day t.length, 0)) := by unfold costF; rw [if_pos h1]; exact rfl
    have h12 := valid_len hv
    go_enter Try.func25, Try.ntmps25
    go_wp2_with fail
    refine (implCode _ _ _ _ _ hx).mono ?_
    rintro e w1 ⟨rfl, hb⟩
    rw [h1]
    go_wp2_with fail
    refine (implStarts _ _ _ _ (hx.below hb) (eok_valid hv)).mono ?_
    rintro e w2 ⟨u, rfl, ho, hb2⟩
    have HQ := hid (hb.trans (hb2.mono hb.size))
    have hx2 := hx.below HQ.out
    have hbd := (early_bound (eok_valid hv) (Nat.le_refl t.length)).1
    have hsl := early_len (xs := t) (Nat.le_refl t.length)
    generalize (early t t.length).1 = st at HF ho hbd hsl
    generalize (early t t.length).2 = tot
    obtain ⟨V, q, rfl⟩ := ho.form
    have hr := ho.rd (by omega)
    clear hx ho hb hb2
    go_wp2_with fail
    go_loopw [9, 25] (fun s i wr => ∃ k : Nat, k ≤ t.length ∧ i = .int .i64 k ∧ s = .int .i64 (costSum t st day k) ∧ ∃ q, wr = w2.more q) (fun _ i _ => t.length - (intOf i).toNat)
    case atStart => exact ⟨0, Nat.zero_le _, rfl, rfl, more_self⟩
    case round =>
      obtain ⟨k, hk, rfl, rfl, q, rfl⟩ := hrel
      have hcb := costSum_bound hv st day hk
      by_cases hlt : k < t.length
      · obtain ⟨b, off, P, p, rfl, c1, c2, c3, c4, hP⟩ := hx2.at_ hlt
        obtain ⟨g, goff, rfl, e1⟩ := hr.int (k := k) (by omega)
        have hs := costSum_next t st day k
        unfold costStep at hs
        have hst : st.getD k 0 = st[k]'(by omega) := by simp [show k < st.length by omega]
        have hbk := hbd k
        rw [daysAt_eq (by simpa using hlt), costAt_eq hlt, hst] at hs
        rw [hst] at hbk
        have hva := valid_at hv hlt
        have hsl' : (k : Int) < st.length := by omega
        simp only [Int.toNat_natCast] at hs
        generalize costSum t st day k = s at hs hcb ⊢
        by_cases hc : st[k]'(by omega) + t[k].days ≤ day
        · rw [if_pos hc] at hs
          have HS := hid hs
          have hc' : decide (st[k]'(by omega) + t[k].days ≤ day) = true := decide_eq_true hc
          clear hs hx2 hr hP
          go_wp2_with fail
          go_quiet (fail)
          go_wp2_with fail
          go_roundw
          case rel => exact ⟨k + 1, by omega, by go_num, by rw [HS.out], below_ex ((more_below.alloc more_size _).drewN _)⟩
          case measure => simp [intOf]; omega
        · rw [if_neg hc] at hs
          have HS := hid hs
          have hc' : decide (st[k]'(by omega) + t[k].days ≤ day) = false := decide_eq_false hc
          clear hs hx2 hr hP
          go_wp2_with fail
          go_quiet (fail)
          go_wp2_with fail
          go_roundw
          case rel => exact ⟨k + 1, by omega, by go_num, by rw [HS.out], below_ex ((more_below.alloc more_size _).drewN _)⟩
          case measure => simp [intOf]; omega
      · have hkl : Hid (k = t.length) := by show k = t.length; omega
        clear hx2 hr
        generalize hz : costSum t st day k = z
        have HZ := hid hz
        clear hz
        go_wp2_with fail
        go_ret2
        exact ⟨ret_two (by rw [HF.out, ← HZ.out, hkl.out]), HQ.out.trans (more_below.mono HQ.out.size)⟩
  · have HF : Hid (costF t day = (0, codeD t day)) := by unfold costF; rw [if_neg h1]; exact rfl
    have h1' : (codeD t day != 0) = true := by simp [h1]
    go_enter Try.func25, Try.ntmps25
    go_wp2_with fail
    refine (implCode _ _ _ _ _ hx).mono ?_
    rintro e w1 ⟨rfl, hb⟩
    generalize codeD t day = z at HF h1 h1' ⊢
    go_wp2_with fail
    go_ret2
    exact ⟨ret_two HF.out, hb⟩

end Go.Proofs.Ytdlddlgpaokgiaa
