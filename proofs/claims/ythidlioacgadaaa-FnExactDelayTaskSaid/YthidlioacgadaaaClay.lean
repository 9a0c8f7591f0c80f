/- The clay on a day: the walks. -/
import Derived.Test.YthidlioacgadaaaWorksClay
import Derived.Deep.CutBlock
namespace Go.Proofs.Ythidlioacgadaaa
open Go.RowKit
set_option linter.unusedVariables false
theorem daysAt_k {xs : List Task} {k : Nat} (h : k < xs.length) : daysAt xs (k : Int) = xs[k].days := by simp [daysAt, h]
set_option maxHeartbeats 2000000 in
theorem specClay (A V : Option Addr) (t : List Task) (st : List Int) (day : Int) (cc qq : Nat) (w : World) (hx : RdT w A t) (hr : Rd w V st) (hv : validT t = true) (hsl : st.length = t.length)
    (hbd : ∀ i : Nat, 0 ≤ st.getD i 0 ∧ st.getD i 0 ≤ 2000 * (t.length : Int)) :
    Calls Try.prog 72 #[.slice A t.length cc, .slice V t.length qq, .int .i64 day] w fun e w' => e = .returned (.int .i64 (claySum t st day t.length)) ∧ Below w.heap.size w w' := by
  have h12 := valid_len hv
  have HSL := hid hsl
  clear hsl
  go_enter Try.func72, Try.ntmps72
  go_wp2_with fail
  go_loopw [7, 8] (fun s i wr => ∃ k : Nat, k ≤ t.length ∧ i = .int .i64 k ∧ s = .int .i64 (claySum t st day k) ∧ ∃ q, wr = w.more q) (fun _ i _ => t.length - (intOf i).toNat)
  case atStart => exact ⟨0, Nat.zero_le _, rfl, rfl, more_self⟩
  case round =>
    obtain ⟨k, hk, rfl, rfl, q, rfl⟩ := hrel
    have hcb := claySum_bound hv st day hk
    by_cases hlt : k < t.length
    · obtain ⟨b, off, P, p, rfl, c1, c2, c3, c4, hP⟩ := hx.at_ hlt
      have hks : k < st.length := by rw [HSL.out]; exact hlt
      obtain ⟨g, goff, rfl, e1⟩ := hr.int (k := k) hks
      have hs := claySum_next t st day k
      unfold clayStep at hs
      have hst : st.getD k 0 = st[k] := by simp [hks]
      have hbk := hbd k
      rw [daysAt_k hlt, clayAt_eq hlt, hst] at hs
      rw [hst] at hbk
      have hva := valid_at hv hlt
      generalize claySum t st day k = s at hs hcb ⊢
      by_cases hc : inB day (st[k]) (st[k] + t[k].days - 1) = true
      · simp only [hc, if_true] at hs
        have HS := hid hs
        clear hs hx hr hP
        go_wp2_with fail
        refine wp_region_more (by kernel_rfl) (by kernel_rfl) ?_
        repeat (go_big_quiet_step ((go_at_call 67; exact quiet_same (specIn _ _ _ _))))
        refine wpQuiet_nil ?_
        rintro _ ⟨nq, rfl⟩
        rw [hc]
        go_wp2_with fail
        go_roundw
        case rel => exact ⟨k + 1, by omega, by go_num, by rw [HS.out], more_trans⟩
        case measure => simp [intOf]; omega
      · rw [Bool.not_eq_true] at hc
        simp only [hc, Bool.false_eq_true, if_false] at hs
        have HS := hid hs
        clear hs hx hr hP
        go_wp2_with fail
        refine wp_region_more (by kernel_rfl) (by kernel_rfl) ?_
        repeat (go_big_quiet_step ((go_at_call 67; exact quiet_same (specIn _ _ _ _))))
        refine wpQuiet_nil ?_
        rintro _ ⟨nq, rfl⟩
        rw [hc]
        go_wp2_with fail
        go_roundw
        case rel => exact ⟨k + 1, by omega, by go_num, by rw [HS.out], more_trans⟩
        case measure => simp [intOf]; omega
    · have hkl : Hid (k = t.length) := by show k = t.length; omega
      clear hx hr
      generalize hz : claySum t st day k = z
      have HZ := hid hz
      clear hz
      go_wp2_with fail
      go_ret
      exact ⟨ret_int (by rw [← HZ.out, hkl.out]), more_below⟩
set_option maxHeartbeats 1000000 in
theorem specClayOn (v : Value) (t : List Task) (day : Int) (w : World) (h : RdTaskS w v t) :
    Calls Try.prog 40 #[v, .int .i64 day] w fun e w' => e = .returned (.tuple #[.int .i64 (clayF t day).1, .int .i64 (clayF t day).2]) ∧ Below w.heap.size w w' := by
  obtain ⟨A, c, rfl, hx⟩ := h
  by_cases h1 : codeD t day = 0
  · obtain ⟨hv, hd0, hd1⟩ := codeD_ok h1
    have HF : Hid (clayF t day = (claySum t (early t t.length).1 day t.length, 0)) := by unfold clayF; rw [if_pos h1]; exact rfl
    have h12 := valid_len hv
    go_enter Try.func40, Try.ntmps40
    go_wp2_with fail
    refine (specCode _ _ _ _ _ hx).mono ?_
    rintro e w1 ⟨rfl, hb⟩
    rw [h1]
    go_wp2_with fail
    refine (specStarts _ _ _ _ (hx.below hb) (eok_valid hv)).mono ?_
    rintro e w2 ⟨u, rfl, ho, hb2⟩
    have HQ := hid (hb.trans (hb2.mono hb.size))
    have hx2 := hx.below HQ.out
    have hbd := (early_bound (eok_valid hv) (Nat.le_refl t.length)).1
    have hsl := early_len (xs := t) (Nat.le_refl t.length)
    generalize (early t t.length).1 = st at HF ho hbd hsl
    generalize (early t t.length).2 = tot
    obtain ⟨V, q, hvq⟩ := ho.form
    rw [hsl] at hvq
    subst hvq
    have hr := ho.rd (by omega)
    have HSL := hid hsl
    clear hx ho hb hb2 hsl
    go_wp2_with fail
    refine (specClay _ _ _ _ _ _ _ _ hx2 hr hv HSL.out hbd).mono ?_
    rintro e w3 ⟨rfl, hb3⟩
    have HQ3 := hid (HQ.out.trans (hb3.mono HQ.out.size))
    generalize claySum t st day t.length = z at HF ⊢
    clear hx2 hr hb3 hbd
    go_wp2_with fail
    go_ret2
    exact ⟨ret_two HF.out, HQ3.out⟩
  · have HF : Hid (clayF t day = (0, codeD t day)) := by unfold clayF; rw [if_neg h1]; exact rfl
    have h1' : (codeD t day != 0) = true := by simp [h1]
    go_enter Try.func40, Try.ntmps40
    go_wp2_with fail
    refine (specCode _ _ _ _ _ hx).mono ?_
    rintro e w1 ⟨rfl, hb⟩
    generalize codeD t day = z at HF h1 h1' ⊢
    go_wp2_with fail
    go_ret2
    exact ⟨ret_two HF.out, hb⟩
set_option maxHeartbeats 2000000 in
theorem implClay (A V : Option Addr) (t : List Task) (st : List Int) (day : Int) (cc qq : Nat) (w : World) (hx : RdT w A t) (hr : Rd w V st) (hv : validT t = true) (hsl : st.length = t.length)
    (hbd : ∀ i : Nat, 0 ≤ st.getD i 0 ∧ st.getD i 0 ≤ 2000 * (t.length : Int)) :
    Calls Try.prog 73 #[.slice A t.length cc, .slice V t.length qq, .int .i64 day] w fun e w' => e = .returned (.int .i64 (claySum t st day t.length)) ∧ Below w.heap.size w w' := by
  have h12 := valid_len hv
  have HSL := hid hsl
  clear hsl
  go_enter Try.func73, Try.ntmps73
  go_wp2_with fail
  go_loopw [7, 12] (fun s i wr => ∃ k : Nat, k ≤ t.length ∧ i = .int .i64 k ∧ s = .int .i64 (claySum t st day k) ∧ ∃ q, wr = w.more q) (fun _ i _ => t.length - (intOf i).toNat)
  case atStart => exact ⟨0, Nat.zero_le _, rfl, rfl, more_self⟩
  case round =>
    obtain ⟨k, hk, rfl, rfl, q, rfl⟩ := hrel
    have hcb := claySum_bound hv st day hk
    by_cases hlt : k < t.length
    · obtain ⟨b, off, P, p, rfl, c1, c2, c3, c4, hP⟩ := hx.at_ hlt
      have hks : k < st.length := by rw [HSL.out]; exact hlt
      obtain ⟨g, goff, rfl, e1⟩ := hr.int (k := k) hks
      have hs := claySum_next t st day k
      unfold clayStep at hs
      have hst : st.getD k 0 = st[k] := by simp [hks]
      have hbk := hbd k
      rw [daysAt_k hlt, clayAt_eq hlt, hst] at hs
      rw [hst] at hbk
      have hva := valid_at hv hlt
      generalize claySum t st day k = s at hs hcb ⊢
      by_cases hc : inB day (st[k]) (st[k] + t[k].days - 1) = true
      · simp only [hc, if_true] at hs
        have HS := hid hs
        clear hs hx hr hP
        obtain ⟨w1, hw1⟩ : ∃ x, (w.more q).alloc (.cells #[.int .i64 t[k].days, .int .i64 t[k].cost, .int .i64 t[k].clay, .slice P t[k].after.length p] 56) = x := ⟨_, rfl⟩
        have hb1 : Below w.heap.size w w1 := by rw [← hw1]; exact more_below.alloc more_size _
        have k0 : w1.cell? ⟨(w.more q).heap.size, 0, none⟩ = some (.int .i64 t[k].days) := by rw [← hw1]; simp [go_sem]
        have k2 : w1.cell? ⟨(w.more q).heap.size, 2, none⟩ = some (.int .i64 t[k].clay) := by rw [← hw1]; simp [go_sem]
        have e2 := box_cell hb1 e1
        have HW := hid hw1
        have HB1 := hid hb1
        clear hw1 hb1
        go_upto_region 5 with fail
        rw [HW.out]
        clear HW c1 c2 c3 c4 e1
        go_wp2_with fail
        refine wp_region_more (by kernel_rfl) (by kernel_rfl) ?_
        repeat (go_big_quiet_step ((go_at_call 68; exact quiet_same (implIn _ _ _ _))))
        refine wpQuiet_nil ?_
        rintro _ ⟨nq, rfl⟩
        rw [hc]
        go_wp2_with fail
        go_roundw
        case rel => exact ⟨k + 1, by omega, by go_num, by rw [HS.out], below_ex (HB1.out.trans (more_below.mono HB1.out.size))⟩
        case measure => simp [intOf]; omega
      · rw [Bool.not_eq_true] at hc
        simp only [hc, Bool.false_eq_true, if_false] at hs
        have HS := hid hs
        clear hs hx hr hP
        obtain ⟨w1, hw1⟩ : ∃ x, (w.more q).alloc (.cells #[.int .i64 t[k].days, .int .i64 t[k].cost, .int .i64 t[k].clay, .slice P t[k].after.length p] 56) = x := ⟨_, rfl⟩
        have hb1 : Below w.heap.size w w1 := by rw [← hw1]; exact more_below.alloc more_size _
        have k0 : w1.cell? ⟨(w.more q).heap.size, 0, none⟩ = some (.int .i64 t[k].days) := by rw [← hw1]; simp [go_sem]
        have k2 : w1.cell? ⟨(w.more q).heap.size, 2, none⟩ = some (.int .i64 t[k].clay) := by rw [← hw1]; simp [go_sem]
        have e2 := box_cell hb1 e1
        have HW := hid hw1
        have HB1 := hid hb1
        clear hw1 hb1
        go_upto_region 5 with fail
        rw [HW.out]
        clear HW c1 c2 c3 c4 e1
        go_wp2_with fail
        refine wp_region_more (by kernel_rfl) (by kernel_rfl) ?_
        repeat (go_big_quiet_step ((go_at_call 68; exact quiet_same (implIn _ _ _ _))))
        refine wpQuiet_nil ?_
        rintro _ ⟨nq, rfl⟩
        rw [hc]
        go_wp2_with fail
        go_roundw
        case rel => exact ⟨k + 1, by omega, by go_num, by rw [HS.out], below_ex (HB1.out.trans (more_below.mono HB1.out.size))⟩
        case measure => simp [intOf]; omega
    · have hkl : Hid (k = t.length) := by show k = t.length; omega
      clear hx hr
      generalize hz : claySum t st day k = z
      have HZ := hid hz
      clear hz
      go_wp2_with fail
      go_ret
      exact ⟨ret_int (by rw [← HZ.out, hkl.out]), more_below⟩
set_option maxHeartbeats 1000000 in
theorem implClayOn (v : Value) (t : List Task) (day : Int) (w : World) (h : RdTaskS w v t) :
    Calls Try.prog 41 #[v, .int .i64 day] w fun e w' => e = .returned (.tuple #[.int .i64 (clayF t day).1, .int .i64 (clayF t day).2]) ∧ Below w.heap.size w w' := by
  obtain ⟨A, c, rfl, hx⟩ := h
  by_cases h1 : codeD t day = 0
  · obtain ⟨hv, hd0, hd1⟩ := codeD_ok h1
    have HF : Hid (clayF t day = (claySum t (early t t.length).1 day t.length, 0)) := by unfold clayF; rw [if_pos h1]; exact rfl
    have h12 := valid_len hv
    go_enter Try.func41, Try.ntmps41
    go_wp2_with fail
    refine (implCode _ _ _ _ _ hx).mono ?_
    rintro e w1 ⟨rfl, hb⟩
    rw [h1]
    go_wp2_with fail
    refine (implStarts _ _ _ _ (hx.below hb) (eok_valid hv)).mono ?_
    rintro e w2 ⟨u, rfl, ho, hb2⟩
    have HQ := hid (hb.trans (hb2.mono hb.size))
    have hx2 := hx.below HQ.out
    have hbd := (early_bound (eok_valid hv) (Nat.le_refl t.length)).1
    have hsl := early_len (xs := t) (Nat.le_refl t.length)
    generalize (early t t.length).1 = st at HF ho hbd hsl
    generalize (early t t.length).2 = tot
    obtain ⟨V, q, hvq⟩ := ho.form
    rw [hsl] at hvq
    subst hvq
    have hr := ho.rd (by omega)
    have HSL := hid hsl
    clear hx ho hb hb2 hsl
    go_wp2_with fail
    refine (implClay _ _ _ _ _ _ _ _ hx2 hr hv HSL.out hbd).mono ?_
    rintro e w3 ⟨rfl, hb3⟩
    have HQ3 := hid (HQ.out.trans (hb3.mono HQ.out.size))
    generalize claySum t st day t.length = z at HF ⊢
    clear hx2 hr hb3 hbd
    go_wp2_with fail
    go_ret2
    exact ⟨ret_two HF.out, HQ3.out⟩
  · have HF : Hid (clayF t day = (0, codeD t day)) := by unfold clayF; rw [if_neg h1]; exact rfl
    have h1' : (codeD t day != 0) = true := by simp [h1]
    go_enter Try.func41, Try.ntmps41
    go_wp2_with fail
    refine (implCode _ _ _ _ _ hx).mono ?_
    rintro e w1 ⟨rfl, hb⟩
    generalize codeD t day = z at HF h1 h1' ⊢
    go_wp2_with fail
    go_ret2
    exact ⟨ret_two HF.out, hb⟩
end Go.Proofs.Ythidlioacgadaaa
