/- MergeDuties: the walks. -/
import Derived.Test.YtjamkomgdfgmlaaDutyOk
namespace Go.Proofs.Ytjamkomgdfgmlaa
open Go.RowKit
set_option linter.unusedVariables false
theorem merge_next {xs : List Duty} {k : Nat} (hk : k < xs.length) : mergeB (xs.take (k + 1)) = mergeStep (mergeB (xs.take k)) xs[k] := foldl_take mergeStep _ hk
theorem merge_join {out : List Duty} {d : Duty} {n : Nat} (hn : n < out.length) (hn' : n = out.length - 1) (h : out[n].o = d.o) : mergeStep out d = out.set n { out[n] with t := d.t } := by
  subst hn'
  unfold mergeStep
  rw [dif_pos (by omega), if_pos h]
theorem merge_more {out : List Duty} {d : Duty} {n : Nat} (hn : n < out.length) (hn' : n = out.length - 1) (h : ¬ out[n].o = d.o) : mergeStep out d = out ++ [d] := by
  subst hn'
  unfold mergeStep
  rw [dif_pos (by omega), if_neg h]
theorem merge_first {out : List Duty} {d : Duty} (hn : ¬ 0 < out.length) : mergeStep out d = out ++ [d] := by
  unfold mergeStep
  rw [dif_neg hn]
theorem mergeB_len (xs : List Duty) : (mergeB xs).length ≤ xs.length := by have := merge_len xs []; simpa [mergeB] using this

set_option maxHeartbeats 1000000 in
theorem specMerge (A : Option Addr) (xs : List Duty) (c : Nat) (w : World) (hx : Rd w A xs) :
    Calls Try.prog 58 #[.slice A xs.length c] w fun e w' => ∃ v, e = .returned v ∧ Own w' w.heap.size 56 v (mergeB xs) ∧ Below w.heap.size w w' := by
  have hn := hx.len
  go_enter Try.func58, Try.ntmps58
  go_wp2
  go_loopw [3, 4] (fun v i wr => ∃ k : Nat, k ≤ xs.length ∧ i = .int .i64 k ∧ Own wr w.heap.size 56 v (mergeB (xs.take k)) ∧ Below w.heap.size w wr) (fun _ i _ => xs.length - (intOf i).toNat)
  case atStart => exact ⟨0, Nat.zero_le _, rfl, Own.empty (Nat.le_refl _), (Below.refl _ _).alloc (Nat.le_refl _) _⟩
  case round =>
    obtain ⟨k, hk, rfl, ho, hb⟩ := hrel
    by_cases hlt : k < xs.length
    · obtain ⟨b, off, rfl, c1, c2, c3⟩ := (hx.below hb).duty hlt
      have HS := hid (merge_next hlt)
      have hl : (mergeB (xs.take k)).length ≤ 1048576 := by have := mergeB_len (xs.take k); have : (xs.take k).length ≤ k := List.length_take_le _ _; omega
      clear hx
      generalize mergeB (xs.take k) = out at HS hl ho
      obtain ⟨A, q, rfl⟩ := ho.form
      have hbs := hb.size
      by_cases hpos : 0 < out.length
      · obtain ⟨g, rfl, hgb, hgs⟩ := ho.addr hpos
        have hm : out.length - 1 < out.length := by omega
        obtain ⟨⟨d1, d2, d3⟩, f1, f2, f3⟩ := ho.duty hm
        by_cases hq : out[out.length - 1].o = xs[k].o
        · have hq' : (out[out.length - 1].o == xs[k].o) = true := by simp [hq]
          have HQ := hid (merge_join (d := xs[k]) hm rfl hq)
          clear hq
          go_wp2
          refine wp_region_more (by kernel_rfl) (by kernel_rfl) ?_
          repeat (go_big_quiet_step (fail))
          refine wpQuiet_nil ?_
          rintro _ ⟨nq, rfl⟩
          have hsz : w.heap.size ≤ (wr.more nq).heap.size := Nat.le_trans hbs more_size
          go_wp2
          go_roundw
          case rel =>
            have h3 := ((ho.more (x := nq)).alloc (.cells #[.int .i64 out[out.length - 1].o, .int .i64 out[out.length - 1].f, .int .i64 xs[k].t] 56)).dutySet hm { out[out.length - 1] with t := xs[k].t }
            rw [← HQ.out, ← HS.out] at h3
            exact ⟨k + 1, by omega, by go_num, h3, ((((below_go hb hbs).alloc hsz _).setCell hgb _).setCell hgb _).setCell hgb _⟩
          case measure => simp [intOf]; omega
        · have hq' : (out[out.length - 1].o == xs[k].o) = false := by simp [hq]
          have HQ := hid (merge_more (d := xs[k]) hm rfl hq)
          clear hq
          go_wp2
          refine wp_region_more (by kernel_rfl) (by kernel_rfl) ?_
          repeat (go_big_quiet_step (fail))
          refine wpQuiet_nil ?_
          rintro _ ⟨nq, rfl⟩
          have hsz : w.heap.size ≤ (wr.more nq).heap.size := Nat.le_trans hbs more_size
          go_wp2_with (at_builtin; refine wpList_push elDuty _ rfl (.tmp 48) (.tmp 53) rfl w.heap.size (.slice (some ⟨g, 0, none⟩) out.length q) out xs[k] rfl (ho.more.alloc _) _ rfl (heap_alloc_new _ _) hl (by simp; omega) ?_; intro v' w' hown' hg' hat')
          go_roundw
          case rel => exact ⟨k + 1, by omega, by go_num, by rw [HS.out, HQ.out]; exact hown', below_own ((below_go hb hbs).alloc hsz _) (ho.more.alloc _) hg' (Nat.le_refl _) (by simp; omega)⟩
          case measure => simp [intOf]; omega
      · have hpos' : out.length = 0 := by omega
        have HQ := hid (merge_first (d := xs[k]) hpos)
        have HP := hid hpos'
        clear hpos'
        go_wp2
        refine wp_region_more (by kernel_rfl) (by kernel_rfl) ?_
        repeat (go_big_quiet_step (fail))
        refine wpQuiet_nil ?_
        rintro _ ⟨nq, rfl⟩
        have hsz : w.heap.size ≤ (wr.more nq).heap.size := Nat.le_trans hbs more_size
        go_wp2_with (at_builtin; refine wpList_push elDuty _ rfl (.tmp 48) (.tmp 53) rfl w.heap.size (.slice A out.length q) out xs[k] rfl (ho.more.alloc _) _ rfl (heap_alloc_new _ _) hl (by simp; omega) ?_; intro v' w' hown' hg' hat')
        go_roundw
        case rel => exact ⟨k + 1, by omega, by go_num, by rw [HS.out, HQ.out]; exact hown', below_own ((below_go hb hbs).alloc hsz _) (ho.more.alloc _) hg' (Nat.le_refl _) (by simp; omega)⟩
        case measure => simp [intOf]; omega
    · have ht : xs.take k = xs := List.take_of_length_le (by omega)
      rw [ht] at ho
      have HO := hid ho
      clear ho hx
      go_wp2
      go_ret
      exact ⟨_, rfl, HO.out, hb⟩

set_option maxHeartbeats 1000000 in
theorem implMerge (A : Option Addr) (xs : List Duty) (c : Nat) (w : World) (hx : Rd w A xs) :
    Calls Try.prog 59 #[.slice A xs.length c] w fun e w' => ∃ v, e = .returned v ∧ Own w' w.heap.size 56 v (mergeB xs) ∧ Below w.heap.size w w' := by
  have hn := hx.len
  go_enter Try.func59, Try.ntmps59
  go_wp2
  go_loopw [3, 10] (fun v i wr => ∃ k : Nat, k ≤ xs.length ∧ i = .int .i64 k ∧ Own wr w.heap.size 56 v (mergeB (xs.take k)) ∧ Below w.heap.size w wr) (fun _ i _ => xs.length - (intOf i).toNat)
  case atStart => exact ⟨0, Nat.zero_le _, rfl, Own.empty (Nat.le_refl _), (Below.refl _ _).alloc (Nat.le_refl _) _⟩
  case round =>
    obtain ⟨k, hk, rfl, ho, hb⟩ := hrel
    by_cases hlt : k < xs.length
    · obtain ⟨b, off, rfl, c1, c2, c3⟩ := (hx.below hb).duty hlt
      have HS := hid (merge_next hlt)
      have hl : (mergeB (xs.take k)).length ≤ 1048576 := by have := mergeB_len (xs.take k); have : (xs.take k).length ≤ k := List.length_take_le _ _; omega
      clear hx
      generalize mergeB (xs.take k) = out at HS hl ho
      obtain ⟨A, q, rfl⟩ := ho.form
      have hbs := hb.size
      by_cases hpos : 0 < out.length
      · obtain ⟨g, rfl, hgb, hgs⟩ := ho.addr hpos
        have hm : out.length - 1 < out.length := by omega
        obtain ⟨⟨d1, d2, d3⟩, f1, f2, f3⟩ := ho.duty hm
        by_cases hq : out[out.length - 1].o = xs[k].o
        · have hq' : (out[out.length - 1].o == xs[k].o) = true := by simp [hq]
          have HQ := hid (merge_join (d := xs[k]) hm rfl hq)
          clear hq
          go_wp2
          refine wp_region_more (by kernel_rfl) (by kernel_rfl) ?_
          repeat (go_big_quiet_step (fail))
          refine wpQuiet_nil ?_
          rintro _ ⟨nq, rfl⟩
          go_wp2
          go_roundw
          case rel =>
            have h3 := ((ho.alloc (.cells #[.int .i64 xs[k].o, .int .i64 xs[k].f, .int .i64 xs[k].t] 56)).more (x := nq)).duty_t hm xs[k].t
            rw [← HQ.out, ← HS.out] at h3
            exact ⟨k + 1, by omega, by go_num, h3, (below_go (hb.alloc hbs _) (le_alloc hbs)).setCell hgb _⟩
          case measure => simp [intOf]; omega
        · have hq' : (out[out.length - 1].o == xs[k].o) = false := by simp [hq]
          have HQ := hid (merge_more (d := xs[k]) hm rfl hq)
          clear hq
          go_wp2
          refine wp_region_more (by kernel_rfl) (by kernel_rfl) ?_
          repeat (go_big_quiet_step (fail))
          refine wpQuiet_nil ?_
          rintro _ ⟨nq, rfl⟩
          go_wp2_with (at_builtin; refine wpList_push elDuty _ rfl (.tmp 36) (.tmp 38) rfl w.heap.size (.slice (some ⟨g, 0, none⟩) out.length q) out xs[k] rfl ((ho.alloc _).more.alloc _) _ rfl (heap_alloc_new _ _) hl (le_alloc (le_more (le_alloc hbs))) ?_; intro v' w' hown' hg' hat')
          go_roundw
          case rel => exact ⟨k + 1, by omega, by go_num, by rw [HS.out, HQ.out]; exact hown', below_own ((below_go (hb.alloc hbs _) (le_alloc hbs)).alloc (le_more (le_alloc hbs)) _) ((ho.alloc _).more.alloc _) hg' (Nat.le_refl _) (le_alloc (le_more (le_alloc hbs)))⟩
          case measure => simp [intOf]; omega
      · have hpos' : out.length = 0 := by omega
        have HQ := hid (merge_first (d := xs[k]) hpos)
        clear hpos'
        go_wp2
        refine wp_region_more (by kernel_rfl) (by kernel_rfl) ?_
        repeat (go_big_quiet_step (fail))
        refine wpQuiet_nil ?_
        rintro _ ⟨nq, rfl⟩
        go_wp2_with (at_builtin; refine wpList_push elDuty _ rfl (.tmp 36) (.tmp 38) rfl w.heap.size (.slice A out.length q) out xs[k] rfl ((ho.alloc _).more.alloc _) _ rfl (heap_alloc_new _ _) hl (le_alloc (le_more (le_alloc hbs))) ?_; intro v' w' hown' hg' hat')
        go_roundw
        case rel => exact ⟨k + 1, by omega, by go_num, by rw [HS.out, HQ.out]; exact hown', below_own ((below_go (hb.alloc hbs _) (le_alloc hbs)).alloc (le_more (le_alloc hbs)) _) ((ho.alloc _).more.alloc _) hg' (Nat.le_refl _) (le_alloc (le_more (le_alloc hbs)))⟩
        case measure => simp [intOf]; omega
    · have ht : xs.take k = xs := List.take_of_length_le (by omega)
      rw [ht] at ho
      have HO := hid ho
      clear ho hx
      go_wp2
      go_ret
      exact ⟨_, rfl, HO.out, hb⟩
theorem mergeDuties_len (xs : List Duty) (len : Int) (h : xs.length ≤ 1048576) : (mergeDuties xs len).1.length ≤ 1048576 := by
  unfold mergeDuties
  split
  · exact Nat.le_trans (mergeB_len xs) h
  · simp

set_option maxHeartbeats 400000 in
theorem specMergeDuties (A : Option Addr) (xs : List Duty) (c : Nat) (len : Int) (w : World) (hx : Rd w A xs) :
    Calls Try.prog 33 #[.slice A xs.length c, .int .i64 len] w fun e w' => ∃ v, e = .returned (.tuple #[v, .int .i64 (mergeDuties xs len).2]) ∧ Own w' w.heap.size 56 v (mergeDuties xs len).1 ∧ Below w.heap.size w w' := by
  by_cases hv : validB xs len = true
  · have HF : Hid (mergeDuties xs len = (mergeB xs, 0)) := by unfold mergeDuties; rw [if_pos hv]; exact rfl
    rw [HF.out]
    go_enter Try.func33, Try.ntmps33
    go_wp2_with (first | (go_at_call 48; refine (specOk _ _ _ _ _ hx).mono ?_; rintro e w' ⟨rfl, rfl⟩) | fail)
    refine (specMerge _ _ _ _ hx).mono ?_
    rintro e w' ⟨v, rfl, ho, hb⟩
    go_wp2
    go_ret2
    exact ⟨_, rfl, ho, hb⟩
  · have HF : Hid (mergeDuties xs len = ([], 1)) := by unfold mergeDuties; rw [if_neg hv]; exact rfl
    rw [HF.out]
    go_enter Try.func33, Try.ntmps33
    go_wp2_with (first | (go_at_call 48; refine (specOk _ _ _ _ _ hx).mono ?_; rintro e w' ⟨rfl, rfl⟩) | fail)
    go_ret2
    exact ⟨_, rfl, Own.nil _ _ _, Below.refl _ _⟩

set_option maxHeartbeats 400000 in
theorem implMergeDuties (A : Option Addr) (xs : List Duty) (c : Nat) (len : Int) (w : World) (hx : Rd w A xs) :
    Calls Try.prog 34 #[.slice A xs.length c, .int .i64 len] w fun e w' => ∃ v, e = .returned (.tuple #[v, .int .i64 (mergeDuties xs len).2]) ∧ Own w' w.heap.size 56 v (mergeDuties xs len).1 ∧ Below w.heap.size w w' := by
  by_cases hv : validB xs len = true
  · have HF : Hid (mergeDuties xs len = (mergeB xs, 0)) := by unfold mergeDuties; rw [if_pos hv]; exact rfl
    rw [HF.out]
    go_enter Try.func34, Try.ntmps34
    go_wp2_with fail
    refine (implValid _ _ _ _ _ hx).mono ?_
    rintro e w1 ⟨rfl, hb1⟩
    obtain ⟨y1, rfl⟩ := below_ex hb1
    go_wp2_with fail
    refine (implMerge _ _ _ _ hx.more).mono ?_
    rintro e w' ⟨v, rfl, ho, hb⟩
    go_wp2
    go_ret2
    exact ⟨_, rfl, ho.mono more_size, hb1.trans (hb.mono more_size)⟩
  · have HF : Hid (mergeDuties xs len = ([], 1)) := by unfold mergeDuties; rw [if_neg hv]; exact rfl
    rw [HF.out]
    go_enter Try.func34, Try.ntmps34
    go_wp2_with fail
    refine (implValid _ _ _ _ _ hx).mono ?_
    rintro e w1 ⟨rfl, hb1⟩
    go_wp2
    go_ret2
    exact ⟨_, rfl, Own.empty hb1.size, hb1.alloc hb1.size _⟩
end Go.Proofs.Ytjamkomgdfgmlaa
