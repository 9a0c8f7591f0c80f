/- CountParts: the walks. -/
import Derived.Test.YtjamkomgdfgmlaaDutyOf
namespace Go.Proofs.Ytjamkomgdfgmlaa
open Go.RowKit
set_option linter.unusedVariables false

theorem counts_step {xs : List Duty} {k : Nat} (hk : k < xs.length) : counts (xs.take (k + 1)) = (counts (xs.take k)).set xs[k].o.toNat ((counts (xs.take k)).getD xs[k].o.toNat 0 + 1) := foldl_take countStep _ hk
theorem counts_len' (xs : List Duty) : (counts xs).length = 40 := by unfold counts; rw [counts_len]; simp
theorem counts_bd (xs : List Duty) (i : Nat) : 0 ≤ (counts xs).getD i 0 ∧ (counts xs).getD i 0 ≤ (xs.length : Int) := by
  have := counts_bound xs (List.replicate 40 0) 0 (fun i => by
    rw [List.getD_eq_getElem?_getD, List.getElem?_replicate]
    split <;> simp) i
  rw [Nat.zero_add] at this
  exact this

theorem countParts_len (xs : List Duty) (len : Int) : (countParts xs len).1.length ≤ 1048576 := by
  unfold countParts
  split
  · simp [counts_len']
  · simp
set_option maxHeartbeats 800000 in
theorem specCountParts (A : Option Addr) (xs : List Duty) (c : Nat) (len : Int) (w : World) (hx : Rd w A xs) :
    Calls Try.prog 24 #[.slice A xs.length c, .int .i64 len] w fun e w' => ∃ v, e = .returned (.tuple #[v, .int .i64 (countParts xs len).2]) ∧ Own w' w.heap.size 2 v (countParts xs len).1 ∧ Below w.heap.size w w' := by
  have hn := hx.len
  by_cases hv : validB xs len = true
  · have HF : Hid (countParts xs len = (counts xs, 0)) := by unfold countParts; rw [if_pos hv]; exact rfl
    rw [HF.out]
    go_enter Try.func24, Try.ntmps24
    go_wp2_with (first | (go_at_call 48; refine (specOk _ _ _ _ _ hx).mono ?_; rintro e w' ⟨rfl, rfl⟩) | (at_make; refine wpList_make' elInt _ rfl _ _ rfl w.heap.size .i64 .i64 _ _ 40 rfl rfl rfl rfl (by decide) (Nat.le_refl _) ?_; intro w1 hown hb1) | fail)
    go_loopw [7] (fun i wr => ∃ k : Nat, k ≤ xs.length ∧ i = .int .i64 k ∧ Own wr w.heap.size 2 (.slice (some ⟨w.heap.size, 0, none⟩) 40 40) (counts (xs.take k)) ∧ Below w.heap.size w wr) (fun i _ => xs.length - (intOf i).toNat)
    case atStart => exact ⟨0, Nat.zero_le _, rfl, hown, hb1⟩
    case round =>
      obtain ⟨k, hk, rfl, ho, hb⟩ := hrel
      clear hown hb1
      by_cases hlt : k < xs.length
      · obtain ⟨b, off, rfl, c1, c2, c3⟩ := (hx.below hb).duty hlt
        have hva := valid_at hv hlt
        have g1 : 0 ≤ xs[k].o := hva.1.1
        have g2 : xs[k].o ≤ 39 := hva.1.2
        have hi : xs[k].o.toNat < (counts (xs.take k)).length := by rw [counts_len']; omega
        obtain ⟨d1, f1⟩ := ho.int hi
        have hbd := counts_bd (xs.take k) xs[k].o.toNat
        have htl : (xs.take k).length ≤ k := List.length_take_le _ _
        have h3 := ho.intSet hi ((counts (xs.take k)).getD xs[k].o.toNat 0 + 1)
        rw [← counts_step hlt] at h3
        have HO := hid h3
        rw [show (counts (xs.take k))[xs[k].o.toNat] = (counts (xs.take k)).getD xs[k].o.toNat 0 by simp [hi]] at d1
        clear h3 ho hva hx hv hi
        generalize (counts (xs.take k)).getD xs[k].o.toNat 0 = z at HO hbd d1 ⊢
        go_wp2
        go_roundw
        case rel => exact ⟨k + 1, by omega, by go_num, HO.out, hb.setCell (Nat.le_refl _) _⟩
        case measure => simp [intOf]; omega
      · have ht : xs.take k = xs := List.take_of_length_le (by omega)
        rw [ht] at ho
        have HO := hid ho
        clear ho hx hv
        go_wp2
        go_ret2
        exact ⟨_, rfl, HO.out, hb⟩
  · have HF : Hid (countParts xs len = ([], 1)) := by unfold countParts; rw [if_neg hv]; exact rfl
    rw [HF.out]
    go_enter Try.func24, Try.ntmps24
    go_wp2_with (first | (go_at_call 48; refine (specOk _ _ _ _ _ hx).mono ?_; rintro e w' ⟨rfl, rfl⟩) | fail)
    go_ret2
    exact ⟨_, rfl, Own.nil _ _ _, Below.refl _ _⟩

set_option maxHeartbeats 800000 in
theorem implCountParts (A : Option Addr) (xs : List Duty) (c : Nat) (len : Int) (w : World) (hx : Rd w A xs) :
    Calls Try.prog 25 #[.slice A xs.length c, .int .i64 len] w fun e w' => ∃ v, e = .returned (.tuple #[v, .int .i64 (countParts xs len).2]) ∧ Own w' w.heap.size 2 v (countParts xs len).1 ∧ Below w.heap.size w w' := by
  have hn := hx.len
  by_cases hv : validB xs len = true
  · have HF : Hid (countParts xs len = (counts xs, 0)) := by unfold countParts; rw [if_pos hv]; exact rfl
    rw [HF.out]
    go_enter Try.func25, Try.ntmps25
    go_wp2_with fail
    refine (implValid _ _ _ _ _ hx).mono ?_
    rintro e w1 ⟨rfl, hb1⟩
    obtain ⟨y1, rfl⟩ := below_ex hb1
    go_wp2_with (first | (at_make; refine wpList_make' elInt _ rfl _ _ rfl w.heap.size .i64 .i64 _ _ 40 rfl rfl rfl rfl (by decide) more_size ?_; intro w2 hown hb2) | fail)
    have hb3 : Below w.heap.size w w2 := hb1.trans (hb2.mono more_size)
    go_loopw [17] (fun i wr => ∃ k : Nat, k ≤ xs.length ∧ i = .int .i64 k ∧ Own wr w.heap.size 2 (.slice (some ⟨(w.more y1).heap.size, 0, none⟩) 40 40) (counts (xs.take k)) ∧ Below w.heap.size w wr) (fun i _ => xs.length - (intOf i).toNat)
    case atStart => exact ⟨0, Nat.zero_le _, rfl, hown, hb3⟩
    case round =>
      obtain ⟨k, hk, rfl, ho, hb⟩ := hrel
      clear hown hb1 hb2 hb3
      have hsz : w.heap.size ≤ (w.more y1).heap.size := more_size
      by_cases hlt : k < xs.length
      · obtain ⟨b, off, rfl, c1, c2, c3⟩ := (hx.below hb).duty hlt
        have hva := valid_at hv hlt
        have g1 : 0 ≤ xs[k].o := hva.1.1
        have g2 : xs[k].o ≤ 39 := hva.1.2
        have hi : xs[k].o.toNat < (counts (xs.take k)).length := by rw [counts_len']; omega
        obtain ⟨d1, f1⟩ := ho.int hi
        have hbd := counts_bd (xs.take k) xs[k].o.toNat
        have htl : (xs.take k).length ≤ k := List.length_take_le _ _
        have h3 := ho.intSet hi ((counts (xs.take k)).getD xs[k].o.toNat 0 + 1)
        rw [← counts_step hlt] at h3
        have HO := hid h3
        have hgs := (ho.block _ rfl).2
        rw [show (counts (xs.take k))[xs[k].o.toNat] = (counts (xs.take k)).getD xs[k].o.toNat 0 by simp [hi]] at d1
        clear h3 ho hva hx hv hi
        generalize (counts (xs.take k)).getD xs[k].o.toNat 0 = z at HO hbd d1 ⊢
        go_wp2
        go_roundw
        case rel => exact ⟨k + 1, by omega, by go_num, HO.out.alloc _, (hb.setCell hsz _).alloc (hb.setCell hsz _).size _⟩
        case measure => simp [intOf]; omega
      · have ht : xs.take k = xs := List.take_of_length_le (by omega)
        rw [ht] at ho
        have HO := hid ho
        clear ho hx hv
        go_wp2
        go_ret2
        exact ⟨_, rfl, HO.out, hb⟩
  · have HF : Hid (countParts xs len = ([], 1)) := by unfold countParts; rw [if_neg hv]; exact rfl
    rw [HF.out]
    go_enter Try.func25, Try.ntmps25
    go_wp2_with fail
    refine (implValid _ _ _ _ _ hx).mono ?_
    rintro e w1 ⟨rfl, hb1⟩
    go_wp2
    go_ret2
    exact ⟨_, rfl, Own.empty hb1.size, hb1.alloc hb1.size _⟩
end Go.Proofs.Ytjamkomgdfgmlaa
