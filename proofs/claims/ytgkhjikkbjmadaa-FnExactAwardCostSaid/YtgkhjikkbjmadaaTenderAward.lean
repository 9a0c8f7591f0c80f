/- AwardFault: the whole functions. -/
import Derived.Test.YtgkhjikkbjmadaaTenderFault
namespace Go.Proofs.Ytgkhjikkbjmadaa
open Go.RowKit
set_option linter.unusedVariables false
def codeAw (t : Tender) (n : Int) : Int := if validTd t then (if n = t.lots then 0 else 2) else 1
theorem codeAw_ok {t : Tender} {n : Int} (h : codeAw t n = 0) : validTd t = true ∧ n = t.lots := by
  unfold codeAw at h
  split at h
  · rename_i h1
    split at h
    · rename_i h2; exact ⟨h1, h2⟩
    · omega
  · omega
set_option maxHeartbeats 1000000 in
theorem specAwardCode (g o : Nat) (t : Tender) (A0 : Option Addr) (n c0 : Nat) (w : World) (h : PtTender w g o t) (hn : n ≤ 1048576) :
    Calls Try.prog 47 #[.pointer (some ⟨g, o, none⟩), .slice A0 n c0] w fun e w' => e = .returned (.int .i64 (codeAw t n)) ∧ Below w.heap.size w w' := by
  have h0 := h
  obtain ⟨A, c, B, d, ⟨e1, e2, e3⟩, hA, hB, hd⟩ := h0
  clear hA hB
  have HF : Hid (codeAw t n = if validTd t then (if (n : Int) = t.lots then 0 else 2) else 1) := rfl
  generalize codeAw t n = C at HF ⊢
  go_enter Try.func47, Try.ntmps47
  go_wp2_with fail
  refine (specOkTd _ _ _ _ h).mono ?_
  rintro e w1 ⟨rfl, hb⟩
  have e1' := box_cell hb e1
  clear h
  by_cases h1 : validTd t = true
  · rw [h1]
    have hf2 : C = if (n : Int) = t.lots then 0 else 2 := by have := HF.out; rw [h1] at this; simpa using this
    by_cases h2 : (n : Int) = t.lots
    · have HF2 : Hid (C = 0) := by rw [hf2, if_pos h2]; rfl
      have h2' : ((n : Int) != t.lots) = false := by simp [h2]
      clear hf2 HF h2
      go_wp2_with fail
      go_ret
      exact ⟨ret_int HF2.out.symm, hb⟩
    · have HF2 : Hid (C = 2) := by rw [hf2, if_neg h2]; rfl
      have h2' : ((n : Int) != t.lots) = true := by simp [h2]
      clear hf2 HF h2
      go_wp2_with fail
      go_ret
      exact ⟨ret_int HF2.out.symm, hb⟩
  · rw [Bool.not_eq_true] at h1
    rw [h1]
    go_wp2_with fail
    go_ret
    exact ⟨ret_int (by rw [HF.out, h1]; rfl), hb⟩
set_option maxHeartbeats 1000000 in
theorem implAwardCode (v : Value) (t : Tender) (A0 : Option Addr) (n c0 : Nat) (w : World) (h : RdTender w v t) (hn : n ≤ 1048576) :
    Calls Try.prog 49 #[v, .slice A0 n c0] w fun e w' => e = .returned (.int .i64 (codeAw t n)) ∧ Below w.heap.size w w' := by
  have h0 := h
  obtain ⟨A, c, B, d, rfl, hA, hB, hd⟩ := h0
  have hb0 : ∀ o, Below w.heap.size w (w.alloc o) := fun o => (Below.refl w.heap.size w).alloc (Nat.le_refl _) o
  have HB := hid hb0
  have h' := hid fun o => h.below (hb0 o)
  clear hA hB hb0 h
  have HF : Hid (codeAw t n = if validTd t then (if (n : Int) = t.lots then 0 else 2) else 1) := rfl
  generalize codeAw t n = C at HF ⊢
  go_enter Try.func49, Try.ntmps49
  go_wp2_with fail
  refine (implValidTd0 _ t _ (h'.out _)).mono ?_
  rintro e w1 ⟨rfl, hb⟩
  have e1' : w1.cell? ⟨w.heap.size, 0, none⟩ = some (.int .i64 t.lots) := box_cell hb (by simp [go_sem])
  have HQ := hid ((HB.out (.cells #[.int .i64 t.lots, .slice A t.most.length c, .slice B t.bids.length d] 30)).trans (hb.mono (HB.out _).size))
  clear hb
  by_cases h1 : validTd t = true
  · rw [h1]
    have hf2 : C = if (n : Int) = t.lots then 0 else 2 := by have := HF.out; rw [h1] at this; simpa using this
    by_cases h2 : (n : Int) = t.lots
    · have HF2 : Hid (C = 0) := by rw [hf2, if_pos h2]; rfl
      have h2' : ((n : Int) != t.lots) = false := by simp [h2]
      clear hf2 HF h2
      go_wp2_with fail
      refine wp_region_more (by kernel_rfl) (by kernel_rfl) ?_
      repeat (go_big_quiet_step ((go_at_call 38; exact quiet_same (sizeInts _ _ _ _))))
      refine wpQuiet_nil ?_
      rintro _ ⟨nq, rfl⟩
      go_wp2_with fail
      go_ret
      exact ⟨ret_int HF2.out.symm, HQ.out.trans (more_below.mono HQ.out.size)⟩
    · have HF2 : Hid (C = 2) := by rw [hf2, if_neg h2]; rfl
      have h2' : ((n : Int) != t.lots) = true := by simp [h2]
      clear hf2 HF h2
      go_wp2_with fail
      refine wp_region_more (by kernel_rfl) (by kernel_rfl) ?_
      repeat (go_big_quiet_step ((go_at_call 38; exact quiet_same (sizeInts _ _ _ _))))
      refine wpQuiet_nil ?_
      rintro _ ⟨nq, rfl⟩
      go_wp2_with fail
      go_ret
      exact ⟨ret_int HF2.out.symm, HQ.out.trans (more_below.mono HQ.out.size)⟩
  · rw [Bool.not_eq_true] at h1
    rw [h1]
    go_wp2_with fail
    go_ret
    exact ⟨ret_int (by rw [HF.out, h1]; rfl), HQ.out⟩
def faultF (t : Tender) (xs : List Int) : Int := faultAt t (List.replicate t.most.length 0) 0 xs
def faultPair (t : Tender) (xs : List Int) : Int × Int := if codeAw t xs.length ≠ 0 then (0, codeAw t xs.length) else (faultF t xs, 0)
set_option maxHeartbeats 1000000 in
theorem specAwardFault (v : Value) (t : Tender) (A0 : Option Addr) (xs : List Int) (c0 : Nat) (w : World) (h : RdTender w v t) (hx : Rd w A0 xs) :
    Calls Try.prog 21 #[v, .slice A0 xs.length c0] w fun e w' => e = .returned (.tuple #[.int .i64 (faultPair t xs).1, .int .i64 (faultPair t xs).2]) ∧ Below w.heap.size w w' := by
  have hb0 : ∀ o, Below w.heap.size w (w.alloc o) := fun o => (Below.refl w.heap.size w).alloc (Nat.le_refl _) o
  have HB := hid hb0
  obtain ⟨cs, rfl, hp⟩ := h.box
  have HF : Hid (faultPair t xs = if codeAw t xs.length ≠ 0 then (0, codeAw t xs.length) else (faultF t xs, 0)) := rfl
  have hn := hx.len
  have hx1 := hid fun o => hx.alloc o
  clear h hb0 hx
  generalize faultPair t xs = F at HF ⊢
  go_enter Try.func21, Try.ntmps21
  go_wp2_with fail
  refine (specAwardCode _ _ _ A0 xs.length c0 _ hp hn).mono ?_
  rintro e w1 ⟨rfl, hb⟩
  have HQ := hid ((HB.out (.cells cs 30)).trans (hb.mono (HB.out _).size))
  by_cases h1 : codeAw t xs.length = 0
  · obtain ⟨hv, hl⟩ := codeAw_ok h1
    have HG : Hid (F = (faultF t xs, 0)) := by have := HF.out; rw [if_neg (by omega)] at this; exact this
    rw [h1]
    clear HF
    go_wp2_with fail
    refine (specFault _ _ t A0 xs c0 _ (hp.below hb) ((hx1.out _).below hb) hv hl).mono ?_
    rintro e w2 ⟨rfl, hb2⟩
    change Hid (F = (faultAt t (List.replicate t.most.length 0) 0 xs, 0)) at HG
    generalize faultAt t (List.replicate t.most.length 0) 0 xs = z at HG ⊢
    have HQ2 := hid (HQ.out.trans (hb2.mono HQ.out.size))
    clear hp hb hb2
    go_wp2_with fail
    go_ret2
    exact ⟨ret_pair HG.out, HQ2.out⟩
  · rw [if_pos h1] at HF
    have h1' : (codeAw t xs.length != 0) = true := by simp [h1]
    generalize codeAw t xs.length = C at HF h1 h1' ⊢
    clear hp hb
    go_wp2_with fail
    go_ret2
    exact ⟨ret_pair HF.out, HQ.out⟩
set_option maxHeartbeats 1000000 in
theorem implAwardFault (v : Value) (t : Tender) (A0 : Option Addr) (xs : List Int) (c0 : Nat) (w : World) (h : RdTender w v t) (hx : Rd w A0 xs) :
    Calls Try.prog 23 #[v, .slice A0 xs.length c0] w fun e w' => e = .returned (.tuple #[.int .i64 (faultPair t xs).1, .int .i64 (faultPair t xs).2]) ∧ Below w.heap.size w w' := by
  have h0 := h
  obtain ⟨A, c, B, d, rfl, hA, hB, hd⟩ := h0
  have hb0 : ∀ o, Below w.heap.size w (w.alloc o) := fun o => (Below.refl w.heap.size w).alloc (Nat.le_refl _) o
  have HB := hid hb0
  have h' := hid fun o => h.below (hb0 o)
  have HF : Hid (faultPair t xs = if codeAw t xs.length ≠ 0 then (0, codeAw t xs.length) else (faultF t xs, 0)) := rfl
  have hn := hx.len
  have hx1 := hid fun o => hx.alloc o
  clear h hb0 hx hA hB
  generalize faultPair t xs = F at HF ⊢
  go_enter Try.func23, Try.ntmps23
  go_wp2_with fail
  refine (implAwardCode _ t A0 xs.length c0 _ (h'.out _) hn).mono ?_
  rintro e w1 ⟨rfl, hb⟩
  have HQ := hid ((HB.out (.cells #[.int .i64 t.lots, .slice A t.most.length c, .slice B t.bids.length d] 30)).trans (hb.mono (HB.out _).size))
  have e0 : w1.cell? ⟨w.heap.size, 0, none⟩ = some (.int .i64 t.lots) := box_cell hb (by simp [go_sem])
  have e1 : w1.cell? ⟨w.heap.size, 1, none⟩ = some (.slice A t.most.length c) := box_cell hb (by simp [go_sem])
  have e2 : w1.cell? ⟨w.heap.size, 2, none⟩ = some (.slice B t.bids.length d) := box_cell hb (by simp [go_sem])
  have H1 := hid ((h'.out (.cells #[.int .i64 t.lots, .slice A t.most.length c, .slice B t.bids.length d] 30)).below hb)
  have X1 := hid ((hx1.out (.cells #[.int .i64 t.lots, .slice A t.most.length c, .slice B t.bids.length d] 30)).below hb)
  clear hb
  by_cases h1 : codeAw t xs.length = 0
  · obtain ⟨hv, hl⟩ := codeAw_ok h1
    have HG : Hid (F = (faultF t xs, 0)) := by have := HF.out; rw [if_neg (by omega)] at this; exact this
    rw [h1]
    clear HF
    go_wp2_with fail
    refine (implFault _ t A0 xs c0 _ H1.out X1.out hv hl).mono ?_
    rintro e w2 ⟨rfl, hb2⟩
    change Hid (F = (faultAt t (List.replicate t.most.length 0) 0 xs, 0)) at HG
    generalize faultAt t (List.replicate t.most.length 0) 0 xs = z at HG ⊢
    have HQ2 := hid (HQ.out.trans (hb2.mono HQ.out.size))
    clear hb2
    go_wp2_with fail
    go_ret2
    exact ⟨ret_pair HG.out, HQ2.out⟩
  · rw [if_pos h1] at HF
    have h1' : (codeAw t xs.length != 0) = true := by simp [h1]
    generalize codeAw t xs.length = C at HF h1 h1' ⊢
    go_wp2_with fail
    go_ret2
    exact ⟨ret_pair HF.out, HQ.out⟩
end Go.Proofs.Ytgkhjikkbjmadaa
