/- AwardCost: the walks. -/
import Derived.Test.YtgkhjikkbjmadaaTenderAward
namespace Go.Proofs.Ytgkhjikkbjmadaa
open Go.RowKit
set_option linter.unusedVariables false
theorem fault_range (t : Tender) : ∀ (xs cnt : List Int) (k : Nat), -1 ≤ faultAt t cnt k xs
  | [], cnt, k => by simp only [faultAt]; omega
  | b :: r, cnt, k => by
    simp only [faultAt]
    split
    · omega
    · split
      · omega
      · exact fault_range t r _ _
theorem fault_none {t : Tender} : ∀ {xs cnt : List Int} {k : Nat}, faultAt t cnt k xs < 0 → ∀ i, (h : i < xs.length) → ¬ findAt xs[i] ((k + i : Nat) : Int) 0 t.bids < 0
  | [], cnt, k, _, i, h => absurd h (by simp)
  | b :: r, cnt, k, hf, i, h => by
    simp only [faultAt] at hf
    split at hf
    · omega
    · rename_i h1
      split at hf
      · omega
      · cases i with
        | zero => simpa using h1
        | succ i =>
          have := fault_none hf i (by simpa using h)
          rw [show k + 1 + i = k + (i + 1) by omega] at this
          simpa using this
def costTo (t : Tender) (xs : List Int) : Nat → Int
  | 0 => 0
  | k + 1 => costTo t xs k + offAt t.bids (findAt (atI xs k) k 0 t.bids)
theorem cost_step {t : Tender} {xs : List Int} (hf : faultF t xs < 0) (hv : validTd t = true) {k : Nat} (hk : k < xs.length) :
    ∃ j : Nat, ∃ h : j < t.bids.length, findAt xs[k] k 0 t.bids = j ∧ costTo t xs (k + 1) = costTo t xs k + t.bids[j].offer := by
  have h1 := fault_none hf k hk
  rw [show 0 + k = k by omega] at h1
  obtain ⟨j, hj, h2, _, _⟩ := find_some (show 0 ≤ findAt xs[k] k 0 t.bids by omega)
  rw [show 0 + j = j by omega] at h2
  exact ⟨j, hj, h2, by simp only [costTo]; rw [at_get hk, h2, off_get hj]⟩
theorem cost_range {t : Tender} {xs : List Int} (hf : faultF t xs < 0) (hv : validTd t = true) : ∀ {k : Nat}, k ≤ xs.length → 0 ≤ costTo t xs k ∧ costTo t xs k ≤ k * 1000000
  | 0, _ => by simp [costTo]
  | k + 1, hk => by
    obtain ⟨j, hj, _, h2⟩ := cost_step hf hv (show k < xs.length by omega)
    have := cost_range hf hv (show k ≤ xs.length by omega)
    have := valid_offer hv hj
    rw [h2]
    omega
def costPair (t : Tender) (xs : List Int) : Int × Int := if codeAw t xs.length ≠ 0 then (0, codeAw t xs.length) else if faultF t xs < 0 then (costTo t xs xs.length, 0) else (0, 6)

set_option maxHeartbeats 4000000 in
theorem specCost (g o : Nat) (t : Tender) (A0 : Option Addr) (xs : List Int) (c0 : Nat) (w : World) (h : PtTender w g o t) (hx : Rd w A0 xs) (hv : validTd t = true) (hl : (xs.length : Int) = t.lots) (hf : faultF t xs < 0) :
    Calls Try.prog 51 #[.pointer (some ⟨g, o, none⟩), .slice A0 xs.length c0] w fun e w' => e = .returned (.int .i64 (costTo t xs xs.length)) ∧ Below w.heap.size w w' := by
  have hb := valid_lots hv
  obtain ⟨A, c, B, d, ⟨e1, e2, e3⟩, hA, hB, hd⟩ := h
  have hn := hB.len
  clear hA
  go_enter Try.func51, Try.ntmps51
  go_wp2_with fail
  go_loopw [5, 6] (fun s i wr => ∃ k : Nat, k ≤ xs.length ∧ i = .int .i64 k ∧ s = .int .i64 (costTo t xs k) ∧ ∃ q, wr = w.more q) (fun _ i _ => xs.length - (intOf i).toNat)
  case atStart => exact ⟨0, Nat.zero_le _, rfl, rfl, more_self⟩
  case round =>
    obtain ⟨k, hk, rfl, rfl, q, rfl⟩ := hrel
    have hr := cost_range hf hv hk
    by_cases hlt : k < xs.length
    · obtain ⟨b, off, rfl, x1⟩ := hx.int hlt
      obtain ⟨j, hj, hfj, hs⟩ := cost_step hf hv hlt
      have ho := valid_offer hv hj
      have HS := hid hs
      have HJ := hid hfj
      have RB := hid hB
      obtain ⟨b', off', rfl, c1, c2, c3⟩ := hB.bid hj
      have hjl : (j : Int) < t.bids.length := by omega
      generalize costTo t xs k = s at hr HS ⊢
      have hw : IntKind.i64.wrap (s + t.bids[j].offer) = s + t.bids[j].offer := IntWalk.i64_in _ (by omega)
      clear hs hfj hB hx
      go_wp2_with fail
      refine wp_region_more (by kernel_rfl) (by kernel_rfl) ?_
      repeat (go_big_quiet_step ((go_at_call 56; exact quiet_same (specFind_eq _ _ _ _ _ _ _ RB.out.more.more rfl HJ.out))))
      refine wpQuiet_nil ?_
      rintro _ ⟨nq, rfl⟩
      go_wp2_with fail
      go_roundw
      case rel => exact ⟨k + 1, by omega, by go_num, by rw [HS.out], more_trans⟩
      case measure => simp [intOf]; omega
    · have hkl : Hid (k = xs.length) := by show k = xs.length; omega
      obtain ⟨s, hs⟩ : ∃ s, costTo t xs k = s := ⟨_, rfl⟩
      rw [hs]
      have HS := hid hs
      clear hB hx hs
      go_wp2_with fail
      go_ret
      exact ⟨ret_int (by rw [← HS.out, hkl.out]), more_below⟩
theorem costPair_code {t : Tender} {xs : List Int} (h : ¬ codeAw t xs.length = 0) : costPair t xs = (0, codeAw t xs.length) := by unfold costPair; rw [if_pos h]
theorem costPair_fault {t : Tender} {xs : List Int} (h : codeAw t xs.length = 0) (hf : ¬ faultF t xs < 0) : costPair t xs = (0, 6) := by unfold costPair; rw [if_neg (by omega), if_neg hf]
theorem costPair_ok {t : Tender} {xs : List Int} (h : codeAw t xs.length = 0) (hf : faultF t xs < 0) : costPair t xs = (costTo t xs xs.length, 0) := by unfold costPair; rw [if_neg (by omega), if_pos hf]
set_option maxHeartbeats 2000000 in
theorem specAwardCost (v : Value) (t : Tender) (A0 : Option Addr) (xs : List Int) (c0 : Nat) (w : World) (h : RdTender w v t) (hx : Rd w A0 xs) :
    Calls Try.prog 27 #[v, .slice A0 xs.length c0] w fun e w' => e = .returned (.tuple #[.int .i64 (costPair t xs).1, .int .i64 (costPair t xs).2]) ∧ Below w.heap.size w w' := by
  have hb0 : ∀ o, Below w.heap.size w (w.alloc o) := fun o => (Below.refl w.heap.size w).alloc (Nat.le_refl _) o
  have HB := hid hb0
  obtain ⟨cs, rfl, hp⟩ := h.box
  have hn := hx.len
  have hx1 := hid fun o => hx.alloc o
  clear h hb0 hx
  by_cases h1 : codeAw t xs.length = 0
  · obtain ⟨hv, hl⟩ := codeAw_ok h1
    by_cases hf : faultF t xs < 0
    · have HG := hid (costPair_ok h1 hf)
      have hf' : decide ((0 : Int) ≤ faultF t xs) = false := decide_eq_false (by omega)
      generalize costPair t xs = F at HG ⊢
      have HV := hid hv
      have HL := hid hl
      have HFF := hid hf
      have HF1 := hid hf'
      have H1 := hid h1
      clear hv hl hf hf' h1
      go_enter Try.func27, Try.ntmps27
      go_wp2_with fail
      refine (specAwardCode _ _ _ A0 xs.length c0 _ hp hn).mono ?_
      rintro e w1 ⟨rfl, hb⟩
      rw [H1.out]
      have HQ := hid ((HB.out (.cells cs 30)).trans (hb.mono (HB.out _).size))
      have hp1 := hp.below hb
      have HX := hid ((hx1.out _).below hb)
      clear hp hb
      go_wp2_with fail
      refine (specFault _ _ t A0 xs c0 _ hp1 HX.out HV.out HL.out).mono ?_
      rintro e w2 ⟨rfl, hb2⟩
      have hff : decide ((0 : Int) ≤ faultAt t (List.replicate t.most.length 0) 0 xs) = false := HF1.out
      have HQ2 := hid (HQ.out.trans (hb2.mono HQ.out.size))
      have hp2 := hp1.below hb2
      have HX2 := hid (HX.out.below hb2)
      clear hb2 hp1 HX HF1
      go_wp2_with fail
      refine (specCost _ _ t A0 xs c0 _ hp2 HX2.out HV.out HL.out HFF.out).mono ?_
      rintro e w3 ⟨rfl, hb3⟩
      have HQ3 := hid (HQ2.out.trans (hb3.mono HQ2.out.size))
      generalize costTo t xs xs.length = z at HG ⊢
      clear hb3 hp2 hff
      go_wp2_with fail
      go_ret2
      exact ⟨ret_pair HG.out, HQ3.out⟩
    · have HG := hid (costPair_fault h1 hf)
      have hf' : decide ((0 : Int) ≤ faultF t xs) = true := decide_eq_true (by omega)
      generalize costPair t xs = F at HG ⊢
      have HV := hid hv
      have HL := hid hl
      have HF1 := hid hf'
      have H1 := hid h1
      clear hv hl hf hf' h1
      go_enter Try.func27, Try.ntmps27
      go_wp2_with fail
      refine (specAwardCode _ _ _ A0 xs.length c0 _ hp hn).mono ?_
      rintro e w1 ⟨rfl, hb⟩
      rw [H1.out]
      have HQ := hid ((HB.out (.cells cs 30)).trans (hb.mono (HB.out _).size))
      have hp1 := hp.below hb
      have HX := hid ((hx1.out _).below hb)
      clear hp hb
      go_wp2_with fail
      refine (specFault _ _ t A0 xs c0 _ hp1 HX.out HV.out HL.out).mono ?_
      rintro e w2 ⟨rfl, hb2⟩
      have hff : decide ((0 : Int) ≤ faultAt t (List.replicate t.most.length 0) 0 xs) = true := HF1.out
      have HQ2 := hid (HQ.out.trans (hb2.mono HQ.out.size))
      clear hb2 hp1 HX HF1
      go_wp2_with fail
      go_ret2
      exact ⟨ret_pair HG.out, HQ2.out⟩
  · have HG := hid (costPair_code h1)
    have h1' : (codeAw t xs.length != 0) = true := by simp [h1]
    have h1'' : (codeAw t xs.length == 0) = false := by simp [h1]
    generalize costPair t xs = F at HG ⊢
    have H1' := hid h1'
    have H1'' := hid h1''
    clear h1' h1''
    go_enter Try.func27, Try.ntmps27
    go_wp2_with fail
    refine (specAwardCode _ _ _ A0 xs.length c0 _ hp hn).mono ?_
    rintro e w1 ⟨rfl, hb⟩
    have HQ := hid ((HB.out (.cells cs 30)).trans (hb.mono (HB.out _).size))
    have h1' := H1'.out
    have h1'' := H1''.out
    generalize codeAw t xs.length = C at HG h1 h1' h1'' ⊢
    clear hp hb H1' H1''
    go_wp2_with fail
    go_ret2
    exact ⟨ret_pair HG.out, HQ.out⟩
set_option maxHeartbeats 2000000 in
theorem implAwardCost (v : Value) (t : Tender) (A0 : Option Addr) (xs : List Int) (c0 : Nat) (w : World) (h : RdTender w v t) (hx : Rd w A0 xs) :
    Calls Try.prog 28 #[v, .slice A0 xs.length c0] w fun e w' => e = .returned (.tuple #[.int .i64 (costPair t xs).1, .int .i64 (costPair t xs).2]) ∧ Below w.heap.size w w' := by
  have h0 := h
  obtain ⟨A, c, B, d, rfl, hA, hB, hd⟩ := h0
  have hb0 : ∀ o, Below w.heap.size w (w.alloc o) := fun o => (Below.refl w.heap.size w).alloc (Nat.le_refl _) o
  have HB := hid hb0
  have h' := hid fun o => h.below (hb0 o)
  have hn := hx.len
  have hx1 := hid fun o => hx.alloc o
  have HBB := hid hB
  clear h hb0 hx hA hB
  have hcl : codeAw t xs.length = 0 ∨ ¬ codeAw t xs.length = 0 := by omega
  rcases hcl with h1 | h1
  · obtain ⟨hv, hl⟩ := codeAw_ok h1
    have HV := hid hv
    have HL := hid hl
    have H1 := hid h1
    have HFF : Hid (∀ z, faultF t xs = z → (z < 0 → costPair t xs = (costTo t xs xs.length, 0)) ∧ (¬ z < 0 → costPair t xs = (0, 6))) := by
      rintro z rfl
      exact ⟨costPair_ok h1, costPair_fault h1⟩
    have hlots := valid_lots hv
    have hxl : (xs.length : Int) ≤ 8 := by omega
    have HCS : Hid (∀ k, (hk : k < xs.length) → faultF t xs < 0 → _) := fun k hk hf => cost_step hf hv hk
    have HCR : Hid (∀ k, k ≤ xs.length → faultF t xs < 0 → _) := fun k hk hf => cost_range hf hv (k := k) hk
    have HVO : Hid (∀ j, (hj : j < t.bids.length) → _) := fun j hj => valid_offer hv (k := j) hj
    clear hv hl h1 hlots
    go_enter Try.func28, Try.ntmps28
    go_wp2_with fail
    refine (implAwardCode _ t A0 xs.length c0 _ (h'.out _) hn).mono ?_
    rintro e w1 ⟨rfl, hb⟩
    rw [H1.out]
    have HQ := hid ((HB.out (.cells #[.int .i64 t.lots, .slice A t.most.length c, .slice B t.bids.length d] 30)).trans (hb.mono (HB.out _).size))
    have e0 : w1.cell? ⟨w.heap.size, 0, none⟩ = some (.int .i64 t.lots) := box_cell hb (by simp [go_sem])
    have e1 : w1.cell? ⟨w.heap.size, 1, none⟩ = some (.slice A t.most.length c) := box_cell hb (by simp [go_sem])
    have e2 : w1.cell? ⟨w.heap.size, 2, none⟩ = some (.slice B t.bids.length d) := box_cell hb (by simp [go_sem])
    have HT1 := hid ((h'.out (.cells #[.int .i64 t.lots, .slice A t.most.length c, .slice B t.bids.length d] 30)).below hb)
    have X1 := hid ((hx1.out (.cells #[.int .i64 t.lots, .slice A t.most.length c, .slice B t.bids.length d] 30)).below hb)
    clear hb H1
    go_wp2_with fail
    refine (implFault _ t A0 xs c0 _ HT1.out X1.out HV.out HL.out).mono ?_
    rintro e w2 ⟨rfl, hb2⟩
    have HZ : Hid (faultF t xs = faultAt t (List.replicate t.most.length 0) 0 xs) := rfl
    generalize faultAt t (List.replicate t.most.length 0) 0 xs = z at HZ ⊢
    have HQ2 := hid (HQ.out.trans (hb2.mono HQ.out.size))
    have e2' := box_cell hb2 e2
    have X2 := hid (X1.out.below hb2)
    have RB := hid (HBB.out.below HQ2.out)
    clear hb2 e0 e1 e2
    by_cases hz : z < 0
    · have HG := hid ((HFF.out z HZ.out).1 hz)
      have HN := hid (show faultF t xs < 0 by rw [HZ.out]; exact hz)
      have hz' : decide ((0 : Int) ≤ z) = false := decide_eq_false (by omega)
      clear hz
      go_wp2_with fail
      clear hz'
      go_loopw [7, 22] (fun s i wr => ∃ k : Nat, k ≤ xs.length ∧ i = .int .i64 k ∧ s = .int .i64 (costTo t xs k) ∧ ∃ q, wr = w2.more q) (fun _ i _ => xs.length - (intOf i).toNat)
      case atStart => exact ⟨0, Nat.zero_le _, rfl, rfl, more_self⟩
      case round =>
        obtain ⟨k, hk, rfl, rfl, q, rfl⟩ := hrel
        have hr := HCR.out k hk HN.out
        by_cases hlt : k < xs.length
        · obtain ⟨b, off, rfl, x1⟩ := X2.out.int hlt
          obtain ⟨j, hj, hfj, hs⟩ := HCS.out k hlt HN.out
          have ho := HVO.out j hj
          have HS := hid hs
          have HJ := hid hfj
          obtain ⟨b', off', rfl, c1, c2, c3⟩ := RB.out.bid hj
          have hjl : (j : Int) < t.bids.length := by omega
          generalize costTo t xs k = s at hr HS ⊢
          have hw : IntKind.i64.wrap (s + t.bids[j].offer) = s + t.bids[j].offer := IntWalk.i64_in _ (by omega)
          clear hs hfj
          go_wp2_with fail
          refine wp_region_more (by kernel_rfl) (by kernel_rfl) ?_
          repeat (go_big_quiet_step ((go_at_call 42; exact quiet_below (implFind_eq _ _ _ _ _ _ _ RB.out.more.more rfl HJ.out))))
          refine wpQuiet_nil ?_
          rintro _ ⟨nq, rfl⟩
          go_wp2_with fail
          go_roundw
          case rel => exact ⟨k + 1, by omega, by go_num, by rw [HS.out], more_trans⟩
          case measure => simp [intOf]; omega
        · have hkl : Hid (k = xs.length) := by show k = xs.length; omega
          obtain ⟨s, hs⟩ : ∃ s, costTo t xs k = s := ⟨_, rfl⟩
          rw [hs]
          have HS := hid hs
          clear hs
          go_wp2_with fail
          go_ret2
          exact ⟨ret_pair (by rw [HG.out, ← HS.out, hkl.out]), HQ2.out.trans (more_below.mono HQ2.out.size)⟩
    · have HG := hid ((HFF.out z HZ.out).2 (by omega))
      have hz' : decide ((0 : Int) ≤ z) = true := decide_eq_true (by omega)
      clear hz
      go_wp2_with fail
      go_ret2
      exact ⟨ret_pair HG.out, HQ2.out⟩
  · have HG := hid (costPair_code h1)
    have h1' : (codeAw t xs.length != 0) = true := by simp [h1]
    have H1' := hid h1'
    clear h1'
    go_enter Try.func28, Try.ntmps28
    go_wp2_with fail
    refine (implAwardCode _ t A0 xs.length c0 _ (h'.out _) hn).mono ?_
    rintro e w1 ⟨rfl, hb⟩
    have HQ := hid ((HB.out (.cells #[.int .i64 t.lots, .slice A t.most.length c, .slice B t.bids.length d] 30)).trans (hb.mono (HB.out _).size))
    have h1' := H1'.out
    generalize codeAw t xs.length = C at HG h1 h1' ⊢
    clear hb H1'
    go_wp2_with fail
    go_ret2
    exact ⟨ret_pair HG.out, HQ.out⟩
end Go.Proofs.Ytgkhjikkbjmadaa
