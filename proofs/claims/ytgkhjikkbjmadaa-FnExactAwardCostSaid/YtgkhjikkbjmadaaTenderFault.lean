/- AwardFault: the walks. -/
import Derived.Test.YtgkhjikkbjmadaaTenderBest
import Derived.Deep.CutBlock
namespace Go.Proofs.Ytgkhjikkbjmadaa
open Go.RowKit
set_option linter.unusedVariables false
def atI (l : List Int) (z : Int) : Int := match l[z.toNat]? with | some x => x | none => 0
/-- The first lot that is awarded wrongly, from lot k on; 'cnt': how often each bidder has had one. -/
def faultAt (t : Tender) : List Int → Nat → List Int → Int
  | _, _, [] => -1
  | cnt, k, b :: r => if findAt b k 0 t.bids < 0 then (k : Int) else if atI t.most b < atI cnt b + 1 then (k : Int) else faultAt t (cnt.set b.toNat (atI cnt b + 1)) (k + 1) r
theorem fault_drop {t : Tender} {cnt xs : List Int} {k : Nat} (hk : k < xs.length) : faultAt t cnt k (xs.drop k) = if findAt xs[k] k 0 t.bids < 0 then (k : Int) else if atI t.most xs[k] < atI cnt xs[k] + 1 then (k : Int) else faultAt t (cnt.set xs[k].toNat (atI cnt xs[k] + 1)) (k + 1) (xs.drop (k + 1)) := by
  rw [List.drop_eq_getElem_cons hk]
  rfl
theorem at_get {l : List Int} {j : Nat} (h : j < l.length) : atI l (j : Int) = l[j] := by simp [atI, List.getElem?_eq_getElem h]
theorem find_some {b l : Int} : ∀ {xs : List Bid} {k : Nat}, 0 ≤ findAt b l k xs → ∃ j, ∃ h : j < xs.length, findAt b l k xs = (k + j : Nat) ∧ xs[j].bidder = b ∧ xs[j].lot = l
  | [], k, h => by simp only [findAt] at h; omega
  | x :: r, k, h => by
    simp only [findAt] at h ⊢
    by_cases hx : x.bidder = b ∧ x.lot = l
    · rw [if_pos hx]
      exact ⟨0, by simp, by simp, hx.1, hx.2⟩
    · rw [if_neg hx] at h ⊢
      obtain ⟨j, hj, h1, h2, h3⟩ := find_some h
      exact ⟨j + 1, by simp; omega, by rw [h1]; congr 1; omega, by simpa using h2, by simpa using h3⟩
theorem find_bidder {t : Tender} {b l : Int} (hv : validTd t = true) (h : ¬ findAt b l 0 t.bids < 0) : ∃ j : Nat, b = j ∧ j < t.most.length := by
  obtain ⟨j, hj, _, hb, _⟩ := find_some (show 0 ≤ findAt b l 0 t.bids by omega)
  have := valid_bid hv hj
  unfold bidB at this
  simp only [Bool.and_eq_true] at this
  have h1 := inB_true.1 this.1.1
  exact ⟨b.toNat, by omega, by omega⟩
/-- The counts lie between 0 and k. -/
def CntOk (cnt : List Int) (k : Nat) : Prop := ∀ i, (h : i < cnt.length) → 0 ≤ cnt[i] ∧ cnt[i] ≤ k
theorem cnt_next {cnt : List Int} {k j : Nat} (h : CntOk cnt k) (hj : j < cnt.length) : CntOk (cnt.set j (cnt[j] + 1)) (k + 1) := fun i hi => by
  rw [List.length_set] at hi
  have h1 := h i hi
  have h2 := h j hj
  by_cases hij : j = i
  · subst hij; simp; omega
  · rw [List.getElem_set_ne hij]; omega

set_option maxHeartbeats 4000000 in
theorem specFault (g o : Nat) (t : Tender) (A0 : Option Addr) (xs : List Int) (c0 : Nat) (w : World) (h : PtTender w g o t) (hx : Rd w A0 xs) (hv : validTd t = true) (hl : (xs.length : Int) = t.lots) :
    Calls Try.prog 48 #[.pointer (some ⟨g, o, none⟩), .slice A0 xs.length c0] w fun e w' => e = .returned (.int .i64 (faultAt t (List.replicate t.most.length 0) 0 xs)) ∧ Below w.heap.size w w' := by
  have hb := valid_lots hv
  obtain ⟨F, hF⟩ : ∃ F, faultAt t (List.replicate t.most.length 0) 0 xs = F := ⟨_, rfl⟩
  rw [hF]
  have HF := hid hF
  clear hF
  have hp := h
  obtain ⟨A, c, B, d, ⟨e1, e2, e3⟩, hA, hB, hd⟩ := h
  have hn := hA.len
  clear hB
  go_enter Try.func48, Try.ntmps48
  go_wp2_with (at_make; refine wpList_make' elInt _ rfl _ _ rfl w.heap.size .i64 .i64 _ _ t.most.length rfl rfl rfl rfl hn (Nat.le_refl _) ?_; intro w1 hown hb1)
  go_loopw [6] (fun i wr => ∃ (k : Nat) (cnt : List Int), k ≤ xs.length ∧ i = .int .i64 k ∧ cnt.length = t.most.length ∧ CntOk cnt k ∧ faultAt t cnt k (xs.drop k) = F ∧ Own wr w.heap.size 2 (.slice (some ⟨w.heap.size, 0, none⟩) t.most.length t.most.length) cnt ∧ Below w.heap.size w wr) (fun i _ => xs.length - (intOf i).toNat)
  case atStart => exact ⟨0, _, Nat.zero_le _, rfl, by simp, fun i hi => by simp, HF.out, hown, hb1⟩
  case round =>
    obtain ⟨k, cnt, hk, rfl, hcl, hcn, hv2, ho, hq⟩ := hrel
    have HQ := hid hq
    have HV := hid hv2
    have HO := hid ho
    have e1' := box_cell hq e1
    have e2' := box_cell hq e2
    have e3' := box_cell hq e3
    have hp' := hp.below hq
    have hx' := hx.below hq
    clear hown hb1 hv2 ho HF hp hx
    by_cases hlt : k < xs.length
    · obtain ⟨b, off, rfl, x1⟩ := hx'.int hlt
      have hs := fault_drop (t := t) (cnt := cnt) hlt
      rw [HV.out] at hs
      obtain ⟨A', c', B', d', ⟨f1, f2, f3⟩, -, hB', _⟩ := hp'
      rw [e3'] at f3
      injection f3 with f3
      injection f3 with f3a f3b f3c
      subst f3a f3c
      clear f1 f2 f3b hx' HV
      generalize xs[k] = bb at x1 hs
      obtain ⟨z, hz⟩ : ∃ z, findAt bb k 0 t.bids = z := ⟨_, rfl⟩
      rw [hz] at hs
      by_cases h1 : z < 0
      · rw [if_pos h1] at hs
        have HS := hid hs
        clear hs hA hq
        have HZ := hid hz
        clear hz
        go_wp2_with fail
        refine (specFind _ _ _ _ _ _ _ hB' rfl).mono ?_
        rintro e w2 ⟨rfl, rfl⟩
        rw [HZ.out]
        clear hB'
        go_wp2_with fail
        go_ret
        exact ⟨ret_int HS.out.symm, HQ.out⟩
      · rw [if_neg h1] at hs
        obtain ⟨j, rfl, hjm⟩ := find_bidder hv (by rw [hz]; exact h1)
        have hjc : j < cnt.length := by omega
        rw [at_get hjm, at_get hjc] at hs
        have hcj := hcn j hjc
        obtain ⟨gg, hgg, _, _⟩ := HO.out.addr hjc
        obtain ⟨d1, d2⟩ := HO.out.int hjc
        have ho3 := hid (HO.out.intSet hjc (cnt[j] + 1))
        obtain ⟨mb, moff, rfl, m0⟩ := hA.int hjm
        have hmb : mb < w.heap.size := block_lt (by rw [m0]; rfl)
        have m1 := box_cell hq m0
        have hcn3 := cnt_next hcn hjc
        have hcl3 : (cnt.set j (cnt[j] + 1)).length = t.most.length := by rw [List.length_set]; exact hcl
        have HZ := hid hz
        have hqs := HQ.out.setCell (p := ⟨w.heap.size, j, none⟩) (Nat.le_refl _) (.int .i64 (cnt[j] + 1))
        have HQS := hid hqs
        have hlc : (j : Int) < t.most.length := by omega
        have hne : mb ≠ w.heap.size := by omega
        have hgb : g < w.heap.size := block_lt (by rw [e1]; rfl)
        have hgn : g ≠ w.heap.size := by omega
        clear hz hA hgg m0 hqs
        go_wp2_with fail
        refine (specFind _ _ _ _ _ _ _ hB' rfl).mono ?_
        rintro e w2 ⟨rfl, rfl⟩
        rw [HZ.out]
        clear hB'
        by_cases h2 : t.most[j] < cnt[j] + 1
        · rw [if_pos h2] at hs
          have HS := hid hs
          clear hs
          have h2' : decide (t.most[j] < cnt[j] + 1) = true := decide_eq_true h2
          go_wp2_with fail
          go_quiet (fail)
          go_wp2_with fail
          go_ret
          exact ⟨ret_int HS.out.symm, HQS.out.drewN _⟩
        · rw [if_neg h2] at hs
          have HS := hid hs
          clear hs
          have h2' : decide (t.most[j] < cnt[j] + 1) = false := decide_eq_false h2
          go_wp2_with fail
          go_quiet (fail)
          go_wp2_with fail
          go_roundw
          case rel => exact ⟨k + 1, _, by omega, by go_num, hcl3, hcn3, HS.out.symm, ho3.out, HQS.out.drewN _⟩
          case measure => simp [intOf]; omega
    · have ht : xs.drop k = [] := List.drop_of_length_le (by omega)
      have HS : Hid (-1 = F) := by have := HV.out; rw [ht] at this; exact this
      clear hp' hx' hA hq HV ht
      go_wp2_with fail
      go_ret
      exact ⟨ret_int HS.out, HQ.out⟩

set_option maxHeartbeats 4000000 in
theorem implFault (v : Value) (t : Tender) (A0 : Option Addr) (xs : List Int) (c0 : Nat) (w : World) (h : RdTender w v t) (hx : Rd w A0 xs) (hv : validTd t = true) (hl : (xs.length : Int) = t.lots) :
    Calls Try.prog 50 #[v, .slice A0 xs.length c0] w fun e w' => e = .returned (.int .i64 (faultAt t (List.replicate t.most.length 0) 0 xs)) ∧ Below w.heap.size w w' := by
  have hb := valid_lots hv
  obtain ⟨F, hF⟩ : ∃ F, faultAt t (List.replicate t.most.length 0) 0 xs = F := ⟨_, rfl⟩
  rw [hF]
  have HF := hid hF
  clear hF
  obtain ⟨A, c, B, d, rfl, hA, hB, hd⟩ := h
  have hn := hA.len
  have hb0 : ∀ o, Below w.heap.size w (w.alloc o) := fun o => (Below.refl w.heap.size w).alloc (Nat.le_refl _) o
  obtain ⟨w0, hw0⟩ : ∃ x, w.alloc (.cells #[.int .i64 t.lots, .slice A t.most.length c, .slice B t.bids.length d] 30) = x := ⟨_, rfl⟩
  have hbw : Below w.heap.size w w0 := by rw [← hw0]; exact hb0 _
  have k1 : w0.cell? ⟨w.heap.size, 1, none⟩ = some (.slice A t.most.length c) := by rw [← hw0]; simp [go_sem]
  have k2 : w0.cell? ⟨w.heap.size, 2, none⟩ = some (.slice B t.bids.length d) := by rw [← hw0]; simp [go_sem]
  have hlt0 : w.heap.size < w0.heap.size := by rw [← hw0]; simp
  have hA0 := hA.below hbw
  have hB0 := hB.below hbw
  have hx0 := hx.below hbw
  have HB0 := hid hbw
  have HW := hid hw0
  clear hw0 hb0 hbw hA hB hx
  go_enter Try.func50, Try.ntmps50
  go_upto_region 1 with fail
  rw [HW.out]
  clear HW
  go_wp2_with (at_make; refine wpList_make' elInt _ rfl _ _ rfl w0.heap.size .i64 .i64 _ _ t.most.length rfl rfl rfl rfl hn (Nat.le_refl _) ?_; intro w1 hown hb1)
  go_loopw [14] (fun i wr => ∃ (k : Nat) (cnt : List Int), k ≤ xs.length ∧ i = .int .i64 k ∧ cnt.length = t.most.length ∧ CntOk cnt k ∧ faultAt t cnt k (xs.drop k) = F ∧ Own wr w0.heap.size 2 (.slice (some ⟨w0.heap.size, 0, none⟩) t.most.length t.most.length) cnt ∧ Below w0.heap.size w0 wr) (fun i _ => xs.length - (intOf i).toNat)
  case atStart => exact ⟨0, _, Nat.zero_le _, rfl, by simp, fun i hi => by simp, HF.out, hown, hb1⟩
  case round =>
    obtain ⟨k, cnt, hk, rfl, hcl, hcn, hv2, ho, hq⟩ := hrel
    have HQ := hid (HB0.out.trans (hq.mono HB0.out.size))
    have HV := hid hv2
    have e2 := box_cell hq k1
    have e3 := box_cell hq k2
    have hB' := hB0.below hq
    have hx' := hx0.below hq
    clear hown hb1 hv2 HF hB0 hx0
    by_cases hlt : k < xs.length
    · obtain ⟨b, off, rfl, x1⟩ := hx'.int hlt
      have hs := fault_drop (t := t) (cnt := cnt) hlt
      rw [HV.out] at hs
      clear hx' HV
      generalize xs[k] = bb at x1 hs
      obtain ⟨z, hz⟩ : ∃ z, findAt bb k 0 t.bids = z := ⟨_, rfl⟩
      rw [hz] at hs
      have HZ := hid hz
      have HO := hid ho
      have HK := hid hq
      have HS0 := hid hs
      clear hz ho hs hq
      go_wp2_with fail
      refine (implFind _ _ _ _ bb (k : Int) _ hB' rfl).mono ?_
      rintro e w2 ⟨rfl, hb2⟩
      rw [HZ.out]
      have HQ2 := hid (HQ.out.trans (hb2.mono HQ.out.size))
      have hq2 := HK.out.trans (hb2.mono HK.out.size)
      have HK2 := hid hq2
      have e2' := box_cell hq2 k1
      have ho2 := HO.out.below hb2
      clear hB' k1 k2 e2 e3 HO hb2 HQ
      have hs := HS0.out
      clear HS0
      by_cases h1 : z < 0
      · rw [if_pos h1] at hs
        have HS := hid hs
        clear hs hA0 hq2 ho2
        go_wp2_with fail
        go_ret
        exact ⟨ret_int HS.out.symm, HQ2.out⟩
      · rw [if_neg h1] at hs
        obtain ⟨j, rfl, hjm⟩ := find_bidder hv (by rw [HZ.out]; exact h1)
        have hjc : j < cnt.length := by omega
        rw [at_get hjm, at_get hjc] at hs
        have hcj := hcn j hjc
        obtain ⟨d1, d2⟩ := ho2.int hjc
        have ho3 := hid (ho2.intSet hjc (cnt[j] + 1))
        obtain ⟨mb, moff, rfl, m0⟩ := hA0.int hjm
        have hmb : mb < w0.heap.size := block_lt (by rw [m0]; rfl)
        have m1 := box_cell hq2 m0
        have hcn3 := cnt_next hcn hjc
        have hcl3 : (cnt.set j (cnt[j] + 1)).length = t.most.length := by rw [List.length_set]; exact hcl
        have hqs := HK2.out.setCell (p := ⟨w0.heap.size, j, none⟩) (Nat.le_refl _) (.int .i64 (cnt[j] + 1))
        have HQS := hid hqs
        have hqw := HQ2.out.setCell (p := ⟨w0.heap.size, j, none⟩) (by simp only; omega) (.int .i64 (cnt[j] + 1))
        have HQW := hid hqw
        have hlc : (j : Int) < t.most.length := by omega
        have hne : mb ≠ w0.heap.size := by omega
        have hne2 : w.heap.size ≠ w0.heap.size := by omega
        clear m0 hqs hqw hA0 ho2 hq2
        by_cases h2 : t.most[j] < cnt[j] + 1
        · rw [if_pos h2] at hs
          have HS := hid hs
          clear hs
          have h2' : decide (t.most[j] < cnt[j] + 1) = true := decide_eq_true h2
          go_wp2_with fail
          go_quiet (fail)
          go_wp2_with fail
          go_ret
          exact ⟨ret_int HS.out.symm, HQW.out.drewN _⟩
        · rw [if_neg h2] at hs
          have HS := hid hs
          clear hs
          have h2' : decide (t.most[j] < cnt[j] + 1) = false := decide_eq_false h2
          go_wp2_with fail
          go_quiet (fail)
          go_wp2_with fail
          go_roundw
          case rel => exact ⟨k + 1, _, by omega, by go_num, hcl3, hcn3, HS.out.symm, ho3.out, HQS.out.drewN _⟩
          case measure => simp [intOf]; omega
    · have ht : xs.drop k = [] := List.drop_of_length_le (by omega)
      have HS : Hid (-1 = F) := by have := HV.out; rw [ht] at this; exact this
      clear hx' hA0 hq HV ht hB' ho
      go_wp2_with fail
      go_ret
      exact ⟨ret_int HS.out, HQ.out⟩
end Go.Proofs.Ytgkhjikkbjmadaa
