/- Ponded water and the best outlet: the walks. -/
import Derived.Test.YtpinpkpjehbfmaaOutlets
import Derived.Test.YtpinpkpjehbfmaaDepths
namespace Go.Proofs.Ytpinpkpjehbfmaa
open Go.RowKit
set_option linter.unusedVariables false

/-! plain -/
theorem sum_le_take {xs ys : List Int} (hl : xs.length = ys.length) (h : ∀ k, (h1 : k < xs.length) → (h2 : k < ys.length) → ys[k] ≤ xs[k]) : ∀ k, k ≤ xs.length → sumL (ys.take k) ≤ sumL (xs.take k)
  | 0, _ => by simp
  | k + 1, hk => by
    have h1 := sum_le_take hl h k (by omega)
    have h2 := h k (by omega) (by omega)
    rw [sumL_next (show k < xs.length by omega), sumL_next (show k < ys.length by omega)]
    omega
theorem sum_le {xs ys : List Int} (hl : xs.length = ys.length) (h : ∀ k, (h1 : k < xs.length) → (h2 : k < ys.length) → ys[k] ≤ xs[k]) : sumL ys ≤ sumL xs := by
  have h1 := sum_le_take hl h xs.length (Nat.le_refl _)
  rw [List.take_length, hl, List.take_length] at h1
  exact h1
theorem sum_bound {xs : List Int} (h : ∀ x ∈ xs, -4000 ≤ x ∧ x ≤ 4000) (hl : xs.length ≤ 1000) : -4000000 ≤ sumL xs ∧ sumL xs ≤ 4000000 := by
  have h1 := sumL_bound h xs.length (Nat.le_refl _)
  rw [List.take_length] at h1
  omega
theorem from_known {t : Land} : ∀ (cs : List Int) {s : Sp}, s.known.length = t.heights.length → (∀ c ∈ cs, 0 ≤ c ∧ c < t.heights.length) → (∀ x : Int, 0 ≤ x → seenAt s.known x = true → seenAt (cs.foldl (spFrom t) s).known x = true) ∧ (∀ c ∈ cs, seenAt (cs.foldl (spFrom t) s).known c = true)
  | [], s, _, _ => ⟨fun _ _ h => h, by simp⟩
  | c :: cs, s, hl, hc => by
    obtain ⟨c0, c1⟩ := hc c (by simp)
    have hk : c < s.known.length := by rw [hl]; exact c1
    obtain ⟨h1, h2⟩ := from_known cs (s := spFrom t s c) (by simpa [spFrom] using hl) fun x hx => hc x (by simp [hx])
    rw [List.foldl_cons]
    refine ⟨fun x hx hs => h1 x hx (by simp only [spFrom]; exact seenAt_set' c0 hk hx hs), fun x hx => ?_⟩
    rcases List.mem_cons.1 hx with rfl | hx
    · exact h1 x c0 (by simp only [spFrom]; rw [seenAt_set c0 hk c0, if_pos rfl])
    · exact h2 x hx
theorem round_known {t : Land} (ht : LOk t) {s : Sp} (h : SInv t s) {b : Int} (hb : b = pick s t.heights.length) (hp : ¬ b < 0) : ∀ x : Int, 0 ≤ x → seenAt s.known x = true → seenAt (spRound t s b).known x = true := by
  obtain ⟨b0, b1, hm⟩ := h.mid hb hp
  exact (SMid.fold ht b0 b1 (near t b) hm (near_ok ht b0 b1)).2.2
theorem spread_known {t : Land} (ht : LOk t) : ∀ (f : Nat) {s : Sp}, SInv t s → ∀ x : Int, 0 ≤ x → seenAt s.known x = true → seenAt (spread t f s).known x = true
  | 0, _, _ => fun _ _ h => h
  | f + 1, s, h => fun x hx hs => by
    by_cases hp : pick s t.heights.length < 0
    · rw [spread_stop hp]; exact hs
    · rw [spread_step hp]
      exact spread_known ht f (h.round ht rfl hp) x hx (round_known ht h rfl hp x hx hs)
theorem surf_known {t : Land} (ht : LOk t) {cs : List Int} (hc : ∀ c ∈ cs, 0 ≤ c ∧ c < t.heights.length) (hp : 0 < cs.length) : ∀ c : Int, 0 ≤ c → c < t.heights.length → seenAt (surf t cs).known c = true := by
  have hs0 := (start_inv ht cs (spInit_inv t) (fun x => seen_rep0 _ _) hc).1
  have hinv := surf_inv ht hc
  have hend : pick (surf t cs) t.heights.length < 0 := spread_end ht _ hs0 (by omega)
  have hopen : ∀ c : Int, 0 ≤ c → c < t.heights.length → openAt (surf t cs) c = false := by
    rcases pick_spec (surf t cs) t.heights.length with ⟨_, h2⟩ | ⟨h1, _⟩
    · intro c h0 h1
      have := h2 c.toNat (by omega)
      rwa [show ((c.toNat : Nat) : Int) = c by omega] at this
    · omega
  obtain ⟨c0, hc0⟩ := List.exists_mem_of_length_pos hp
  obtain ⟨a, b⟩ := hc c0 hc0
  have hk0 := spread_known ht (t.heights.length + 1) hs0 c0 a ((from_known cs (s := spInit t) (by simp [spInit]) hc).2 c0 hc0)
  exact all_cells ht (fun c => seenAt (surf t cs).known c = true) a b hk0 fun c h0 h1 hk x hx => by
    have ho := hopen c h0 h1
    unfold openAt at ho
    rw [hk] at ho
    simp at ho
    exact hinv.nbr c h0 h1 ho x hx
def pondV (t : Land) (cs : List Int) : Int := sumL (surf t cs).out - sumL t.heights
theorem out_range {t : Land} {s : Sp} (h : SOk t s) : ∀ x ∈ s.out, -4000 ≤ x ∧ x ≤ 4000 := by
  intro x hx
  obtain ⟨k, hk, rfl⟩ := List.mem_iff_getElem.1 hx
  have h1 := h.rng k (by omega) (by rw [← h.lo]; omega)
  rw [outAt_eq hk] at h1
  omega
theorem heights_range {t : Land} (ht : LOk t) : ∀ x ∈ t.heights, -4000 ≤ x ∧ x ≤ 4000 := fun x hx => by have := ht.h x hx; omega
theorem pond_bound {t : Land} (ht : LOk t) {cs : List Int} (hc : ∀ c ∈ cs, 0 ≤ c ∧ c < t.heights.length) : -8000000 ≤ pondV t cs ∧ pondV t cs ≤ 8000000 := by
  have hi := surf_inv ht hc
  have hle := ht.le
  have h1 := sum_bound (out_range hi.toSOk) (by rw [hi.lo]; omega)
  have h2 := sum_bound (heights_range ht) (by omega)
  unfold pondV
  omega
theorem pond_pos {t : Land} (ht : LOk t) {cs : List Int} (hc : ∀ c ∈ cs, 0 ≤ c ∧ c < t.heights.length) (hp : 0 < cs.length) : 0 ≤ pondV t cs := by
  have hi := surf_inv ht hc
  have hk := surf_known ht hc hp
  have h1 := sum_le (xs := (surf t cs).out) (ys := t.heights) hi.lo fun k h1 h2 => by
    have h3 := hi.ge k (by omega) (by omega) (hk k (by omega) (by omega))
    rw [hAt_eq h2, outAt_eq h1] at h3
    exact h3
  unfold pondV
  omega

set_option maxHeartbeats 4000000 in
theorem specPonded (g o : Nat) (t : Land) (ht : LOk t) (A1 : Option Addr) (cs : List Int) (c1 : Nat) (w : World) (h : PtLand w g o t) (hx : Rd w A1 cs) (hc : ∀ c ∈ cs, 0 ≤ c ∧ c < t.heights.length) :
    Calls Try.prog 56 #[.pointer (some ⟨g, o, none⟩), .slice A1 cs.length c1] w fun e w' => e = .returned (.int .i64 (pondV t cs)) ∧ Below w.heap.size w w' := by
  have hle := ht.le
  have HPT := hid h
  have HX := hid hx
  have hn20 : t.heights.length ≤ 1048576 := by omega
  have hi := surf_inv ht hc
  have HLN : Hid ((surf t cs).out.length ≤ 1000) := by show _ ≤ _; rw [hi.lo]; omega
  have HRG := hid (out_range hi.toSOk)
  have HRGH := hid (heights_range ht)
  have HLH : Hid (t.heights.length ≤ 1000) := by show _ ≤ _; omega
  have hs1 := sum_bound HRG.out HLN.out
  have hs2 := sum_bound HRGH.out HLH.out
  have HPV : Hid (pondV t cs = sumL (surf t cs).out - sumL t.heights) := rfl
  have hol : (surf t cs).out.length ≤ 1048576 := by rw [hi.lo]; omega
  have hcc := hid hc
  clear h hx hi hc
  go_enter Try.func56, Try.ntmps56
  go_wp2_with fail
  refine (specSurfaces _ _ t ht _ cs _ _ HPT.out HX.out hcc.out).mono ?_
  rintro e w2 ⟨u, v, rfl, ho1, ho2, hb⟩
  obtain ⟨V, vq, rfl⟩ := ho1.form
  have HR := hid (ho1.rd hol)
  have HB2 := hid hb
  obtain ⟨A, q, ⟨_, _, eH⟩, hA⟩ := HPT.out.below hb
  have HRH := hid hA
  clear ho1 ho2 hb hA
  generalize (surf t cs).out = L at *
  go_wp2_with fail
  refine wp_region_more (by kernel_rfl) (by kernel_rfl) ?_
  repeat (go_big_quiet_step ((go_at_call 63; first | exact quiet_same (specSum _ _ _ _ HR.out.more HLN.out HRG.out) | exact quiet_same (specSum _ _ _ _ HRH.out.more HLH.out HRGH.out))))
  refine wpQuiet_nil ?_
  rintro _ ⟨nq, rfl⟩
  go_wp2_with fail
  go_ret
  exact ⟨ret_int (by rw [HPV.out]), HB2.out.trans (more_below.mono HB2.out.size)⟩
set_option maxHeartbeats 4000000 in
theorem implPonded (v : Value) (t : Land) (ht : LOk t) (A1 : Option Addr) (cs : List Int) (c1 : Nat) (w : World) (h : RdLand w v t) (hx : Rd w A1 cs) (hc : ∀ c ∈ cs, 0 ≤ c ∧ c < t.heights.length) :
    Calls Try.prog 57 #[v, .slice A1 cs.length c1] w fun e w' => e = .returned (.int .i64 (pondV t cs)) ∧ Below w.heap.size w w' := by
  have hle := ht.le
  obtain ⟨A, q, rfl, hA⟩ := h
  have hn20 := hA.len
  obtain ⟨w0, hw0⟩ : ∃ x, w.alloc (.cells #[.int .i64 t.rows, .int .i64 t.columns, .slice A t.heights.length q] 28) = x := ⟨_, rfl⟩
  have hbw0 : Below w.heap.size w w0 := by rw [← hw0]; exact (Below.refl _ _).alloc (Nat.le_refl _) _
  have kR : w0.cell? ⟨w.heap.size, 0, none⟩ = some (.int .i64 t.rows) := by rw [← hw0]; simp [go_sem]
  have kC : w0.cell? ⟨w.heap.size, 1, none⟩ = some (.int .i64 t.columns) := by rw [← hw0]; simp [go_sem]
  have kH : w0.cell? ⟨w.heap.size, 2, none⟩ = some (.slice A t.heights.length q) := by rw [← hw0]; simp [go_sem]
  have HA0 := hid (hA.below hbw0)
  have HBW := hid hbw0
  have HW := hid hw0
  have HPT : Hid (RdLand w0 (.agg #[.int .i64 t.rows, .int .i64 t.columns, .slice A t.heights.length q]) t) := ⟨A, q, rfl, HA0.out⟩
  have HPP : Hid (PtLand w0 w.heap.size 0 t) := ⟨A, q, ⟨kR, kC, kH⟩, HA0.out⟩
  have hi := surf_inv ht hc
  have HLN : Hid ((surf t cs).out.length ≤ 1000) := by show _ ≤ _; rw [hi.lo]; omega
  have HRG := hid (out_range hi.toSOk)
  have HRGH := hid (heights_range ht)
  have HLH : Hid (t.heights.length ≤ 1000) := by show _ ≤ _; omega
  have hs1 := sum_bound HRG.out HLN.out
  have hs2 := sum_bound HRGH.out HLH.out
  have HPV : Hid (pondV t cs = sumL (surf t cs).out - sumL t.heights) := rfl
  have hol : (surf t cs).out.length ≤ 1048576 := by rw [hi.lo]; omega
  have HX := hid (hx.below hbw0)
  have hcc := hid hc
  clear hA hbw0 hw0 hx hi hc
  go_enter Try.func57, Try.ntmps57
  go_upto_region 1 with fail
  rw [HW.out]
  clear HW
  go_wp2_with fail
  refine (implSpread _ t ht _ cs _ _ HPT.out HX.out hcc.out).mono ?_
  rintro e w2 ⟨u, v, rfl, ho1, ho2, hb⟩
  obtain ⟨V, vq, rfl⟩ := ho1.form
  have HR := hid (ho1.rd hol)
  have HB2 := hid (HBW.out.trans (hb.mono HBW.out.size))
  have e3 := box_cell hb kH
  have HRH := hid (HA0.out.below hb)
  clear ho1 ho2 hb kR kC kH
  generalize (surf t cs).out = L at *
  go_wp2_with fail
  refine wp_region_more (by kernel_rfl) (by kernel_rfl) ?_
  repeat (go_big_quiet_step ((go_at_call 66; first | exact quiet_same (implSum _ _ _ _ HR.out.more HLN.out HRG.out) | exact quiet_same (implSum _ _ _ _ HRH.out.more HLH.out HRGH.out))))
  refine wpQuiet_nil ?_
  rintro _ ⟨nq, rfl⟩
  go_wp2_with fail
  go_ret
  exact ⟨ret_int (by rw [HPV.out]), HB2.out.trans (more_below.mono HB2.out.size)⟩
def pondF (t : Land) (cs : List Int) : Int × Int := if codeOut t cs = 0 then (pondV t cs, 0) else (0, codeOut t cs)
set_option maxHeartbeats 4000000 in
theorem specPondedVolume (v : Value) (t : Land) (A1 : Option Addr) (cs : List Int) (c1 : Nat) (w : World) (h : RdLand w v t) (hx : Rd w A1 cs) :
    Calls Try.prog 42 #[v, .slice A1 cs.length c1] w fun e w' => e = .returned (.tuple #[.int .i64 (pondF t cs).1, .int .i64 (pondF t cs).2]) ∧ Below w.heap.size w w' := by
  obtain ⟨A, q, rfl, hA⟩ := h
  have hn20 := hA.len
  obtain ⟨w0, hw0⟩ : ∃ x, w.alloc (.cells #[.int .i64 t.rows, .int .i64 t.columns, .slice A t.heights.length q] 28) = x := ⟨_, rfl⟩
  have hbw0 : Below w.heap.size w w0 := by rw [← hw0]; exact (Below.refl _ _).alloc (Nat.le_refl _) _
  have kR : w0.cell? ⟨w.heap.size, 0, none⟩ = some (.int .i64 t.rows) := by rw [← hw0]; simp [go_sem]
  have kC : w0.cell? ⟨w.heap.size, 1, none⟩ = some (.int .i64 t.columns) := by rw [← hw0]; simp [go_sem]
  have kH : w0.cell? ⟨w.heap.size, 2, none⟩ = some (.slice A t.heights.length q) := by rw [← hw0]; simp [go_sem]
  have HA0 := hid (hA.below hbw0)
  have HBW := hid hbw0
  have HW := hid hw0
  have HPT : Hid (RdLand w0 (.agg #[.int .i64 t.rows, .int .i64 t.columns, .slice A t.heights.length q]) t) := ⟨A, q, rfl, HA0.out⟩
  have HPP : Hid (PtLand w0 w.heap.size 0 t) := ⟨A, q, ⟨kR, kC, kH⟩, HA0.out⟩
  have HX := hid (hx.below hbw0)
  clear hA hbw0 hw0 hx
  by_cases hv : validL t = true
  · by_cases ho : outOk t cs = true
    · have ht := lok hv
      have hcd : codeOut t cs = 0 := by unfold codeOut; rw [if_pos hv, if_pos ho]
      have HF : Hid (pondF t cs = (pondV t cs, 0)) := by show _ = _; unfold pondF; rw [if_pos hcd]
      have HC := hid hcd
      have HIN := hid (outOk_in ho)
      clear hcd
      go_enter Try.func42, Try.ntmps42
      go_upto_region 1 with fail
      rw [HW.out]
      clear HW
      go_wp2_with fail
      refine (specLandOk _ _ _ _ HPP.out).mono ?_
      rintro e w1 ⟨rfl, hb⟩
      rw [hv]
      have HB1 := hid (HBW.out.trans (hb.mono HBW.out.size))
      have HP1 := hid (HPP.out.below hb)
      have HX1 := hid (HX.out.below hb)
      clear hb kR kC kH
      go_wp2_with fail
      refine (specOutlets _ _ t _ _ _ _ HP1.out HX1.out).mono ?_
      rintro e w2 ⟨rfl, hb⟩
      rw [ho]
      have HB2 := hid (HB1.out.trans (hb.mono HB1.out.size))
      have HP2 := hid (HP1.out.below hb)
      have HX2 := hid (HX1.out.below hb)
      clear hb
      go_wp2_with fail
      refine (specPonded _ _ t ht _ cs _ _ HP2.out HX2.out HIN.out).mono ?_
      rintro e w3 ⟨rfl, hb⟩
      have HB3 := hid (HB2.out.trans (hb.mono HB2.out.size))
      clear hb
      generalize pondV t cs = z at HF ⊢
      go_wp2_with fail
      go_ret2
      exact ⟨ret_two HF.out, HB3.out⟩
    · have hcd : codeOut t cs = 2 := by unfold codeOut; rw [if_pos hv, if_neg ho]
      have HF : Hid (pondF t cs = (0, 2)) := by show _ = _; unfold pondF; rw [hcd]; rfl
      have HC := hid hcd
      rw [Bool.not_eq_true] at ho
      clear hcd
      go_enter Try.func42, Try.ntmps42
      go_upto_region 1 with fail
      rw [HW.out]
      clear HW
      go_wp2_with fail
      refine (specLandOk _ _ _ _ HPP.out).mono ?_
      rintro e w1 ⟨rfl, hb⟩
      rw [hv]
      have HB1 := hid (HBW.out.trans (hb.mono HBW.out.size))
      have HP1 := hid (HPP.out.below hb)
      have HX1 := hid (HX.out.below hb)
      clear hb kR kC kH
      go_wp2_with fail
      refine (specOutlets _ _ t _ _ _ _ HP1.out HX1.out).mono ?_
      rintro e w2 ⟨rfl, hb⟩
      rw [ho]
      have HB2 := hid (HB1.out.trans (hb.mono HB1.out.size))
      clear hb
      go_wp2_with fail
      go_ret2
      exact ⟨ret_two HF.out, HB2.out⟩
  · have hcd : codeOut t cs = 1 := by unfold codeOut; rw [if_neg hv]
    have HF : Hid (pondF t cs = (0, 1)) := by show _ = _; unfold pondF; rw [hcd]; rfl
    have HC := hid hcd
    rw [Bool.not_eq_true] at hv
    clear hcd
    go_enter Try.func42, Try.ntmps42
    go_upto_region 1 with fail
    rw [HW.out]
    clear HW
    go_wp2_with fail
    refine (specLandOk _ _ _ _ HPP.out).mono ?_
    rintro e w1 ⟨rfl, hb⟩
    rw [hv]
    have HB1 := hid (HBW.out.trans (hb.mono HBW.out.size))
    clear hb kR kC kH
    go_wp2_with fail
    go_ret2
    exact ⟨ret_two HF.out, HB1.out⟩
set_option maxHeartbeats 4000000 in
theorem implPondedVolume (v : Value) (t : Land) (A1 : Option Addr) (cs : List Int) (c1 : Nat) (w : World) (h : RdLand w v t) (hx : Rd w A1 cs) :
    Calls Try.prog 43 #[v, .slice A1 cs.length c1] w fun e w' => e = .returned (.tuple #[.int .i64 (pondF t cs).1, .int .i64 (pondF t cs).2]) ∧ Below w.heap.size w w' := by
  obtain ⟨A, q, rfl, hA⟩ := h
  have hn20 := hA.len
  obtain ⟨w0, hw0⟩ : ∃ x, w.alloc (.cells #[.int .i64 t.rows, .int .i64 t.columns, .slice A t.heights.length q] 28) = x := ⟨_, rfl⟩
  have hbw0 : Below w.heap.size w w0 := by rw [← hw0]; exact (Below.refl _ _).alloc (Nat.le_refl _) _
  have kR : w0.cell? ⟨w.heap.size, 0, none⟩ = some (.int .i64 t.rows) := by rw [← hw0]; simp [go_sem]
  have kC : w0.cell? ⟨w.heap.size, 1, none⟩ = some (.int .i64 t.columns) := by rw [← hw0]; simp [go_sem]
  have kH : w0.cell? ⟨w.heap.size, 2, none⟩ = some (.slice A t.heights.length q) := by rw [← hw0]; simp [go_sem]
  have HA0 := hid (hA.below hbw0)
  have HBW := hid hbw0
  have HW := hid hw0
  have HPT : Hid (RdLand w0 (.agg #[.int .i64 t.rows, .int .i64 t.columns, .slice A t.heights.length q]) t) := ⟨A, q, rfl, HA0.out⟩
  have HPP : Hid (PtLand w0 w.heap.size 0 t) := ⟨A, q, ⟨kR, kC, kH⟩, HA0.out⟩
  have HX := hid (hx.below hbw0)
  clear hA hbw0 hw0 hx
  by_cases h1 : codeOut t cs = 0
  · obtain ⟨ht, ho⟩ := codeOut_ok h1
    have HF : Hid (pondF t cs = (pondV t cs, 0)) := by show _ = _; unfold pondF; rw [if_pos h1]
    have HC := hid h1
    have HIN := hid (outOk_in ho)
    clear h1 ho
    go_enter Try.func43, Try.ntmps43
    go_upto_region 1 with fail
    rw [HW.out]
    clear HW
    go_wp2_with fail
    refine (implOutlets _ t _ _ _ _ HPT.out HX.out).mono ?_
    rintro e w1 ⟨rfl, hb⟩
    rw [HC.out]
    have HB1 := hid (HBW.out.trans (hb.mono HBW.out.size))
    have HT1 := hid (HPT.out.below hb)
    have HX1 := hid (HX.out.below hb)
    have e1 := box_cell hb kR
    have e2 := box_cell hb kC
    have e3 := box_cell hb kH
    clear hb kR kC kH
    go_wp2_with fail
    refine (implPonded _ t ht _ cs _ _ HT1.out HX1.out HIN.out).mono ?_
    rintro e w2 ⟨rfl, hb⟩
    have HB2 := hid (HB1.out.trans (hb.mono HB1.out.size))
    clear hb
    generalize pondV t cs = z at HF ⊢
    go_wp2_with fail
    go_ret2
    exact ⟨ret_two HF.out, HB2.out⟩
  · have HF : Hid (pondF t cs = (0, codeOut t cs)) := by show _ = _; unfold pondF; rw [if_neg h1]
    have h1' : (codeOut t cs != 0) = true := by simp [h1]
    have H1 := hid h1'
    clear h1'
    go_enter Try.func43, Try.ntmps43
    go_upto_region 1 with fail
    rw [HW.out]
    clear HW
    go_wp2_with fail
    refine (implOutlets _ t _ _ _ _ HPT.out HX.out).mono ?_
    rintro e w1 ⟨rfl, hb⟩
    have HB1 := hid (HBW.out.trans (hb.mono HBW.out.size))
    have h1' := H1.out
    clear hb kR kC kH H1
    generalize hz : codeOut t cs = z at h1 h1' ⊢
    have HZ := hid hz
    clear hz
    go_wp2_with fail
    go_ret2
    exact ⟨ret_two (by rw [HF.out, HZ.out]), HB1.out⟩
end Go.Proofs.Ytpinpkpjehbfmaa
