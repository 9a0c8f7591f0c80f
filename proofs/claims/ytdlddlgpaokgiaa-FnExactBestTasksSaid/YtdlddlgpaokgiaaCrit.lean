/- CriticalTasks: the walks. -/
import Derived.Test.YtdlddlgpaokgiaaLate
namespace Go.Proofs.Ytdlddlgpaokgiaa
open Go.RowKit
set_option linter.unusedVariables false
def whereTo (p : Nat → Bool) (n : Nat) : List Int := ((List.range n).filter p).map fun (i : Nat) => (i : Int)
theorem whereTo_next (p : Nat → Bool) (n : Nat) : whereTo p (n + 1) = if p n = true then whereTo p n ++ [(n : Int)] else whereTo p n := by
  unfold whereTo
  rw [List.range_succ, List.filter_append, List.map_append]
  cases h : p n <;> simp [h]
theorem whereTo_len (p : Nat → Bool) (n : Nat) : (whereTo p n).length ≤ n := by
  unfold whereTo
  rw [List.length_map]
  exact Nat.le_trans (List.length_filter_le _ _) (by simp)
set_option maxHeartbeats 1000000 in
theorem critClosure (k : Nat) (g1 g2 : Nat) (V1 V2 : Option Addr) (L1 L2 : List Int) (q1 q2 : Nat) (w : World) (n : Nat) (h1 : w.cell? ⟨g1, 0, none⟩ = some (.slice V1 n q1)) (h2 : w.cell? ⟨g2, 0, none⟩ = some (.slice V2 n q2)) (n1 : L1.length = n) (n2 : L2.length = n)
    (hr1 : Rd w V1 L1) (hr2 : Rd w V2 L2) (k1 : k < L1.length) (k2 : k < L2.length) :
    Calls Try.prog 46 #[.int .i64 (k : Int), .pointer (some ⟨g1, 0, none⟩), .pointer (some ⟨g2, 0, none⟩)] w fun e w' => e = .returned (.bool (L1.getD k 0 == L2.getD k 0)) ∧ Below w.heap.size w w' := by
  obtain ⟨a1, o1, rfl, c1⟩ := hr1.int k1
  obtain ⟨a2, o2, rfl, c2⟩ := hr2.int k2
  have HE : Hid ((L1.getD k 0 == L2.getD k 0) = (L1[k] == L2[k])) := by simp [Hid, k1, k2]
  have hk1 : (k : Int) < n := by omega
  have hl1 := hr1.len
  have hn1 : n ≤ 1048576 := by omega
  clear hr1 hr2 n1 n2 hl1
  go_enter Try.func46, Try.ntmps46
  go_wp2_with fail
  go_quiet (fail)
  go_wp2_with fail
  go_ret
  exact ⟨ret_bool HE.out.symm, (Below.refl _ _).drewN _⟩

set_option maxHeartbeats 1000000 in
theorem implWhere_Crit (q0 q1 : Value) (n : Nat) (p : Nat → Bool) (w : World) (hn : n ≤ 1048576)
    (hcl : ∀ k : Nat, k < n → ∀ w', Below w.heap.size w w' → Calls Try.prog 46 #[.int .i64 (k : Int), q0, q1] w' fun e w'' => e = .returned (.bool (p k)) ∧ Below w'.heap.size w' w'') :
    Calls Try.prog 45 #[.int .i64 n, .func (.func 46) #[] #[q0, q1]] w fun e w' => ∃ v, e = .returned v ∧ Own w' w.heap.size 2 v (whereTo p n) ∧ Below w.heap.size w w' := by
  go_enter Try.func45, Try.ntmps45
  go_wp2
  go_loopw [5, 6] (fun v i wr => ∃ k : Nat, k ≤ n ∧ i = .int .i64 k ∧ Own wr w.heap.size 2 v (whereTo p k) ∧ Below w.heap.size w wr) (fun _ i _ => n - (intOf i).toNat)
  case atStart => exact ⟨0, Nat.zero_le _, rfl, Own.empty (Nat.le_refl _), (Below.refl _ _).alloc (Nat.le_refl _) _⟩
  case round =>
    obtain ⟨k, hk, rfl, ho, hb⟩ := hrel
    obtain ⟨wo, rfl⟩ : ∃ wo : World, wo = wr := ⟨_, rfl⟩
    by_cases hlt : k < n
    · have hc := hcl k hlt wo hb
      have HN := hid (whereTo_next p k)
      have hwl := whereTo_len p k
      have HB := hid hb
      obtain ⟨V, vq, rfl⟩ := ho.form
      generalize whereTo p k = L at ho HN hwl
      have HO := hid ho
      clear hcl hb ho
      by_cases h1 : p k = true
      · have HN2 : Hid (whereTo p (k + 1) = L ++ [(k : Int)]) := by rw [HN.out, if_pos h1]; exact rfl
        go_wp2_with (first | (go_at_call 46; refine hc.mono ?_; rintro e w1 ⟨rfl, hb1⟩; rw [h1]; have HB1 := hid (HB.out.trans (hb1.mono HB.out.size)); have HO1 := hid (HO.out.below hb1); clear hb1) | (at_builtin; refine wpList_push elInt _ rfl (.tmp 16) (.tmp 18) rfl w.heap.size _ L (k : Int) rfl (HO1.out.alloc _) _ rfl (heap_alloc_new _ _) (by omega) (le_alloc HB1.out.size) ?_; intro v' w' hown' hg' hat'; have hbn := below_own (HB1.out.alloc HB1.out.size _) (HO1.out.alloc _) hg' (Nat.le_refl _) (le_alloc HB1.out.size); have HO2 := hid hown'; have HBN := hid hbn; clear hown' hg' hat' hbn))
        go_roundw
        case rel => exact ⟨k + 1, by omega, by go_num, by rw [HN2.out]; exact HO2.out, HBN.out⟩
        case measure => simp [intOf]; omega
      · have HN2 : Hid (whereTo p (k + 1) = L) := by rw [HN.out, if_neg h1]; exact rfl
        rw [Bool.not_eq_true] at h1
        go_wp2_with (go_at_call 46; refine hc.mono ?_; rintro e w1 ⟨rfl, hb1⟩; rw [h1]; have HB1 := hid (HB.out.trans (hb1.mono HB.out.size)); have HO1 := hid (HO.out.below hb1); clear hb1)
        go_roundw
        case rel => exact ⟨k + 1, by omega, by go_num, by rw [HN2.out]; exact HO1.out, HB1.out⟩
        case measure => simp [intOf]; omega
    · have hkl : Hid (k = n) := by show k = n; omega
      have HO := hid ho
      have HB := hid hb
      clear ho hcl hb
      go_wp2
      go_ret
      exact ⟨_, rfl, by rw [← hkl.out]; exact HO.out, HB.out⟩

def critP (t : List Task) (k : Nat) : Bool := (early t t.length).1.getD k 0 == (late t (early t t.length).2).getD k 0
def critF (t : List Task) : List Int := if validT t = true then whereTo (critP t) t.length else []
theorem critF_len (t : List Task) : (critF t).length ≤ 1048576 := by
  unfold critF
  split
  · rename_i h
    have := valid_len h
    have := whereTo_len (critP t) t.length
    omega
  · simp
set_option maxHeartbeats 400000 in
theorem sizeTasks (A : Option Addr) (n c : Nat) (w : World) (hn : n ≤ 1048576) : Calls Try.prog 37 #[.slice A n c] w fun e w' => e = .returned (.int .i64 n) ∧ w = w' := by
  go_enter Try.func37, Try.ntmps37
  go_wp2
  go_ret
  exact ⟨rfl, rfl⟩

set_option maxHeartbeats 2000000 in
theorem implCritical (v : Value) (t : List Task) (w : World) (h : RdTaskS w v t) :
    Calls Try.prog 20 #[v] w fun e w' => ∃ u, e = .returned (.tuple #[u, .int .i64 (codeV t)]) ∧ Own w' w.heap.size 2 u (critF t) ∧ Below w.heap.size w w' := by
  obtain ⟨A, c, rfl, hx⟩ := h
  by_cases hv : validT t = true
  · have HF : Hid (critF t = whereTo (critP t) t.length) := by unfold critF; rw [if_pos hv]; exact rfl
    have HC : Hid (codeV t = 0) := by unfold codeV; rw [if_pos hv]; exact rfl
    have h12 := valid_len hv
    have hE := eok_valid hv
    have hel := early_len (xs := t) (Nat.le_refl t.length)
    have hll := late_len t (early t t.length).2
    have HEL := hid hel
    have HLL := hid hll
    clear hel hll
    go_enter Try.func20, Try.ntmps20
    go_wp2_with fail
    refine (implValidTasks _ _ _ _ hx).mono ?_
    rintro e w1 ⟨rfl, hb⟩
    rw [hv]
    go_wp2_with fail
    refine (implStarts _ _ _ _ (hx.below hb) hE).mono ?_
    rintro e w2 ⟨u, rfl, ho, hb2⟩
    have HQ := hid (hb.trans (hb2.mono hb.size))
    have hx2 := hx.below HQ.out
    obtain ⟨V1, q1, hV1⟩ := ho.form
    rw [HEL.out] at hV1
    subst hV1
    have hr1 := ho.rd (by rw [HEL.out]; omega)
    have HR1 := hid hr1
    clear ho hb hb2 hr1 hx
    obtain ⟨w3, hw3⟩ : ∃ x, w2.alloc (.cells #[.slice V1 t.length q1] 23) = x := ⟨_, rfl⟩
    have hb3 : Below w2.heap.size w2 w3 := by rw [← hw3]; exact (Below.refl _ _).alloc (Nat.le_refl _) _
    have k1 : w3.cell? ⟨w2.heap.size, 0, none⟩ = some (.slice V1 t.length q1) := by rw [← hw3]; simp [go_sem]
    have HB3 := hid hb3
    have HQ3 := hid (HQ.out.trans (hb3.mono HQ.out.size))
    have HW := hid hw3
    have hx3 := hx2.below hb3
    clear hw3 hb3 hx2
    go_upto_region 4 with fail
    rw [HW.out]
    clear HW
    go_wp2_with fail
    refine (implLatest _ _ _ _ hx3 hE).mono ?_
    rintro e w4 ⟨u2, rfl, ho2, hb4⟩
    obtain ⟨V2, q2, hV2⟩ := ho2.form
    rw [HLL.out] at hV2
    subst hV2
    have hr2 := ho2.rd (by rw [HLL.out]; omega)
    have k1' := box_cell hb4 k1
    have HR2 := hid hr2
    have HR1' := hid (HR1.out.below (HB3.out.trans (hb4.mono HB3.out.size)))
    have HQ4 := hid (HQ3.out.trans (hb4.mono HQ3.out.size))
    obtain ⟨w5, hw5⟩ : ∃ x, w4.alloc (.cells #[.slice V2 t.length q2] 23) = x := ⟨_, rfl⟩
    have hb5 : Below w4.heap.size w4 w5 := by rw [← hw5]; exact (Below.refl _ _).alloc (Nat.le_refl _) _
    have k2 : w5.cell? ⟨w4.heap.size, 0, none⟩ = some (.slice V2 t.length q2) := by rw [← hw5]; simp [go_sem]
    have k1'' := box_cell hb5 k1'
    have HR1'' := hid (HR1'.out.below hb5)
    have HR2'' := hid (HR2.out.below hb5)
    have HQ5 := hid (HQ4.out.trans (hb5.mono HQ4.out.size))
    have HW := hid hw5
    clear hw5 hb5 hb4 hx3 hr2 ho2 k1 k1'
    go_upto_region 5 with fail
    rw [HW.out]
    clear HW HR1 HR2 HR1' HB3
    have hmf : ∀ (fn : Fn) (first cap : Array Value) (w : World), (Instr.makeFunc fn first cap).run Try.prog w = .ok (.func fn first cap) w := fun _ _ _ _ => rfl
    have hn20 : t.length ≤ 1048576 := by omega
    have HK1 := hid k1''
    have HK2 := hid k2
    clear k1'' k2
    go_wp2_with (go_at_call 37; refine (sizeTasks _ _ _ _ hn20).mono ?_; rintro e w' ⟨rfl, rfl⟩)
    refine (implWhere_Crit _ _ t.length (critP t) _ hn20 fun k hk w' hb' => ?_).mono ?_
    · exact critClosure k _ _ V1 V2 (early t t.length).1 (late t (early t t.length).2) q1 q2 w' t.length (box_cell hb' HK1.out) (box_cell hb' HK2.out) HEL.out HLL.out (HR1''.out.below hb') (HR2''.out.below hb') (by rw [HEL.out]; exact hk) (by rw [HLL.out]; exact hk)
    · rintro e w6 ⟨u3, rfl, ho3, hb6⟩
      have HO := hid (ho3.mono HQ5.out.size)
      have HQ6 := hid (HQ5.out.trans (hb6.mono HQ5.out.size))
      clear ho3 hb6 hmf
      go_wp2_with fail
      go_ret2
      exact ⟨u3, by rw [HC.out]; rfl, by rw [HF.out]; exact HO.out, HQ6.out⟩
  · have HF : Hid (critF t = []) := by unfold critF; rw [if_neg hv]; exact rfl
    have HC : Hid (codeV t = 1) := by unfold codeV; rw [if_neg hv]; exact rfl
    rw [Bool.not_eq_true] at hv
    go_enter Try.func20, Try.ntmps20
    go_wp2_with fail
    refine (implValidTasks _ _ _ _ hx).mono ?_
    rintro e w1 ⟨rfl, hb⟩
    rw [hv]
    go_wp2_with fail
    go_ret2
    exact ⟨_, by rw [HC.out]; rfl, by rw [HF.out]; exact Own.empty hb.size, hb.alloc hb.size _⟩


end Go.Proofs.Ytdlddlgpaokgiaa
