/- The cells next to a cell: the other walk. -/
import Derived.Test.YtpinpkpjehbfmaaNear
import Derived.Deep.CutBlock
namespace Go.Proofs.Ytpinpkpjehbfmaa
open Go.RowKit
set_option linter.unusedVariables false
def stepR : Nat → Int
  | 0 => -1
  | 1 => 0
  | 2 => 0
  | _ => 1
def stepC : Nat → Int
  | 0 => 0
  | 1 => -1
  | 2 => 1
  | _ => 0
def stepOk (t : Land) (r c : Int) (j : Nat) : Bool := inB (r + stepR j) 0 (t.rows - 1) && inB (c + stepC j) 0 (t.columns - 1)
def stepN (t : Land) (r c : Int) (j : Nat) : Int := (r + stepR j) * t.columns + (c + stepC j)
def nearStep (t : Land) (r c : Int) (l : List Int) (j : Nat) : List Int := if stepOk t r c j = true then l ++ [stepN t r c j] else l
def nearTo (t : Land) (r c : Int) (n : Nat) : List Int := (List.range n).foldl (nearStep t r c) []
theorem nearTo_next (t : Land) (r c : Int) (n : Nat) : nearTo t r c (n + 1) = nearStep t r c (nearTo t r c n) n := by simp [nearTo, List.range_succ]
theorem nearTo_len (t : Land) (r c : Int) (n : Nat) : (nearTo t r c n).length ≤ n := by
  induction n with
  | zero => simp [nearTo]
  | succ n ih =>
    rw [nearTo_next]
    unfold nearStep
    split
    · simp; omega
    · omega
theorem nearTo_all {t : Land} {x r c : Int} (hx : x = r * t.columns + c) (e1 : x.tdiv t.columns = r) (e2 : x.tmod t.columns = c) (r0 : 0 ≤ r) (r1 : r < t.rows) (c0 : 0 ≤ c) (c1 : c < t.columns) : nearTo t r c 4 = near t x := by
  rw [near_rk e1 e2]
  have a0 : stepOk t r c 0 = decide (0 < r) := by simp only [stepOk, inB, stepR, stepC]; rw [Bool.eq_iff_iff]; simp only [Bool.and_eq_true, decide_eq_true_eq]; omega
  have a1 : stepOk t r c 1 = decide (0 < c) := by simp only [stepOk, inB, stepR, stepC]; rw [Bool.eq_iff_iff]; simp only [Bool.and_eq_true, decide_eq_true_eq]; omega
  have a2 : stepOk t r c 2 = decide (c < t.columns - 1) := by simp only [stepOk, inB, stepR, stepC]; rw [Bool.eq_iff_iff]; simp only [Bool.and_eq_true, decide_eq_true_eq]; omega
  have a3 : stepOk t r c 3 = decide (r < t.rows - 1) := by simp only [stepOk, inB, stepR, stepC]; rw [Bool.eq_iff_iff]; simp only [Bool.and_eq_true, decide_eq_true_eq]; omega
  have n0 : stepN t r c 0 = x - t.columns := by simp only [stepN, stepR, stepC]; rw [Int.add_mul]; omega
  have n1 : stepN t r c 1 = x - 1 := by simp only [stepN, stepR, stepC]; rw [Int.add_mul]; omega
  have n2 : stepN t r c 2 = x + 1 := by simp only [stepN, stepR, stepC]; rw [Int.add_mul]; omega
  have n3 : stepN t r c 3 = x + t.columns := by simp only [stepN, stepR, stepC]; rw [Int.add_mul]; omega
  rw [show (4 : Nat) = 3 + 1 from rfl, nearTo_next, show (3 : Nat) = 2 + 1 from rfl, nearTo_next, show (2 : Nat) = 1 + 1 from rfl, nearTo_next, show (1 : Nat) = 0 + 1 from rfl, nearTo_next]
  simp only [nearStep, Nat.zero_add, a0, a1, a2, a3, n0, n1, n2, n3, decide_eq_true_eq, show nearTo t r c 0 = [] from rfl, Nat.reduceAdd]
  by_cases g1 : 0 < r <;> by_cases g2 : 0 < c <;> by_cases g3 : c < t.columns - 1 <;> by_cases g4 : r < t.rows - 1 <;> simp [g1, g2, g3, g4]
set_option maxHeartbeats 4000000 in
theorem implNext (v : Value) (t : Land) (ht : LOk t) (x : Int) (w : World) (h : RdLand w v t) (h0 : 0 ≤ x) (h1 : x < t.heights.length) :
    Calls Try.prog 51 #[v, .int .i64 x] w fun e w' => ∃ v, e = .returned v ∧ Own w' w.heap.size 2 v (near t x) ∧ Below w.heap.size w w' := by
  obtain ⟨A, q, rfl, hA⟩ := h
  obtain ⟨r, k, hx, r0, r1, k0, k1, e1, e2⟩ := ht.cell h0 h1
  have hle := ht.le
  have hr := ht.r
  have hc := ht.c
  have HN := hid (nearTo_all hx e1 e2 r0 r1 k0 k1)
  have hq : x / t.columns = r := by rw [← e1, Int.tdiv_eq_ediv_of_nonneg h0]
  have hm : x % t.columns = k := by rw [← e2, Int.tmod_eq_emod_of_nonneg h0]
  have hx2 : x ≤ 143 := by omega
  clear e1 e2 hx h1
  go_enter Try.func51, Try.ntmps51
  go_upto_region 2 with fail
  go_quiet (fail)
  go_upto_region 4 with fail
  rw [hq, hm]
  have hb3 : Below w.heap.size w ((((w.alloc (.cells #[.int .i64 t.rows, .int .i64 t.columns, .slice A t.heights.length q] 28)).alloc (.cells #[] 2)).drewN nq).alloc (.cells #[.int .i64 (-1), .int .i64 0, .int .i64 0, .int .i64 (-1), .int .i64 0, .int .i64 1, .int .i64 1, .int .i64 0] 72)) := ((((Below.refl _ _).alloc (Nat.le_refl _) _).alloc (by simp) _).drewN _).alloc (by simp; omega) _
  obtain ⟨w3, hw3⟩ : ∃ y, ((((w.alloc (.cells #[.int .i64 t.rows, .int .i64 t.columns, .slice A t.heights.length q] 28)).alloc (.cells #[] 2)).drewN nq).alloc (.cells #[.int .i64 (-1), .int .i64 0, .int .i64 0, .int .i64 (-1), .int .i64 0, .int .i64 1, .int .i64 1, .int .i64 0] 72)) = y := ⟨_, rfl⟩
  rw [hw3] at hb3 ⊢
  have kR : w3.cell? ⟨w.heap.size, 0, none⟩ = some (.int .i64 t.rows) := by rw [← hw3]; simp [go_sem]
  have kC : w3.cell? ⟨w.heap.size, 1, none⟩ = some (.int .i64 t.columns) := by rw [← hw3]; simp [go_sem]
  have kH : w3.cell? ⟨w.heap.size, 2, none⟩ = some (.slice A t.heights.length q) := by rw [← hw3]; simp [go_sem]
  have kS : ∀ j, j < 4 → w3.cell? ⟨w.heap.size + 1 + 1, j * 2, none⟩ = some (.int .i64 (stepR j)) ∧ w3.cell? ⟨w.heap.size + 1 + 1, j * 2 + 1, none⟩ = some (.int .i64 (stepC j)) := by
    intro j hj
    rw [← hw3]
    rcases (show j = 0 ∨ j = 1 ∨ j = 2 ∨ j = 3 by omega) with rfl | rfl | rfl | rfl <;> simp [go_sem, stepR, stepC]
  have kO : Own w3 w.heap.size 2 (.slice (some ⟨w.heap.size + 1, 0, none⟩) 0 0) ([] : List Int) := by
    have h1 : Own ((w.alloc (.cells #[.int .i64 t.rows, .int .i64 t.columns, .slice A t.heights.length q] 28)).alloc (.cells #[] 2)) w.heap.size 2 (.slice (some ⟨(w.alloc (.cells #[.int .i64 t.rows, .int .i64 t.columns, .slice A t.heights.length q] 28)).heap.size, 0, none⟩) 0 0) ([] : List Int) := Own.empty (by simp)
    rw [size_alloc_new] at h1
    rw [← hw3]
    exact (h1.drewN nq).alloc _
  have hs3 : w3.heap.size = w.heap.size + 1 + 1 + 1 := by rw [← hw3]; simp [World.drewN]
  have HK := hid kS
  have HB3 := hid hb3
  have HA := hid hA
  have HN4 := HN.out
  clear hw3 hq hm kS hA hb3 HN
  go_loopw [5, 27] (fun u i wr => ∃ j : Nat, j ≤ 4 ∧ i = .int .i64 j ∧ Own wr w.heap.size 2 u (nearTo t r k j) ∧ (∀ g, u.ownBlock = some g → g ≠ w.heap.size ∧ g ≠ w.heap.size + 1 + 1) ∧ (∀ p z, w3.cell? p = some z → (p.block = w.heap.size ∨ p.block = w.heap.size + 1 + 1) → wr.cell? p = some z) ∧ w3.heap.size ≤ wr.heap.size ∧ Below w.heap.size w wr) (fun _ i _ => 4 - (intOf i).toNat)
  case atStart => exact ⟨0, Nat.zero_le _, rfl, kO, fun g hg => by simp only [Value.ownBlock, Option.some.injEq] at hg; omega, fun p z hp _ => hp, Nat.le_refl _, HB3.out⟩
  case round =>
    obtain ⟨j, hj, rfl, ho, hne, hcl, hsz, hb⟩ := hrel
    obtain ⟨wo, rfl⟩ : ∃ wo : World, wo = wr := ⟨_, rfl⟩
    by_cases hlt : j < 4
    · obtain ⟨s1, s2⟩ := HK.out j hlt
      have cS1 := hcl _ _ s1 (.inr rfl)
      have cS2 := hcl _ _ s2 (.inr rfl)
      have cR := hcl _ _ kR (.inl rfl)
      have cC := hcl _ _ kC (.inl rfl)
      have cH := hcl _ _ kH (.inl rfl)
      have HNX := hid (nearTo_next t r k j)
      have hnl := nearTo_len t r k j
      have hsr : -1 ≤ stepR j ∧ stepR j ≤ 1 := by rcases (show j = 0 ∨ j = 1 ∨ j = 2 ∨ j = 3 by omega) with rfl | rfl | rfl | rfl <;> simp [stepR]
      have hsc : -1 ≤ stepC j ∧ stepC j ≤ 1 := by rcases (show j = 0 ∨ j = 1 ∨ j = 2 ∨ j = 3 by omega) with rfl | rfl | rfl | rfl <;> simp [stepC]
      have HOK : Hid (stepOk t r k j = (inB (r + stepR j) 0 (t.rows - 1) && inB (k + stepC j) 0 (t.columns - 1))) := rfl
      have HSN : Hid (stepN t r k j = (r + stepR j) * t.columns + (k + stepC j)) := rfl
      generalize stepR j = sr at cS1 hsr HOK HSN
      generalize stepC j = sc at cS2 hsc HOK HSN
      obtain ⟨w4, hw4⟩ : ∃ y, wo.alloc (.cells #[.int .i64 sr, .int .i64 sc] 72) = y := ⟨_, rfl⟩
      have hb4 : Below wo.heap.size wo w4 := by rw [← hw4]; exact (Below.refl _ _).alloc (Nat.le_refl _) _
      have d1 : w4.cell? ⟨wo.heap.size, 0, none⟩ = some (.int .i64 sr) := by rw [← hw4]; simp [go_sem]
      have d2 : w4.cell? ⟨wo.heap.size, 1, none⟩ = some (.int .i64 sc) := by rw [← hw4]; simp [go_sem]
      have HW := hid hw4
      have HS4 := hid (Nat.le_trans hsz hb4.size)
      have cR4 := box_cell hb4 cR
      have cC4 := box_cell hb4 cC
      have cH4 := box_cell hb4 cH
      have HB4 := hid (hb.trans (hb4.mono hb.size))
      have HO4 := hid (ho.below hb4)
      have HCL : Hid (∀ p z, w3.cell? p = some z → (p.block = w.heap.size ∨ p.block = w.heap.size + 1 + 1) → w4.cell? p = some z) := fun p z hp hd => box_cell hb4 (hcl p z hp hd)
      have HNE := hid hne
      have HRD : Hid (RdLand w4 (.agg #[.int .i64 t.rows, .int .i64 t.columns, .slice A t.heights.length q]) t) := ⟨A, q, rfl, HA.out.below HB4.out⟩
      clear hw4 hb4 s1 s2 ho hb hcl hne HA
      go_upto_region 6 with fail
      rw [HW.out]
      clear HW cR cC cH cS1 cS2
      go_wp2_with fail
      refine (implCell _ t ht (r + sr) (k + sc) _ HRD.out (by omega) (by omega)).mono ?_
      rintro e w5 ⟨rfl, hb5⟩
      rw [← HOK.out, ← HSN.out]
      have HS5 := hid (Nat.le_trans HS4.out hb5.size)
      have HB5 := hid (HB4.out.trans (hb5.mono HB4.out.size))
      have HO5 := hid (HO4.out.below hb5)
      have HCL5 : Hid (∀ p z, w3.cell? p = some z → (p.block = w.heap.size ∨ p.block = w.heap.size + 1 + 1) → w5.cell? p = some z) := fun p z hp hd => box_cell hb5 (HCL.out p z hp hd)
      obtain ⟨V, vq, rfl⟩ := HO5.out.form
      generalize nearTo t r k j = L at HO5 HNX hnl HNE
      clear hb5 HB4 HO4 HCL HRD d1 d2 cR4 cC4 cH4 HOK HSN
      by_cases hok : stepOk t r k j = true
      · have HN2 : Hid (nearTo t r k (j + 1) = L ++ [stepN t r k j]) := by rw [HNX.out]; unfold nearStep; rw [if_pos hok]; exact rfl
        generalize stepN t r k j = n at HN2
        rw [hok]
        clear HNX
        go_wp2_with (first | fail | (at_builtin; refine wpList_push elInt _ rfl (.tmp 45) (.tmp 47) rfl w.heap.size _ L n rfl (HO5.out.alloc _) _ rfl (heap_alloc_new _ _) (by omega) (le_alloc HB5.out.size) ?_; intro v' w' hown' hg' hat'; have hbn := below_own (HB5.out.alloc HB5.out.size _) (HO5.out.alloc _) hg' (Nat.le_refl _) (le_alloc HB5.out.size); refine keep_ ?_))
        have HO6 := hid hown'
        have HB6 := hid hbn
        have HS6 := hid (Nat.le_trans (le_alloc HS5.out) hg'.size)
        have HC6 : Hid (∀ p z, w3.cell? p = some z → (p.block = w.heap.size ∨ p.block = w.heap.size + 1 + 1) → w'.cell? p = some z) := fun p z hp hd => grown_cell hg' (by rw [cell?_alloc_more _ (by rw [HCL5.out p z hp hd]; rfl)]; exact HCL5.out p z hp hd) (fun g hg => by have := HNE.out g hg; omega)
        have HE6 : Hid (∀ g, v'.ownBlock = some g → g ≠ w.heap.size ∧ g ≠ w.heap.size + 1 + 1) := fun g hg => by
          rcases hat' with h | h
          · exact HNE.out g (Eq.trans h.symm hg)
          · rw [hg] at h
            injection h with h
            have := HB5.out.size
            have := HS5.out
            rw [hs3] at this
            have h7 : w5.heap.size ≤ (w5.alloc (.cells #[.int .i64 n] 2)).heap.size := le_alloc (Nat.le_refl _)
            omega
        clear hown' hg' hat' hbn
        refine go_ ?_
        go_wp2_with fail
        go_roundw
        case rel => exact ⟨j + 1, by omega, by go_num, by rw [HN2.out]; exact HO6.out, HE6.out, HC6.out, HS6.out, HB6.out⟩
        case measure => simp [intOf]; omega
      · have HN2 : Hid (nearTo t r k (j + 1) = L) := by rw [HNX.out]; unfold nearStep; rw [if_neg hok]; exact rfl
        rw [Bool.not_eq_true] at hok
        rw [hok]
        clear HNX
        go_wp2_with fail
        go_roundw
        case rel => exact ⟨j + 1, by omega, by go_num, by rw [HN2.out]; exact HO5.out, HNE.out, HCL5.out, HS5.out, HB5.out⟩
        case measure => simp [intOf]; omega
    · have hj4 : j = 4 := by omega
      subst hj4
      rw [HN4] at ho
      have HO := hid ho
      have HB := hid hb
      clear ho hb hcl hne HA
      go_wp2_with fail
      go_ret
      exact ⟨_, rfl, HO.out, HB.out⟩
end Go.Proofs.Ytpinpkpjehbfmaa
