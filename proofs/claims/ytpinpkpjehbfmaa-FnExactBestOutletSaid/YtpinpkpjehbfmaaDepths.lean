/- Depths and volumes of floods: the walks. -/
import Derived.Test.YtpinpkpjehbfmaaCells
namespace Go.Proofs.Ytpinpkpjehbfmaa
open Go.RowKit
set_option linter.unusedVariables false
def depStep (t : Land) (s : List Bool) (lev : Int) (i : Nat) : Int := if s.getD i false = true then lev - hAt t i else 0
def depTo (t : Land) (s : List Bool) (lev : Int) (n : Nat) : List Int := (List.range n).map (depStep t s lev)
theorem depTo_next (t : Land) (s : List Bool) (lev : Int) (n : Nat) : depTo t s lev (n + 1) = depTo t s lev n ++ [depStep t s lev n] := by simp [depTo, List.range_succ]
theorem depTo_len (t : Land) (s : List Bool) (lev : Int) (n : Nat) : (depTo t s lev n).length = n := by simp [depTo]
def depF (t : Land) (c lev : Int) : List Int := if codeFl t c lev = 0 then depTo t (wet t c lev) lev t.heights.length else []
theorem depF_len (t : Land) (c lev : Int) : (depF t c lev).length ≤ 1048576 := by
  unfold depF
  split
  · rename_i h
    obtain ⟨h1, _⟩ := codeFl_ok h
    obtain ⟨ht, _⟩ := codeCl_ok h1
    have := ht.le
    rw [depTo_len]; omega
  · simp
theorem dep_range {t : Land} (ht : LOk t) (s : List Bool) {lev : Int} (h : -2000 ≤ lev ∧ lev ≤ 2000) (n : Nat) : ∀ x ∈ depTo t s lev n, -4000 ≤ x ∧ x ≤ 4000 := by
  intro x hx
  unfold depTo at hx
  obtain ⟨i, _, rfl⟩ := List.mem_map.1 hx
  have := hAt_bound ht i
  unfold depStep
  split <;> omega
def sumL (xs : List Int) : Int := xs.foldl (· + ·) 0
theorem sumL_next {xs : List Int} {k : Nat} (hk : k < xs.length) : sumL (xs.take (k + 1)) = sumL (xs.take k) + xs[k] := by
  unfold sumL
  rw [take_next hk, List.foldl_append]; rfl
theorem sumL_bound {xs : List Int} (h : ∀ x ∈ xs, -4000 ≤ x ∧ x ≤ 4000) : ∀ k, k ≤ xs.length → -4000 * (k : Int) ≤ sumL (xs.take k) ∧ sumL (xs.take k) ≤ 4000 * (k : Int)
  | 0, _ => by simp [sumL]
  | k + 1, hk => by
    have h1 := sumL_bound h k (by omega)
    have h2 := h _ (List.getElem_mem (show k < xs.length by omega))
    rw [sumL_next (by omega)]
    omega
def volF (t : Land) (c lev : Int) : Int × Int := if codeFl t c lev = 0 then (sumL (depTo t (wet t c lev) lev t.heights.length), 0) else (0, codeFl t c lev)
theorem ret_two {k k' : IntKind} {p : Int × Int} {a b : Int} (h : p = (a, b)) : Ending.returned (.tuple #[.int k a, .int k' b]) = .returned (.tuple #[.int k p.1, .int k' p.2]) := by rw [h]
set_option maxHeartbeats 1000000 in
theorem specSum (A : Option Addr) (xs : List Int) (c : Nat) (w : World) (hx : Rd w A xs) (hs : xs.length ≤ 1000) (hr : ∀ x ∈ xs, -4000 ≤ x ∧ x ≤ 4000) :
    Calls Try.prog 63 #[.slice A xs.length c] w fun e w' => e = .returned (.int .i64 (sumL xs)) ∧ w = w' := by
  have HB := hid (sumL_bound hr)
  go_enter Try.func63, Try.ntmps63
  go_wp2
  go_loop [3, 4] (fun s i => ∃ k : Nat, k ≤ xs.length ∧ i = .int .i64 k ∧ s = .int .i64 (sumL (xs.take k))) (fun _ i => xs.length - (intOf i).toNat)
  case atStart => exact ⟨0, Nat.zero_le _, rfl, rfl⟩
  case round =>
    obtain ⟨k, hk, rfl, rfl⟩ := hrel
    have hb := HB.out k hk
    by_cases hlt : k < xs.length
    · obtain ⟨b, off, rfl, c1⟩ := hx.int hlt
      have hv := hr _ (List.getElem_mem hlt)
      have HN := hid (sumL_next hlt)
      generalize sumL (xs.take k) = s at hb HN ⊢
      clear hx hr
      go_wp2
      go_round
      case rel => exact ⟨k + 1, by omega, by go_num, by rw [HN.out]⟩
      case measure => simp [intOf]; omega
    · have hkl : xs.take k = xs := List.take_of_length_le (by omega)
      rw [hkl]
      clear hx hr
      go_wp2
      go_ret
      exact ⟨rfl, rfl⟩
set_option maxHeartbeats 1000000 in
theorem implSum (A : Option Addr) (xs : List Int) (c : Nat) (w : World) (hx : Rd w A xs) (hs : xs.length ≤ 1000) (hr : ∀ x ∈ xs, -4000 ≤ x ∧ x ≤ 4000) :
    Calls Try.prog 66 #[.slice A xs.length c] w fun e w' => e = .returned (.int .i64 (sumL xs)) ∧ w = w' := by
  have HB := hid (sumL_bound hr)
  go_enter Try.func66, Try.ntmps66
  go_wp2
  go_loop [3, 8] (fun s i => ∃ k : Nat, k ≤ xs.length ∧ i = .int .i64 k ∧ s = .int .i64 (sumL (xs.take k))) (fun _ i => xs.length - (intOf i).toNat)
  case atStart => exact ⟨0, Nat.zero_le _, rfl, rfl⟩
  case round =>
    obtain ⟨k, hk, rfl, rfl⟩ := hrel
    have hb := HB.out k hk
    by_cases hlt : k < xs.length
    · obtain ⟨b, off, rfl, c1⟩ := hx.int hlt
      have hv := hr _ (List.getElem_mem hlt)
      have HN := hid (sumL_next hlt)
      generalize sumL (xs.take k) = s at hb HN ⊢
      clear hx hr
      go_wp2
      go_round
      case rel => exact ⟨k + 1, by omega, by go_num, by rw [HN.out]⟩
      case measure => simp [intOf]; omega
    · have hkl : xs.take k = xs := List.take_of_length_le (by omega)
      rw [hkl]
      clear hx hr
      go_wp2
      go_ret
      exact ⟨rfl, rfl⟩
set_option maxHeartbeats 4000000 in
theorem specDepths (g off : Nat) (t : Land) (ht : LOk t) (c lev : Int) (w : World) (h : PtLand w g off t) (h0 : 0 ≤ c) (h1 : c < t.heights.length) (hl : -2000 ≤ lev ∧ lev ≤ 2000) :
    Calls Try.prog 64 #[.pointer (some ⟨g, off, none⟩), .int .i64 c, .int .i64 lev] w fun e w' => ∃ u, e = .returned u ∧ Own w' w.heap.size 2 u (depTo t (wet t c lev) lev t.heights.length) ∧ Below w.heap.size w w' := by
  have hle := ht.le
  have HP := hid h
  obtain ⟨A, q, ⟨_, _, eH⟩, hA⟩ := h
  have HWL := hid (wet_len (lev := lev) ht h0 h1)
  have HA := hid hA
  clear hA
  go_enter Try.func64, Try.ntmps64
  go_wp2_with fail
  refine (specWet _ _ t ht c lev _ HP.out h0 h1).mono ?_
  rintro e w1 ⟨u, rfl, ho, hb⟩
  obtain ⟨V, vq, hV⟩ := ho.form
  rw [HWL.out] at hV
  subst hV
  have HR := hid (ho.rd (by rw [HWL.out]; omega))
  have HB := hid hb
  have HA1 := hid (HA.out.below hb)
  have eH1 := box_cell hb eH
  have HHB := hid (hAt_bound ht)
  generalize hzs : wet t c lev = s at HR HWL ⊢
  have HZS := hid hzs
  clear hzs
  clear ho hb eH HA
  go_wp2_with fail
  go_loopw [8, 9] (fun v i wr => ∃ k : Nat, k ≤ t.heights.length ∧ i = .int .i64 k ∧ Own wr w1.heap.size 2 v (depTo t s lev k) ∧ Below w1.heap.size w1 wr) (fun _ i _ => t.heights.length - (intOf i).toNat)
  case atStart => exact ⟨0, Nat.zero_le _, rfl, Own.empty (Nat.le_refl _), (Below.refl _ _).alloc (Nat.le_refl _) _⟩
  case round =>
    obtain ⟨k, hk, rfl, ho, hq⟩ := hrel
    obtain ⟨wo, rfl⟩ : ∃ wo : World, wo = wr := ⟨_, rfl⟩
    by_cases hlt : k < t.heights.length
    · have hks : k < s.length := by rw [HWL.out]; exact hlt
      obtain ⟨b, o1, rfl, c1⟩ := (HR.out.below hq).bool hks
      obtain ⟨b2, o2, rfl, c2⟩ := (HA1.out.below hq).int hlt
      have eH2 := box_cell hq eH1
      have HN := hid (depTo_next t s lev k)
      have hln := depTo_len t s lev k
      have hds : depStep t s lev k = if s[k] = true then lev - t.heights[k] else 0 := by unfold depStep; rw [hAt_eq hlt]; simp [hks]
      have hhb := HHB.out (k : Int)
      rw [hAt_eq hlt] at hhb
      have HBq := hid hq
      obtain ⟨V2, vq2, rfl⟩ := ho.form
      generalize depTo t s lev k = L at ho HN hln
      have HO := hid ho
      clear ho hq
      cases hz : s[k] with
      | true =>
        rw [hz] at c1 hds
        have HN2 : Hid (depTo t s lev (k + 1) = L ++ [lev - t.heights[k]]) := by show _ = _; rw [HN.out, hds]; simp
        clear hz hds hks
        go_wp2_with (first | fail | (at_builtin; refine wpList_push elInt _ rfl (.tmp 35) (.tmp 37) rfl w1.heap.size _ L (lev - t.heights[k]) rfl (HO.out.alloc _) _ rfl (heap_alloc_new _ _) (by omega) (le_alloc HBq.out.size) ?_; intro v' w' hown' hg' hat'; have hbn := below_own (HBq.out.alloc HBq.out.size _) (HO.out.alloc _) hg' (Nat.le_refl _) (le_alloc HBq.out.size); have HO2 := hid hown'; have HBN := hid hbn; clear hown' hg' hat' hbn))
        go_roundw
        case rel => exact ⟨k + 1, by omega, by go_num, by rw [HN2.out]; exact HO2.out, HBN.out⟩
        case measure => simp [intOf]; omega
      | false =>
        rw [hz] at c1 hds
        have HN2 : Hid (depTo t s lev (k + 1) = L ++ [(0 : Int)]) := by show _ = _; rw [HN.out, hds]; simp
        clear hz hds hks
        go_wp2_with (first | fail | (at_builtin; refine wpList_push elInt _ rfl (.tmp 35) (.tmp 37) rfl w1.heap.size _ L (0 : Int) rfl (HO.out.alloc _) _ rfl (heap_alloc_new _ _) (by omega) (le_alloc HBq.out.size) ?_; intro v' w' hown' hg' hat'; have hbn := below_own (HBq.out.alloc HBq.out.size _) (HO.out.alloc _) hg' (Nat.le_refl _) (le_alloc HBq.out.size); have HO2 := hid hown'; have HBN := hid hbn; clear hown' hg' hat' hbn))
        go_roundw
        case rel => exact ⟨k + 1, by omega, by go_num, by rw [HN2.out]; exact HO2.out, HBN.out⟩
        case measure => simp [intOf]; omega
    · have hkl : k = t.heights.length := by omega
      subst hkl
      obtain ⟨V2, vq2, rfl⟩ := ho.form
      have HO := hid ho
      have HBq := hid hq
      clear ho hq
      go_wp2_with fail
      go_ret
      exact ⟨.slice V2 _ vq2, rfl, by rw [HZS.out]; exact HO.out.mono HB.out.size, HB.out.trans (HBq.out.mono HB.out.size)⟩
set_option maxHeartbeats 4000000 in
theorem implDepths (v : Value) (t : Land) (ht : LOk t) (c lev : Int) (w : World) (h : RdLand w v t) (h0 : 0 ≤ c) (h1 : c < t.heights.length) (hl : -2000 ≤ lev ∧ lev ≤ 2000) :
    Calls Try.prog 67 #[v, .int .i64 c, .int .i64 lev] w fun e w' => ∃ u, e = .returned u ∧ Own w' w.heap.size 2 u (depTo t (wet t c lev) lev t.heights.length) ∧ Below w.heap.size w w' := by
  obtain ⟨A, q, rfl, hA⟩ := h
  have hn20 := hA.len
  have hle := ht.le
  obtain ⟨w0, hw0⟩ : ∃ x, (w.alloc (.cells #[.int .i64 t.rows, .int .i64 t.columns, .slice A t.heights.length q] 28)).alloc (.cells #[] 2) = x := ⟨_, rfl⟩
  have hbw0 : Below w.heap.size w w0 := by rw [← hw0]; exact ((Below.refl _ _).alloc (Nat.le_refl _) _).alloc (by simp) _
  have kR : w0.cell? ⟨w.heap.size, 0, none⟩ = some (.int .i64 t.rows) := by rw [← hw0]; simp [go_sem]
  have kC : w0.cell? ⟨w.heap.size, 1, none⟩ = some (.int .i64 t.columns) := by rw [← hw0]; simp [go_sem]
  have kH : w0.cell? ⟨w.heap.size, 2, none⟩ = some (.slice A t.heights.length q) := by rw [← hw0]; simp [go_sem]
  have kO : Own w0 (w.heap.size + 1) 2 (.slice (some ⟨w.heap.size + 1, 0, none⟩) 0 0) ([] : List Int) := by
    rw [← hw0]
    have h9 := Own.empty (α := Int) (w := w.alloc (.cells #[.int .i64 t.rows, .int .i64 t.columns, .slice A t.heights.length q] 28)) (e := 2) (base := w.heap.size + 1) (by simp)
    rw [show (w.alloc (.cells #[.int .i64 t.rows, .int .i64 t.columns, .slice A t.heights.length q] 28)).heap.size = w.heap.size + 1 by simp] at h9
    exact h9
  have HAW := hid hA
  have HA0 := hid (hA.below hbw0)
  have HBW := hid hbw0
  have HW := hid hw0
  have HKO := hid kO
  have HPT : Hid (RdLand w0 (.agg #[.int .i64 t.rows, .int .i64 t.columns, .slice A t.heights.length q]) t) := ⟨A, q, rfl, HA0.out⟩
  have HWL := hid (wet_len (lev := lev) ht h0 h1)
  have hs0 : w.heap.size + 2 ≤ w0.heap.size := by rw [← hw0]; simp
  have kall : Hid (Below (w.heap.size + 1) w0 w0) := Below.refl _ _
  clear hA hbw0 hw0 kO
  go_enter Try.func67, Try.ntmps67
  go_upto_region 2 with fail
  rw [HW.out]
  clear HW
  go_wp2_with fail
  refine (implFlooded _ t ht c lev _ HPT.out h0 h1).mono ?_
  rintro e w1 ⟨u, rfl, ho, hb⟩
  obtain ⟨V, vq, hV⟩ := ho.form
  rw [HWL.out] at hV
  subst hV
  have HR := hid ho
  have HB := hid hb
  have eH1 := box_cell hb kH
  have HO1 := hid (HKO.out.below hb)
  have HB1 : Hid (Below (w.heap.size + 1) w0 w1) := hb.mono (by omega)
  have HHB := hid (hAt_bound ht)
  have hsb := hb.size
  generalize hzs : wet t c lev = s at HR HWL ⊢
  have HZS := hid hzs
  clear hzs
  clear ho hb kR kC HKO kall
  go_wp2_with fail
  go_loopw [7, 17] (fun v i wr => ∃ k : Nat, k ≤ t.heights.length ∧ i = .int .i64 k ∧ Own wr (w.heap.size + 1) 2 v (depTo t s lev k) ∧ (∀ g, v.ownBlock = some g → g < w0.heap.size ∨ w1.heap.size ≤ g) ∧ Own wr w0.heap.size 4 (.slice V t.heights.length vq) s ∧ w1.heap.size ≤ wr.heap.size ∧ Below (w.heap.size + 1) w0 wr) (fun _ i _ => t.heights.length - (intOf i).toNat)
  case atStart => exact ⟨0, Nat.zero_le _, rfl, HO1.out, fun g hg => by simp only [Value.ownBlock, Option.some.injEq] at hg; omega, HR.out, Nat.le_refl _, HB1.out⟩
  case round =>
    obtain ⟨k, hk, rfl, ho, hne, hr, hz, hq⟩ := hrel
    obtain ⟨wo, rfl⟩ : ∃ wo : World, wo = wr := ⟨_, rfl⟩
    by_cases hlt : k < t.heights.length
    · have hks : k < s.length := by rw [HWL.out]; exact hlt
      obtain ⟨b, o1, hbV, c1⟩ := (hr.rd (by rw [HWL.out]; omega)).bool hks
      subst hbV
      have hqw : Below w.heap.size w wo := HBW.out.trans (hq.mono (Nat.le_succ _))
      obtain ⟨b2, o2, hbA, c2⟩ := HAW.out.int hlt
      subst hbA
      have c2' := box_cell hqw c2
      have eH2 : wo.cell? ⟨w.heap.size, 2, none⟩ = some (.slice (some ⟨b2, o2, none⟩) t.heights.length q) := (hq.cell (by simp)).trans kH
      have HN := hid (depTo_next t s lev k)
      have hln := depTo_len t s lev k
      have hds : depStep t s lev k = if s[k] = true then lev - t.heights[k] else 0 := by unfold depStep; rw [hAt_eq hlt]; simp [hks]
      have hhb := HHB.out (k : Int)
      rw [hAt_eq hlt] at hhb
      have HBq := hid hq
      have hso : w.heap.size + 1 ≤ wo.heap.size := Nat.le_trans (by omega) hq.size
      obtain ⟨V2, vq2, rfl⟩ := ho.form
      have HNE := hid hne
      have HRR := hid hr
      have HZ := hid hz
      generalize depTo t s lev k = L at ho HN hln HNE
      have HO := hid ho
      clear ho hq hne hr hz hqw c2
      cases hz2 : s[k] with
      | true =>
        rw [hz2] at c1 hds
        have HN2 : Hid (depTo t s lev (k + 1) = L ++ [lev - t.heights[k]]) := by show _ = _; rw [HN.out, hds]; simp
        clear hz2 hds hks
        go_wp2_with (first | fail | (at_builtin; refine wpList_push elInt _ rfl (.tmp 30) (.tmp 32) rfl (w.heap.size + 1) _ L (lev - t.heights[k]) rfl (HO.out.alloc _) _ rfl (heap_alloc_new _ _) (by omega) (le_alloc hso) ?_; intro v' w' hown' hg' hat'; refine keep_ ?_))
        have hbn := below_own (HBq.out.alloc hso _) (HO.out.alloc _) hg' (Nat.le_refl _) (le_alloc hso)
        have hrr := (HRR.out.alloc _).beside hg' (fun a b h1 h2 => by have h3 := HNE.out b h2; have h4 := HR.out.block a h1; omega)
        have hss : w1.heap.size ≤ w'.heap.size := Nat.le_trans (le_alloc HZ.out) hg'.size
        have hqq : ∀ g, v'.ownBlock = some g → g < w0.heap.size ∨ w1.heap.size ≤ g := fun g hg2 => by
          rcases hat' with h | h
          · exact HNE.out g (Eq.trans h.symm hg2)
          · rw [hg2] at h
            injection h with h
            right
            rw [h]
            exact le_alloc HZ.out
        have Z1 := hid hbn
        have Z2 := hid hrr
        have Z3 := hid hss
        have Z4 := hid hqq
        have Z5 := hid hown'
        clear hbn hrr hss hqq hown' hg' hat'
        refine go_ ?_
        go_wp2_with fail
        go_roundw
        case rel => exact ⟨k + 1, by omega, by go_num, by rw [HN2.out]; exact Z5.out, Z4.out, Z2.out, Z3.out, Z1.out⟩
        case measure => simp [intOf]; omega
      | false =>
        rw [hz2] at c1 hds
        have HN2 : Hid (depTo t s lev (k + 1) = L ++ [(0 : Int)]) := by show _ = _; rw [HN.out, hds]; simp
        clear hz2 hds hks
        go_wp2_with (first | fail | (at_builtin; refine wpList_push elInt _ rfl (.tmp 30) (.tmp 32) rfl (w.heap.size + 1) _ L ((0 : Int)) rfl (HO.out.alloc _) _ rfl (heap_alloc_new _ _) (by omega) (le_alloc hso) ?_; intro v' w' hown' hg' hat'; refine keep_ ?_))
        have hbn := below_own (HBq.out.alloc hso _) (HO.out.alloc _) hg' (Nat.le_refl _) (le_alloc hso)
        have hrr := (HRR.out.alloc _).beside hg' (fun a b h1 h2 => by have h3 := HNE.out b h2; have h4 := HR.out.block a h1; omega)
        have hss : w1.heap.size ≤ w'.heap.size := Nat.le_trans (le_alloc HZ.out) hg'.size
        have hqq : ∀ g, v'.ownBlock = some g → g < w0.heap.size ∨ w1.heap.size ≤ g := fun g hg2 => by
          rcases hat' with h | h
          · exact HNE.out g (Eq.trans h.symm hg2)
          · rw [hg2] at h
            injection h with h
            right
            rw [h]
            exact le_alloc HZ.out
        have Z1 := hid hbn
        have Z2 := hid hrr
        have Z3 := hid hss
        have Z4 := hid hqq
        have Z5 := hid hown'
        clear hbn hrr hss hqq hown' hg' hat'
        refine go_ ?_
        go_wp2_with fail
        go_roundw
        case rel => exact ⟨k + 1, by omega, by go_num, by rw [HN2.out]; exact Z5.out, Z4.out, Z2.out, Z3.out, Z1.out⟩
        case measure => simp [intOf]; omega
    · have hkl : k = t.heights.length := by omega
      subst hkl
      obtain ⟨V2, vq2, rfl⟩ := ho.form
      have HO := hid ho
      have HBq := hid hq
      clear ho hq hr hne
      go_wp2_with fail
      go_ret
      exact ⟨.slice V2 _ vq2, rfl, by rw [HZS.out]; exact HO.out.mono (Nat.le_succ _), HBW.out.trans (HBq.out.mono (Nat.le_succ _))⟩
set_option maxHeartbeats 4000000 in
theorem specFloodDepths (v : Value) (t : Land) (c lev : Int) (w : World) (h : RdLand w v t) :
    Calls Try.prog 37 #[v, .int .i64 c, .int .i64 lev] w fun e w' => ∃ u, e = .returned (.tuple #[u, .int .i64 (codeFl t c lev)]) ∧ Own w' w.heap.size 2 u (depF t c lev) ∧ Below w.heap.size w w' := by
  obtain ⟨A, q, rfl, hA⟩ := h
  have hn20 := hA.len
  obtain ⟨w0, hw0⟩ : ∃ x, w.alloc (.cells #[.int .i64 t.rows, .int .i64 t.columns, .slice A t.heights.length q] 28) = x := ⟨_, rfl⟩
  have hbw0 : Below w.heap.size w w0 := by rw [← hw0]; exact (Below.refl _ _).alloc (Nat.le_refl _) _
  have kR : w0.cell? ⟨w.heap.size, 0, none⟩ = some (.int .i64 t.rows) := by rw [← hw0]; simp [go_sem]
  have kC : w0.cell? ⟨w.heap.size, 1, none⟩ = some (.int .i64 t.columns) := by rw [← hw0]; simp [go_sem]
  have kH : w0.cell? ⟨w.heap.size, 2, none⟩ = some (.slice A t.heights.length q) := by rw [← hw0]; simp [go_sem]
  have HA0 := hid (hA.below hbw0)
  have HBW := hid hbw0
  have HW := hid hw0
  have HPT : Hid (RdLand w0 (.agg #[.int .i64 t.rows, .int .i64 t.columns, .slice A t.heights.length q]) t) := ⟨A, q, rfl, HA0.out⟩
  have HPP : Hid (PtLand w0 w.heap.size 0 t) := ⟨A, q, ⟨kR, kC, kH⟩, HA0.out⟩
  clear hA hbw0 hw0
  by_cases h1 : codeFl t c lev = 0
  · obtain ⟨h2, hlv⟩ := codeFl_ok h1
    obtain ⟨ht, a, b⟩ := codeCl_ok h2
    have HF : Hid (depF t c lev = depTo t (wet t c lev) lev t.heights.length) := by show _ = _; unfold depF; rw [if_pos h1]
    have HC := hid h1
    clear h1 h2
    go_enter Try.func37, Try.ntmps37
    go_upto_region 1 with fail
    rw [HW.out]
    clear HW
    go_wp2_with fail
    refine (specFloodCode _ _ _ _ _ _ HPP.out).mono ?_
    rintro e w1 ⟨rfl, hb⟩
    rw [HC.out]
    have HB1 := hid (HBW.out.trans (hb.mono HBW.out.size))
    have HP1 := hid (HPP.out.below hb)
    clear hb kR kC kH
    go_wp2_with fail
    refine (specDepths _ _ t ht c lev _ HP1.out a b hlv).mono ?_
    rintro e w2 ⟨u, rfl, ho, hb⟩
    have HO := hid (ho.mono HB1.out.size)
    have HB2 := hid (HB1.out.trans (hb.mono HB1.out.size))
    clear ho hb
    go_wp2_with fail
    go_ret2
    exact ⟨u, by rw [HC.out]; rfl, by rw [HF.out]; exact HO.out, HB2.out⟩
  · have HF : Hid (depF t c lev = []) := by show _ = _; unfold depF; rw [if_neg h1]
    have h1' : (codeFl t c lev != 0) = true := by simp [h1]
    have H1 := hid h1'
    clear h1'
    go_enter Try.func37, Try.ntmps37
    go_upto_region 1 with fail
    rw [HW.out]
    clear HW
    go_wp2_with fail
    refine (specFloodCode _ _ _ _ _ _ HPP.out).mono ?_
    rintro e w1 ⟨rfl, hb⟩
    have HB1 := hid (HBW.out.trans (hb.mono HBW.out.size))
    have h1' := H1.out
    clear hb kR kC kH H1
    generalize hz : codeFl t c lev = z at h1 h1' ⊢
    have HZ := hid hz
    clear hz
    go_wp2_with fail
    go_ret2
    exact ⟨.slice none 0 0, by rw [HZ.out]; rfl, by rw [HF.out]; exact Own.nil _ _ _, HB1.out⟩
set_option maxHeartbeats 4000000 in
theorem specFloodVolume (v : Value) (t : Land) (c lev : Int) (w : World) (h : RdLand w v t) :
    Calls Try.prog 31 #[v, .int .i64 c, .int .i64 lev] w fun e w' => e = .returned (.tuple #[.int .i64 (volF t c lev).1, .int .i64 (volF t c lev).2]) ∧ Below w.heap.size w w' := by
  obtain ⟨A, q, rfl, hA⟩ := h
  have hn20 := hA.len
  obtain ⟨w0, hw0⟩ : ∃ x, w.alloc (.cells #[.int .i64 t.rows, .int .i64 t.columns, .slice A t.heights.length q] 28) = x := ⟨_, rfl⟩
  have hbw0 : Below w.heap.size w w0 := by rw [← hw0]; exact (Below.refl _ _).alloc (Nat.le_refl _) _
  have kR : w0.cell? ⟨w.heap.size, 0, none⟩ = some (.int .i64 t.rows) := by rw [← hw0]; simp [go_sem]
  have kC : w0.cell? ⟨w.heap.size, 1, none⟩ = some (.int .i64 t.columns) := by rw [← hw0]; simp [go_sem]
  have kH : w0.cell? ⟨w.heap.size, 2, none⟩ = some (.slice A t.heights.length q) := by rw [← hw0]; simp [go_sem]
  have HA0 := hid (hA.below hbw0)
  have HBW := hid hbw0
  have HW := hid hw0
  have HPT : Hid (RdLand w0 (.agg #[.int .i64 t.rows, .int .i64 t.columns, .slice A t.heights.length q]) t) := ⟨A, q, rfl, HA0.out⟩
  have HPP : Hid (PtLand w0 w.heap.size 0 t) := ⟨A, q, ⟨kR, kC, kH⟩, HA0.out⟩
  clear hA hbw0 hw0
  by_cases h1 : codeFl t c lev = 0
  · obtain ⟨h2, hlv⟩ := codeFl_ok h1
    obtain ⟨ht, a, b⟩ := codeCl_ok h2
    have HF : Hid (volF t c lev = (sumL (depTo t (wet t c lev) lev t.heights.length), 0)) := by show _ = _; unfold volF; rw [if_pos h1]
    have HC := hid h1
    clear h1 h2
    go_enter Try.func31, Try.ntmps31
    go_upto_region 1 with fail
    rw [HW.out]
    clear HW
    go_wp2_with fail
    refine (specFloodCode _ _ _ _ _ _ HPP.out).mono ?_
    rintro e w1 ⟨rfl, hb⟩
    rw [HC.out]
    have HB1 := hid (HBW.out.trans (hb.mono HBW.out.size))
    have HP1 := hid (HPP.out.below hb)
    clear hb kR kC kH
    go_wp2_with fail
    refine (specDepths _ _ t ht c lev _ HP1.out a b hlv).mono ?_
    rintro e w2 ⟨u, rfl, ho, hb⟩
    obtain ⟨V, vq, rfl⟩ := ho.form
    have hr := ho.rd (by rw [depTo_len]; exact hn20)
    have hrg := dep_range ht (wet t c lev) hlv t.heights.length
    have HB2 := hid (HB1.out.trans (hb.mono HB1.out.size))
    have HLN : Hid ((depTo t (wet t c lev) lev t.heights.length).length ≤ 1000) := by show _ ≤ _; rw [depTo_len]; have := ht.le; omega
    generalize depTo t (wet t c lev) lev t.heights.length = L at hr hrg HF HLN ⊢
    clear ho hb
    go_wp2_with fail
    refine (specSum _ _ _ _ hr HLN.out hrg).mono ?_
    rintro e w3 ⟨rfl, rfl⟩
    generalize sumL L = z at HF ⊢
    clear hr hrg
    go_wp2_with fail
    go_ret2
    exact ⟨ret_two HF.out, HB2.out⟩
  · have HF : Hid (volF t c lev = (0, codeFl t c lev)) := by show _ = _; unfold volF; rw [if_neg h1]
    have h1' : (codeFl t c lev != 0) = true := by simp [h1]
    have H1 := hid h1'
    clear h1'
    go_enter Try.func31, Try.ntmps31
    go_upto_region 1 with fail
    rw [HW.out]
    clear HW
    go_wp2_with fail
    refine (specFloodCode _ _ _ _ _ _ HPP.out).mono ?_
    rintro e w1 ⟨rfl, hb⟩
    have HB1 := hid (HBW.out.trans (hb.mono HBW.out.size))
    have h1' := H1.out
    clear hb kR kC kH H1
    generalize hz : codeFl t c lev = z at h1 h1' ⊢
    have HZ := hid hz
    clear hz
    go_wp2_with fail
    go_ret2
    exact ⟨ret_two (by rw [HF.out, HZ.out]), HB1.out⟩
set_option maxHeartbeats 4000000 in
theorem implFloodDepths (v : Value) (t : Land) (c lev : Int) (w : World) (h : RdLand w v t) :
    Calls Try.prog 38 #[v, .int .i64 c, .int .i64 lev] w fun e w' => ∃ u, e = .returned (.tuple #[u, .int .i64 (codeFl t c lev)]) ∧ Own w' w.heap.size 2 u (depF t c lev) ∧ Below w.heap.size w w' := by
  obtain ⟨A, q, rfl, hA⟩ := h
  have hn20 := hA.len
  obtain ⟨w0, hw0⟩ : ∃ x, w.alloc (.cells #[.int .i64 t.rows, .int .i64 t.columns, .slice A t.heights.length q] 28) = x := ⟨_, rfl⟩
  have hbw0 : Below w.heap.size w w0 := by rw [← hw0]; exact (Below.refl _ _).alloc (Nat.le_refl _) _
  have kR : w0.cell? ⟨w.heap.size, 0, none⟩ = some (.int .i64 t.rows) := by rw [← hw0]; simp [go_sem]
  have kC : w0.cell? ⟨w.heap.size, 1, none⟩ = some (.int .i64 t.columns) := by rw [← hw0]; simp [go_sem]
  have kH : w0.cell? ⟨w.heap.size, 2, none⟩ = some (.slice A t.heights.length q) := by rw [← hw0]; simp [go_sem]
  have HA0 := hid (hA.below hbw0)
  have HBW := hid hbw0
  have HW := hid hw0
  have HPT : Hid (RdLand w0 (.agg #[.int .i64 t.rows, .int .i64 t.columns, .slice A t.heights.length q]) t) := ⟨A, q, rfl, HA0.out⟩
  have HPP : Hid (PtLand w0 w.heap.size 0 t) := ⟨A, q, ⟨kR, kC, kH⟩, HA0.out⟩
  clear hA hbw0 hw0
  by_cases h1 : codeFl t c lev = 0
  · obtain ⟨h2, hlv⟩ := codeFl_ok h1
    obtain ⟨ht, a, b⟩ := codeCl_ok h2
    have HF : Hid (depF t c lev = depTo t (wet t c lev) lev t.heights.length) := by show _ = _; unfold depF; rw [if_pos h1]
    have HC := hid h1
    clear h1 h2
    go_enter Try.func38, Try.ntmps38
    go_upto_region 1 with fail
    rw [HW.out]
    clear HW
    go_wp2_with fail
    refine (implFloodCode _ _ _ _ _ HPT.out).mono ?_
    rintro e w1 ⟨rfl, hb⟩
    rw [HC.out]
    have HB1 := hid (HBW.out.trans (hb.mono HBW.out.size))
    have HP1 := hid (HPP.out.below hb)
    have e1 := box_cell hb kR
    have e2 := box_cell hb kC
    have e3 := box_cell hb kH
    have HT1 := hid (HPT.out.below hb)
    clear hb kR kC kH
    go_wp2_with fail
    refine (implDepths _ t ht c lev _ HT1.out a b hlv).mono ?_
    rintro e w2 ⟨u, rfl, ho, hb⟩
    have HO := hid (ho.mono HB1.out.size)
    have HB2 := hid (HB1.out.trans (hb.mono HB1.out.size))
    clear ho hb
    go_wp2_with fail
    go_ret2
    exact ⟨u, by rw [HC.out]; rfl, by rw [HF.out]; exact HO.out, HB2.out⟩
  · have HF : Hid (depF t c lev = []) := by show _ = _; unfold depF; rw [if_neg h1]
    have h1' : (codeFl t c lev != 0) = true := by simp [h1]
    have H1 := hid h1'
    clear h1'
    go_enter Try.func38, Try.ntmps38
    go_upto_region 1 with fail
    rw [HW.out]
    clear HW
    go_wp2_with fail
    refine (implFloodCode _ _ _ _ _ HPT.out).mono ?_
    rintro e w1 ⟨rfl, hb⟩
    have HB1 := hid (HBW.out.trans (hb.mono HBW.out.size))
    have h1' := H1.out
    clear hb kR kC kH H1
    generalize hz : codeFl t c lev = z at h1 h1' ⊢
    have HZ := hid hz
    clear hz
    go_wp2_with fail
    go_ret2
    exact ⟨_, by rw [HZ.out]; rfl, by rw [HF.out]; exact Own.empty HB1.out.size, HB1.out.alloc HB1.out.size _⟩
set_option maxHeartbeats 4000000 in
theorem implFloodVolume (v : Value) (t : Land) (c lev : Int) (w : World) (h : RdLand w v t) :
    Calls Try.prog 32 #[v, .int .i64 c, .int .i64 lev] w fun e w' => e = .returned (.tuple #[.int .i64 (volF t c lev).1, .int .i64 (volF t c lev).2]) ∧ Below w.heap.size w w' := by
  obtain ⟨A, q, rfl, hA⟩ := h
  have hn20 := hA.len
  obtain ⟨w0, hw0⟩ : ∃ x, w.alloc (.cells #[.int .i64 t.rows, .int .i64 t.columns, .slice A t.heights.length q] 28) = x := ⟨_, rfl⟩
  have hbw0 : Below w.heap.size w w0 := by rw [← hw0]; exact (Below.refl _ _).alloc (Nat.le_refl _) _
  have kR : w0.cell? ⟨w.heap.size, 0, none⟩ = some (.int .i64 t.rows) := by rw [← hw0]; simp [go_sem]
  have kC : w0.cell? ⟨w.heap.size, 1, none⟩ = some (.int .i64 t.columns) := by rw [← hw0]; simp [go_sem]
  have kH : w0.cell? ⟨w.heap.size, 2, none⟩ = some (.slice A t.heights.length q) := by rw [← hw0]; simp [go_sem]
  have HA0 := hid (hA.below hbw0)
  have HBW := hid hbw0
  have HW := hid hw0
  have HPT : Hid (RdLand w0 (.agg #[.int .i64 t.rows, .int .i64 t.columns, .slice A t.heights.length q]) t) := ⟨A, q, rfl, HA0.out⟩
  have HPP : Hid (PtLand w0 w.heap.size 0 t) := ⟨A, q, ⟨kR, kC, kH⟩, HA0.out⟩
  clear hA hbw0 hw0
  by_cases h1 : codeFl t c lev = 0
  · obtain ⟨h2, hlv⟩ := codeFl_ok h1
    obtain ⟨ht, a, b⟩ := codeCl_ok h2
    have HF : Hid (volF t c lev = (sumL (depTo t (wet t c lev) lev t.heights.length), 0)) := by show _ = _; unfold volF; rw [if_pos h1]
    have HC := hid h1
    clear h1 h2
    go_enter Try.func32, Try.ntmps32
    go_upto_region 1 with fail
    rw [HW.out]
    clear HW
    go_wp2_with fail
    refine (implFloodCode _ _ _ _ _ HPT.out).mono ?_
    rintro e w1 ⟨rfl, hb⟩
    rw [HC.out]
    have HB1 := hid (HBW.out.trans (hb.mono HBW.out.size))
    have HP1 := hid (HPP.out.below hb)
    have e1 := box_cell hb kR
    have e2 := box_cell hb kC
    have e3 := box_cell hb kH
    have HT1 := hid (HPT.out.below hb)
    clear hb kR kC kH
    go_wp2_with fail
    refine (implDepths _ t ht c lev _ HT1.out a b hlv).mono ?_
    rintro e w2 ⟨u, rfl, ho, hb⟩
    obtain ⟨V, vq, rfl⟩ := ho.form
    have hr := ho.rd (by rw [depTo_len]; exact hn20)
    have hrg := dep_range ht (wet t c lev) hlv t.heights.length
    have HB2 := hid (HB1.out.trans (hb.mono HB1.out.size))
    have HLN : Hid ((depTo t (wet t c lev) lev t.heights.length).length ≤ 1000) := by show _ ≤ _; rw [depTo_len]; have := ht.le; omega
    generalize depTo t (wet t c lev) lev t.heights.length = L at hr hrg HF HLN ⊢
    clear ho hb
    go_wp2_with fail
    refine (implSum _ _ _ _ hr HLN.out hrg).mono ?_
    rintro e w3 ⟨rfl, rfl⟩
    generalize sumL L = z at HF ⊢
    clear hr hrg
    go_wp2_with fail
    go_ret2
    exact ⟨ret_two HF.out, HB2.out⟩
  · have HF : Hid (volF t c lev = (0, codeFl t c lev)) := by show _ = _; unfold volF; rw [if_neg h1]
    have h1' : (codeFl t c lev != 0) = true := by simp [h1]
    have H1 := hid h1'
    clear h1'
    go_enter Try.func32, Try.ntmps32
    go_upto_region 1 with fail
    rw [HW.out]
    clear HW
    go_wp2_with fail
    refine (implFloodCode _ _ _ _ _ HPT.out).mono ?_
    rintro e w1 ⟨rfl, hb⟩
    have HB1 := hid (HBW.out.trans (hb.mono HBW.out.size))
    have h1' := H1.out
    clear hb kR kC kH H1
    generalize hz : codeFl t c lev = z at h1 h1' ⊢
    have HZ := hid hz
    clear hz
    go_wp2_with fail
    go_ret2
    exact ⟨ret_two (by rw [HF.out, HZ.out]), HB1.out⟩
end Go.Proofs.Ytpinpkpjehbfmaa
