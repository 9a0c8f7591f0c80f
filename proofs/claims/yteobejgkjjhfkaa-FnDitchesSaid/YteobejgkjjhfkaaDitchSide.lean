/- A2Side: walked. -/
import Derived.Test.YteobejgkjjhfkaaDitchA2
namespace Go.Proofs.Yteobejgkjjhfkaa
open Go.RowKit
set_option linter.unusedVariables false
set_option linter.unusedSimpArgs false
/-- Junctions from 1 to below k, in order, fr among them if it is below k. -/
structure SideP (fr : Int) (D : List Int) (k : Nat) : Prop where
  all : ∀ x ∈ D, 1 ≤ x ∧ x < (k : Int)
  up : D.Pairwise (· < ·)
  has : fr < (k : Int) → fr ∈ D
  len : D.length + 1 ≤ k
theorem SideP.start {fr : Int} (h : 1 ≤ fr) : SideP fr [] 1 := ⟨by simp, by simp, fun h' => by omega, by simp⟩
theorem SideP.push {fr : Int} {D : List Int} {k : Nat} (h : SideP fr D k) (hk : 1 ≤ k) : SideP fr (D ++ [(k : Int)]) (k + 1) := by
  refine ⟨fun x hx => ?_, List.pairwise_append.2 ⟨h.up, by simp, fun a ha b hb => ?_⟩, fun hlt => ?_, by have := h.len; rw [List.length_append]; simp; omega⟩
  · rcases List.mem_append.1 hx with hx | hx
    · have := h.all x hx; omega
    · rw [List.mem_singleton.1 hx]; omega
  · rw [List.mem_singleton.1 hb]
    exact (h.all a ha).2
  · by_cases e : fr < (k : Int)
    · exact List.mem_append.2 (.inl (h.has e))
    · exact List.mem_append.2 (.inr (List.mem_singleton.2 (by omega)))
theorem SideP.skip {fr : Int} {D : List Int} {k : Nat} (h : SideP fr D k) (hne : ¬ (k : Int) = fr) : SideP fr D (k + 1) :=
  ⟨fun x hx => by have := h.all x hx; omega, h.up, fun hlt => h.has (by omega), by have := h.len; omega⟩
theorem SideP.rises {fr J : Int} {D : List Int} {k : Nat} (h : SideP fr D k) (hk : (k : Int) = J) : risesB 0 (J - 1) D = true := by
  unfold risesB
  rw [decide_eq_true_eq]
  intro i hi
  have := h.all _ (List.getElem_mem hi)
  exact ⟨by omega, fun h' h0 => List.pairwise_iff_getElem.1 h.up (i - 1) i h' hi (by omega)⟩
set_option maxRecDepth 100000 in
set_option maxHeartbeats 4000000 in
theorem specA2Side (w : World) (A : Option Addr) (bs : List Byt) (c : Nat) (J fr : Int) (V : Option Addr) (n q : Nat) (hr : Rd w A bs) (hb : BytOk bs) (hJ : 2 ≤ J ∧ J ≤ 10) (hfr : 1 ≤ fr ∧ fr ≤ J - 1) :
    Calls Try.prog 36 #[.slice A bs.length c, .agg #[.int .i64 J, .slice V n q], .int .i64 fr] w fun e w' => ∃ (U : Option Addr) (uq : Nat) (D : List Int), e = .returned (.slice U D.length uq) ∧ Rd w' U D ∧ hasB D fr = true ∧ hasB D 0 = false ∧ risesB 0 (J - 1) D = true ∧ D.length ≤ 10 ∧ Below w.heap.size w w' := by
  obtain ⟨w0, hw0⟩ : ∃ x, w.alloc (.cells #[.int .i64 J, .slice V n q] 61) = x := ⟨_, rfl⟩
  have HB0 : Hid (Below w.heap.size w w0) := by show Below _ _ _; rw [← hw0]; exact (Below.refl _ _).alloc (Nat.le_refl _) _
  have b0 : w0.cell? ⟨w.heap.size, 0, none⟩ = some (.int .i64 J) := by rw [← hw0]; simp [go_sem]
  have HR0 := hid (hr.below HB0.out)
  have HZ0 : Hid (w.heap.size < w0.heap.size) := by show _ < _; rw [← hw0]; simp
  have HW := hid hw0
  have C0 := hid b0
  clear hr hw0 b0
  go_enter Try.func36, Try.ntmps36
  go_upto_region 1 with fail
  rw [HW.out]
  clear HW
  go_wp2_with fail
  refine (srcFrom _ A bs c HR0.out hb).mono ?_
  rintro e w1 ⟨rfl, hs, hb1⟩
  obtain ⟨g, hg⟩ : ∃ g, w0.heap.size = g := ⟨_, rfl⟩
  have HS1 := hid (hs.next ((Below.refl _ _).alloc (Nat.le_refl _) (.cells #[] 2)))
  have hg1 : g + 1 ≤ w1.heap.size := by have := hs.lt; omega
  have HO1 := hid (Own.empty (α := Int) (w := w1) (base := g + 1) (e := 2) hg1)
  have hwg : w.heap.size < g := by have := HZ0.out; omega
  rw [hg] at HS1 ⊢
  clear hs hb1
  go_wp2_with fail
  go_loopw [8, 9] (fun v iv wr => ∃ (k : Nat) (D : List Int), iv = .int .i64 k ∧ 1 ≤ k ∧ (k : Int) ≤ J ∧ SideP fr D k ∧ Own wr (g + 1) 2 v D ∧ SrcOk w0 wr g (2 * k)) (fun _ iv _ => 10 - (intOf iv).toNat)
  case atStart => exact ⟨1, [], rfl, by omega, by omega, SideP.start hfr.1, HO1.out, HS1.out.mono (by omega)⟩
  case round =>
    obtain ⟨k, D, rfl, hk1, hkJ, hsp, ho, hs⟩ := hrel
    obtain ⟨wo, rfl⟩ : ∃ wo : World, wo = wr := ⟨_, rfl⟩
    have hbel := hs.below
    have m0 := box_cell hbel C0.out
    have hDl := hsp.len
    have hz : g + 1 ≤ wo.heap.size := hs.lt
    obtain ⟨U, uq, rfl⟩ := ho.form
    have HP := hid hsp
    have HO := hid ho
    have HS := hid hs
    clear hsp ho hs hbel HS1 HO1
    by_cases hlt : (k : Int) < J
    · by_cases hf : (k : Int) = fr
      · have hc : ((k : Int) == fr) = true := beq_iff_eq.2 hf
        clear hf
        go_wp2_with (first | fail | (at_builtin; refine wpList_push elInt _ rfl (.tmp 26) (.tmp 28) rfl (g + 1) _ D (k : Int) rfl (HO.out.alloc _) _ rfl (heap_alloc_new _ _) (by omega) (le_alloc hz) ?_; intro v' w5 hown' hg' hat'; refine keep_ ?_))
        have hs5 : SrcOk w0 w5 g (2 * k + 2) := by
          have h1 := HS.out.next ((Below.refl _ _).alloc (Nat.le_refl _) (.cells #[.int .i64 (k : Int)] 2))
          refine (h1.mono (by omega)).span (lo := g + 1) (hi := w5.heap.size + wo.heap.size + 2) (Span.of_grown hg' fun b hb => ?_) (.inl (by omega)) (by have := HS.out.base; omega)
          have h2 := HO.out.block b hb
          omega
        obtain ⟨D5, hD5⟩ : ∃ x, D ++ [(k : Int)] = x := ⟨_, rfl⟩
        have HP5 : Hid (SideP fr D5 (k + 1)) := by
          show SideP fr D5 (k + 1)
          rw [← hD5]
          exact HP.out.push hk1
        rw [hD5] at hown'
        have HS5 := hid hs5
        have HO5 := hid hown'
        clear hs5 hown' hg' hat' hD5
        refine go_ ?_
        go_wp2_with fail
        go_roundw
        case rel => exact ⟨k + 1, D5, by go_num, by omega, by omega, HP5.out, HO5.out, HS5.out.mono (by omega)⟩
        case measure => simp [intOf]; omega
      · have hc : ((k : Int) == fr) = false := beq_eq_false_iff_ne.2 hf
        have HF := hid hf
        clear hf
        go_wp2_with (go_at_call 87; refine (srcOne w0 _ g (2 * k) 2 HS.out (by omega) (by omega)).mono ?_; rintro e w2 ⟨r, rfl, hs, hp⟩; refine keep_ ?_)
        have HS2 := hid hs
        have HO2 := hid (HO.out.grown (span_grownBy hp) (.inr (fun e => by have := (HO.out.block g e).1; omega)))
        have m2 := span_cell hp m0 (.inl (by simp only; omega))
        have hz2 : g + 1 ≤ w2.heap.size := hs.lt
        clear hs hp m0 HO HS
        refine go_ ?_
        cases r
        · go_wp2_with fail
          go_roundw
          case rel => exact ⟨k + 1, D, by go_num, by omega, by omega, HP.out.skip HF.out, HO2.out, HS2.out.mono (by omega)⟩
          case measure => simp [intOf]; omega
        · go_wp2_with (first | fail | (at_builtin; refine wpList_push elInt _ rfl (.tmp 26) (.tmp 28) rfl (g + 1) _ D (k : Int) rfl (HO2.out.alloc _) _ rfl (heap_alloc_new _ _) (by omega) (le_alloc hz2) ?_; intro v' w5 hown' hg' hat'; refine keep_ ?_))
          have hs5 : SrcOk w0 w5 g (2 * k + 2) := by
            have h1 := HS2.out.next ((Below.refl _ _).alloc (Nat.le_refl _) (.cells #[.int .i64 (k : Int)] 2))
            refine (h1.mono (by omega)).span (lo := g + 1) (hi := w5.heap.size + w2.heap.size + 2) (Span.of_grown hg' fun b hb => ?_) (.inl (by omega)) (by have := HS2.out.base; omega)
            have h2 := HO2.out.block b hb
            omega
          obtain ⟨D5, hD5⟩ : ∃ x, D ++ [(k : Int)] = x := ⟨_, rfl⟩
          have HP5 : Hid (SideP fr D5 (k + 1)) := by
            show SideP fr D5 (k + 1)
            rw [← hD5]
            exact HP.out.push hk1
          rw [hD5] at hown'
          have HS5 := hid hs5
          have HO5 := hid hown'
          clear hs5 hown' hg' hat' hD5
          refine go_ ?_
          go_wp2_with fail
          go_roundw
          case rel => exact ⟨k + 1, D5, by go_num, by omega, by omega, HP5.out, HO5.out, HS5.out.mono (by omega)⟩
          case measure => simp [intOf]; omega
    · have hkJ2 : (k : Int) = J := by omega
      have H1 := hid (HP.out.rises hkJ2)
      have H2 : Hid (hasB D fr = true) := decide_eq_true (HP.out.has (by omega))
      have H3 : Hid (hasB D 0 = false) := decide_eq_false (fun h => by have := HP.out.all 0 h; omega)
      go_wp2_with fail
      go_ret
      exact ⟨U, uq, D, rfl, HO.out.rd (by omega), H2.out, H3.out, H1.out, by omega, HB0.out.trans (HS.out.below.mono HB0.out.size)⟩
end Go.Proofs.Yteobejgkjjhfkaa
