/- The reference's TideAt, whole: walked. -/
import Derived.Test.YteobejgkjjhfkaaTideRef2
namespace Go.Proofs.Yteobejgkjjhfkaa
open Go.RowKit
set_option linter.unusedVariables false
theorem tb_num {xs : List Tide} (h : TT xs) {m : Int} (hm : firstT xs ≤ m ∧ m ≤ lastT xs) : (-1000000000000 ≤ tnum xs m ∧ tnum xs m ≤ 1000000000000) ∧ 1 ≤ tden xs m ∧ tden xs m ≤ 1000 := by
  have hs := segF_lt xs m xs.length 0 (by have := h.tb.len; omega)
  have h1 : segOf xs m + 1 < xs.length := hs
  obtain ⟨_, f0, l0⟩ := first_last h
  have e1 := h.tb.each _ (List.getElem_mem (show segOf xs m < xs.length by omega))
  have e2 := h.tb.each _ (List.getElem_mem h1)
  have hst := (h.ok.step (segOf xs m) h1).1
  unfold tnum tden tA tB
  rw [getD_tide h1, getD_tide (show segOf xs m < xs.length by omega)]
  generalize xs[segOf xs m] = x at *
  generalize xs[segOf xs m + 1] = y at *
  have q1 := mul_small (a := x.l) (b := y.m - x.m) (A := 2000) (B := 1000) (by omega) (by omega) (by omega) (by omega)
  have q2 := mul_small (a := y.l - x.l) (b := m - x.m) (A := 4000) (B := 2000) (by omega) (by omega) (by omega) (by omega)
  omega
set_option maxHeartbeats 4000000 in
theorem specTideAt_ (A : Option Addr) (xs : List Tide) (c : Nat) (m : Int) (w : World) (hx : Rd w A xs) (hok : TT xs) (hm : firstT xs ≤ m ∧ m ≤ lastT xs) :
    Calls Try.prog 25 #[.slice A xs.length c, .int .i64 m] w fun e w' => ∃ N D g : Int, e = .returned (.tuple #[.agg #[.int .i64 N, .int .i64 D], .int .i64 0]) ∧ 1 ≤ g ∧ N * g = tnum xs m ∧ D * g = tden xs m ∧ Below w.heap.size w w' := by
  obtain ⟨hnb, hdb⟩ := tb_num hok hm
  obtain ⟨_, hf0, hl0⟩ := first_last hok
  have HX := hid hx
  have HOK := hid hok
  have HM := hid hm
  have hm2 : -1000 ≤ m ∧ m ≤ 2000 := by omega
  obtain ⟨w0, hw0⟩ : ∃ x, w.alloc (.cells #[.int .i64 0, .int .i64 0] 40) = x := ⟨_, rfl⟩
  have hb0 : Below w.heap.size w w0 := by rw [← hw0]; exact (Below.refl _ _).alloc (Nat.le_refl _) _
  have k0 : w0.cell? ⟨w.heap.size, 0, none⟩ = some (.int .i64 0) := by rw [← hw0]; simp [go_sem]
  have k1 : w0.cell? ⟨w.heap.size, 1, none⟩ = some (.int .i64 0) := by rw [← hw0]; simp [go_sem]
  have f0 : w0.frozen? ⟨w.heap.size, 0, none⟩ = false := by rw [← hw0]; simp [go_sem]
  have f1 : w0.frozen? ⟨w.heap.size, 1, none⟩ = false := by rw [← hw0]; simp [go_sem]
  have HW := hid hw0
  have HB0 := hid hb0
  have HX0 := hid (hx.below hb0)
  clear hx hok hm hw0 hb0
  go_enter Try.func25, Try.ntmps25
  go_upto_region 1 with fail
  rw [HW.out]
  clear HW
  go_wp2_with fail
  refine (l08Code_ _ _ _ m _ HX0.out HOK.out HM.out).mono ?_
  rintro e w1 ⟨rfl, hb⟩
  have a0 := box_cell hb k0
  have a1 := box_cell hb k1
  have b0 := box_free hb (by rw [k0]; rfl) f0
  have b1 := box_free hb (by rw [k1]; rfl) f1
  have HB1 := hid (HB0.out.trans (hb.mono HB0.out.size))
  have HX1 := hid (HX0.out.below hb)
  clear hb k0 k1 f0 f1
  go_wp2_with fail
  refine (l08At_ _ _ _ m _ HX1.out HOK.out.tb hm2).mono ?_
  rintro e w2 ⟨rfl, hb⟩
  have k0 := box_cell hb a0
  have k1 := box_cell hb a1
  have f0 := box_free hb (by rw [a0]; rfl) b0
  have f1 := box_free hb (by rw [a1]; rfl) b1
  have HB2 := hid (HB1.out.trans (hb.mono HB1.out.size))
  clear hb a0 a1 b0 b1
  go_wp2_with fail
  refine (l02Make_ (tnum xs m) (tden xs m) _ hnb (by omega)).mono ?_
  rintro e w3 ⟨N, D, g, rfl, hg, e1, e2, hb⟩
  have a0 := box_cell hb k0
  have a1 := box_cell hb k1
  have b0 := box_free hb (by rw [k0]; rfl) f0
  have b1 := box_free hb (by rw [k1]; rfl) f1
  have HB3 := hid (HB2.out.trans (hb.mono HB2.out.size))
  have E1 := hid e1
  have E2 := hid e2
  clear hb k0 k1 f0 f1 e1 e2
  go_wp2_with fail
  (try simp only [Exit.inBlock, Exit.then])
  refine bodyPost_ret (v := .tuple #[.agg #[.int .i64 N, .int .i64 D], .int .i64 0]) ?_ rfl ?_
  · simp [results, go_sem, a0, a1]
  · exact ⟨N, D, g, rfl, hg, E1.out, E2.out, (HB3.out.setCell (Nat.le_refl _) _).setCell (Nat.le_refl _) _⟩
end Go.Proofs.Yteobejgkjjhfkaa
