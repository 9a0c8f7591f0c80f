/- The cells next to a cell: the walks. -/
import Derived.Test.YtpinpkpjehbfmaaLandOk
namespace Go.Proofs.Ytpinpkpjehbfmaa
open Go.RowKit
set_option linter.unusedVariables false
theorem size_alloc_new (w : World) (o : Obj) : (w.alloc o).heap.size = w.heap.size + 1 := by simp
set_option linter.unusedSimpArgs false
theorem near_rk {t : Land} {x r k : Int} (e1 : x.tdiv t.columns = r) (e2 : x.tmod t.columns = k) :
    near t x = (if 0 < r then [x - t.columns] else []) ++ (if 0 < k then [x - 1] else []) ++ (if k < t.columns - 1 then [x + 1] else []) ++ (if r < t.rows - 1 then [x + t.columns] else []) := by
  unfold near; rw [e1, e2]
set_option maxHeartbeats 8000000 in
theorem specNear (g o : Nat) (t : Land) (ht : LOk t) (x : Int) (w : World) (h : PtLand w g o t) (h0 : 0 ≤ x) (h1 : x < t.heights.length) :
    Calls Try.prog 47 #[.pointer (some ⟨g, o, none⟩), .int .i64 x] w fun e w' => ∃ v, e = .returned v ∧ Own w' w.heap.size 2 v (near t x) ∧ Below w.heap.size w w' := by
  obtain ⟨A, c, ⟨cR, cC, _⟩, _⟩ := h
  obtain ⟨r, k, hx, r0, r1, k0, k1, e1, e2⟩ := ht.cell h0 h1
  have HN := hid (near_rk (t := t) e1 e2)
  have hle := ht.le
  have hr := ht.r
  have hc := ht.c
  have hq : x / t.columns = r := by rw [← e1, Int.tdiv_eq_ediv_of_nonneg h0]
  have hm : x % t.columns = k := by rw [← e2, Int.tmod_eq_emod_of_nonneg h0]
  have hx2 : x ≤ 143 := by omega
  have D0 := hid cR
  have D1 := hid cC
  have HO : Hid (Own (w.alloc (.cells #[] 2)) w.heap.size 2 (.slice (some ⟨w.heap.size, 0, none⟩) 0 0) ([] : List Int)) := Own.empty (Nat.le_refl _)
  have HB : Hid (Below w.heap.size w (w.alloc (.cells #[] 2))) := (Below.refl _ _).alloc (Nat.le_refl _) _
  clear e1 e2 hx h1
  by_cases g1 : 0 < r <;> by_cases g2 : 0 < k <;> by_cases g3 : k < t.columns - 1 <;> by_cases g4 : r < t.rows - 1
  all_goals
    simp only [g1, g2, g3, g4, if_true, if_false] at HN
    go_enter Try.func47, Try.ntmps47
    go_wp2_with (first | fail | (at_builtin; first | (refine wpList_push elInt _ rfl (.tmp 23) (.tmp 30) rfl w.heap.size _ _ (x - t.columns) rfl (HO.out.alloc _) _ rfl (by first | exact heap_alloc_new _ _ | exact (show _ from by have hz := heap_alloc_new (w.alloc (.cells #[] 2)) (.cells #[.int .i64 (x - t.columns)] 2); simp only [size_alloc_new] at hz; exact hz)) (by simp) (le_alloc HB.out.size) ?_; intro v' w' hown' hg' hat'; have hbn := below_own (HB.out.alloc HB.out.size _) (HO.out.alloc _) hg' (Nat.le_refl _) (le_alloc HB.out.size); replace HO := hid hown'; replace HB := hid hbn; have cR := box_cell hbn D0.out; have cC := box_cell hbn D1.out; clear hown' hg' hat' hbn) | (refine wpList_push elInt _ rfl (.tmp 34) (.tmp 37) rfl w.heap.size _ _ (x - 1) rfl (HO.out.alloc _) _ rfl (by first | exact heap_alloc_new _ _ | exact (show _ from by have hz := heap_alloc_new (w.alloc (.cells #[] 2)) (.cells #[.int .i64 (x - 1)] 2); simp only [size_alloc_new] at hz; exact hz)) (by simp) (le_alloc HB.out.size) ?_; intro v' w' hown' hg' hat'; have hbn := below_own (HB.out.alloc HB.out.size _) (HO.out.alloc _) hg' (Nat.le_refl _) (le_alloc HB.out.size); replace HO := hid hown'; replace HB := hid hbn; have cR := box_cell hbn D0.out; have cC := box_cell hbn D1.out; clear hown' hg' hat' hbn) | (refine wpList_push elInt _ rfl (.tmp 46) (.tmp 49) rfl w.heap.size _ _ (x + 1) rfl (HO.out.alloc _) _ rfl (by first | exact heap_alloc_new _ _ | exact (show _ from by have hz := heap_alloc_new (w.alloc (.cells #[] 2)) (.cells #[.int .i64 (x + 1)] 2); simp only [size_alloc_new] at hz; exact hz)) (by simp) (le_alloc HB.out.size) ?_; intro v' w' hown' hg' hat'; have hbn := below_own (HB.out.alloc HB.out.size _) (HO.out.alloc _) hg' (Nat.le_refl _) (le_alloc HB.out.size); replace HO := hid hown'; replace HB := hid hbn; have cR := box_cell hbn D0.out; have cC := box_cell hbn D1.out; clear hown' hg' hat' hbn) | (refine wpList_push elInt _ rfl (.tmp 58) (.tmp 65) rfl w.heap.size _ _ (x + t.columns) rfl (HO.out.alloc _) _ rfl (by first | exact heap_alloc_new _ _ | exact (show _ from by have hz := heap_alloc_new (w.alloc (.cells #[] 2)) (.cells #[.int .i64 (x + t.columns)] 2); simp only [size_alloc_new] at hz; exact hz)) (by simp) (le_alloc HB.out.size) ?_; intro v' w' hown' hg' hat'; have hbn := below_own (HB.out.alloc HB.out.size _) (HO.out.alloc _) hg' (Nat.le_refl _) (le_alloc HB.out.size); replace HO := hid hown'; replace HB := hid hbn; have cR := box_cell hbn D0.out; have cC := box_cell hbn D1.out; clear hown' hg' hat' hbn)))
    go_ret
    exact ⟨_, rfl, by rw [HN.out]; exact HO.out, HB.out⟩
set_option maxHeartbeats 2000000 in
theorem implCell (v : Value) (t : Land) (ht : LOk t) (r c : Int) (w : World) (h : RdLand w v t) (hr : -1 ≤ r ∧ r ≤ 13) (hc : -1 ≤ c ∧ c ≤ 13) :
    Calls Try.prog 75 #[v, .int .i64 r, .int .i64 c] w fun e w' => e = .returned (.tuple #[.int .i64 (r * t.columns + c), .bool (inB r 0 (t.rows - 1) && inB c 0 (t.columns - 1))]) ∧ Below w.heap.size w w' := by
  obtain ⟨A, q, rfl, _⟩ := h
  have HB := hid fun o => (Below.refl w.heap.size w).alloc (Nat.le_refl _) o
  have b1 := ht.r
  have b2 := ht.c
  have p1 : r * t.columns ≤ 13 * t.columns := Int.mul_le_mul_of_nonneg_right hr.2 (by omega)
  have p2 : -1 * t.columns ≤ r * t.columns := Int.mul_le_mul_of_nonneg_right hr.1 (by omega)
  have hw : IntKind.i64.wrap (r * t.columns) = r * t.columns := IntWalk.i64_in _ (by omega)
  have hp : -12 ≤ r * t.columns ∧ r * t.columns ≤ 156 := by omega
  have hcc : ∃ z, inB c 0 (t.columns - 1) = z := ⟨_, rfl⟩
  obtain ⟨z2, h2⟩ := hcc
  obtain ⟨z1, h1⟩ : ∃ z, inB r 0 (t.rows - 1) = z := ⟨_, rfl⟩
  rw [h1, h2]
  clear p1 p2
  cases z1
  all_goals
    go_enter Try.func75, Try.ntmps75
    go_wp2_with fail
    refine wp_region_more (by kernel_rfl) (by kernel_rfl) ?_
    repeat (go_big_quiet_step ((go_at_call 49; first | exact quiet_same (implIn_eq _ _ _ _ h1) | exact quiet_same (implIn_eq _ _ _ _ h2))))
    refine wpQuiet_nil ?_
    rintro _ ⟨nq, rfl⟩
    go_wp2_with fail
    go_ret2
    exact ⟨by simp, (HB.out _).trans (more_below.mono (HB.out _).size)⟩
end Go.Proofs.Ytpinpkpjehbfmaa
