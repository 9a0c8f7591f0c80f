/- Ditches that are drawn: walked. -/
import Derived.Test.YteobejgkjjhfkaaDitchOk
import Derived.Test.YteobejgkjjhfkaaMillDraw
namespace Go.Proofs.Yteobejgkjjhfkaa
open Go.RowKit
set_option linter.unusedVariables false
set_option linter.unusedSimpArgs false
/-- Three cells of the call's own. -/
structure Box3 (w : World) (G : Nat) (a b c : Int) : Prop where
  f0 : w.frozen? ⟨G, 0, none⟩ = false
  f1 : w.frozen? ⟨G, 1, none⟩ = false
  f2 : w.frozen? ⟨G, 2, none⟩ = false
  c0 : w.cell? ⟨G, 0, none⟩ = some (.int .i64 a)
  c1 : w.cell? ⟨G, 1, none⟩ = some (.int .i64 b)
  c2 : w.cell? ⟨G, 2, none⟩ = some (.int .i64 c)
theorem Box3.new (w : World) (e : TypeId) (a b c : Int) : Box3 (w.alloc (.cells #[.int .i64 a, .int .i64 b, .int .i64 c] e)) w.heap.size a b c := by
  constructor <;> simp [go_sem]
theorem Box3.span {w w' : World} {G lo hi : Nat} {a b c : Int} (h : Box3 w G a b c) (hs : Span w w' lo hi) (hG : G < lo ∨ hi ≤ G) : Box3 w' G a b c := by
  have hlt : G < w.heap.size := World.block_lt_of_cell? w _ h.c0
  have hf : ∀ j, w'.frozen? ⟨G, j, none⟩ = w.frozen? ⟨G, j, none⟩ := fun j => World.frozen?_of_block (hs.block G hlt hG)
  exact ⟨(hf 0).trans h.f0, (hf 1).trans h.f1, (hf 2).trans h.f2, span_cell hs h.c0 hG, span_cell hs h.c1 hG, span_cell hs h.c2 hG⟩
theorem Box3.set1 {w : World} {G : Nat} {a b c : Int} (h : Box3 w G a b c) (z : Int) : Box3 (w.setCell ⟨G, 1, none⟩ (.int .i64 z)) G a z c := by
  obtain ⟨f0, f1, f2, c0, c1, c2⟩ := h
  constructor <;> simp [go_sem, f0, f1, f2, c0, c1, c2]
theorem Box3.set2 {w : World} {G : Nat} {a b c : Int} (h : Box3 w G a b c) (z : Int) : Box3 (w.setCell ⟨G, 2, none⟩ (.int .i64 z)) G a b z := by
  obtain ⟨f0, f1, f2, c0, c1, c2⟩ := h
  constructor <;> simp [go_sem, f0, f1, f2, c0, c1, c2]
set_option maxHeartbeats 4000000 in
theorem drawDitch (W0 w : World) (g m : Nat) (J : Int) (h : SrcOk W0 w g m) (hm : m ≤ 100000) (hJ : 2 ≤ J ∧ J ≤ 10) :
    Calls Try.prog 118 #[.pointer (some ⟨g, 0, none⟩), .int .i64 J] w fun e w' => ∃ d : Ditch, e = .returned (.agg #[.int .i64 d.a, .int .i64 d.b, .int .i64 d.c]) ∧ (DOk J d ∧ d.c ≤ 11) ∧ SrcOk W0 w' g (m + 6) ∧ Span w w' g (g + 1) := by
  have hlt := h.lt
  obtain ⟨w0, hw0⟩ : ∃ x, w.alloc (.cells #[.int .i64 0, .int .i64 0, .int .i64 0] 139) = x := ⟨_, rfl⟩
  have B0 : Hid (Box3 w0 w.heap.size 0 0 0) := by rw [← hw0]; exact Box3.new _ _ _ _ _
  have HS0 : Hid (SrcOk W0 w0 g m) := by rw [← hw0]; exact h.next ((Below.refl _ _).alloc (Nat.le_refl _) _)
  have HP0 : Hid (Span w w0 g (g + 1)) := by rw [← hw0]; exact span_alloc (Span.refl _ _ _) _
  have hz0 : w.heap.size < w0.heap.size := by rw [← hw0]; simp
  have HW := hid hw0
  have e1 : IntKind.i64.wrap (J - 1) = J - 1 := IntWalk.i64_in _ (by omega)
  clear h hw0
  go_enter Try.func118, Try.ntmps118
  go_upto_region 1 with fail
  rw [HW.out]
  clear HW
  go_wp2_with fail
  refine (srcPick W0 _ g m (J - 1) HS0.out (by omega) (by omega)).mono ?_
  rintro e w1 ⟨r1, rfl, hr1, hs, hp⟩
  have HS1 := hid hs
  have HP1 := hid (HP0.out.trans hp)
  have B1 := hid (B0.out.span hp (by omega))
  have hz1 := hp.size
  have e2 : IntKind.i64.wrap (1 + r1) = 1 + r1 := IntWalk.i64_in _ (by omega)
  clear hs hp HS0 HP0 B0
  go_upto_region 2 with fail
  obtain ⟨G, hG⟩ : ∃ G, w1.heap.size = G := ⟨_, rfl⟩
  obtain ⟨w2, hw2⟩ : ∃ x, w1.alloc (.cells #[.int .i64 (1 + r1), .int .i64 0, .int .i64 0] 139) = x := ⟨_, rfl⟩
  have C2 : Hid (Box3 w2 G (1 + r1) 0 0) := by rw [← hw2, ← hG]; exact Box3.new _ _ _ _ _
  have sp2 : Span w1 w2 g (g + 1) := by rw [← hw2]; exact span_alloc (Span.refl _ _ _) _
  have B2 := hid (B1.out.span sp2 (by omega))
  have HS2 : Hid (SrcOk W0 w2 g (m + 2)) := by rw [← hw2]; exact HS1.out.next ((Below.refl _ _).alloc (Nat.le_refl _) _)
  have HP2 := hid (HP1.out.trans sp2)
  have hgG : g < G := by omega
  have hwG : w.heap.size < G := by omega
  rw [hw2, hG]
  clear hw2 sp2 HS1 HP1 B1 hG
  go_wp2_with fail
  refine (srcPick W0 _ g (m + 2) J HS2.out (by omega) (by omega)).mono ?_
  rintro e w3 ⟨r2, rfl, hr2, hs, hp⟩
  have HS3 := hid hs
  have HP3 := hid (HP2.out.trans hp)
  have B3 := hid (B2.out.span hp (by omega))
  have C3 := hid (C2.out.span hp (by omega))
  have c1 := C3.out.c1
  have f1 := C3.out.f1
  clear hs hp HS2 HP2 B2 C2
  go_upto_region 3 with fail
  obtain ⟨w4, hw4⟩ : ∃ x, w3.setCell ⟨G, 1, none⟩ (.int .i64 r2) = x := ⟨_, rfl⟩
  have C4 : Hid (Box3 w4 G (1 + r1) r2 0) := by rw [← hw4]; exact C3.out.set1 _
  have sp4 : Span w3 w4 G (G + 1) := by rw [← hw4]; exact span_set (Span.refl _ _ _) ⟨Nat.le_refl _, Nat.lt_succ_self _⟩ _
  have B4 := hid (B3.out.span sp4 (.inl hwG))
  have HS4 : Hid (SrcOk W0 w4 g (m + 2 + 2)) := by rw [← hw4]; exact HS3.out.store hgG _
  have HP4 : Hid (Span w w4 g (g + 1)) := by rw [← hw4]; exact span_new HP3.out (Nat.le_of_lt hwG) _
  rw [hw4]
  clear hw4 sp4 HS3 HP3 B3 C3 c1 f1
  have k0 := C4.out.c0
  have k1 := C4.out.c1
  have g1 := C4.out.f1
  by_cases he : r2 = 1 + r1
  · have hcmp : (r2 == 1 + r1) = true := by rw [beq_iff_eq]; exact he
    have HE := hid he
    clear he
    go_upto_region 5 with fail
    obtain ⟨w5, hw5⟩ : ∃ x, w4.setCell ⟨G, 1, none⟩ (.int .i64 0) = x := ⟨_, rfl⟩
    have C5 : Hid (Box3 w5 G (1 + r1) 0 0) := by rw [← hw5]; exact C4.out.set1 _
    have sp5 : Span w4 w5 G (G + 1) := by rw [← hw5]; exact span_set (Span.refl _ _ _) ⟨Nat.le_refl _, Nat.lt_succ_self _⟩ _
    have B5 := hid (B4.out.span sp5 (.inl hwG))
    have HS5 : Hid (SrcOk W0 w5 g (m + 2 + 2)) := by rw [← hw5]; exact HS4.out.store hgG _
    have HP5 : Hid (Span w w5 g (g + 1)) := by rw [← hw5]; exact span_new HP4.out (Nat.le_of_lt hwG) _
    rw [hw5]
    clear hw5 sp5 HS4 HP4 B4 C4 k0 k1 g1
    go_wp2_with fail
    refine (srcPick W0 _ g (m + 2 + 2) 12 HS5.out (by omega) (by omega)).mono ?_
    rintro e w6 ⟨r3, rfl, hr3, hs, hp⟩
    have HS6 := hid hs
    have HP6 := hid (HP5.out.trans hp)
    have B6 := hid (B5.out.span hp (by omega))
    have C6 := hid (C5.out.span hp (by omega))
    have f2 := C6.out.f2
    have c2 := C6.out.c2
    clear hs hp HS5 HP5 B5 C5
    go_upto_region 6 with fail
    obtain ⟨w7, hw7⟩ : ∃ x, w6.setCell ⟨G, 2, none⟩ (.int .i64 r3) = x := ⟨_, rfl⟩
    have C7 : Hid (Box3 w7 G (1 + r1) 0 r3) := by rw [← hw7]; exact C6.out.set2 _
    have sp7 : Span w6 w7 G (G + 1) := by rw [← hw7]; exact span_set (Span.refl _ _ _) ⟨Nat.le_refl _, Nat.lt_succ_self _⟩ _
    have B7 := hid (B6.out.span sp7 (.inl hwG))
    have HS7 : Hid (SrcOk W0 w7 g (m + 2 + 2 + 2)) := by rw [← hw7]; exact HS6.out.store hgG _
    have HP7 : Hid (Span w w7 g (g + 1)) := by rw [← hw7]; exact span_new HP6.out (Nat.le_of_lt hwG) _
    rw [hw7]
    clear hw7 sp7 HS6 HP6 B6 C6 f2 c2
    obtain ⟨n0, n1, n2, d0, d1, d2⟩ := C7.out
    obtain ⟨t0, t1, t2, z0, z1, z2⟩ := B7.out
    go_wp2_with fail
    (try simp only [Exit.inBlock, Exit.then])
    refine bodyPost_ret (v := .agg #[.int .i64 (1 + r1), .int .i64 0, .int .i64 r3]) ?_ rfl ?_
    · simp [results, go_sem, z0, z1, z2]
    · have he := HE.out
      refine ⟨⟨1 + r1, 0, r3⟩, rfl, ⟨⟨by simp only; omega, by simp only; omega, by simp only; omega, by simp only; omega⟩, by simp only; omega⟩, ?_, ?_⟩
      · exact ((HS7.out.store hlt _).store hlt _).store hlt _
      · exact span_new (span_new (span_new HP7.out (Nat.le_refl _) _) (Nat.le_refl _) _) (Nat.le_refl _) _
  · have hcmp : (r2 == 1 + r1) = false := by rw [beq_eq_false_iff_ne]; exact he
    have HE := hid he
    have C5 := hid C4.out
    have B5 := hid B4.out
    have HS5 := hid HS4.out
    have HP5 := hid HP4.out
    go_upto_region 5 with fail
    clear HS4 HP4 B4 C4 k0 k1 g1
    go_wp2_with fail
    refine (srcPick W0 _ g (m + 2 + 2) 12 HS5.out (by omega) (by omega)).mono ?_
    rintro e w6 ⟨r3, rfl, hr3, hs, hp⟩
    have HS6 := hid hs
    have HP6 := hid (HP5.out.trans hp)
    have B6 := hid (B5.out.span hp (by omega))
    have C6 := hid (C5.out.span hp (by omega))
    have f2 := C6.out.f2
    have c2 := C6.out.c2
    clear hs hp HS5 HP5 B5 C5
    go_upto_region 6 with fail
    obtain ⟨w7, hw7⟩ : ∃ x, w6.setCell ⟨G, 2, none⟩ (.int .i64 r3) = x := ⟨_, rfl⟩
    have C7 : Hid (Box3 w7 G (1 + r1) r2 r3) := by rw [← hw7]; exact C6.out.set2 _
    have sp7 : Span w6 w7 G (G + 1) := by rw [← hw7]; exact span_set (Span.refl _ _ _) ⟨Nat.le_refl _, Nat.lt_succ_self _⟩ _
    have B7 := hid (B6.out.span sp7 (.inl hwG))
    have HS7 : Hid (SrcOk W0 w7 g (m + 2 + 2 + 2)) := by rw [← hw7]; exact HS6.out.store hgG _
    have HP7 : Hid (Span w w7 g (g + 1)) := by rw [← hw7]; exact span_new HP6.out (Nat.le_of_lt hwG) _
    rw [hw7]
    clear hw7 sp7 HS6 HP6 B6 C6 f2 c2
    obtain ⟨n0, n1, n2, d0, d1, d2⟩ := C7.out
    obtain ⟨t0, t1, t2, z0, z1, z2⟩ := B7.out
    go_wp2_with fail
    (try simp only [Exit.inBlock, Exit.then])
    refine bodyPost_ret (v := .agg #[.int .i64 (1 + r1), .int .i64 r2, .int .i64 r3]) ?_ rfl ?_
    · simp [results, go_sem, z0, z1, z2]
    · have he := HE.out
      refine ⟨⟨1 + r1, r2, r3⟩, rfl, ⟨⟨by simp only; omega, by simp only; omega, by simp only; omega, by simp only; omega⟩, by simp only; omega⟩, ?_, ?_⟩
      · exact ((HS7.out.store hlt _).store hlt _).store hlt _
      · exact span_new (span_new (span_new HP7.out (Nat.le_refl _) _) (Nat.le_refl _) _) (Nat.le_refl _) _
end Go.Proofs.Yteobejgkjjhfkaa
