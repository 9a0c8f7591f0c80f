/- A2Net and A2Side: walked. -/
import Derived.Test.YteobejgkjjhfkaaDitchNet
import Derived.Test.YteobejgkjjhfkaaRises
import Derived.Test.YteobejgkjjhfkaaAid
namespace Go.Proofs.Yteobejgkjjhfkaa
open Go.RowKit
set_option linter.unusedVariables false
set_option linter.unusedSimpArgs false
theorem span_free {w w' : World} {lo hi : Nat} (hs : Span w w' lo hi) {p : Addr} {v : Value} (h : w.cell? p = some v) (hf : w.frozen? p = false) (hp : p.block < lo ∨ hi ≤ p.block) : w'.frozen? p = false :=
  (World.frozen?_of_block (hs.block p.block (World.block_lt_of_cell? w p h) hp)).trans hf
set_option maxRecDepth 100000 in
set_option maxHeartbeats 4000000 in
theorem specA2Net (w : World) (A : Option Addr) (bs : List Byt) (c : Nat) (hr : Rd w A bs) (hb : BytOk bs) :
    Calls Try.prog 30 #[.slice A bs.length c] w fun e w' => ∃ (J : Int) (V : Option Addr) (q : Nat) (ds : List Ditch) (fr : Int), e = .returned (.tuple #[.agg #[.int .i64 J, .slice V ds.length q], .int .i64 fr]) ∧ Rd w' V ds ∧ NetOk J ds ∧ (1 ≤ fr ∧ fr ≤ J - 1) ∧ Below w.heap.size w w' := by
  obtain ⟨w0, hw0⟩ : ∃ x, w.alloc (.cells #[.int .i64 0, .slice none 0 0] 61) = x := ⟨_, rfl⟩
  have HB0 : Hid (Below w.heap.size w w0) := by show Below _ _ _; rw [← hw0]; exact (Below.refl _ _).alloc (Nat.le_refl _) _
  have hz0 : w.heap.size + 1 = w0.heap.size := by rw [← hw0]; simp
  have b0 : w0.cell? ⟨w.heap.size, 0, none⟩ = some (.int .i64 0) := by rw [← hw0]; simp [go_sem]
  have b1 : w0.cell? ⟨w.heap.size, 1, none⟩ = some (.slice none 0 0) := by rw [← hw0]; simp [go_sem]
  have b2 : ∀ j, w0.frozen? ⟨w.heap.size, j, none⟩ = false := by rw [← hw0]; intro j; simp [go_sem]
  have HR0 := hid (hr.below HB0.out)
  have HW := hid hw0
  have HZ0 := hid hz0
  have C0 := hid b0
  have C1 := hid b1
  have C2 := hid b2
  clear hr hw0 hz0 b0 b1 b2
  go_enter Try.func30, Try.ntmps30
  go_upto_region 1 with fail
  rw [HW.out]
  clear HW
  go_wp2_with fail
  refine (srcFrom _ A bs c HR0.out hb).mono ?_
  rintro e w1 ⟨rfl, hs, hb1⟩
  have HS1 := hid hs
  have HB1 := hid hb1
  clear hs hb1
  go_wp2_with fail
  refine (drawNet w0 w1 w0.heap.size 0 HS1.out (by omega)).mono ?_
  rintro e w2 ⟨J, V, q, ds, rfl, hx, hok, hs, hp⟩
  have hJ := hok.j
  obtain ⟨R, hR⟩ : ∃ R, w.heap.size = R := ⟨_, rfl⟩
  obtain ⟨g, hg⟩ : ∃ g, w0.heap.size = g := ⟨_, rfl⟩
  have hRg : R < g := by have := HZ0.out; omega
  have k0 := span_cell hp (box_cell HB1.out C0.out) (.inl (by simp only; omega))
  have k1 := span_cell hp (box_cell HB1.out C1.out) (.inl (by simp only; omega))
  have kf : ∀ j, w2.frozen? ⟨w.heap.size, j, none⟩ = false := fun j => by
    have h1 := hp.block w.heap.size (Nat.lt_of_lt_of_le (by have := HZ0.out; omega) HB1.out.size) (.inl (by omega))
    have h2 := HB1.out.block w.heap.size (by have := HZ0.out; omega)
    exact (World.frozen?_of_block (h1.trans h2)).trans (C2.out j)
  have HB2 := hid (below_span HB1.out hp (Nat.le_refl _) HB1.out.size)
  have HS2 := hid hs
  have HX2 := hid hx
  have hg1 : w0.heap.size < w1.heap.size := HS1.out.lt
  have HOK := hid hok
  have hw2 : w0.heap.size < w2.heap.size := hs.lt
  have kf0 := kf 0
  have kf1 := kf 1
  clear hs hp hx hok HS1 HB1 C0 C1 C2 kf
  rw [hg] at hw2 hg1 ⊢
  rw [hR] at k0 k1 kf0 kf1 ⊢
  go_upto_region 3 with fail
  obtain ⟨G, hG⟩ : ∃ G, w2.heap.size = G := ⟨_, rfl⟩
  obtain ⟨w3, hw3⟩ : ∃ x, w2.alloc (.cells #[.int .i64 J, .slice V ds.length q] 61) = x := ⟨_, rfl⟩
  have hb3 : Below w2.heap.size w2 w3 := by rw [← hw3]; exact (Below.refl _ _).alloc (Nat.le_refl _) _
  have n0 : w3.cell? ⟨G, 0, none⟩ = some (.int .i64 J) := by rw [← hw3, ← hG]; simp [go_sem]
  have n1 : w3.cell? ⟨G, 1, none⟩ = some (.slice V ds.length q) := by rw [← hw3, ← hG]; simp [go_sem]
  have z0 := box_cell hb3 k0
  have z1 := box_cell hb3 k1
  have zf0 := box_free hb3 (by rw [k0]; rfl) kf0
  have zf1 := box_free hb3 (by rw [k1]; rfl) kf1
  have HB3 := hid (HB2.out.trans (hb3.mono HB2.out.size))
  have HS3 := hid (HS2.out.next hb3)
  have HX3 := hid (HX2.out.below hb3)
  have hgG : g < G := by omega
  rw [hw3, hG]
  rw [hg] at HS3
  clear hb3 hw3 k0 k1 kf0 kf1 HB2 HS2 HX2 hG hw2
  have hRG : ¬ R = G := by omega
  have hRG2 : ¬ G = R := by omega
  have e1 : IntKind.i64.wrap (J - 1) = J - 1 := IntWalk.i64_in _ (by omega)
  go_region_held3 (fun w' => w'.cell? ⟨G, 0, none⟩ = some (.int .i64 J) ∧ w'.cell? ⟨G, 1, none⟩ = some (.slice V ds.length q)) (first | go_keep | (with_reducible exact ⟨q0, q1⟩) | (refine ⟨?_, ?_⟩ <;> simp [go_sem, q0, q1, hRG, hRG2])) ((go_at_call 72; refine (srcPick w0 _ g 100 (J - 1) (HS3.out.next ((Below.refl _ _).drew)) (by omega) (by omega)).mono ?_; rintro e w4 ⟨r, rfl, hr, hs, hp⟩; have hp := span_undrew hp; have q0 := span_cell hp n0 (.inr (by simp only; omega)); have q1 := span_cell hp n1 (.inr (by simp only; omega)); have t0 := span_cell hp z0 (.inl (by simp only; omega)); have t1 := span_cell hp z1 (.inl (by simp only; omega)); have tf0 := span_free hp z0 zf0 (.inl (by simp only; omega)); have tf1 := span_free hp z1 zf1 (.inl (by simp only; omega))))
  have e2 : IntKind.i64.wrap (1 + r) = 1 + r := IntWalk.i64_in _ (by omega)
  rw [e2]
  have HBn := hid (HB0.out.trans ((below_span HB3.out hp (by omega) HB3.out.size).mono HB0.out.size))
  have HXn := hid (((HX3.out.grown (span_grownBy hp) (.inr (fun e => by have := (HX3.out.block g e).1; omega))).past (p := ⟨R, 0, none⟩) (by simp only; omega) (.int .i64 J)).past (p := ⟨R, 1, none⟩) (by simp only; omega) (.slice V ds.length q))
  clear hp hs
  go_wp2_with fail
  (try simp only [Exit.inBlock, Exit.then])
  refine bodyPost_ret (v := .tuple #[.agg #[.int .i64 J, .slice V ds.length q], .int .i64 (1 + r)]) ?_ rfl ?_
  · simp [results, go_sem, t0, t1]
  · exact ⟨J, V, q, ds, 1 + r, rfl, HXn.out.rd (by have := HOK.out.len; omega), HOK.out, by omega, (HBn.out.setCell (p := ⟨R, 0, none⟩) (by simp only; omega) _).setCell (p := ⟨R, 1, none⟩) (by simp only; omega) _⟩
end Go.Proofs.Yteobejgkjjhfkaa
