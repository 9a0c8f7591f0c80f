/- Nets that are drawn: walked. -/
import Derived.Test.YteobejgkjjhfkaaDitchDraw
import Derived.Test.YteobejgkjjhfkaaDitchLaw
import Derived.Deep.RegionWith
import Derived.Deep.RegionHeld3
import Derived.Test.YteobejgkjjhfkaaHeldLate
namespace Go.Proofs.Yteobejgkjjhfkaa
open Go.RowKit
set_option linter.unusedVariables false
set_option linter.unusedSimpArgs false
section
variable {P : Program} {α : Type} [Enc α] {t e : TypeId} {z0 : α}
/-- append(s, y) at a step of a region that draws its order. -/
theorem stepAdd (T : El P t e z0) (w : World) {ops : Array Oper} {o : Oper} {a : Act} {K : Act → World → Prop} {Q : Exit → Act → World → Prop} {E : Prop}
    (hgd : o.guard = none) (s x : Operand) (ho : o.op = .call { callee := .builtin .append, args := #[s, x], argTypes := #[t, t] })
    (base : Nat) (v : Value) (xs : List α) (y : α) (hs : a.eval s = v) (hown : Own w base e v xs) (g : Nat) (hx : a.eval x = .slice (some ⟨g, 0, none⟩) 1 1) (hcells : w.heap[g]? = some (.cells (Enc.enc y).toArray e (0, 0)))
    (hlen : xs.length ≤ 1048576) (hbase : base ≤ w.heap.size)
    (h : ∀ v' w', Own w' base e v' (xs ++ [y]) → w.grownBy w' v.ownBlock → (v'.ownBlock = v.ownBlock ∨ v'.ownBlock = some w.heap.size) → K (a.put o.dst v') w') :
    if Region.wanted o (yielded ops a.tmps) = true then Oper.wp P o a w K Q else E := by
  obtain ⟨i, z, hi, hz, hsz, hby, hzc, hpos⟩ := T.ex
  have hc : ∀ j u, (Enc.enc y)[j]? = some u → w.cell? ((⟨g, 0, none⟩ : Addr).add j) = some u := by
    intro j u hu
    have : (⟨g, 0, none⟩ : Addr).add j = ⟨g, j, none⟩ := by unfold Addr.add; split <;> simp_all
    rw [this, cell_of_row w g j _ e (0, 0) hcells]
    simpa using hu
  have hw : Region.wanted o (yielded ops a.tmps) = true := by simp [Region.wanted, hgd]
  rw [if_pos hw]
  obtain ⟨v', w', hrun, h2, h3, h4, h5⟩ := run_append_own_at (P := P) w base t o.type e i z (Enc.size α) i.bytes T.und hi hz hsz rfl (by rw [hzc]; simp [Enc.len]) hpos v xs.length (flat xs) hown ⟨g, 0, none⟩ 1 1 (Enc.enc y) (by rw [Enc.len]; omega) hc (Enc.one y)
    (by simp only [maxLen]; omega) (Nat.le_trans (Nat.mul_le_mul (show xs.length + 1 ≤ 1048577 by omega) hby) (by decide)) hbase
  have h2' : Own w' base e v' (xs ++ [y]) := by
    unfold Own
    rw [flat_append, flat_one, List.length_append]
    exact h2
  unfold Oper.wp execOp
  simp only [ho, resolve, invoke, builtin, Sem.run_bind, Sem.run_pure, Result.andThen_ok, List.map_toArray, List.map_cons, List.map_nil, hs, hx, hrun]
  exact h v' w' h2' h3 h5
end
/-- The two variables of a net that is drawn: R the result's, G the one that grows. -/
structure NetBx (w : World) (R G : Nat) (J : Int) (S : Value) : Prop where
  f0 : w.frozen? ⟨R, 0, none⟩ = false
  f1 : w.frozen? ⟨R, 1, none⟩ = false
  e0 : w.frozen? ⟨G, 1, none⟩ = false
  r0 : w.cell? ⟨R, 0, none⟩ = some (.int .i64 0)
  r1 : w.cell? ⟨R, 1, none⟩ = some (.slice none 0 0)
  g0 : w.cell? ⟨G, 0, none⟩ = some (.int .i64 J)
  g1 : w.cell? ⟨G, 1, none⟩ = some S
section
variable {w w' : World} {R G : Nat} {J : Int} {S : Value}
theorem NetBx.same (h : NetBx w R G J S) (hR : w'.heap[R]? = w.heap[R]?) (hG : w'.heap[G]? = w.heap[G]?) : NetBx w' R G J S :=
  ⟨(World.frozen?_of_block hR).trans h.f0, (World.frozen?_of_block hR).trans h.f1, (World.frozen?_of_block hG).trans h.e0, (World.cell?_of_block hR).trans h.r0, (World.cell?_of_block hR).trans h.r1, (World.cell?_of_block hG).trans h.g0, (World.cell?_of_block hG).trans h.g1⟩
theorem NetBx.lt (h : NetBx w R G J S) : R < w.heap.size ∧ G < w.heap.size := ⟨World.block_lt_of_cell? w _ h.r0, World.block_lt_of_cell? w _ h.g0⟩
theorem NetBx.below (h : NetBx w R G J S) (hb : Below w.heap.size w w') : NetBx w' R G J S := h.same (hb.block _ h.lt.1) (hb.block _ h.lt.2)
theorem NetBx.span {lo hi : Nat} (h : NetBx w R G J S) (hs : Span w w' lo hi) (hR : R < lo ∨ hi ≤ R) (hG : G < lo ∨ hi ≤ G) : NetBx w' R G J S := h.same (hs.block _ h.lt.1 hR) (hs.block _ h.lt.2 hG)
theorem NetBx.grown {row : Option Nat} (h : NetBx w R G J S) (hg : w.grownBy w' row) (hR : ∀ g, row = some g → g ≠ R ∧ g ≠ G) : NetBx w' R G J S :=
  h.same (hg.block _ h.lt.1 fun e => (hR _ e.symm).1 rfl) (hg.block _ h.lt.2 fun e => (hR _ e.symm).2 rfl)
theorem NetBx.put (h : NetBx w R G J S) (hne : R ≠ G) (U : Value) : NetBx (w.setCell ⟨G, 1, none⟩ U) R G J U := by
  obtain ⟨f0, f1, e0, r0, r1, g0, g1⟩ := h
  constructor <;> simp [go_sem, f0, f1, e0, r0, r1, g0, g1, hne, hne.symm]
end
set_option maxRecDepth 100000 in
set_option maxHeartbeats 4000000 in
theorem drawNet (W0 w : World) (g m : Nat) (h : SrcOk W0 w g m) (hm : m ≤ 10000) :
    Calls Try.prog 80 #[.pointer (some ⟨g, 0, none⟩)] w fun e w' => ∃ (J : Int) (V : Option Addr) (q : Nat) (ds : List Ditch), e = .returned (.agg #[.int .i64 J, .slice V ds.length q]) ∧ Own w' w.heap.size 139 (.slice V ds.length q) ds ∧ NetOk J ds ∧ SrcOk W0 w' g (m + 100) ∧ Span w w' g (g + 1) := by
  have hlt := h.lt
  obtain ⟨w0, hw0⟩ : ∃ x, w.alloc (.cells #[.int .i64 0, .slice none 0 0] 61) = x := ⟨_, rfl⟩
  have HS0 : Hid (SrcOk W0 w0 g m) := by rw [← hw0]; exact h.next ((Below.refl _ _).alloc (Nat.le_refl _) _)
  have HP0 : Hid (Span w w0 g (g + 1)) := by rw [← hw0]; exact span_alloc (Span.refl _ _ _) _
  have hz0 : w.heap.size + 1 = w0.heap.size := by rw [← hw0]; simp
  have b0 : w0.cell? ⟨w.heap.size, 0, none⟩ = some (.int .i64 0) := by rw [← hw0]; simp [go_sem]
  have b1 : w0.cell? ⟨w.heap.size, 1, none⟩ = some (.slice none 0 0) := by rw [← hw0]; simp [go_sem]
  have b2 : ∀ j, w0.frozen? ⟨w.heap.size, j, none⟩ = false := by rw [← hw0]; intro j; simp [go_sem]
  have HW := hid hw0
  have HZ0 := hid hz0
  have C0 := hid b0
  have C1 := hid b1
  have C2 := hid b2
  clear h hw0 hz0 b0 b1 b2
  go_enter Try.func80, Try.ntmps80
  go_upto_region 1 with fail
  rw [HW.out]
  clear HW
  go_wp2_with fail
  refine (srcPick W0 _ g m 5 HS0.out (by omega) (by omega)).mono ?_
  rintro e w1 ⟨r1, rfl, hr1, hs, hp⟩
  have HS1 := hid hs
  have HP1 := hid (HP0.out.trans hp)
  have HP := hid hp
  have e2 : IntKind.i64.wrap (2 + r1) = 2 + r1 := IntWalk.i64_in _ (by omega)
  clear hs hp HS0 HP0
  go_upto_region 2 with fail
  obtain ⟨J, hJ⟩ : ∃ J, 2 + r1 = J := ⟨_, rfl⟩
  obtain ⟨R, hR⟩ : ∃ R, w.heap.size = R := ⟨_, rfl⟩
  obtain ⟨G, hG⟩ : ∃ G, w1.heap.size = G := ⟨_, rfl⟩
  obtain ⟨w2, hw2⟩ : ∃ x, w1.alloc (.cells #[.int .i64 (2 + r1), .slice none 0 0] 61) = x := ⟨_, rfl⟩
  rw [hw2, hG, hR, hJ]
  rw [hJ] at hw2
  have hJ6 : 2 ≤ J ∧ J ≤ 6 := by omega
  have hgR : g < R := by omega
  have hRG : R < G := by have := HP.out.size; have := HZ0.out; omega
  have sp2 : Span w1 w2 g (g + 1) := by rw [← hw2]; exact span_alloc (Span.refl _ _ _) _
  have hRf : ∀ j, w2.frozen? ⟨R, j, none⟩ = false := fun j => by
    rw [← C2.out j]
    have h1 := HP.out.block R (by have := HZ0.out; omega) (by omega)
    have h2 := sp2.block R (by omega) (by omega)
    rw [hR]
    exact World.frozen?_of_block (h2.trans h1)
  have c0 := span_cell (HP.out.trans sp2) C0.out (.inr (by simp only; omega))
  have c1 := span_cell (HP.out.trans sp2) C1.out (.inr (by simp only; omega))
  rw [hR] at c0 c1
  have NB2 : Hid (NetBx w2 R G J (.slice none 0 0)) := by
    refine ⟨hRf 0, hRf 1, ?_, c0, c1, ?_, ?_⟩ <;> rw [← hw2, ← hG] <;> simp [go_sem]
  have HS2 : Hid (SrcOk W0 w2 g (m + 2)) := by rw [← hw2]; exact HS1.out.next ((Below.refl _ _).alloc (Nat.le_refl _) _)
  have HP2 := hid (HP1.out.trans sp2)
  have hG2 : G < w2.heap.size := by rw [← hw2, ← hG]; simp
  clear hw2 hRf sp2 c0 c1 HS1 HP1 HP C0 C1 C2 HZ0 e2 hJ
  go_wp2_with fail
  refine (srcPick W0 _ g (m + 2) 11 HS2.out (by omega) (by omega)).mono ?_
  rintro e w3 ⟨r2, rfl, hr2, hs, hp⟩
  have HS3 := hid hs
  have HP3 := hid (HP2.out.trans hp)
  have NB3 := hid (NB2.out.span hp (.inr (by omega)) (.inr (by omega)))
  have hG3 : G < w3.heap.size := Nat.lt_of_lt_of_le hG2 hp.size
  clear hs hp HS2 HP2 NB2 hG2
  go_wp2_with fail
  go_loopw [4] (fun kv wr => ∃ (j : Nat) (ds : List Ditch) (V : Option Addr) (q : Nat), kv = .int .i64 j ∧ ds.length + j = r2.toNat ∧ (∀ d ∈ ds, DOk J d) ∧ Own wr (G + 1) 139 (.slice V ds.length q) ds ∧ NetBx wr R G J (.slice V ds.length q) ∧ SrcOk W0 wr g (m + 4 + 6 * ds.length) ∧ Span w wr g (g + 1)) (fun kv _ => (intOf kv).toNat)
  case atStart => exact ⟨r2.toNat, [], none, 0, val_int (by omega), by simp, by simp, Own.nil _ _ _, NB3.out, HS3.out, HP3.out⟩
  case round =>
    obtain ⟨j, ds, V, q, rfl, hjl, hd, ho, hn, hs, hp⟩ := hrel
    obtain ⟨wo, rfl⟩ : ∃ wo : World, wo = wr := ⟨_, rfl⟩
    have HD := hid hd
    have HO := hid ho
    have HN := hid hn
    have HS := hid hs
    have HP := hid hp
    have k0 := hn.g0
    have k1 := hn.g1
    have k2 := hn.e0
    have hGo := hn.lt.2
    clear hd ho hn hs hp HS3 HP3 NB3
    by_cases hj0 : 0 < j
    · go_upto_region 5 with fail
      refine wp_region_U (fun j => decide (9 ≤ j)) (fun w' => w'.cell? ⟨G, 0, none⟩ = some (.int .i64 J) ∧ w'.cell? ⟨G, 1, none⟩ = some (.slice V ds.length q)) (by kernel_rfl) ⟨k0, k1⟩ (fun hHeld => ?_)
      refine wpAnyU_take (i := 0) (v := .pointer (some ⟨G, 1, none⟩)) rfl (by kernel_rfl) (by kernel_rfl) (by kernel_rfl) (by kernel_rfl) (fun _ _ _ h => h) (Or.inl ⟨by rfl, ?_⟩) (by assumption) ?_
      · intro w9 hSw
        (try dsimp only at hSw)
        go_simp
      (try simp only [Act.put, List.setIfInBounds_toArray, List.set_cons_zero, List.set_cons_succ])
      refine wpAnyU_take (i := 1) (v := .slice V ds.length q) rfl (by kernel_rfl) (by kernel_rfl) (by kernel_rfl) (by kernel_rfl) (fun _ _ _ h => h) (Or.inl ⟨by rfl, ?_⟩) (by assumption) ?_
      · intro w9 hSw
        (try dsimp only at hSw)
        go_simp
      (try simp only [Act.put, List.setIfInBounds_toArray, List.set_cons_zero, List.set_cons_succ])
      refine wpAnyU_take (i := 2) (v := .pointer (some ⟨g, 0, none⟩)) rfl (by kernel_rfl) (by kernel_rfl) (by kernel_rfl) (by kernel_rfl) (fun _ _ _ h => h) (Or.inl ⟨by rfl, ?_⟩) (by assumption) ?_
      · intro w9 hSw
        (try dsimp only at hSw)
        go_simp
      (try simp only [Act.put, List.setIfInBounds_toArray, List.set_cons_zero, List.set_cons_succ])
      refine wpAnyU_take (i := 3) (v := .pointer (some ⟨G, 0, none⟩)) rfl (by kernel_rfl) (by kernel_rfl) (by kernel_rfl) (by kernel_rfl) (fun _ _ _ h => h) (Or.inl ⟨by rfl, ?_⟩) (by assumption) ?_
      · intro w9 hSw
        (try dsimp only at hSw)
        go_simp
      (try simp only [Act.put, List.setIfInBounds_toArray, List.set_cons_zero, List.set_cons_succ])
      refine wpAnyU_take (i := 4) (v := .int .i64 J) rfl (by kernel_rfl) (by kernel_rfl) (by kernel_rfl) (by kernel_rfl) (fun _ _ _ h => h) (Or.inl ⟨by rfl, ?_⟩) (by assumption) ?_
      · intro w9 hSw
        (try dsimp only at hSw)
        go_simp
      (try simp only [Act.put, List.setIfInBounds_toArray, List.set_cons_zero, List.set_cons_succ])
      refine wpAnyU_all (rs := [5]) (by kernel_rfl) (by simp) ?_
      intro i9 hi9
      obtain rfl : i9 = 5 := by simpa using hi9
      refine wpU_step rfl ?_
      go_simp
      refine (drawDitch W0 _ g _ J (HS.out.next ((Below.refl _ _).drew)) (by omega) (by omega)).mono ?_
      rintro e w4 ⟨d, rfl, hd, hs, hp⟩
      have hp2 := span_undrew hp
      have c0 := span_cell hp2 k0 (.inr (by simp only; omega))
      have c1 := span_cell hp2 k1 (.inr (by simp only; omega))
      refine ⟨⟨c0, c1⟩, ?_⟩
      (try simp only [Act.put, List.setIfInBounds_toArray, List.set_cons_zero, List.set_cons_succ])
      have ho4 := HO.out.grown (span_grownBy hp2) (.inr (fun e => by have := (HO.out.block g e).1; omega))
      have hn4 := HN.out.span hp2 (.inr (by omega)) (.inr (by omega))
      have hz4 : G + 1 ≤ w4.heap.size := hn4.lt.2
      refine wpAnyU_all (rs := [6]) (by kernel_rfl) (by simp) ?_
      intro i9 hi9
      obtain rfl : i9 = 6 := by simpa using hi9
      refine wpU_step rfl ?_
      go_simp
      refine wpAnyU_all (rs := [7]) (by kernel_rfl) (by simp) ?_
      intro i9 hi9
      obtain rfl : i9 = 7 := by simpa using hi9
      refine wpU_step rfl ?_
      refine stepAdd elDitch _ rfl (.tmp 16) (.tmp 21) rfl (G + 1) _ ds d rfl (ho4.alloc _) _ rfl (heap_alloc_new _ _) (by omega) (le_alloc hz4) ?_
      intro v' w5 hown' hg' hat'
      have hgb : ∀ b, (Value.slice V ds.length q).ownBlock = some b → G + 1 ≤ b := fun b hb => (HO.out.block b hb).1
      have z0 : w5.cell? ⟨G, 0, none⟩ = some (.int .i64 J) := grown_cell hg' (by simp [go_sem, c0]) (fun b hb => by have := hgb b hb; simp only; omega)
      have z1 : w5.cell? ⟨G, 1, none⟩ = some (.slice V ds.length q) := grown_cell hg' (by simp [go_sem, c1]) (fun b hb => by have := hgb b hb; simp only; omega)
      have hn5 := (hn4.below ((Below.refl _ _).alloc (Nat.le_refl _) (.cells #[.int .i64 d.a, .int .i64 d.b, .int .i64 d.c] 139))).grown hg' (fun b hb => by have := hgb b hb; omega)
      have z2 := hn5.e0
      obtain ⟨ds5, hds5⟩ : ∃ x, ds ++ [d] = x := ⟨_, rfl⟩
      rw [hds5] at hown'
      obtain ⟨V5, q5, rfl⟩ := hown'.form
      refine ⟨fun _ => ⟨z0, z1⟩, ?_⟩
      (try simp only [Act.put, List.setIfInBounds_toArray, List.set_cons_zero, List.set_cons_succ])
      refine wpAnyU_all (rs := [8]) (by kernel_rfl) (by simp) ?_
      intro i9 hi9
      obtain rfl : i9 = 8 := by simpa using hi9
      refine wpU_step rfl ?_
      go_simp
      refine wpAnyU_all (rs := [9]) (by kernel_rfl) (by simp) ?_
      intro i9 hi9
      obtain rfl : i9 = 9 := by simpa using hi9
      refine wpU_step rfl ?_
      go_simp
      refine wpAnyU_done (by kernel_rfl) ?_ _
      have h1 := hs.next ((Below.refl _ _).alloc (Nat.le_refl _) (.cells #[.int .i64 d.a, .int .i64 d.b, .int .i64 d.c] 139))
      have h2 : SrcOk W0 w5 g (m + 4 + 6 * ds.length + 6) := h1.span (lo := G + 1) (hi := w5.heap.size + w4.heap.size + 2) (Span.of_grown hg' fun b hb => ⟨hgb b hb, by have := (ho4.block b hb).2; omega⟩) (.inl (by omega)) (by have := hs.base; omega)
      have hl5 : ds5.length = ds.length + 1 := by rw [← hds5]; simp
      have HSn : Hid (SrcOk W0 (w5.setCell ⟨G, 1, none⟩ (.slice V5 ds5.length q5)) g (m + 4 + 6 * ds5.length)) := (h2.store (p := ⟨G, 1, none⟩) (by simp only; omega) (.slice V5 ds5.length q5)).mono (by omega)
      have HPn := hid (span_new ((span_alloc (HP.out.trans hp2) (.cells #[.int .i64 d.a, .int .i64 d.b, .int .i64 d.c] 139)).grown2 hg' fun b hb => .inr (by have := hgb b hb; omega)) (p := ⟨G, 1, none⟩) (by simp only; omega) (.slice V5 ds5.length q5))
      have HOn := hid (hown'.past (p := ⟨G, 1, none⟩) (by simp only; omega) (.slice V5 ds5.length q5))
      have HNn := hid (hn5.put (by omega) (.slice V5 ds5.length q5))
      have HDn : Hid (∀ x ∈ ds5, DOk J x) := fun x hx => by
        rw [← hds5] at hx
        rcases List.mem_append.1 hx with hx | hx
        · exact HD.out x hx
        · rw [List.mem_singleton.1 hx]; exact hd.1
      have HL5 := hid hl5
      clear hl5 h1 h2 hown' hg' hat' hn5 hn4 ho4 hs hp hp2 z0 z1 z2 c0 c1 hd HD HO HN HS HP hds5 k0 k1 k2 hgb
      go_wp2_with fail
      go_roundw
      case rel => exact ⟨j - 1, ds5, V5, q5, val_int (by omega), by have := HL5.out; omega, HDn.out, HOn.out, HNn.out, HSn.out, HPn.out⟩
      case measure => simp [intOf]; omega
    · have hok : NetOk J ds := ⟨by omega, by omega, HD.out⟩
      have HOK := hid hok
      obtain ⟨f0, f1, _, y0, y1, g0, g1⟩ := HN.out
      have hne : ¬ R = G := by omega
      clear hok
      go_wp2_with fail
      (try simp only [Exit.inBlock, Exit.then])
      refine bodyPost_ret (v := .agg #[.int .i64 J, .slice V ds.length q]) ?_ rfl ?_
      · simp [results, go_sem, y0, y1]
      · exact ⟨J, V, q, ds, rfl, ((HO.out.past (p := ⟨R, 0, none⟩) (by simp only; omega) _).past (p := ⟨R, 1, none⟩) (by simp only; omega) _).mono (by omega), HOK.out, ((HS.out.store (p := ⟨R, 0, none⟩) (by simp only; omega) _).store (p := ⟨R, 1, none⟩) (by simp only; omega) _).mono (by omega), span_new (span_new HP.out (p := ⟨R, 0, none⟩) (by simp only; omega) _) (p := ⟨R, 1, none⟩) (by simp only; omega) _⟩
end Go.Proofs.Yteobejgkjjhfkaa
