/- impl.shareOut: walked. -/
import Derived.Test.YtampbbknhbhcbaaShareSort
import Derived.Test.YtampbbknhbhcbaaHeldLate
import Derived.Deep.RegionHeld3
import Derived.OwnWalk
namespace Go.Proofs.Ytampbbknhbhcbaa
open Go.RowKit
set_option linter.unusedVariables false
set_option linter.unusedSimpArgs false
theorem elIntG : El Try.prog 81 3 (0 : Int) :=
  El.mk' (z := .int .i64 0) (bytes := 8) Try.underlying81 (by kernel_rfl) (by decide) rfl (by decide)
section
variable {P : Program} {α : Type} [Enc α] {t e : TypeId} {z0 : α}
/-- append(s, y) at a step of a region that draws its order. -/
theorem step_push' (T : El P t e z0) (w : World) {ops : Array Oper} {o : Oper} {a : Act} {K : Act → World → Prop} {Q : Exit → Act → World → Prop} {E : Prop}
    (hgd : o.guard = none) (s x : Operand) (ho : o.op = .call { callee := .builtin .append, args := #[s, x], argTypes := #[t, t] })
    (base : Nat) (v : Value) (xs : List α) (y : α) (hs : a.eval s = v) (hown : Own w base e v xs) (g : Nat) (hx : a.eval x = .slice (some ⟨g, 0, none⟩) 1 1) (hcells : w.heap[g]? = some (.cells (Enc.enc y).toArray e (0, 0)))
    (hlen : xs.length ≤ 1048576) (hbase : base ≤ w.heap.size)
    (h : ∀ v' w', Own w' base e v' (xs ++ [y]) → w.grownBy w' v.ownBlock → (v'.ownBlock = v.ownBlock ∨ v'.ownBlock = some w.heap.size) → K (a.put o.dst v') w') :
    if Region.wanted o (yielded ops a.tmps) = true then Oper.wp P o a w K Q else E := by
  obtain ⟨i, z, hi, hz, hsz, hby, hzc, hpos⟩ := T.ex
  have hc : ∀ j u, (Enc.enc y)[j]? = some u → w.cell? ((⟨g, 0, none⟩ : Addr).add j) = some u := by
    intro j u hu
    have : (⟨g, 0, none⟩ : Addr).add j = ⟨g, j, none⟩ := by unfold Addr.add; split <;> simp_all
    rw [this, cell_of_row w g j _ e (0, 0) hcells]
    simpa using hu
  have hw : Region.wanted o (yielded ops a.tmps) = true := by simp [Region.wanted, hgd]
  rw [if_pos hw]
  obtain ⟨v', w', hrun, h2, h3, h4, h5⟩ := run_append_own_at (P := P) w base t o.type e i z (Enc.size α) i.bytes T.und hi hz hsz rfl (by rw [hzc]; simp [Enc.len]) hpos v xs.length (flat xs) hown ⟨g, 0, none⟩ 1 1 (Enc.enc y) (by rw [Enc.len]; omega) hc (Enc.one y)
    (by simp only [maxLen]; omega) (Nat.le_trans (Nat.mul_le_mul (show xs.length + 1 ≤ 1048577 by omega) hby) (by decide)) hbase
  have h2' : Own w' base e v' (xs ++ [y]) := by
    unfold Own
    rw [flat_append, flat_one, List.length_append]
    exact h2
  unfold Oper.wp execOp
  simp only [ho, resolve, invoke, builtin, Sem.run_bind, Sem.run_pure, Result.andThen_ok, List.map_toArray, List.map_cons, List.map_nil, hs, hx, hrun]
  exact h v' w' h2' h3 h5
end
theorem own_drew' {α : Type} [Enc α] {w : World} {base : Nat} {e : TypeId} {v : Value} {xs : List α} (h : Own w base e v xs) : Own w.drew base e v xs := h
/-- The numbers from 0 on. -/
def upto (k : Nat) : List Int := (List.range k).map fun (i : Nat) => (i : Int)
/-- What holds at the head of the first loop. -/
structure ShI (w : World) (A : Option Addr) (ws : List Int) (c : Nat) (T S : Int) (k : Nat) (u v : Value) (wr : World) : Prop where
  o1 : Own wr (w.heap.size + 3) 2 u ((List.range k).map (baseAt T S ws))
  o2 : Own wr (w.heap.size + 3) 3 v (upto k)
  dj : ∀ a b, u.ownBlock = some a → v.ownBlock = some b → a ≠ b
  n1 : ∀ g, u.ownBlock = some g → g ≠ w.heap.size + 1 + 1 + 1 + 1 + 1
  n2 : ∀ g, v.ownBlock = some g → g ≠ w.heap.size + 1 + 1 + 1 + 1 + 1
  k2 : wr.cell? ⟨w.heap.size, 0, none⟩ = some (.int .i64 T)
  k3 : wr.cell? ⟨w.heap.size + 1, 0, none⟩ = some (.slice A ws.length c)
  k5 : wr.cell? ⟨w.heap.size + 1 + 1, 0, none⟩ = some (.int .i64 S)
  k7 : wr.cell? ⟨w.heap.size + 1 + 1 + 1 + 1 + 1, 0, none⟩ = some v
  f7 : wr.frozen? ⟨w.heap.size + 1 + 1 + 1 + 1 + 1, 0, none⟩ = false
  b : Below w.heap.size w wr
theorem grown_heap {w w' : World} {row : Option Nat} (hg : w.grownBy w' row) {g : Nat} {o : Obj} (h : w.heap[g]? = some o) (hne : row ≠ some g) : w'.heap[g]? = some o := by
  rw [hg.block g (Array.getElem?_eq_some_iff.1 h).1 (fun e => hne e.symm)]
  exact h
theorem own_set_other {α : Type} [Enc α] {w : World} {base : Nat} {e : TypeId} {v : Value} {xs : List α} (h : Own w base e v xs) {p : Addr} (u : Value) (hn : ∀ g, v.ownBlock = some g → g ≠ p.block) : Own (w.setCell p u) base e v xs := by
  refine h.grown (row := some p.block) ⟨rfl, rfl, rfl, by simp [World.setCell], fun k hk hne => Below.heap_setCell w p u k (fun e => hne (by rw [e]))⟩ ?_
  cases hv : v.ownBlock with
  | none => exact .inl rfl
  | some g => exact .inr (fun e => by injection e with e; exact hn g hv e)
theorem alloc_old (w : World) (o o2 : Obj) : ((w.alloc o).alloc o2).heap[w.heap.size]? = some o := by
  rw [Below.heap_alloc _ _ _ (by simp)]
  exact heap_alloc_new w o
theorem shI_step {w wF : World} {b off c : Nat} {ws L1 L2 : List Int} {T S x : Int} {k : Nat} {VA VB : Option Addr} {qA qB k9 q9 : Nat} {V9 : Option Addr}
    (h1 : (List.range (k + 1)).map (baseAt T S ws) = L1 ++ [T * x / S]) (h2 : upto (k + 1) = L2 ++ [(k : Int)]) (E1 : Own wF (w.heap.size + 3) 2 (.slice VA (k + 1) qA) (L1 ++ [T * x / S])) (E2 : Own wF (w.heap.size + 3) 3 (.slice VB (k + 1) qB) (L2 ++ [(k : Int)]))
    (EJ : ∀ a g, (Value.slice VA (k + 1) qA).ownBlock = some a → (Value.slice VB (k + 1) qB).ownBlock = some g → a ≠ g) (MA : ∀ g, (Value.slice VA (k + 1) qA).ownBlock = some g → g ≠ w.heap.size + 1 + 1 + 1 + 1 + 1) (MB : ∀ g, (Value.slice VB (k + 1) qB).ownBlock = some g → g ≠ w.heap.size + 1 + 1 + 1 + 1 + 1)
    (k2 : wF.cell? ⟨w.heap.size, 0, none⟩ = some (.int .i64 T)) (k3 : wF.cell? ⟨w.heap.size + 1, 0, none⟩ = some (.slice (some ⟨b, off, none⟩) ws.length c)) (k5 : wF.cell? ⟨w.heap.size + 1 + 1, 0, none⟩ = some (.int .i64 S))
    (k7 : wF.cell? ⟨w.heap.size + 1 + 1 + 1 + 1 + 1, 0, none⟩ = some (.slice V9 k9 q9)) (f7 : wF.frozen? ⟨w.heap.size + 1 + 1 + 1 + 1 + 1, 0, none⟩ = false) (hb : Below w.heap.size w wF) :
    ShI w (some ⟨b, off, none⟩) ws c T S (k + 1) (.slice VA (k + 1) qA) (.slice VB (k + 1) qB) (wF.setCell ⟨w.heap.size + 1 + 1 + 1 + 1 + 1, 0, none⟩ (.slice VB (k + 1) qB)) := by
  refine ⟨by rw [h1]; exact own_set_other E1 _ MA, by rw [h2]; exact own_set_other E2 _ MB, EJ, MA, MB, ?_, ?_, ?_, ?_, ?_, hb.setCell (by show w.heap.size ≤ w.heap.size + 1 + 1 + 1 + 1 + 1; omega) _⟩
  · rw [World.cell?_setCell_other _ _ _ _ (by intro e; injection e with e; omega)]; exact k2
  · rw [World.cell?_setCell_other _ _ _ _ (by intro e; injection e with e; omega)]; exact k3
  · rw [World.cell?_setCell_other _ _ _ _ (by intro e; injection e with e; omega)]; exact k5
  · simp [go_sem, k7]
  · simpa [go_sem] using f7
theorem own_span {α : Type} [Enc α] {w w' : World} {base lo : Nat} {e : TypeId} {v : Value} {xs : List α} (h : Own w base e v xs) (hs : Span w w' lo (lo + 1)) (hn : ∀ g, v.ownBlock = some g → g ≠ lo) : Own w' base e v xs := by
  refine h.grown (row := some lo) ⟨hs.os, hs.tape, hs.output, hs.size, fun k hk hne => hs.block k hk (by have : k ≠ lo := fun e => hne (by rw [e]); omega)⟩ ?_
  cases hv : v.ownBlock with
  | none => exact .inl rfl
  | some g => exact .inr (fun e => by injection e with e; exact hn g hv e)
theorem quiet_left9 {P : Program} {f : FuncId} {args : Array Value} {w : World} {n : Nat} {v : Value}
    (h : Calls P f args (w.drewN n) fun e w' => e = .returned v ∧ w.drewN n = w') : Calls P f args (w.drewN n) fun e w'' => e = .returned v ∧ ∃ m, w'' = w.drewN m :=
  h.mono fun _ _ ⟨he, hm⟩ => ⟨he, n, hm.symm⟩
theorem sumW_base (T S : Int) (ws : List Int) : sumW ((List.range ws.length).map (baseAt T S ws)) ws.length = sumB T S ws ws.length := by
  have key : ∀ k, k ≤ ws.length → sumW ((List.range ws.length).map (baseAt T S ws)) k = sumB T S ws k := by
    intro k
    induction k with
    | zero => intro _; rfl
    | succ k ih =>
      intro hk
      simp only [sumW, sumB]
      rw [ih (by omega), getD_int (by simp; omega)]
      simp
  exact key _ (Nat.le_refl _)
theorem alloc_new2 (w : World) (o o2 : Obj) : ((w.alloc o).alloc o2).heap[w.heap.size + 1]? = some o2 := by
  have h := heap_alloc_new (w.alloc o) o2
  rwa [show (w.alloc o).heap.size = w.heap.size + 1 from by simp] at h
theorem alloc_new1d (w : World) (o : Obj) : (w.alloc o).drew.heap[w.heap.size]? = some o := heap_alloc_new w o
theorem alloc_oldd (w : World) (o o2 : Obj) : ((w.alloc o).alloc o2).drew.heap[w.heap.size]? = some o := alloc_old w o o2
theorem alloc_new2d (w : World) (o o2 : Obj) : ((w.alloc o).alloc o2).drew.heap[w.heap.size + 1]? = some o2 := alloc_new2 w o o2
set_option maxRecDepth 100000 in
set_option maxHeartbeats 16000000 in
theorem implShare_ (A : Option Addr) (ws : List Int) (c : Nat) (T S : Int) (w : World) (hx : Rd w A ws) (hok : ShOk T S ws) :
    Calls Try.prog 37 #[.int .i64 T, .slice A ws.length c] w fun e w' => ∃ V q, e = .returned (.slice V ws.length q) ∧ Own w' w.heap.size 2 (.slice V ws.length q) (shareL T S ws) ∧ Below w.heap.size w w' := by
  have hn := hok.len
  have hS := hok.pos
  have hT := hok.tot
  obtain ⟨lf1, lf2, lf3⟩ := hok.left
  have HSW := hid hok.sum
  have hb0 : Below w.heap.size w ((w.alloc (.cells #[.int .i64 T] 2)).alloc (.cells #[.slice A ws.length c] 36)) := ((Below.refl _ _).alloc (Nat.le_refl _) _).alloc (by simp) _
  have HX0 := hid (hx.below hb0)
  have HX := hid hx
  have HOK := hid hok
  have HLF := hid lf3
  have HEA := hid hok.each
  clear hx hok lf3 hb0
  go_enter Try.func37, Try.ntmps37
  go_wp2_with fail
  refine (implSum_ _ _ _ _ HX0.out (by omega) HEA.out).mono ?_
  rintro e w1 ⟨rfl, rfl⟩
  rw [HSW.out]
  go_wp2_with fail
  have HI0 : Hid (ShI w A ws c T S 0 (.slice (some ⟨w.heap.size + 1 + 1 + 1, 0, none⟩) 0 0) (.slice (some ⟨w.heap.size + 1 + 1 + 1 + 1, 0, none⟩) 0 0) ((((((w.alloc (Obj.cells #[Value.int IntKind.i64 T] 2)).alloc (Obj.cells #[Value.slice A ws.length c] 36)).alloc (Obj.cells #[Value.int IntKind.i64 S] 2)).alloc (Obj.cells #[] 2)).alloc (Obj.cells #[] 3)).alloc (Obj.cells #[.slice (some ⟨w.heap.size + 1 + 1 + 1 + 1, 0, none⟩) 0 0] 81))) := by
    refine ⟨?_, ?_, ?_, ?_, ?_, by simp [go_sem], by simp [go_sem], by simp [go_sem], by simp [go_sem], by simp [go_sem], ?_⟩
    · have h := Own.empty (α := Int) (w := ((w.alloc (Obj.cells #[Value.int IntKind.i64 T] 2)).alloc (Obj.cells #[Value.slice A ws.length c] 36)).alloc (Obj.cells #[Value.int IntKind.i64 S] 2)) (base := w.heap.size + 3) (e := 2) (by simp)
      have h2 := (h.alloc (Obj.cells #[] 3)).alloc (Obj.cells #[.slice (some ⟨w.heap.size + 1 + 1 + 1 + 1, 0, none⟩) 0 0] 81)
      simpa using h2
    · have h := Own.empty (α := Int) (w := (((w.alloc (Obj.cells #[Value.int IntKind.i64 T] 2)).alloc (Obj.cells #[Value.slice A ws.length c] 36)).alloc (Obj.cells #[Value.int IntKind.i64 S] 2)).alloc (Obj.cells #[] 2)) (base := w.heap.size + 3) (e := 3) (by simp)
      have h2 := h.alloc (Obj.cells #[.slice (some ⟨w.heap.size + 1 + 1 + 1 + 1, 0, none⟩) 0 0] 81)
      simpa [upto] using h2
    · simp only [Value.ownBlock, Option.some.injEq]; omega
    · simp only [Value.ownBlock, Option.some.injEq]; omega
    · simp only [Value.ownBlock, Option.some.injEq]; omega
    · exact (((((Below.refl _ _).alloc (Nat.le_refl _) _).alloc (by simp) _).alloc (by simp; omega) _).alloc (by simp; omega) _).alloc (by simp; omega) _ |>.alloc (by simp; omega) _
  go_loopw [6, 8, 9, 18] (fun u x y i wr => ∃ (k : Nat) (v : Value), k ≤ ws.length ∧ i = .int .i64 k ∧ ShI w A ws c T S k u v wr) (fun _ _ _ i _ => ws.length - (intOf i).toNat)
  case atStart => exact ⟨0, _, Nat.zero_le _, rfl, HI0.out⟩
  case round =>
    obtain ⟨k, v, hk, rfl, hI⟩ := hrel
    obtain ⟨wo, rfl⟩ : ∃ wo : World, wo = wr := ⟨_, rfl⟩
    have HX2 := hid (HX.out.below hI.b)
    have HIH := hid hI
    have hz := hI.b.size
    obtain ⟨V1, q1, e1⟩ := hI.o1.form
    obtain ⟨V2, q2, e2⟩ := hI.o2.form
    subst e1 e2
    clear HI0
    by_cases hlt : k < ws.length
    · obtain ⟨b, off, rfl, c1⟩ := HX2.out.int hlt
      obtain ⟨p1, p2, p3⟩ := HOK.out.at_ hlt
      have hgd := getD_int hlt
      have hB : baseAt T S ws k = (T * ws[k]) / S := by unfold baseAt; rw [hgd]
      have hn1 := map_range_snoc (baseAt T S ws) k
      have hn2 : upto (k + 1) = upto k ++ [(k : Int)] := map_range_snoc (fun (i : Nat) => (i : Int)) k
      rw [hB] at hn1 p2
      rw [hgd] at p1
      have hl1 : ((List.range k).map (baseAt T S ws)).length = k := by simp
      have hl2 : (upto k).length = k := by simp [upto]
      obtain ⟨o1, o2, dj, n1, n2, k2, k3, k5, k7, f7, hb⟩ := hI
      rw [hl1] at o1 dj n1 ⊢
      rw [hl2] at o2 dj n2 k7
      have HO1 := hid o1
      have HO2 := hid o2
      have HDJ := hid dj
      have HN1 := hid hn1
      have HN2 := hid hn2
      have HNA := hid n1
      have HNB := hid n2
      have HQ := hid hb
      have HL1 : Hid (((List.range k).map (baseAt T S ws)).length ≤ 1048576) := by rw [hl1]; exact hid (by omega)
      have HL2 : Hid ((upto k).length ≤ 1048576) := by rw [hl2]; exact hid (by omega)
      have HK1 := hid hl1
      have HK2 := hid hl2
      clear o1 o2 dj n1 n2 hb hn1 hn2 hl1 hl2 hB hgd
      generalize (List.range k).map (baseAt T S ws) = L1 at HO1 HN1 HL1 HK1
      generalize upto k = L2 at HO2 HN2 HL2 HK2
      generalize ws[k] = x at c1 p1 p2 HN1
      have m1 : 0 ≤ T * x := p1.1
      have m2 : T * x ≤ 1000000000000000000 := p1.2
      obtain ⟨r1, r2⟩ := p2
      have hS0 : ¬ S = 0 := by omega
      have hzz : w.heap.size + 3 ≤ wo.heap.size := by have := World.block_lt_of_cell? wo _ k7; simp at this; omega
      have hz6 : w.heap.size + 1 + 1 + 1 + 1 + 1 < wo.heap.size := World.block_lt_of_cell? wo _ k7
      have w1 : IntKind.i64.wrap (T * x) = T * x := IntWalk.i64_in _ (by omega)
      have w2 : IntKind.i64.wrap (T * x / S) = T * x / S := IntWalk.i64_in _ (by omega)
      have w3 : (T * x).tdiv S = T * x / S := Int.tdiv_eq_ediv_of_nonneg m1
      clear p1 HIH
      go_upto_region 6 with fail
      refine wp_region_U (fun j => decide (13 ≤ j)) (fun w' => w'.cell? ⟨w.heap.size, 0, none⟩ = some (.int .i64 T) ∧ w'.cell? ⟨w.heap.size + 1 + 1, 0, none⟩ = some (.int .i64 S) ∧ w'.cell? ⟨w.heap.size + 1 + 1 + 1 + 1 + 1, 0, none⟩ = some (.slice V2 k q2)) (by kernel_rfl) ⟨k2, k5, k7⟩ (fun hHeld => ?_)
      refine wpAnyU_take (i := 0) (v := .slice V1 k q1) rfl (by kernel_rfl) (by kernel_rfl) (by kernel_rfl) (by kernel_rfl) (fun _ _ _ h => h) (Or.inl ⟨by rfl, ?_⟩) (by assumption) ?_
      · intro w9 hSw
        (try dsimp only at hSw)
        go_simp
      (try simp only [Act.put, List.setIfInBounds_toArray, List.set_cons_zero, List.set_cons_succ])
      refine wpAnyU_take (i := 1) (v := .int .i64 T) rfl (by kernel_rfl) (by kernel_rfl) (by kernel_rfl) (by kernel_rfl) (fun _ _ _ h => h) (Or.inl ⟨by rfl, ?_⟩) (by assumption) ?_
      · intro w9 hSw
        (try dsimp only at hSw)
        go_simp
      (try simp only [Act.put, List.setIfInBounds_toArray, List.set_cons_zero, List.set_cons_succ])
      refine wpAnyU_take (i := 2) (v := .int .i64 x) rfl (by kernel_rfl) (by kernel_rfl) (by kernel_rfl) (by kernel_rfl) (fun _ _ _ h => h) (Or.inl ⟨by rfl, ?_⟩) (by assumption) ?_
      · intro w9 hSw
        (try dsimp only at hSw)
        go_simp
      (try simp only [Act.put, List.setIfInBounds_toArray, List.set_cons_zero, List.set_cons_succ])
      refine wpAnyU_take (i := 3) (v := .int .i64 (T * x)) rfl (by kernel_rfl) (by kernel_rfl) (by kernel_rfl) (by kernel_rfl) (fun _ _ _ h => h) (Or.inl ⟨by rfl, ?_⟩) (by assumption) ?_
      · intro w9 hSw
        (try dsimp only at hSw)
        go_simp
      (try simp only [Act.put, List.setIfInBounds_toArray, List.set_cons_zero, List.set_cons_succ])
      refine wpAnyU_take (i := 4) (v := .int .i64 S) rfl (by kernel_rfl) (by kernel_rfl) (by kernel_rfl) (by kernel_rfl) (fun _ _ _ h => h) (Or.inl ⟨by rfl, ?_⟩) (by assumption) ?_
      · intro w9 hSw
        (try dsimp only at hSw)
        go_simp
      (try simp only [Act.put, List.setIfInBounds_toArray, List.set_cons_zero, List.set_cons_succ])
      refine wpAnyU_take (i := 5) (v := .int .i64 (T * x / S)) rfl (by kernel_rfl) (by kernel_rfl) (by kernel_rfl) (by kernel_rfl) (fun _ _ _ h => h) (Or.inl ⟨by rfl, ?_⟩) (by assumption) ?_
      · intro w9 hSw
        (try dsimp only at hSw)
        go_simp
      (try simp only [Act.put, List.setIfInBounds_toArray, List.set_cons_zero, List.set_cons_succ])
      refine wpAnyU_take (i := 8) (v := .slice V2 k q2) rfl (by kernel_rfl) (by kernel_rfl) (by kernel_rfl) (by kernel_rfl) (fun _ _ _ h => h) (Or.inl ⟨by rfl, ?_⟩) (by assumption) ?_
      · intro w9 hSw
        (try dsimp only at hSw)
        go_simp
      (try simp only [Act.put, List.setIfInBounds_toArray, List.set_cons_zero, List.set_cons_succ])
      refine wpAnyU_take (i := 9) (v := .int .i64 k) rfl (by kernel_rfl) (by kernel_rfl) (by kernel_rfl) (by kernel_rfl) (fun _ _ _ h => h) (Or.inl ⟨by rfl, ?_⟩) (by assumption) ?_
      · intro w9 hSw
        (try dsimp only at hSw)
        go_simp
      (try simp only [Act.put, List.setIfInBounds_toArray, List.set_cons_zero, List.set_cons_succ])
      refine wpAnyU_all (rs := [6, 10]) (by kernel_rfl) (by simp) ?_
      intro i9 hi9
      simp only [List.mem_cons, List.mem_singleton, List.not_mem_nil, or_false] at hi9
      rcases hi9 with rfl | rfl
      · refine wpU_step rfl ?_
        go_simp
        refine wpAnyU_all (rs := [7, 10]) (by kernel_rfl) (by simp) ?_
        intro i9 hi9
        simp only [List.mem_cons, List.mem_singleton, List.not_mem_nil, or_false] at hi9
        rcases hi9 with rfl | rfl
        · refine wpU_step rfl ?_
          refine step_push' elInt _ rfl (.tmp 23) (.tmp 29) rfl (w.heap.size + 3) _ L1 (T * x / S) rfl (own_drew' (HO1.out.alloc _)) _ rfl (alloc_new1d _ _) HL1.out (le_alloc hzz) ?_
          intro vA wA ownA hgA hatA
          obtain ⟨VA, qA, eA⟩ := ownA.form
          rw [List.length_append, List.length_singleton, HK1.out] at eA
          subst eA
          have a2 : wA.cell? ⟨w.heap.size, 0, none⟩ = some (.int .i64 T) := grown_cell hgA (by simp [go_sem, k2]) (fun g hg => by have := (HO1.out.block g hg).1; show g ≠ w.heap.size; omega)
          have a3 : wA.cell? ⟨w.heap.size + 1, 0, none⟩ = some (.slice (some ⟨b, off, none⟩) ws.length c) := grown_cell hgA (by simp [go_sem, k3]) (fun g hg => by have := (HO1.out.block g hg).1; show g ≠ w.heap.size + 1; omega)
          have a5 : wA.cell? ⟨w.heap.size + 1 + 1, 0, none⟩ = some (.int .i64 S) := grown_cell hgA (by simp [go_sem, k5]) (fun g hg => by have := (HO1.out.block g hg).1; show g ≠ w.heap.size + 1 + 1; omega)
          have a7 : wA.cell? ⟨w.heap.size + 1 + 1 + 1 + 1 + 1, 0, none⟩ = some (.slice V2 k q2) := grown_cell hgA (by simp [go_sem, k7]) (HNA.out)
          have af : wA.frozen? ⟨w.heap.size + 1 + 1 + 1 + 1 + 1, 0, none⟩ = false := grown_free hgA (by simp [go_sem, k7]) (by simp [go_sem, k7, f7]) HNA.out
          have PB : Own wA (w.heap.size + 3) 3 (.slice V2 k q2) L2 := (own_drew' (HO2.out.alloc _)).beside hgA (fun a g ha hg e => HDJ.out g a hg ha e.symm)
          have hzA : wo.heap.size ≤ wA.heap.size := Nat.le_trans (by simp; try omega) hgA.size
          have QA := below_own ((HQ.out.alloc hz _).drew) (own_drew' (HO1.out.alloc _)) hgA (Nat.le_trans hz (Nat.le_refl _) |> fun _ => by omega) (le_alloc hz)
          refine ⟨fun _ => ⟨a2, a5, a7⟩, ?_⟩
          (try simp only [Act.put, List.setIfInBounds_toArray, List.set_cons_zero, List.set_cons_succ])
          refine wpAnyU_all (rs := [10]) (by kernel_rfl) (by simp) ?_
          intro i9 hi9
          obtain rfl : i9 = 10 := by simpa using hi9
          refine wpU_step rfl ?_
          go_simp
          refine wpAnyU_all (rs := [11]) (by kernel_rfl) (by simp) ?_
          intro i9 hi9
          obtain rfl : i9 = 11 := by simpa using hi9
          refine wpU_step rfl ?_
          refine step_push' elIntG _ rfl (.tmp 31) (.tmp 33) rfl (w.heap.size + 3) _ L2 (k : Int) rfl (PB.alloc _) _ rfl (heap_alloc_new _ _) HL2.out (le_alloc (Nat.le_trans (le_alloc hzz) hgA.size)) ?_
          intro vB wB ownB hgB hatB
          obtain ⟨VB, qB, eB⟩ := ownB.form
          rw [List.length_append, List.length_singleton, HK2.out] at eB
          subst eB
          have b2 : wB.cell? ⟨w.heap.size, 0, none⟩ = some (.int .i64 T) := grown_cell hgB (by simp [go_sem, a2]) (fun g hg => by have := (HO2.out.block g hg).1; show g ≠ w.heap.size; omega)
          have b3 : wB.cell? ⟨w.heap.size + 1, 0, none⟩ = some (.slice (some ⟨b, off, none⟩) ws.length c) := grown_cell hgB (by simp [go_sem, a3]) (fun g hg => by have := (HO2.out.block g hg).1; show g ≠ w.heap.size + 1; omega)
          have b5 : wB.cell? ⟨w.heap.size + 1 + 1, 0, none⟩ = some (.int .i64 S) := grown_cell hgB (by simp [go_sem, a5]) (fun g hg => by have := (HO2.out.block g hg).1; show g ≠ w.heap.size + 1 + 1; omega)
          have b7 : wB.cell? ⟨w.heap.size + 1 + 1 + 1 + 1 + 1, 0, none⟩ = some (.slice V2 k q2) := grown_cell hgB (by simp [go_sem, a7]) (HNB.out)
          have bf : wB.frozen? ⟨w.heap.size + 1 + 1 + 1 + 1 + 1, 0, none⟩ = false := grown_free hgB (by simp [go_sem, a7]) (by simp [go_sem, a7, af]) HNB.out
          have hzB : wo.heap.size ≤ wB.heap.size := Nat.le_trans (le_alloc hzA) hgB.size
          have EA := Own.beside (ownA.alloc _) hgB (fun a g ha hg => by rcases hatA with e | e; exact HDJ.out a g (e.symm.trans ha) hg; (rw [e] at ha; injection ha with ha; have := (HO2.out.block g hg).2; simp at ha; omega))
          have EB := ownB
          have QF := below_own (QA.alloc (Nat.le_trans hz hzA) _) (PB.alloc _) hgB (by omega) (le_alloc (Nat.le_trans hz hzA))
          have EJ : ∀ a g, (Value.slice VA (k + 1) qA).ownBlock = some a → (Value.slice VB (k + 1) qB).ownBlock = some g → a ≠ g := fun a g ha hg => by
            have hlt9 := (ownA.block a ha).2
            rcases hatB with e | e
            · have h8 := e.symm.trans hg
              rcases hatA with e2 | e2
              · exact HDJ.out a g (e2.symm.trans ha) h8
              · rw [e2] at ha
                injection ha with h7
                have := (HO2.out.block _ h8).2
                try simp at h7
                omega
            · rw [e] at hg
              injection hg with h7
              try simp at h7
              omega
          have MA : ∀ g, (Value.slice VA (k + 1) qA).ownBlock = some g → g ≠ w.heap.size + 1 + 1 + 1 + 1 + 1 := fun g hg => by
            rcases hatA with e | e
            · exact HNA.out g (e.symm.trans hg)
            · rw [e] at hg
              injection hg with h7
              try simp at h7
              omega
          have MB : ∀ g, (Value.slice VB (k + 1) qB).ownBlock = some g → g ≠ w.heap.size + 1 + 1 + 1 + 1 + 1 := fun g hg => by
            rcases hatB with e | e
            · exact HNB.out g (e.symm.trans hg)
            · rw [e] at hg
              injection hg with h7
              try simp at h7
              omega
          refine ⟨fun _ => ⟨b2, b5, b7⟩, ?_⟩
          (try simp only [Act.put, List.setIfInBounds_toArray, List.set_cons_zero, List.set_cons_succ])
          refine wpAnyU_all (rs := [12]) (by kernel_rfl) (by simp) ?_
          intro i9 hi9
          obtain rfl : i9 = 12 := by simpa using hi9
          refine wpU_step rfl ?_
          go_simp
          refine wpAnyU_all (rs := [13]) (by kernel_rfl) (by simp) ?_
          intro i9 hi9
          obtain rfl : i9 = 13 := by simpa using hi9
          refine wpU_step rfl ?_
          go_simp
          refine wpAnyU_done (by kernel_rfl) ?_ _
          have SF := hid (shI_step HN1.out HN2.out EA EB EJ MA MB b2 b3 b5 b7 bf QF)
          clear EJ MA MB EA EB hatA hatB hgA hgB QF
          go_wp2_with fail
          go_roundw
          case rel => exact ⟨k + 1, _, by omega, by go_num, SF.out⟩
          case measure => simp [intOf]; omega
        · refine wpU_step rfl ?_
          go_simp
          refine wpAnyU_all (rs := [7]) (by kernel_rfl) (by simp) ?_
          intro i9 hi9
          obtain rfl : i9 = 7 := by simpa using hi9
          refine wpU_step rfl ?_
          refine step_push' elInt _ rfl (.tmp 23) (.tmp 29) rfl (w.heap.size + 3) _ L1 (T * x / S) rfl (own_drew' ((HO1.out.alloc _).alloc _)) _ rfl (alloc_oldd _ _ _) HL1.out (le_alloc (le_alloc hzz)) ?_
          intro vA wA ownA hgA hatA
          obtain ⟨VA, qA, eA⟩ := ownA.form
          rw [List.length_append, List.length_singleton, HK1.out] at eA
          subst eA
          have a2 : wA.cell? ⟨w.heap.size, 0, none⟩ = some (.int .i64 T) := grown_cell hgA (by simp [go_sem, k2]) (fun g hg => by have := (HO1.out.block g hg).1; show g ≠ w.heap.size; omega)
          have a3 : wA.cell? ⟨w.heap.size + 1, 0, none⟩ = some (.slice (some ⟨b, off, none⟩) ws.length c) := grown_cell hgA (by simp [go_sem, k3]) (fun g hg => by have := (HO1.out.block g hg).1; show g ≠ w.heap.size + 1; omega)
          have a5 : wA.cell? ⟨w.heap.size + 1 + 1, 0, none⟩ = some (.int .i64 S) := grown_cell hgA (by simp [go_sem, k5]) (fun g hg => by have := (HO1.out.block g hg).1; show g ≠ w.heap.size + 1 + 1; omega)
          have a7 : wA.cell? ⟨w.heap.size + 1 + 1 + 1 + 1 + 1, 0, none⟩ = some (.slice V2 k q2) := grown_cell hgA (by simp [go_sem, k7]) (HNA.out)
          have af : wA.frozen? ⟨w.heap.size + 1 + 1 + 1 + 1 + 1, 0, none⟩ = false := grown_free hgA (by simp [go_sem, k7]) (by simp [go_sem, k7, f7]) HNA.out
          have PB : Own wA (w.heap.size + 3) 3 (.slice V2 k q2) L2 := (own_drew' ((HO2.out.alloc _).alloc _)).beside hgA (fun a g ha hg e => HDJ.out g a hg ha e.symm)
          have HCB : wA.heap[wo.heap.size + 1]? = some (Obj.cells #[.int .i64 (k : Int)] 3) := grown_heap hgA (alloc_new2d _ _ _) (fun e => by have := (HO1.out.block _ e).2; omega)
          have hzA : wo.heap.size ≤ wA.heap.size := Nat.le_trans (by simp; try omega) hgA.size
          have QA := below_own (((HQ.out.alloc hz _).alloc (le_alloc hz) _).drew) (own_drew' ((HO1.out.alloc _).alloc _)) hgA (Nat.le_trans hz (Nat.le_refl _) |> fun _ => by omega) (le_alloc (le_alloc hz))
          refine ⟨fun _ => ⟨a2, a5, a7⟩, ?_⟩
          (try simp only [Act.put, List.setIfInBounds_toArray, List.set_cons_zero, List.set_cons_succ])
          refine wpAnyU_all (rs := [11]) (by kernel_rfl) (by simp) ?_
          intro i9 hi9
          obtain rfl : i9 = 11 := by simpa using hi9
          refine wpU_step rfl ?_
          refine step_push' elIntG _ rfl (.tmp 31) (.tmp 33) rfl (w.heap.size + 3) _ L2 (k : Int) rfl (PB) _ rfl (HCB) HL2.out (Nat.le_trans (le_alloc (le_alloc hzz)) hgA.size) ?_
          intro vB wB ownB hgB hatB
          obtain ⟨VB, qB, eB⟩ := ownB.form
          rw [List.length_append, List.length_singleton, HK2.out] at eB
          subst eB
          have b2 : wB.cell? ⟨w.heap.size, 0, none⟩ = some (.int .i64 T) := grown_cell hgB (by simp [go_sem, a2]) (fun g hg => by have := (HO2.out.block g hg).1; show g ≠ w.heap.size; omega)
          have b3 : wB.cell? ⟨w.heap.size + 1, 0, none⟩ = some (.slice (some ⟨b, off, none⟩) ws.length c) := grown_cell hgB (by simp [go_sem, a3]) (fun g hg => by have := (HO2.out.block g hg).1; show g ≠ w.heap.size + 1; omega)
          have b5 : wB.cell? ⟨w.heap.size + 1 + 1, 0, none⟩ = some (.int .i64 S) := grown_cell hgB (by simp [go_sem, a5]) (fun g hg => by have := (HO2.out.block g hg).1; show g ≠ w.heap.size + 1 + 1; omega)
          have b7 : wB.cell? ⟨w.heap.size + 1 + 1 + 1 + 1 + 1, 0, none⟩ = some (.slice V2 k q2) := grown_cell hgB (by simp [go_sem, a7]) (HNB.out)
          have bf : wB.frozen? ⟨w.heap.size + 1 + 1 + 1 + 1 + 1, 0, none⟩ = false := grown_free hgB (by simp [go_sem, a7]) (by simp [go_sem, a7, af]) HNB.out
          have hzB : wo.heap.size ≤ wB.heap.size := Nat.le_trans hzA hgB.size
          have EA := Own.beside (ownA) hgB (fun a g ha hg => by rcases hatA with e | e; exact HDJ.out a g (e.symm.trans ha) hg; (rw [e] at ha; injection ha with ha; have := (HO2.out.block g hg).2; simp at ha; omega))
          have EB := ownB
          have QF := below_own (QA) (PB) hgB (by omega) (Nat.le_trans hz hzA)
          have EJ : ∀ a g, (Value.slice VA (k + 1) qA).ownBlock = some a → (Value.slice VB (k + 1) qB).ownBlock = some g → a ≠ g := fun a g ha hg => by
            have hlt9 := (ownA.block a ha).2
            rcases hatB with e | e
            · have h8 := e.symm.trans hg
              rcases hatA with e2 | e2
              · exact HDJ.out a g (e2.symm.trans ha) h8
              · rw [e2] at ha
                injection ha with h7
                have := (HO2.out.block _ h8).2
                try simp at h7
                omega
            · rw [e] at hg
              injection hg with h7
              try simp at h7
              omega
          have MA : ∀ g, (Value.slice VA (k + 1) qA).ownBlock = some g → g ≠ w.heap.size + 1 + 1 + 1 + 1 + 1 := fun g hg => by
            rcases hatA with e | e
            · exact HNA.out g (e.symm.trans hg)
            · rw [e] at hg
              injection hg with h7
              try simp at h7
              omega
          have MB : ∀ g, (Value.slice VB (k + 1) qB).ownBlock = some g → g ≠ w.heap.size + 1 + 1 + 1 + 1 + 1 := fun g hg => by
            rcases hatB with e | e
            · exact HNB.out g (e.symm.trans hg)
            · rw [e] at hg
              injection hg with h7
              try simp at h7
              omega
          refine ⟨fun _ => ⟨b2, b5, b7⟩, ?_⟩
          (try simp only [Act.put, List.setIfInBounds_toArray, List.set_cons_zero, List.set_cons_succ])
          refine wpAnyU_all (rs := [12]) (by kernel_rfl) (by simp) ?_
          intro i9 hi9
          obtain rfl : i9 = 12 := by simpa using hi9
          refine wpU_step rfl ?_
          go_simp
          refine wpAnyU_all (rs := [13]) (by kernel_rfl) (by simp) ?_
          intro i9 hi9
          obtain rfl : i9 = 13 := by simpa using hi9
          refine wpU_step rfl ?_
          go_simp
          refine wpAnyU_done (by kernel_rfl) ?_ _
          have SF := hid (shI_step HN1.out HN2.out EA EB EJ MA MB b2 b3 b5 b7 bf QF)
          clear EJ MA MB EA EB hatA hatB hgA hgB QF
          go_wp2_with fail
          go_roundw
          case rel => exact ⟨k + 1, _, by omega, by go_num, SF.out⟩
          case measure => simp [intOf]; omega
      · refine wpU_step rfl ?_
        go_simp
        refine wpAnyU_all (rs := [6]) (by kernel_rfl) (by simp) ?_
        intro i9 hi9
        obtain rfl : i9 = 6 := by simpa using hi9
        refine wpU_step rfl ?_
        go_simp
        refine wpAnyU_all (rs := [7]) (by kernel_rfl) (by simp) ?_
        intro i9 hi9
        obtain rfl : i9 = 7 := by simpa using hi9
        refine wpU_step rfl ?_
        refine step_push' elInt _ rfl (.tmp 23) (.tmp 29) rfl (w.heap.size + 3) _ L1 (T * x / S) rfl (own_drew' ((HO1.out.alloc _).alloc _)) _ rfl (alloc_new2d _ _ _) HL1.out (le_alloc (le_alloc hzz)) ?_
        intro vA wA ownA hgA hatA
        obtain ⟨VA, qA, eA⟩ := ownA.form
        rw [List.length_append, List.length_singleton, HK1.out] at eA
        subst eA
        have a2 : wA.cell? ⟨w.heap.size, 0, none⟩ = some (.int .i64 T) := grown_cell hgA (by simp [go_sem, k2]) (fun g hg => by have := (HO1.out.block g hg).1; show g ≠ w.heap.size; omega)
        have a3 : wA.cell? ⟨w.heap.size + 1, 0, none⟩ = some (.slice (some ⟨b, off, none⟩) ws.length c) := grown_cell hgA (by simp [go_sem, k3]) (fun g hg => by have := (HO1.out.block g hg).1; show g ≠ w.heap.size + 1; omega)
        have a5 : wA.cell? ⟨w.heap.size + 1 + 1, 0, none⟩ = some (.int .i64 S) := grown_cell hgA (by simp [go_sem, k5]) (fun g hg => by have := (HO1.out.block g hg).1; show g ≠ w.heap.size + 1 + 1; omega)
        have a7 : wA.cell? ⟨w.heap.size + 1 + 1 + 1 + 1 + 1, 0, none⟩ = some (.slice V2 k q2) := grown_cell hgA (by simp [go_sem, k7]) (HNA.out)
        have af : wA.frozen? ⟨w.heap.size + 1 + 1 + 1 + 1 + 1, 0, none⟩ = false := grown_free hgA (by simp [go_sem, k7]) (by simp [go_sem, k7, f7]) HNA.out
        have PB : Own wA (w.heap.size + 3) 3 (.slice V2 k q2) L2 := (own_drew' ((HO2.out.alloc _).alloc _)).beside hgA (fun a g ha hg e => HDJ.out g a hg ha e.symm)
        have HCB : wA.heap[wo.heap.size]? = some (Obj.cells #[.int .i64 (k : Int)] 3) := grown_heap hgA (alloc_oldd _ _ _) (fun e => by have := (HO1.out.block _ e).2; omega)
        have hzA : wo.heap.size ≤ wA.heap.size := Nat.le_trans (by simp; try omega) hgA.size
        have QA := below_own (((HQ.out.alloc hz _).alloc (le_alloc hz) _).drew) (own_drew' ((HO1.out.alloc _).alloc _)) hgA (Nat.le_trans hz (Nat.le_refl _) |> fun _ => by omega) (le_alloc (le_alloc hz))
        refine ⟨fun _ => ⟨a2, a5, a7⟩, ?_⟩
        (try simp only [Act.put, List.setIfInBounds_toArray, List.set_cons_zero, List.set_cons_succ])
        refine wpAnyU_all (rs := [11]) (by kernel_rfl) (by simp) ?_
        intro i9 hi9
        obtain rfl : i9 = 11 := by simpa using hi9
        refine wpU_step rfl ?_
        refine step_push' elIntG _ rfl (.tmp 31) (.tmp 33) rfl (w.heap.size + 3) _ L2 (k : Int) rfl (PB) _ rfl (HCB) HL2.out (Nat.le_trans (le_alloc (le_alloc hzz)) hgA.size) ?_
        intro vB wB ownB hgB hatB
        obtain ⟨VB, qB, eB⟩ := ownB.form
        rw [List.length_append, List.length_singleton, HK2.out] at eB
        subst eB
        have b2 : wB.cell? ⟨w.heap.size, 0, none⟩ = some (.int .i64 T) := grown_cell hgB (by simp [go_sem, a2]) (fun g hg => by have := (HO2.out.block g hg).1; show g ≠ w.heap.size; omega)
        have b3 : wB.cell? ⟨w.heap.size + 1, 0, none⟩ = some (.slice (some ⟨b, off, none⟩) ws.length c) := grown_cell hgB (by simp [go_sem, a3]) (fun g hg => by have := (HO2.out.block g hg).1; show g ≠ w.heap.size + 1; omega)
        have b5 : wB.cell? ⟨w.heap.size + 1 + 1, 0, none⟩ = some (.int .i64 S) := grown_cell hgB (by simp [go_sem, a5]) (fun g hg => by have := (HO2.out.block g hg).1; show g ≠ w.heap.size + 1 + 1; omega)
        have b7 : wB.cell? ⟨w.heap.size + 1 + 1 + 1 + 1 + 1, 0, none⟩ = some (.slice V2 k q2) := grown_cell hgB (by simp [go_sem, a7]) (HNB.out)
        have bf : wB.frozen? ⟨w.heap.size + 1 + 1 + 1 + 1 + 1, 0, none⟩ = false := grown_free hgB (by simp [go_sem, a7]) (by simp [go_sem, a7, af]) HNB.out
        have hzB : wo.heap.size ≤ wB.heap.size := Nat.le_trans hzA hgB.size
        have EA := Own.beside (ownA) hgB (fun a g ha hg => by rcases hatA with e | e; exact HDJ.out a g (e.symm.trans ha) hg; (rw [e] at ha; injection ha with ha; have := (HO2.out.block g hg).2; simp at ha; omega))
        have EB := ownB
        have QF := below_own (QA) (PB) hgB (by omega) (Nat.le_trans hz hzA)
        have EJ : ∀ a g, (Value.slice VA (k + 1) qA).ownBlock = some a → (Value.slice VB (k + 1) qB).ownBlock = some g → a ≠ g := fun a g ha hg => by
          have hlt9 := (ownA.block a ha).2
          rcases hatB with e | e
          · have h8 := e.symm.trans hg
            rcases hatA with e2 | e2
            · exact HDJ.out a g (e2.symm.trans ha) h8
            · rw [e2] at ha
              injection ha with h7
              have := (HO2.out.block _ h8).2
              try simp at h7
              omega
          · rw [e] at hg
            injection hg with h7
            try simp at h7
            omega
        have MA : ∀ g, (Value.slice VA (k + 1) qA).ownBlock = some g → g ≠ w.heap.size + 1 + 1 + 1 + 1 + 1 := fun g hg => by
          rcases hatA with e | e
          · exact HNA.out g (e.symm.trans hg)
          · rw [e] at hg
            injection hg with h7
            try simp at h7
            omega
        have MB : ∀ g, (Value.slice VB (k + 1) qB).ownBlock = some g → g ≠ w.heap.size + 1 + 1 + 1 + 1 + 1 := fun g hg => by
          rcases hatB with e | e
          · exact HNB.out g (e.symm.trans hg)
          · rw [e] at hg
            injection hg with h7
            try simp at h7
            omega
        refine ⟨fun _ => ⟨b2, b5, b7⟩, ?_⟩
        (try simp only [Act.put, List.setIfInBounds_toArray, List.set_cons_zero, List.set_cons_succ])
        refine wpAnyU_all (rs := [12]) (by kernel_rfl) (by simp) ?_
        intro i9 hi9
        obtain rfl : i9 = 12 := by simpa using hi9
        refine wpU_step rfl ?_
        go_simp
        refine wpAnyU_all (rs := [13]) (by kernel_rfl) (by simp) ?_
        intro i9 hi9
        obtain rfl : i9 = 13 := by simpa using hi9
        refine wpU_step rfl ?_
        go_simp
        refine wpAnyU_done (by kernel_rfl) ?_ _
        have SF := hid (shI_step HN1.out HN2.out EA EB EJ MA MB b2 b3 b5 b7 bf QF)
        clear EJ MA MB EA EB hatA hatB hgA hgB QF
        go_wp2_with fail
        go_roundw
        case rel => exact ⟨k + 1, _, by omega, by go_num, SF.out⟩
        case measure => simp [intOf]; omega
    · have hke : k = ws.length := by omega
      clear hlt
      subst hke
      have hl1 : ((List.range ws.length).map (baseAt T S ws)).length = ws.length := by simp
      have hl2 : (upto ws.length).length = ws.length := by simp [upto]
      obtain ⟨o1, o2, dj, n1, n2, k2, k3, k5, k7, f7, hb⟩ := hI
      rw [hl1] at o1 dj n1 ⊢
      rw [hl2] at o2 dj n2 k7
      rw [← share_zero] at o1
      obtain ⟨g1, rfl, hg1, hg1'⟩ := o1.addr (k := 0) (by rw [shareJ_len]; omega)
      obtain ⟨g2, rfl, hg2, hg2'⟩ := o2.addr (k := 0) (by rw [hl2]; omega)
      have hgne : g1 ≠ g2 := dj g1 g2 rfl rfl
      have hn5 : g1 ≠ w.heap.size + 1 + 1 + 1 + 1 + 1 := n1 g1 rfl
      have hn6 : g2 ≠ w.heap.size + 1 + 1 + 1 + 1 + 1 := n2 g2 rfl
      obtain ⟨b, off, rfl, cw⟩ := HX.out.int (k := 0) (by omega)
      have hbw : b < w.heap.size := World.block_lt_of_cell? w _ cw
      have hxs : ∀ j (hj : j < ws.length), wo.cell? ⟨b, off + j, none⟩ = some (.int .i64 ws[j]) := fun j hj => by
        obtain ⟨b', off', e, cc⟩ := HX2.out.int hj
        injection e with e
        injection e with i9 j9
        subst i9 j9
        exact cc
      have hrow : ∀ j, j < ws.length → wo.cell? ⟨g2, j, none⟩ = some (.int .i64 (j : Int)) ∧ wo.frozen? ⟨g2, j, none⟩ = false := fun j hj => by
        have h := o2.int (k := j) (by rw [hl2]; exact hj)
        refine ⟨?_, h.2⟩
        rw [h.1]
        simp [upto]
      have hcap : ws.length ≤ q2 := o2.cap
      have hso := sortOrder_ b off g2 c q2 w.heap.size (w.heap.size + 1) (w.heap.size + 1 + 1) (w.heap.size + 1 + 1 + 1 + 1 + 1) ws T S wo HOK.out hxs hrow k2 k3 k7 k5 (by omega) (by omega) (by omega) (by omega) (by omega)
      have HSO := hid hso
      have HO1 := hid o1
      have HB := hid hb
      have HLF2 := HLF.out
      obtain ⟨LN, hLN⟩ : ∃ n, leftN T S ws = n := ⟨_, rfl⟩
      rw [hLN] at HLF2
      have HSH : Hid (shareL T S ws = shareJ T S ws LN) := by show shareJ T S ws (leftN T S ws) = _; rw [hLN]
      obtain ⟨SB, hSB⟩ : ∃ n, sumB T S ws ws.length = n := ⟨_, rfl⟩
      have hsw : sumW (shareJ T S ws 0) (shareJ T S ws 0).length = SB := by rw [← hSB, share_zero, hl1]; exact sumW_base T S ws
      have hea : ∀ x ∈ shareJ T S ws 0, 0 ≤ x ∧ x ≤ 1000000000 := by
        rw [share_zero]
        intro x hm
        obtain ⟨i, hi, rfl⟩ := List.mem_map.1 hm
        have hi' := List.mem_range.1 hi
        have h1 := (HOK.out.at_ hi').2.1.1
        have h2 := sumB_range HOK.out (i + 1) (by omega)
        have h3 := sumB_range HOK.out i (by omega)
        have e : sumB T S ws (i + 1) = sumB T S ws i + baseAt T S ws i := rfl
        omega
      rw [hSB] at HLF2 lf1 lf2
      have hSB0 : 0 ≤ SB := by rw [← hSB]; exact (sumB_range HOK.out _ (Nat.le_refl _)).1
      have HSW2 := hid hsw
      have HEA2 := hid hea
      have hLr : LN < ws.length := by omega
      clear hLN hSB hsw hea o1 o2 dj n1 n2 hb hso hxs hrow hl1 hl2 HLF cw
      go_wp2_with (go_at_call 60; refine HSO.out.mono ?_; rintro e w9 ⟨rfl, hoc, hsp⟩; refine keep_ ?_)
      have HO9 := hid (own_span HO1.out hsp (fun g hg => by simp only [Value.ownBlock, Option.some.injEq] at hg; omega))
      have HB9 := hid (below_span HB.out hsp (by omega) HB.out.size)
      have j2 := span_cell hsp k2 (by show w.heap.size < g2 ∨ g2 + 1 ≤ w.heap.size; omega)
      have j7 := span_cell hsp k7 (by show w.heap.size + 1 + 1 + 1 + 1 + 1 < g2 ∨ g2 + 1 ≤ w.heap.size + 1 + 1 + 1 + 1 + 1; omega)
      have HOC := hid hoc
      clear k2 k3 k5 k7 f7 hsp hoc HSO HO1 HB HX2
      refine go_ ?_
      go_upto_region 9 with fail
      have e8 : IntKind.i64.wrap (T - SB) = (LN : Int) := by rw [show T - SB = (LN : Int) by omega]; exact IntWalk.i64_in _ (by omega)
      have HLF3 := hid HLF2
      clear HLF2
      have e7 : (0 : Int) ≤ (LN : Int) := by omega
      have e6 : (LN : Int) ≤ (q2 : Int) := by omega
      have hsum : ∀ W, Rd W (some ⟨g1, 0, none⟩) (shareJ T S ws 0) → Calls Try.prog 59 #[.slice (some ⟨g1, 0, none⟩) ws.length q1] W fun e w' => e = .returned (.int .i64 SB) ∧ W = w' := fun W hr => by
        have h := implSum_ (some ⟨g1, 0, none⟩) (shareJ T S ws 0) q1 W hr (by rw [shareJ_len]; omega) HEA2.out
        rw [HSW2.out, shareJ_len] at h
        exact h
      have HSUM := hid hsum
      have HR9 := hid (HO9.out.rd (by rw [shareJ_len]; omega))
      clear hsum
      go_quiet ((go_at_call 59; exact quiet_left9 (HSUM.out _ (HR9.out.drewN _))))
      have HO10 := hid (HO9.out.drewN nq)
      have HB10 := hid (HB9.out.drewN nq)
      have HOC10 : Hid (∀ j (hj : j < (ordL (remAt T S ws) ws.length).length), (w9.drewN nq).cell? ⟨g2, j, none⟩ = some (.int .i64 ((ordL (remAt T S ws) ws.length)[j] : Nat))) := HOC.out
      have HOK2 := hid HOK.out
      clear HO9 HB9 HOC HSUM HR9 HSW2 HEA2 e8 j2 j7 HX HX0 HEA HSW HIH
      generalize w9.drewN nq = wd at HO10 HB10 HOC10 ⊢
      go_wp2_with fail
      go_loopw [11, 47] (fun x j wr => ∃ jN : Nat, j = .int .i64 jN ∧ jN ≤ LN ∧ Own wr (w.heap.size + 3) 2 (.slice (some ⟨g1, 0, none⟩) ws.length q1) (shareJ T S ws jN) ∧ Span wd wr g1 (g1 + 1)) (fun _ j _ => (LN - intOf j).toNat)
      case atStart => exact ⟨0, rfl, Nat.zero_le _, HO10.out, Span.refl _ _ _⟩
      case round =>
        obtain ⟨jN, rfl, hjl, ho, hs⟩ := hrel
        have HO := hid ho
        have HS := hid hs
        clear ho hs
        by_cases hlt3 : jN < LN
        · have hjo : jN < (ordL (remAt T S ws) ws.length).length := by rw [ordL_len]; omega
          have HSS := hid (shareJ_step hjo)
          have hol := ordL_get_lt hjo
          have hsr := shareAt_range (j := jN) (HOK2.out.at_ hol).2.1.1
          have hbr := (HOK2.out.at_ hol).2.1
          have hoc := span_cell HS.out (HOC10.out jN hjo) (by show g2 < g1 ∨ g1 + 1 ≤ g2; omega)
          generalize (ordL (remAt T S ws) ws.length)[jN] = o at HSS hol hsr hbr hoc
          have hl1 := shareJ_len T S ws jN
          obtain ⟨t1, t2⟩ := HO.out.int (k := o) (by rw [hl1]; exact hol)
          rw [shareJ_get] at t1
          have N1 := hid (HO.out.intSet (k := o) (by rw [hl1]; exact hol) (shareAt T S ws jN o + 1))
          rw [← HSS.out] at N1
          have N2 := hid (span_set HS.out (p := ⟨g1, o, none⟩) ⟨Nat.le_refl _, Nat.lt_succ_self _⟩ (.int .i64 (shareAt T S ws jN o + 1)))
          have j3 : (o : Int) < (ws.length : Int) := by omega
          clear hl1 HSS hjo HO
          generalize shareAt T S ws jN o = sv at *
          go_wp2_with fail
          go_roundw
          case rel => exact ⟨jN + 1, by go_num, by omega, N1.out, N2.out⟩
          case measure => simp [intOf]; omega
        · have hje : jN = LN := by omega
          rw [hje] at HO
          have HBF := hid (below_span HB10.out HS.out (by omega) HB10.out.size)
          go_wp2_with fail
          go_ret
          exact ⟨_, _, rfl, by rw [HSH.out]; exact HO.out.mono (by omega), HBF.out⟩
end Go.Proofs.Ytampbbknhbhcbaa
