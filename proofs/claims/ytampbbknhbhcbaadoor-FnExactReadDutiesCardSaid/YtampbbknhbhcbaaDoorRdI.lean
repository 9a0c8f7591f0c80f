/- ReadDuties: the program's walk. -/
import Derived.Test.YtampbbknhbhcbaaDoorRdS
import Derived.Deep.CutBlock
import Derived.OwnWalk
import Derived.Deep.RegionHeld3
namespace Go.Proofs.YtampbbknhbhcbaaDoor
open Go.RowKit
set_option linter.unusedVariables false
set_option linter.unusedSimpArgs false
section
variable {P : Program} {α : Type} [Enc α] {t e : TypeId} {z0 : α}
/-- append(s, y) at a step of a region that draws its order. -/
theorem step_pushD (T : El P t e z0) (w : World) {ops : Array Oper} {o : Oper} {a : Act} {K : Act → World → Prop} {Q : Exit → Act → World → Prop} {E : Prop}
    (hgd : o.guard = none) (s x : Operand) (ho : o.op = .call { callee := .builtin .append, args := #[s, x], argTypes := #[t, t] })
    (base : Nat) (v : Value) (xs : List α) (y : α) (hs : a.eval s = v) (hown : Own w base e v xs) (g : Nat) (hx : a.eval x = .slice (some ⟨g, 0, none⟩) 1 1) (hcells : w.heap[g]? = some (.cells (Enc.enc y).toArray e (0, 0)))
    (hlen : xs.length ≤ 1048576) (hbase : base ≤ w.heap.size)
    (h : ∀ v' w', Own w' base e v' (xs ++ [y]) → w.grownBy w' v.ownBlock → (v'.ownBlock = v.ownBlock ∨ v'.ownBlock = some w.heap.size) → K (a.put o.dst v') w') :
    if Region.wanted o (yielded ops a.tmps) = true then Oper.wp P o a w K Q else E := by
  obtain ⟨i, z, hi, hz, hsz, hby, hzc, hpos⟩ := T.ex
  have hc : ∀ j u, (Enc.enc y)[j]? = some u → w.cell? ((⟨g, 0, none⟩ : Addr).add j) = some u := by
    intro j u hu
    have : (⟨g, 0, none⟩ : Addr).add j = ⟨g, j, none⟩ := by unfold Addr.add; split <;> simp_all
    rw [this, cell_of_row w g j _ e (0, 0) hcells]
    simpa using hu
  have hw : Region.wanted o (yielded ops a.tmps) = true := by simp [Region.wanted, hgd]
  rw [if_pos hw]
  obtain ⟨v', w', hrun, h2, h3, h4, h5⟩ := run_append_own_at (P := P) w base t o.type e i z (Enc.size α) i.bytes T.und hi hz hsz rfl (by rw [hzc]; simp [Enc.len]) hpos v xs.length (flat xs) hown ⟨g, 0, none⟩ 1 1 (Enc.enc y) (by rw [Enc.len]; omega) hc (Enc.one y)
    (by simp only [maxLen]; omega) (Nat.le_trans (Nat.mul_le_mul (show xs.length + 1 ≤ 1048577 by omega) hby) (by decide)) hbase
  have h2' : Own w' base e v' (xs ++ [y]) := by
    unfold Own
    rw [flat_append, flat_one, List.length_append]
    exact h2
  unfold Oper.wp execOp
  simp only [ho, resolve, invoke, builtin, Sem.run_bind, Sem.run_pure, Result.andThen_ok, List.map_toArray, List.map_cons, List.map_nil, hs, hx, hrun]
  exact h v' w' h2' h3 h5
end
theorem own_drewD {α : Type} [Enc α] {w : World} {base : Nat} {e : TypeId} {v : Value} {xs : List α} (h : Own w base e v xs) : Own w.drew base e v xs := h
theorem pairs_two (f o t : Int) (r : List Int) : pairsD f (o :: t :: r) = ⟨o, f, t⟩ :: pairsD t r := rfl
theorem pairs_few : ∀ (L : List Int) (f : Int), L.length < 2 → pairsD f L = []
  | [], _, _ => rfl
  | [a], _, _ => rfl
  | a :: b :: r, _, h => by simp at h; omega
theorem drop_two {L : List Int} {k : Nat} (h : k + 1 < L.length) : L.drop k = L[k] :: L[k + 1] :: L.drop (k + 2) := by
  rw [List.drop_eq_getElem_cons (show k < L.length by omega), List.drop_eq_getElem_cons h]
def sliceLen : Value → Nat
  | .slice _ n _ => n
  | _ => 0
/-- What the program makes of the numbers. -/
def dutI (xs : List Duty) (len : Int) (s : List UInt8) : List Duty × Bool := if validB xs len = true ∧ dutText xs len = s then (xs, true) else ([], false)
theorem dutI_F (s : List UInt8) (len : Int) : dutI (pairsD 0 (numsIn s)) len s = dutF s len := by
  unfold dutI
  split
  · rename_i h
    exact (dutF_is rfl h.1 h.2).symm
  · rename_i h
    exact (dutF_no fun h1 h2 => h ⟨h1, h2⟩).symm
set_option maxRecDepth 100000 in
set_option maxHeartbeats 2000000 in
theorem implReadDuties (s : List UInt8) (len : Int) (w : World) (hs : s.length ≤ 1048576) (ht : Tabs w) :
    Calls Tryd.prog 14 #[.string ⟨s.toArray⟩, .int .i64 len] w fun e w' => ∃ A q, e = .returned (.tuple #[.slice A (dutF s len).1.length q, .bool (dutF s len).2]) ∧ Own w' w.heap.size 57 (.slice A (dutF s len).1.length q) (dutF s len).1 ∧ Below w.heap.size w w' := by
  obtain ⟨D, hD⟩ : ∃ D, dutF s len = D := ⟨_, rfl⟩
  have hDI := dutI_F s len
  rw [hD] at hDI
  rw [hD]
  clear hD
  have HB0 := hid ((Below.refl w.heap.size w).alloc (Nat.le_refl _) (.cells #[] 57))
  have HNU := hid (implNumbers s (w.alloc (.cells #[] 57)) hs (ht.below HB0.out))
  have hln := numsIn_len s
  have HT := hid ht
  generalize numsIn s = L at hDI HNU hln
  obtain ⟨P, hP⟩ : ∃ P, pairsD 0 L = P := ⟨_, rfl⟩
  rw [hP] at hDI
  have HDI := hid hDI
  have HP := hid hP
  clear hDI hP ht
  go_enter Tryd.func14, Tryd.ntmps14
  go_wp2_with (go_at_call 36; refine HNU.out.mono ?_; rintro e w1 ⟨A, q, rfl, ho, hb⟩; refine keep_ ?_)
  have HB1 := hid (HB0.out.trans (hb.mono HB0.out.size))
  have HL1 := hid (ho.rd (by omega))
  have HO1 := hid ((Own.empty (α := Duty) (w := w) (base := w.heap.size) (e := 57) (Nat.le_refl _)).below hb)
  have HLO := hid ho
  clear ho hb
  refine go_ ?_
  go_wp2_with fail
  go_loopw [6, 7, 8] (fun u z n wr => ∃ (k m : Nat) (f : Int) (xs : List Duty) (B : Option Addr) (c : Nat), k + m = L.length ∧ m ≤ c ∧ z = .int .i64 f ∧ n = .slice B m c ∧ (0 < m → ∃ g, A = some ⟨g, 0, none⟩ ∧ B = some ⟨g, k, none⟩) ∧ xs.length ≤ k ∧ xs ++ pairsD f (L.drop k) = P ∧ Own wr w.heap.size 57 u xs ∧ Own wr (w.heap.size + 1) 2 (.slice A L.length q) L ∧ Below w.heap.size w wr) (fun _ _ n _ => sliceLen n)
  case atStart => exact ⟨0, L.length, 0, [], A, q, by omega, HLO.out.cap, rfl, rfl, fun h => by obtain ⟨g, hg, _⟩ := HLO.out.addr (k := 0) h; exact ⟨g, hg, hg⟩, Nat.le_refl _, by rw [List.drop_zero]; exact HP.out, HO1.out, by simpa using HLO.out, HB1.out⟩
  case round =>
    obtain ⟨k, m, f, xs, B, c, hk, hmc, rfl, rfl, hB, hxl, hp, ho, hl, hb⟩ := hrel
    obtain ⟨wo, rfl⟩ : ∃ wo : World, wo = wr := ⟨_, rfl⟩
    obtain ⟨V, vq, rfl⟩ := ho.form
    have HO := hid ho
    have HLW := hid hl
    have HBB := hid hb
    have hbs := hb.size
    have hlo : xs.length ≤ 1048576 := by omega
    by_cases hlt : 2 ≤ m
    · obtain ⟨g, rfl, rfl⟩ := hB (by omega)
      have c1 : wo.cell? ⟨g, k, none⟩ = some (.int .i64 L[k]) := by
        have := hl.cell (k := k) (j := 0) (by omega) rfl
        simpa [Enc.size] using this
      have c2 : wo.cell? ⟨g, k + 1, none⟩ = some (.int .i64 L[k + 1]) := by
        have := hl.cell (k := k + 1) (j := 0) (by omega) rfl
        simpa [Enc.size] using this
      rw [drop_two (by omega)] at hp
      generalize L[k] = o at c1 hp
      generalize L[k + 1] = t at c2 hp
      rw [pairs_two] at hp
      have HPP : Hid ((xs ++ [(⟨o, f, t⟩ : Duty)]) ++ pairsD t (L.drop (k + 2)) = P) := by show _ = P; rw [← hp]; simp
      have HXL := hid hxl
      have HOF := hid (fun b (hb : (Value.slice V xs.length vq).ownBlock = some b) => own_ne ho hl (by decide) b g hb rfl)
      clear ho hl hb hp hB hxl
      have i0 : (0 : Int) < (m : Int) := by omega
      have i1 : (1 : Int) < (m : Int) := by omega
      have i2 : 1 < m := by omega
      have i3 : 0 < m := by omega
      go_upto_region 6 with fail
      go_region_held3 (fun w' => w'.cell? ⟨g, k, none⟩ = some (.int .i64 o) ∧ w'.cell? ⟨g, k + 1, none⟩ = some (.int .i64 t))
        (first | go_keep | exact ⟨q0, q1⟩)
        (first | (refine step_pushD elDuty _ rfl (.tmp 17) (.tmp 26) rfl w.heap.size _ _ (⟨o, f, t⟩ : Duty) rfl (by first | exact Own.alloc HO.out _ | exact Own.alloc (own_drewD HO.out) _) _ rfl (heap_alloc_new _ _) hlo (by simp; omega) ?_; intro v' w' hown' hg' hat'; have q0 : w'.cell? ⟨g, k, none⟩ = some (.int .i64 o) := grown_cell hg' (by simp [go_sem, c1]) (fun b hb => HOF.out b hb); have q1 : w'.cell? ⟨g, k + 1, none⟩ = some (.int .i64 t) := grown_cell hg' (by simp [go_sem, c2]) (fun b hb => HOF.out b hb)))
      have hbn := hid (below_own ((HBB.out.drew).alloc hbs _) (Own.alloc (own_drewD HO.out) _) hg' (Nat.le_refl _) (le_alloc hbs))
      have hln2 := hid ((Own.alloc (own_drewD HLW.out) _).beside hg' (own_ne HLW.out HO.out (by decide)))
      have HO5 := hid hown'
      clear hown' hg' hat'
      go_wp2_with fail
      go_roundw
      case rel => exact ⟨k + 2, m - 2, t, xs ++ [(⟨o, f, t⟩ : Duty)], _, c - 2, by omega, by omega, rfl, rfl, fun h => ⟨g, rfl, by rw [if_neg (by omega)]⟩, by have := HXL.out; simp; omega, HPP.out, HO5.out, hln2.out, hbn.out⟩
      case measure => simp [sliceLen]; omega
    · rw [pairs_few _ _ (by rw [List.length_drop]; omega), List.append_nil] at hp
      subst hp
      have hrd := ho.rd hlo
      have HC := hid (implValid V xs vq len wo hrd)
      have HRD := hid hrd
      clear ho hl hb hrd hB hxl HLO HO1 HB1 HB0 HNU
      cases hv : validB xs len
      · have HE : Hid ((([], false) : List Duty × Bool) = D) := by
          show _ = D
          rw [← HDI.out]
          unfold dutI
          rw [hv, if_neg (fun h => by cases h.1)]
        rw [hv] at HC
        clear hv
        go_wp2_with (go_at_call 31; refine HC.out.mono ?_; rintro e w2 ⟨rfl, hb⟩; have HB2 := hid (HBB.out.trans (hb.mono hbs)); clear hb; refine keep_ ?_)
        refine go_ ?_
        go_wp2_with fail
        go_ret2
        exact ret_duts HE.out (Own.empty HB2.out.size) (HB2.out.alloc HB2.out.size _)
      · have HTX := hid (fun x hx ht => implDutText V xs vq len x hx ht)
        obtain ⟨T, hT⟩ : ∃ T, dutText xs len = T := ⟨_, rfl⟩
        rw [hT] at HTX
        rw [hv] at HC
        by_cases he : T = s
        · have HE : Hid (((xs, true) : List Duty × Bool) = D) := by
            show _ = D
            rw [← HDI.out]
            unfold dutI
            rw [if_pos ⟨hv, hT.trans he⟩]
          have x1 : (T == s) = true := by rw [beq_iff_eq]; exact he
          clear hv hT he
          go_wp2_with (go_at_call 31; refine HC.out.mono ?_; rintro e w2 ⟨rfl, hb⟩; have HB2 := hid (HBB.out.trans (hb.mono hbs)); have HO2 := hid (HO.out.below hb); have HR2 := hid (HRD.out.below hb); clear hb; refine keep_ ?_)
          refine go_ ?_
          go_wp2_with (go_at_call 11; refine (HTX.out _ HR2.out (HT.out.below HB2.out).tab).mono ?_; rintro e w3 ⟨rfl, hb⟩; have HB3 := hid (HB2.out.trans (hb.mono HB2.out.size)); have HO3 := hid (HO2.out.below hb); clear hb; refine keep_ ?_)
          refine go_ ?_
          go_wp2_with fail
          go_ret2
          exact ret_duts HE.out HO3.out HB3.out
        · have HE : Hid ((([], false) : List Duty × Bool) = D) := by
            show _ = D
            rw [← HDI.out]
            unfold dutI
            rw [if_neg (fun h => he (hT.symm.trans h.2))]
          have x1 : (T == s) = false := by rw [beq_eq_false_iff_ne]; exact he
          have x2 : ¬ T = s := he
          clear hv hT he
          go_wp2_with (go_at_call 31; refine HC.out.mono ?_; rintro e w2 ⟨rfl, hb⟩; have HB2 := hid (HBB.out.trans (hb.mono hbs)); have HR2 := hid (HRD.out.below hb); clear hb; refine keep_ ?_)
          refine go_ ?_
          go_wp2_with (go_at_call 11; refine (HTX.out _ HR2.out (HT.out.below HB2.out).tab).mono ?_; rintro e w3 ⟨rfl, hb⟩; have HB3 := hid (HB2.out.trans (hb.mono HB2.out.size)); clear hb; refine keep_ ?_)
          refine go_ ?_
          go_wp2_with fail
          go_ret2
          exact ret_duts HE.out (Own.empty HB3.out.size) (HB3.out.alloc HB3.out.size _)
end Go.Proofs.YtampbbknhbhcbaaDoor
