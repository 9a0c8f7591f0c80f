/- impl.Net.push: walked. -/
import Derived.Test.YteobejgkjjhfkaaDitchLaw
namespace Go.Proofs.Yteobejgkjjhfkaa
open Go.RowKit
set_option linter.unusedVariables false
set_option linter.unusedSimpArgs false
theorem find_at {ds : List Ditch} {fs : List Int} {fr : Int} {bl : List (Int × Int)} (h : Tree ds fs fr bl) {p : Nat} {v k : Int} (hp : bl[p]? = some (v, k)) : (bl.findIdx fun x => x.1 == v) = p := by
  obtain ⟨hl, he⟩ := List.getElem?_eq_some_iff.1 hp
  have hlt : (bl.findIdx fun x => x.1 == v) < bl.length := List.findIdx_lt_length_of_exists ⟨bl[p], List.getElem_mem hl, by rw [he]; simp⟩
  have hx := List.findIdx_getElem (w := hlt)
  simp only [beq_iff_eq] at hx
  refine h.inj (v := v) (j := (bl[bl.findIdx fun x => x.1 == v]'hlt).2) (k := k) ?_ hp
  rw [List.getElem?_eq_getElem hlt]
  congr 1
  exact Prod.ext hx rfl
set_option maxRecDepth 100000 in
set_option maxHeartbeats 2000000 in
theorem implPush (J fr : Int) (A : Option Addr) (ds : List Ditch) (c : Nat) (mb g : Nat) (bl : List (Int × Int)) (fs : List Int) (q : Nat) (W0 w : World) (hx : Rd W0 A ds) (hv : NetOk J ds) (hW : Below W0.heap.size W0 w)
    (hm : MpI w mb bl) (ho : Own w W0.heap.size 2 (.slice (some ⟨g, 0, none⟩) fs.length q) fs) (hmg : mb ≠ g) (ht : Tree ds fs fr bl) (hb : Bd ds fs) (hj : InJ bl J) (h0 : ∃ (p : Nat) (k : Int), bl[p]? = some (0, k)) :
    Calls Try.prog 122 #[.agg #[.int .i64 J, .slice A ds.length c], .map (some mb), .slice (some ⟨g, 0, none⟩) fs.length q] w fun e w' => e = .returned (.tuple #[]) ∧ ∃ fs' : List Int, fs'.length = fs.length ∧ Bd ds fs' ∧ (∀ T : Int → Bool, netT T ds fs' = netT T ds fs + indT T fr - indT T 0) ∧ Own w' W0.heap.size 2 (.slice (some ⟨g, 0, none⟩) fs.length q) fs' ∧ Below W0.heap.size W0 w' := by
  obtain ⟨p0, k0, hp0⟩ := h0
  have hfl := hb.len
  have hdl := hv.len
  have hg := (ho.block g rfl).2
  have HV := hid hv
  have HT := hid ht
  have HJ := hid hj
  have HX := hid hx
  have HP0 := hid (PushP.start (bl := bl) (p := p0) hb)
  have HB0 := hid (hW.alloc hW.size (.cells #[.int .i64 J, .slice A ds.length c] 61))
  have HO0 := hid (ho.alloc (.cells #[.int .i64 J, .slice A ds.length c] 61))
  have HM0 := hid (hm.below ((Below.refl _ _).alloc (Nat.le_refl _) (.cells #[.int .i64 J, .slice A ds.length c] 61)))
  have HMG := hid hmg
  have HHP := hid hp0
  have HFL := hid hfl
  clear hx hv hW hm ho hmg ht hb hj hfl hp0
  go_enter Try.func122, Try.ntmps122
  go_wp2_with fail
  go_loopw [6] (fun z wr => ∃ (p : Nat) (v k : Int) (gs : List Int), bl[p]? = some (v, k) ∧ z = .int .i64 v ∧ gs.length = fs.length ∧ PushP ds fs gs bl p v ∧ Own wr W0.heap.size 2 (.slice (some ⟨g, 0, none⟩) fs.length q) gs ∧ MpI wr mb bl ∧ wr.cell? ⟨w.heap.size, 1, none⟩ = some (.slice A ds.length c) ∧ Below W0.heap.size W0 wr) (fun z _ => (bl.findIdx fun x => x.1 == intOf z))
  case atStart => exact ⟨p0, 0, k0, fs, HHP.out, rfl, rfl, HP0.out, HO0.out, HM0.out, by simp [go_sem], HB0.out⟩
  case round =>
    obtain ⟨p, v, k, gs, hp, rfl, hgl, hpp, ho, hm, hcn, hb⟩ := hrel
    obtain ⟨wo, rfl⟩ : ∃ wo : World, wo = wr := ⟨_, rfl⟩
    have hgk := getI_at HT.out.nodup hp
    have hvi : inI v := by
      have := HJ.out v (List.mem_map.2 ⟨(v, k), List.mem_of_getElem? hp, rfl⟩)
      have := HV.out.j
      unfold inI
      omega
    have HM := hid hm
    have HO := hid ho
    have HB := hid hb
    have HHp := hid hp
    have HPP := hid hpp
    have HGL := hid hgl
    have HVI := hid hvi
    by_cases p0' : p = 0
    · subst p0'
      have hk : k = -1 ∧ v = fr := by
        rw [HT.out.first] at hp
        simp only [Option.some.injEq, Prod.mk.injEq] at hp
        exact ⟨hp.2.symm, hp.1.symm⟩
      obtain ⟨rfl, rfl⟩ := hk
      clear hm ho hb hp hpp hgl hvi
      go_wp2_with (first | (at_lookup; refine wpList_lookI _ rfl _ _ rfl mb bl v rfl rfl HM.out HVI.out ?_; rw [hgk]; refine keep_ ?_) | fail)
      refine go_ ?_
      go_wp2_with fail
      refine bodyPost_end (v := .tuple #[]) ?_ rfl ?_
      · simp [results, go_sem]
      · exact ⟨rfl, gs, HGL.out, HPP.out.bd, HPP.out.net, HO.out, HB.out⟩
    · obtain ⟨k1, h1, h2, q1, u, j1, hq1, hu, hor⟩ := PushP.step HT.out hpp hp p0'
      have hfp := find_at HT.out hp
      have hfu := find_at HT.out hu
      have hne : ¬ u = v := fun e => by subst e; have := HT.out.inj hu hp; omega
      obtain ⟨kn, rfl⟩ : ∃ kn : Nat, k = (kn : Int) := ⟨k.toNat, by omega⟩
      simp only [Int.toNat_natCast] at h1 h2 hor
      have hbd := hpp.bd.at_ kn h1 h2
      have hdc := (HV.out.all _ (List.getElem_mem h1)).c
      have hof := ho.int h2
      obtain ⟨b, off, rfl, c1, c2, c3⟩ := (HX.out.below hb).ditch h1
      have hbs := hb.size
      have HU := hid hu
      have HQ := hid hq1
      have hFS := hid (ho.alloc (.cells #[.int .i64 ds[kn].a, .int .i64 ds[kn].b, .int .i64 ds[kn].c] 139))
      clear hm ho hb hp hpp hgl hvi
      obtain ⟨hf1, hf2⟩ := hof
      generalize gs[kn] = f at hbd hf1 hor
      generalize ds[kn] = d at hbd hdc c1 c2 c3 hFS hor
      obtain ⟨x1, x2, x3⟩ := d
      simp only at hbd hdc c1 c2 c3 hFS hor
      have hgn : ¬ g = w.heap.size := by omega
      have hgn2 : ¬ w.heap.size = g := by omega
      have hgo : ¬ g = wo.heap.size := by have := (HO.out.block g rfl).2; omega
      have hgo2 : ¬ wo.heap.size = g := by omega
      have HFP := hid hfp
      have HFU := hid hfu
      have hk0 : (0 : Int) ≤ (kn : Int) := by omega
      have hk1 : (kn : Int) < (ds.length : Int) := by omega
      have hk2 : (kn : Int) < (fs.length : Int) := by have := HGL.out; omega
      clear hfp hfu hu hq1
      rcases hor with ⟨e1, e2, hpp'⟩ | ⟨e1, e2, hpp'⟩
      · have hcmp : (x2 == v) = true := by rw [beq_iff_eq]; exact e2
        have e3 : IntKind.i64.wrap (f + 1) = f + 1 := IntWalk.i64_in _ (by omega)
        have HQQ := hid hpp'
        have HM2 := hid ((HM.out.below ((Below.refl _ _).alloc (Nat.le_refl _) (.cells #[.int .i64 x1, .int .i64 x2, .int .i64 x3] 139))).setCell (a := ⟨g, kn, none⟩) HMG.out (.int .i64 (f + 1)))
        have HO2 := hid (hFS.out.intSet h2 (f + 1))
        have HB2 := hid ((HB.out.alloc hbs (.cells #[.int .i64 x1, .int .i64 x2, .int .i64 x3] 139)).setCell (show W0.heap.size ≤ (⟨g, kn, none⟩ : Addr).block from (HO.out.block g rfl).1) (.int .i64 (f + 1)))
        subst e1 e2
        clear hpp'
        go_wp2_with (first | (at_lookup; refine wpList_lookI _ rfl _ _ rfl mb bl x2 rfl rfl HM.out HVI.out ?_; rw [hgk]; refine keep_ ?_) | fail)
        refine go_ ?_
        go_wp2_with (first | (at_lookup; refine wpList_lookI _ rfl _ _ rfl mb bl x2 rfl rfl HM.out HVI.out ?_; rw [hgk]; refine keep_ ?_) | fail)
        refine go_ ?_
        go_wp2_with fail
        go_roundw
        case rel => exact ⟨q1, _, j1, gs.set kn (f + 1), HU.out, rfl, by rw [List.length_set]; exact HGL.out, HQQ.out, HO2.out, HM2.out, by simp [go_sem, hcn, hgn, hgn2], HB2.out⟩
        case measure => simp only [intOf]; rw [HFP.out, HFU.out]; exact HQ.out
      · have hcmp : (x2 == v) = false := by rw [beq_eq_false_iff_ne, e1]; exact hne
        have hne2 : ¬ x2 = v := by rw [e1]; exact hne
        have e3 : IntKind.i64.wrap (f - 1) = f - 1 := IntWalk.i64_in _ (by omega)
        have HQQ := hid hpp'
        have HM2 := hid ((HM.out.below ((Below.refl _ _).alloc (Nat.le_refl _) (.cells #[.int .i64 x1, .int .i64 x2, .int .i64 x3] 139))).setCell (a := ⟨g, kn, none⟩) HMG.out (.int .i64 (f - 1)))
        have HO2 := hid (hFS.out.intSet h2 (f - 1))
        have HB2 := hid ((HB.out.alloc hbs (.cells #[.int .i64 x1, .int .i64 x2, .int .i64 x3] 139)).setCell (show W0.heap.size ≤ (⟨g, kn, none⟩ : Addr).block from (HO.out.block g rfl).1) (.int .i64 (f - 1)))
        subst e1 e2
        clear hpp'
        go_wp2_with (first | (at_lookup; refine wpList_lookI _ rfl _ _ rfl mb bl x1 rfl rfl HM.out HVI.out ?_; rw [hgk]; refine keep_ ?_) | fail)
        refine go_ ?_
        go_wp2_with (first | (at_lookup; refine wpList_lookI _ rfl _ _ rfl mb bl x1 rfl rfl HM.out HVI.out ?_; rw [hgk]; refine keep_ ?_) | fail)
        refine go_ ?_
        go_wp2_with fail
        go_roundw
        case rel => exact ⟨q1, _, j1, gs.set kn (f - 1), HU.out, rfl, by rw [List.length_set]; exact HGL.out, HQQ.out, HO2.out, HM2.out, by simp [go_sem, hcn, hgn, hgn2], HB2.out⟩
        case measure => simp only [intOf]; rw [HFP.out, HFU.out]; exact HQ.out
end Go.Proofs.Yteobejgkjjhfkaa
