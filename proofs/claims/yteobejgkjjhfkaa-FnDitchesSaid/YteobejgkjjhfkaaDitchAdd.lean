/- impl.Net.reached's closure: one more junction. -/
import Derived.Test.YteobejgkjjhfkaaDitchOk
import Derived.Test.YteobejgkjjhfkaaMapI
namespace Go.Proofs.Yteobejgkjjhfkaa
open Go.RowKit
set_option linter.unusedVariables false
set_option linter.unusedSimpArgs false
theorem span_grownBy' {w : World} (g : Nat) (v : Value) : w.grownBy (w.setCell ⟨g, 0, none⟩ v) (some g) :=
  ⟨rfl, rfl, rfl, by simp [World.setCell], fun k hk hne => Below.heap_setCell w ⟨g, 0, none⟩ v k (by intro e; subst e; exact hne rfl)⟩
/-- Of the blocks that are there only these may have changed. -/
def Oth (w w' : World) (pl mb : Nat) (L : Value) : Prop := ∀ k, k < w.heap.size → k ≠ pl → k ≠ mb → L.ownBlock ≠ some k → w'.heap[k]? = w.heap[k]?
/-- The box pm holds the map of bl, the box pl the list of bl's junctions. -/
structure Bxs (w : World) (base pm pl mb : Nat) (L : Value) (bl : List (Int × Int)) : Prop where
  m : w.cell? ⟨pm, 0, none⟩ = some (.map (some mb))
  l : w.cell? ⟨pl, 0, none⟩ = some L
  mf : w.frozen? ⟨pm, 0, none⟩ = false
  lf : w.frozen? ⟨pl, 0, none⟩ = false
  mp : MpI w mb bl
  own : Own w base 2 L (bl.map Prod.fst)
  lo : base ≤ pm ∧ base ≤ pl ∧ base ≤ mb
  ne : pm ≠ pl ∧ pm ≠ mb ∧ pl ≠ mb
  nl : ∀ g, L.ownBlock = some g → g ≠ pm ∧ g ≠ pl ∧ g ≠ mb
set_option maxRecDepth 100000 in
set_option maxHeartbeats 2000000 in
theorem implAdd (j k : Int) (base pm pl mb : Nat) (L : Value) (bl : List (Int × Int)) (w : World) (h : Bxs w base pm pl mb L bl) (hj : inI j) (hk : inI k) (hl : bl.length ≤ 1000) (hbs : base ≤ w.heap.size) :
    Calls Try.prog 123 #[.int .i64 j, .int .i64 k, .pointer (some ⟨pm, 0, none⟩), .pointer (some ⟨pl, 0, none⟩)] w fun e w' => e = .returned (.tuple #[]) ∧ (∃ L', Bxs w' base pm pl mb L' (if hasI bl j = true then bl else bl ++ [(j, k)])) ∧ Below base w w' ∧ Oth w w' pl mb L := by
  obtain ⟨c1, c2, f1, f2, hm, ho, hlo, hne, hnl⟩ := h
  have HM := hid hm
  have hol : (bl.map Prod.fst).length ≤ 1000 := by rw [List.length_map]; exact hl
  have hno : Hid (hasI bl j = false → j ∉ bl.map Prod.fst) := fun hh => of_decide_eq_false hh
  obtain ⟨ks, hks⟩ : ∃ ks, bl.map Prod.fst = ks := ⟨_, rfl⟩
  have HKS := hid hks
  rw [hks] at ho hol
  clear hks
  have HO := hid ho
  have HNL := hid hnl
  have HNE := hid hne
  have HLO := hid hlo
  obtain ⟨V, q, rfl⟩ := ho.form
  cases hh : hasI bl j
  · have HN := hid (hno.out hh)
    clear hm ho hnl hne hlo
    go_enter Try.func123, Try.ntmps123
    go_wp2_with (first | (at_lookup; refine wpList_lookOkI _ rfl _ _ rfl mb bl j rfl rfl HM.out hj ?_; rw [hh]; refine keep_ ?_) | fail)
    refine go_ ?_
    go_wp2_with (first | (at_mapUpdate; refine wpList_storeI _ rfl _ _ _ rfl mb bl j k rfl rfl rfl HM.out hj hk (by omega) HN.out ?_; intro wm hm2 hg2; refine keep_ ?_) | fail)
    have d1 : wm.cell? ⟨pm, 0, none⟩ = some (.map (some mb)) := grown_cell hg2 c1 (fun g hg e => by injection hg with hg; exact HNE.out.2.1 (e.symm.trans hg.symm))
    have d2 : wm.cell? ⟨pl, 0, none⟩ = some (.slice V ks.length q) := grown_cell hg2 c2 (fun g hg e => by injection hg with hg; exact HNE.out.2.2 (e.symm.trans hg.symm))
    have e1 : wm.frozen? ⟨pm, 0, none⟩ = false := grown_free hg2 (by rw [c1]; rfl) f1 (fun g hg e => by injection hg with hg; exact HNE.out.2.1 (e.symm.trans hg.symm))
    have e2 : wm.frozen? ⟨pl, 0, none⟩ = false := grown_free hg2 (by rw [c2]; rfl) f2 (fun g hg e => by injection hg with hg; exact HNE.out.2.2 (e.symm.trans hg.symm))
    have HB1 := hid ((Below.refl base w).grown hg2 hbs (fun g hg => by injection hg with hg; subst hg; exact HLO.out.2.2))
    have HO1 := hid (HO.out.grown hg2 (.inr fun e => (HNL.out mb e).2.2 rfl))
    have HM1 := hid hm2
    have hbs1 : base ≤ wm.heap.size := Nat.le_trans hbs hg2.size
    have HG2 := hid hg2
    clear c1 c2 f1 f2 hm2 hg2
    refine go_ ?_
    go_wp2_with (at_builtin; refine wpList_push elInt _ rfl (.tmp 19) (.tmp 21) rfl base _ ks j rfl (HO1.out.alloc _) _ rfl (heap_alloc_new _ _) (by omega) (le_alloc hbs1) ?_; intro v' w' hown' hg' hat'; refine keep_ ?_)
    have hg1p : ∀ g, (Value.slice V ks.length q).ownBlock = some g → g ≠ pm := fun g hg => (HNL.out g hg).1
    have hg1l : ∀ g, (Value.slice V ks.length q).ownBlock = some g → g ≠ pl := fun g hg => (HNL.out g hg).2.1
    have k1 : w'.cell? ⟨pm, 0, none⟩ = some (.map (some mb)) := grown_cell hg' (by simp [go_sem, d1]) hg1p
    have k2 : w'.cell? ⟨pl, 0, none⟩ = some (.slice V ks.length q) := grown_cell hg' (by simp [go_sem, d2]) hg1l
    have g1 : w'.frozen? ⟨pm, 0, none⟩ = false := grown_free hg' (by simp [go_sem, d1]) (by simp [go_sem, d1, e1]) hg1p
    have g2 : w'.frozen? ⟨pl, 0, none⟩ = false := grown_free hg' (by simp [go_sem, d2]) (by simp [go_sem, d2, e2]) hg1l
    have HM2 := hid ((HM1.out.below ((Below.refl _ _).alloc (Nat.le_refl _) (.cells #[.int .i64 j] 2))).kept hg' (fun e => (HNL.out mb e.symm).2.2 rfl))
    have HB2 := hid (below_own (HB1.out.alloc hbs1 (.cells #[.int .i64 j] 2)) (HO1.out.alloc _) hg' (Nat.le_refl _) (le_alloc hbs1))
    have HO2 := hid hown'
    have HG3 := hid hg'
    have m1 := World.block_lt_of_cell? _ _ d1
    have m2 := World.block_lt_of_cell? _ _ d2
    have m3 := HM1.out.lt
    have HNL2 : Hid (∀ g, v'.ownBlock = some g → g ≠ pm ∧ g ≠ pl ∧ g ≠ mb) := fun g hg => by
      rcases hat' with e | e
      · exact HNL.out g (e.symm.trans hg)
      · rw [e] at hg
        injection hg with hg
        simp at hg m1 m2
        omega
    obtain ⟨A2, q2, hv2⟩ := hown'.form
    subst hv2
    clear hown' hg' hat' d1 d2 e1 e2 hg1p hg1l
    refine go_ ?_
    go_wp2_with fail
    refine bodyPost_end (v := .tuple #[]) ?_ rfl ?_
    · simp [results, go_sem]
    · have n1 := HNE.out.1
      refine ⟨rfl, ⟨.slice A2 (ks ++ [j]).length q2, ?_, ?_, ?_, ?_, ?_, ?_, HLO.out, HNE.out, HNL2.out⟩, HB2.out.setCell HLO.out.2.1 _, fun kk h1 h2 h3 h4 => ?_⟩
      · simp [go_sem, k1, n1]
      · simp [go_sem, k2]
      · simp [go_sem, g1]
      · simp [go_sem, g2]
      · simpa using HM2.out.setCell (fun e => HNE.out.2.2 e.symm) _
      · rw [List.map_append, HKS.out]
        exact HO2.out.grown (span_grownBy' pl _) (.inr fun e => (HNL2.out pl e).2.1 rfl)
      · have s1 := HG2.out.block kk h1 (by simp only [ne_eq, Option.some.injEq]; exact h3)
        have s2 := Below.heap_alloc wm (.cells #[.int .i64 j] 2) kk (Nat.lt_of_lt_of_le h1 HG2.out.size)
        have s3 := HG3.out.block kk (by have := HG2.out.size; simp; omega) (fun e => h4 e.symm)
        exact (Below.heap_setCell w' ⟨pl, 0, none⟩ _ kk h2).trans (s3.trans (s2.trans s1))
  · clear hm ho hnl hne hlo
    go_enter Try.func123, Try.ntmps123
    go_wp2_with (first | (at_lookup; refine wpList_lookOkI _ rfl _ _ rfl mb bl j rfl rfl HM.out hj ?_; rw [hh]; refine keep_ ?_) | fail)
    refine go_ ?_
    go_wp2_with fail
    refine bodyPost_end (v := .tuple #[]) ?_ rfl ?_
    · simp [results, go_sem]
    · exact ⟨rfl, ⟨_, c1, c2, f1, f2, HM.out, by rw [HKS.out]; exact HO.out, HLO.out, HNE.out, HNL.out⟩, Below.refl _ _, fun _ _ _ _ _ => rfl⟩
end Go.Proofs.Yteobejgkjjhfkaa
