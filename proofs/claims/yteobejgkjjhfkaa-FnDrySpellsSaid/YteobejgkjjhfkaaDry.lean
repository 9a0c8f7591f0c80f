/- Dry spells: those that are long enough, the longest: walked. -/
import Derived.Test.YteobejgkjjhfkaaSpells
namespace Go.Proofs.Yteobejgkjjhfkaa
open Go.RowKit
set_option linter.unusedVariables false
theorem drop_consP {ps : List (Int × Int)} {k : Nat} (h : k < ps.length) : ps.drop k = ps[k] :: ps.drop (k + 1) := List.drop_eq_getElem_cons h
theorem drop_endP {ps : List (Int × Int)} {k : Nat} (h : ¬ k < ps.length) : ps.drop k = [] := List.drop_eq_nil_of_le (by omega)
theorem spL_len {xs : List Int} (h : RainOk xs) : (spL xs xs.length).length ≤ 16 := by
  have h2 : ∀ k, k ≤ xs.length → (spL xs k).length ≤ k := by
    intro k
    induction k with
    | zero => intro _; simp [spL]
    | succ k ih =>
      intro hk
      have := ih (by omega)
      unfold spL
      split
      · omega
      · split
        · unfold bump
          split
          · simp
          · rename_i r hr
            have hne : spL xs k ≠ [] := by intro e; rw [e] at hr; simp at hr
            have : 0 < (spL xs k).length := List.length_pos_iff.mpr hne
            simp
            omega
        · simp; omega
  have := h2 xs.length (Nat.le_refl _)
  have := h.2.1
  omega
theorem sp_two {xs : List Int} (h : RainOk xs) : ∀ p ∈ spL xs xs.length, 1 ≤ p.2 ∧ p.2 ≤ 16 := fun p hp => by
  have e := ((spL_ok xs (fun x hx => (h.2.2 x hx).1) xs.length (Nat.le_refl _)).each p hp).pos
  have := h.2.1
  omega
theorem size_alloc1 (w : World) (o : Obj) : (w.alloc o).heap.size = w.heap.size + 1 := by simp
theorem isDays_ (n : Int) (w : World) : Calls Try.prog 60 #[.int .i64 n] w fun e w' => e = .returned (.bool (inB n 1 120)) ∧ w = w' := by
  go_enter Try.func60, Try.ntmps60
  go_wp2_with (go_at_call 59; refine (implIn _ _ _ _).mono ?_; rintro e w' ⟨rfl, rfl⟩)
  go_ret
  exact ⟨rfl, rfl⟩
set_option maxHeartbeats 4000000 in
theorem longestDry_ (A : Option Addr) (xs : List Int) (c : Nat) (w : World) (hx : Rd w A xs) (h : RainOk xs) :
    Calls Try.prog 19 #[.slice A xs.length c] w fun e w' => e = .returned (.tuple #[.int .i64 (lmax 0 (spL xs xs.length)), .int .i64 0]) ∧ Below w.heap.size w w' := by
  have HX := hid hx
  have HO := hid h
  obtain ⟨M, hM⟩ : ∃ M, lmax 0 (spL xs xs.length) = M := ⟨_, rfl⟩
  rw [hM]
  have HM := hid hM
  clear hx h hM
  go_enter Try.func19, Try.ntmps19
  go_wp2_with fail
  refine (validRain_ _ _ _ _ HX.out HO.out).mono ?_
  rintro e w1 ⟨rfl, hb⟩
  have HB := hid hb
  have HX1 := hid (HX.out.below hb)
  clear hb
  go_wp2_with fail
  refine (spells_ _ _ _ _ HX1.out HO.out).mono ?_
  rintro e w2 ⟨V, q, gs, rfl, hr, hb⟩
  have HR := hid (hr.rdp (by have := spL_len HO.out; omega))
  have HB2 := hid (HB.out.trans (hb.mono HB.out.size))
  have hpl := spL_len HO.out
  have HTW := hid (sp_two HO.out)
  generalize spL xs xs.length = ps at HR HTW hpl HM ⊢
  have HM : Hid (lmax 0 (ps.drop 0) = M) := by rw [List.drop_zero]; exact HM.out
  clear hr hb
  go_wp2_with fail
  go_loop [4, 13] (fun m j => ∃ (k : Nat) (a : Int), k ≤ ps.length ∧ j = .int .i64 k ∧ m = .int .i64 a ∧ lmax a (ps.drop k) = M ∧ 0 ≤ a ∧ a ≤ 16) (fun _ j => ps.length - (intOf j).toNat)
  case atStart => exact ⟨0, 0, Nat.zero_le _, rfl, rfl, HM.out, by omega, by omega⟩
  case round =>
    obtain ⟨k, a, hk, rfl, rfl, ha, h0, h1⟩ := hrel
    by_cases hlt : k < ps.length
    · obtain ⟨b, off, g, o, qq, rfl, c1, c2, c3⟩ := HR.out.at_ hlt
      have htw := HTW.out _ (List.getElem_mem hlt)
      rw [drop_consP hlt] at ha
      simp only [lmax] at ha
      generalize ps[k] = p at c2 c3 ha htw
      obtain ⟨p1, p2⟩ := p
      simp only at c2 c3 ha htw
      by_cases hc : a < p2
      · rw [show max a p2 = p2 by omega] at ha
        go_wp2_with fail
        all_goals (go_round)
        case rel => exact ⟨k + 1, p2, by omega, by go_num, rfl, ha, by omega, by omega⟩
        case measure => simp [intOf]; omega
      · rw [show max a p2 = a by omega] at ha
        go_wp2_with fail
        go_round
        case rel => exact ⟨k + 1, a, by omega, by go_num, rfl, ha, by omega, by omega⟩
        case measure => simp [intOf]; omega
    · rw [drop_endP hlt] at ha
      simp only [lmax] at ha
      subst ha
      go_wp2_with fail
      go_ret2
      exact ⟨rfl, HB2.out⟩
set_option maxHeartbeats 4000000 in
theorem drySpells_ (A : Option Addr) (xs : List Int) (c : Nat) (n : Int) (w : World) (hx : Rd w A xs) (h : RainOk xs) (hn : 1 ≤ n ∧ n ≤ 120) :
    Calls Try.prog 18 #[.slice A xs.length c, .int .i64 n] w fun e w' => ∃ V q, e = .returned (.tuple #[.slice V (longE n (spL xs xs.length)).length q, .int .i64 0]) ∧ RdP w' V (longE n (spL xs xs.length)) ∧ Below w.heap.size w w' := by
  have HX := hid hx
  have HO := hid h
  have h1 : inB n 1 120 = true := inB_lit hn
  have H1 := hid h1
  obtain ⟨M, hM⟩ : ∃ M, longE n (spL xs xs.length) = M := ⟨_, rfl⟩
  rw [hM]
  have HM := hid hM
  clear hx h h1 hM
  go_enter Try.func18, Try.ntmps18
  go_wp2_with fail
  refine (validRain_ _ _ _ _ HX.out HO.out).mono ?_
  rintro e w1 ⟨rfl, hb⟩
  have HB := hid hb
  have HX1 := hid (HX.out.below hb)
  clear hb
  go_wp2_with (go_at_call 60; refine (isDays_ _ _).mono ?_; rintro e w' ⟨rfl, rfl⟩; rw [H1.out])
  refine (spells_ _ _ _ _ (HX1.out.alloc _) HO.out).mono ?_
  rintro e w2 ⟨V, q, gs, rfl, hr, hb⟩
  rw [size_alloc1] at hr
  have HR := hid hr
  have HGS : Hid (w1.heap.size < w2.heap.size) := hid (by have := hb.size; rw [size_alloc1] at this; omega)
  have HB2 := hid ((HB.out.alloc HB.out.size _).trans (hb.mono (le_alloc HB.out.size)))
  have HOV : Hid (Own w2 w.heap.size 24 (.slice (some ⟨w1.heap.size, 0, none⟩) 0 0) ([] : List SlC)) := by
    have h9 : Own (w1.alloc (.cells #[] 24)) w.heap.size 24 (.slice (some ⟨w1.heap.size, 0, none⟩) 0 0) ([] : List SlC) := Own.empty HB.out.size
    exact h9.below hb
  have hpl := spL_len HO.out
  have HTW := hid (sp_two HO.out)
  generalize spL xs xs.length = ps at HR HTW hpl HM ⊢
  have HM : Hid ([] ++ longE n (ps.drop 0) = M) := by rw [List.drop_zero]; exact HM.out
  clear hr hb
  generalize w1.heap.size = G at HOV HR HGS ⊢
  go_wp2_with fail
  go_loopw [6, 23] (fun ov j wr => ∃ (k : Nat) (os : List (Int × Int)) (ss : List Nat), k ≤ ps.length ∧ j = .int .i64 k ∧ os.length ≤ k ∧ os ++ longE n (ps.drop k) = M ∧ Own wr w.heap.size 24 ov (ss.map prA) ∧ PrAll w2 (G + 1) ss os ∧ Below w.heap.size w wr ∧ Span w2 wr G (G + 1) ∧ (∀ g, ov.ownBlock = some g → g = G ∨ w2.heap.size ≤ g)) (fun _ j _ => ps.length - (intOf j).toNat)
  case atStart => exact ⟨0, [], [], Nat.zero_le _, rfl, Nat.le_refl _, HM.out, HOV.out, trivial, HB2.out, Span.refl _ _ _, fun g hg => .inl (by injection hg with e; exact e.symm)⟩
  case round =>
    obtain ⟨k, os, ss, hk, rfl, hol, hrl, ho, hss, hq, hsp, hat⟩ := hrel
    obtain ⟨wo, rfl⟩ : ∃ wo : World, wo = wr := ⟨_, rfl⟩
    obtain ⟨V2, v2, rfl⟩ := ho.form
    have hsl := hss.len
    rw [List.length_map, hsl] at ho hat ⊢
    have HOO := hid ho
    have HQ := hid hq
    have HSP := hid hsp
    have HSS := hid hss
    have HAT := hid hat
    have hos : os.length ≤ 16 := by omega
    have HSL := hid hsl
    clear ho hq hsp hss hsl hat
    by_cases hlt : k < ps.length
    · obtain ⟨b, g, rfl, hb1, hg1, c1, c2, hpo⟩ := HR.out.at_ hlt
      have htw := HTW.out _ (List.getElem_mem hlt)
      rw [drop_consP hlt] at hrl
      simp only [longE] at hrl
      generalize ps[k] = p at c2 hrl htw hpo
      obtain ⟨p1, p2⟩ := p
      simp only at c1 c2 hrl htw hpo
      have d1 := span_cell HSP.out c1 (.inr hb1)
      have d3 := span_cell HSP.out c2 (.inr hg1)
      have HPO := hid hpo
      clear c1 c2 hpo
      by_cases hc : n ≤ p2
      · rw [if_pos hc] at hrl
        have HRL := hid hrl
        clear hrl
        go_wp2_with (first | fail | (at_builtin; refine wpList_push elSl _ rfl (.tmp 32) (.tmp 34) rfl w.heap.size _ (ss.map prA) (prA g) rfl (Own.alloc HOO.out _) _ rfl (heap_alloc_new _ _) (by rw [List.length_map, HSL.out]; omega) (le_alloc HQ.out.size) ?_; intro v' w' hown' hg' hat'; refine keep_ ?_))
        have hbn := below_own (HQ.out.alloc HQ.out.size _) (HOO.out.alloc _) hg' (Nat.le_refl _) (le_alloc HQ.out.size)
        have Z1 := hid hbn
        have Z2 := hid hown'
        have hsp0 : Span w2 (wo.alloc (.cells #[.slice (some ⟨g, 0, none⟩) 2 2] 24)) G (G + 1) := HSP.out.trans (Span.of_below ((Below.refl _ _).alloc (Nat.le_refl _) _) (Nat.le_refl _))
        have Z3 := hid (hsp0.grown2 hg' fun g' hgg => by have := HAT.out g' hgg; omega)
        have Z4 : Hid (∀ g, v'.ownBlock = some g → g = G ∨ w2.heap.size ≤ g) := by
          intro g' hgg
          rcases hat' with e | e
          · exact HAT.out g' (e.symm.trans hgg)
          · rw [e] at hgg
            injection hgg with e2
            have := hsp0.size
            exact .inr (by omega)
        clear hbn hown' hg' hat' hsp0
        refine go_ ?_
        go_wp2_with fail
        go_roundw
        case rel => exact ⟨k + 1, os ++ [(p1, p2)], ss ++ [g], by omega, by go_num, by rw [List.length_append]; simp only [List.length_cons, List.length_nil]; omega, by rw [List.append_assoc]; exact HRL.out, by rw [List.map_append]; exact Z2.out, HSS.out.push HPO.out, Z1.out, Z3.out, Z4.out⟩
        case measure => simp [intOf]; omega
      · rw [if_neg hc] at hrl
        have HRL := hid hrl
        clear hrl
        go_wp2_with fail
        go_roundw
        case rel => exact ⟨k + 1, os, ss, by omega, by go_num, by omega, HRL.out, HOO.out, HSS.out, HQ.out, HSP.out, HAT.out⟩
        case measure => simp [intOf]; omega
    · rw [drop_endP hlt] at hrl
      simp only [longE, List.append_nil] at hrl
      subst hrl
      have E1 := hid (HOO.out.rd (by rw [List.length_map, HSL.out]; omega))
      have hgr := span_grownBy HSP.out
      have E2 := hid ((HSS.out.impM (w' := wo) fun g hg xs' ho' => ho'.grown hgr (.inr fun e => by have e : some g = some G := e; injection e with e; have := HSS.out.lt g hg; omega)).sl)
      clear hgr
      go_wp2_with fail
      go_ret2
      exact ⟨_, _, rfl, ⟨ss.map prA, E1.out, E2.out⟩, HQ.out⟩
end Go.Proofs.Yteobejgkjjhfkaa
