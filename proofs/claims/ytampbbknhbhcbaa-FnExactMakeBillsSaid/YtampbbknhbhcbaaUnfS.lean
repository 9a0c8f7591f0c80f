/- Duties less shares: the reference. -/
import Derived.Test.YtampbbknhbhcbaaDivS
import Derived.BigRegion
namespace Go.Proofs.Ytampbbknhbhcbaa
open Go.RowKit
set_option linter.unusedVariables false
theorem valid_own {xs : List Duty} {T : Int} (h : validB xs T = true) : ∀ x ∈ xs, 0 ≤ x.o ∧ x.o ≤ 39 := by
  intro x hx
  obtain ⟨k, hk, rfl⟩ := List.getElem_of_mem hx
  exact (valid_at h hk).1
theorem addL_bd {xs : List Duty} {T : Int} (h : validB xs T = true) {k : Nat} (hk : k ≤ xs.length) {o : Int} (ho : 0 ≤ o) : 0 ≤ (addL (xs.take k)).getD o.toNat 0 ∧ (addL (xs.take k)).getD o.toNat 0 ≤ 300000 * k := by
  rw [addL_getD (fun x hx => valid_own h x (List.mem_of_mem_take hx))]
  exact sumOf_bound h k hk
theorem sumOf_bd {xs : List Duty} {T : Int} (h : validB xs T = true) (o : Int) : 0 ≤ sumOf o xs ∧ sumOf o xs ≤ 12000000 := by
  have h1 := sumOf_bound (o := o) h xs.length (Nat.le_refl _)
  rw [List.take_length] at h1
  have := (valid_len h).2.2.1
  omega
theorem unf_ok {xs : List Duty} {T : Int} {ps : List Parcel} (h1 : validB xs T = true) (h2 : okP ps = true) (h3 : ¬ ps = []) : unfair xs T ps = (unfL xs (shL ps T), 0) := by unfold unfair; rw [if_pos ⟨h1, h2⟩, if_neg h3]
theorem unf_nil {xs : List Duty} {T : Int} (h1 : validB xs T = true) : unfair xs T [] = ([], 3) := by unfold unfair; rw [if_pos ⟨h1, by decide⟩, if_pos rfl]
theorem unf_no {xs : List Duty} {T : Int} {ps : List Parcel} (h : ¬ (validB xs T = true ∧ okP ps = true)) : unfair xs T ps = ([], 1) := by unfold unfair; rw [if_neg h]
theorem own_other {α : Type} [Enc α] {w : World} {base : Nat} {e : TypeId} {v : Value} {xs : List α} (h : Own w base e v xs) {g j n c : Nat} (u : Value) (hn : ∀ k, v.ownBlock = some k → k ≠ g) : Own (w.setCell ⟨g, j, none⟩ u) base e v xs :=
  h.beside (u := .slice (some ⟨g, 0, none⟩) n c) (grown_set (World.grownBy.refl _ _)) (fun k g' hk hg => by simp only [Value.ownBlock, Option.some.injEq] at hg; subst hg; exact hn k hk)
set_option maxRecDepth 100000 in
set_option maxHeartbeats 2000000 in
theorem specUnfair (A : Option Addr) (xs : List Duty) (c : Nat) (T : Int) (B : Option Addr) (ps : List Parcel) (d : Nat) (w : World) (hx : Rd w A xs) (hp : Rd w B ps) :
    Calls Try.prog 17 #[.slice A xs.length c, .int .i64 T, .slice B ps.length d] w fun e w' => ∃ v, e = .returned (.tuple #[v, .int .i64 (unfair xs T ps).2]) ∧ Own w' w.heap.size 2 v (unfair xs T ps).1 ∧ Below w.heap.size w w' := by
  have hn := hx.len
  have hm := hp.len
  have HX := hid hx
  have HP := hid hp
  clear hx hp
  by_cases hv : validB xs T = true
  · by_cases hq : okP ps = true
    · by_cases h0 : ps = []
      · subst h0
        rw [unf_nil hv]
        have HV := hid hv
        clear hv
        go_enter Try.func17, Try.ntmps17
        go_wp2_with (go_at_call 41; refine (specOk _ _ _ _ _ HX.out).mono ?_; rintro e w' ⟨rfl, rfl⟩; rw [HV.out])
        refine (specParcels _ _ _ _ HP.out).mono ?_
        rintro e w1 ⟨rfl, hb1⟩
        rw [hq]
        go_wp2_with fail
        go_ret2
        exact ⟨_, rfl, Own.nil _ _ _, hb1⟩
      · have hF := unf_ok hv hq h0
        rw [hF]
        have hTr := (valid_len hv).1
        have hok := areas_share hq h0 (T := T) (by omega)
        have HSB : Hid (∀ i, 0 ≤ (shL ps T).getD i 0 ∧ (shL ps T).getD i 0 ≤ T + 1) := hid (fun i => share_bd hok i)
        have hlen : 0 < ps.length := List.length_pos_iff.2 h0
        have hxl := (valid_len hv).2
        have HV := hid hv
        have HQ := hid hq
        have H0 := hid h0
        clear hF hok h0 hv
        go_enter Try.func17, Try.ntmps17
        go_wp2_with (go_at_call 41; refine (specOk _ _ _ _ _ HX.out).mono ?_; rintro e w' ⟨rfl, rfl⟩; rw [HV.out])
        refine (specParcels _ _ _ _ HP.out).mono ?_
        rintro e w1 ⟨rfl, hb1⟩
        rw [hq]
        have HX1 := hid (HX.out.below hb1)
        have HP1 := hid (HP.out.below hb1)
        have HB1 := hid hb1
        have hs1 := hb1.size
        clear hb1 HX HP hq
        go_wp2_with (first | (at_make; refine wpList_make' elInt _ rfl _ _ rfl w1.heap.size .i64 .i64 _ _ 40 rfl rfl rfl rfl (by decide) (Nat.le_refl _) ?_; intro w2 hown hb2) | fail)
        go_loopw [9] (fun i wr => ∃ k : Nat, k ≤ xs.length ∧ i = .int .i64 k ∧ Own wr w1.heap.size 2 (.slice (some ⟨w1.heap.size, 0, none⟩) 40 40) (addL (xs.take k)) ∧ Below w1.heap.size w1 wr) (fun i _ => xs.length - (intOf i).toNat)
        case atStart => exact ⟨0, Nat.zero_le _, rfl, hown, hb2⟩
        case round =>
          obtain ⟨k, hk, rfl, ho, hb⟩ := hrel
          clear hown hb2
          by_cases hlt : k < xs.length
          · obtain ⟨b, off, rfl, c1, c2, c3⟩ := (HX1.out.below hb).duty hlt
            have hva := valid_at HV.out hlt
            have g1 : 0 ≤ xs[k].o := hva.1.1
            have g2 : xs[k].o ≤ 39 := hva.1.2
            have g3 : 0 ≤ xs[k].f := hva.2.1
            have g4 : xs[k].f < xs[k].t := hva.2.2.1
            have g5 : xs[k].t ≤ 300000 := hva.2.2.2.1
            have hi : xs[k].o.toNat < (addL (xs.take k)).length := by rw [addL_len]; omega
            obtain ⟨d1, f1⟩ := ho.int hi
            have hbd := addL_bd HV.out hk g1
            have h3 := ho.intSet hi ((addL (xs.take k)).getD xs[k].o.toNat 0 + (xs[k].t - xs[k].f))
            rw [show (addL (xs.take k)).set xs[k].o.toNat ((addL (xs.take k)).getD xs[k].o.toNat 0 + (xs[k].t - xs[k].f)) = addL (xs.take (k + 1)) from (addL_next hlt).symm] at h3
            have HO := hid h3
            rw [show (addL (xs.take k))[xs[k].o.toNat] = (addL (xs.take k)).getD xs[k].o.toNat 0 by simp [hi]] at d1
            clear h3 ho hva hi
            generalize (addL (xs.take k)).getD xs[k].o.toNat 0 = z at HO hbd d1 ⊢
            generalize xs[k].o = o at g1 g2 c1 d1 f1 HO
            generalize xs[k].f = fr at g3 g4 c2 HO
            generalize xs[k].t = tt at g4 g5 c3 HO
            go_wp2_with fail
            go_region
            go_wp2_with fail
            go_roundw
            case rel => exact ⟨k + 1, by omega, by go_num, HO.out.drewN _, (hb.setCell (Nat.le_refl _) _).drewN _⟩
            case measure => simp [intOf]; omega
          · have ht : xs.take k = xs := List.take_of_length_le (by omega)
            rw [ht, ← unfJ_zero xs (shL ps T)] at ho
            have HO := hid ho
            have HBR := hid hb
            clear ho hb
            go_wp2_with fail
            refine (specShares _ _ _ _ _ (HP1.out.below HBR.out) HQ.out H0.out (by omega)).mono ?_
            rintro e w3 ⟨V3, q3, rfl, ho3, hb3⟩
            have HO2 := hid (HO.out.below hb3)
            have hgw := (HO.out.block w1.heap.size rfl).2
            have HB2 := hid (HB1.out.trans ((HBR.out.mono hs1).trans (hb3.mono (Nat.le_trans hs1 (by omega)))))
            have hl40 := shL_len ps T
            obtain ⟨gs, rfl, hgs1, hgs2⟩ := ho3.addr (k := 0) (by rw [hl40]; decide)
            have HS3 := hid ho3
            rw [hl40] at HS3
            rw [hl40]
            have HL := hid hl40
            clear ho3 hb3 hl40 HO HBR
            generalize hL : shL ps T = L at *
            have HLE := hid hL
            clear hL
            go_wp2_with fail
            go_loopw [11] (fun i wz => ∃ j : Nat, j ≤ 40 ∧ i = .int .i64 j ∧ Own wz w1.heap.size 2 (.slice (some ⟨w1.heap.size, 0, none⟩) 40 40) (unfJ xs L j) ∧ Own wz wr.heap.size 2 (.slice (some ⟨gs, 0, none⟩) 40 q3) L ∧ Below w.heap.size w wz) (fun i _ => 40 - (intOf i).toNat)
            case atStart => exact ⟨0, Nat.zero_le _, rfl, HO2.out, HS3.out, HB2.out⟩
            case round =>
              obtain ⟨j, hj, rfl, ho, hs, hb⟩ := hrel
              by_cases hlt2 : j < 40
              · obtain ⟨c1, -⟩ := hs.int (k := j) (by rw [HL.out]; exact hlt2)
                rw [← getD_int (by rw [HL.out]; exact hlt2)] at c1
                have hi : j < (unfJ xs L j).length := by rw [unfJ_len _ _ hj]; exact hlt2
                obtain ⟨d1, f1⟩ := ho.int hi
                rw [← getD_int hi, unfJ_at (valid_own HV.out) L hlt2] at d1
                have hsb := HSB.out j
                have hbd := sumOf_bd HV.out (j : Int)
                have h3 := ho.intSet hi (unfAt xs L j)
                rw [unfJ_step _ _ hlt2] at h3
                have HO := hid h3
                have HS := hid (own_other (g := w1.heap.size) (j := j) (n := 40) (c := 40) hs (.int .i64 (unfAt xs L j)) (fun k hk => by simp only [Value.ownBlock, Option.some.injEq] at hk; omega))
                have HUA := hid (show unfAt xs L j = sumOf j xs - L.getD j 0 from rfl)
                rw [HUA.out] at HO HS
                clear h3 ho hi hs
                generalize sumOf (j : Int) xs = z at HO HS hbd d1
                generalize L.getD j 0 = n at c1 hsb HO HS
                go_wp2_with fail
                go_region
                go_wp2_with fail
                go_roundw
                case rel => exact ⟨j + 1, by omega, by go_num, HO.out.drewN _, HS.out.drewN _, (hb.setCell hs1 _).drewN _⟩
                case measure => simp [intOf]; omega
              · have hje : j = 40 := by omega
                subst hje
                rw [unfJ_end] at ho
                have HO := hid (ho.mono hs1)
                have HBB := hid hb
                clear ho hb hs
                go_wp2_with fail
                go_ret2
                have hle := HLE.out
                subst hle
                refine ⟨_, rfl, ?_, HBB.out⟩
                have := HO.out
                exact this
    · have hq' : okP ps = false := by simpa using hq
      rw [unf_no (fun h => hq h.2)]
      have HV := hid hv
      clear hv hq
      go_enter Try.func17, Try.ntmps17
      go_wp2_with (go_at_call 41; refine (specOk _ _ _ _ _ HX.out).mono ?_; rintro e w' ⟨rfl, rfl⟩; rw [HV.out])
      refine (specParcels _ _ _ _ HP.out).mono ?_
      rintro e w1 ⟨rfl, hb1⟩
      rw [hq']
      go_wp2_with fail
      go_ret2
      exact ⟨_, rfl, Own.nil _ _ _, hb1⟩
  · rw [unf_no (fun h => hv h.1)]
    rw [Bool.not_eq_true] at hv
    have HV := hid hv
    clear hv
    go_enter Try.func17, Try.ntmps17
    go_wp2_with (go_at_call 41; refine (specOk _ _ _ _ _ HX.out).mono ?_; rintro e w' ⟨rfl, rfl⟩; rw [HV.out])
    go_ret2
    exact ⟨_, rfl, Own.nil _ _ _, Below.refl _ _⟩
end Go.Proofs.Ytampbbknhbhcbaa
