/- A division of a dike by area: the program. -/
import Derived.Test.YtampbbknhbhcbaaDivS
import Derived.Test.YtampbbknhbhcbaaShareImpl
namespace Go.Proofs.Ytampbbknhbhcbaa
open Go.RowKit
set_option linter.unusedVariables false
set_option maxHeartbeats 1000000 in
theorem implDivide (A : Option Addr) (xs : List Parcel) (c : Nat) (T : Int) (w : World) (hx : Rd w A xs) :
    Calls Try.prog 10 #[.slice A xs.length c, .int .i64 T] w fun e w' => ∃ v, e = .returned (.tuple #[v, .int .i64 (divL xs T).2]) ∧ Own w' w.heap.size 56 v (divL xs T).1 ∧ Below w.heap.size w w' := by
  have hn := hx.len
  have HX := hid hx
  clear hx
  by_cases hv : okP xs = true
  · by_cases hT : inB T 1 300000 = true
    · by_cases h0 : xs = []
      · subst h0
        rw [divL_nil hT]
        go_enter Try.func10, Try.ntmps10
        go_wp2_with fail
        refine (implParcels _ _ _ _ HX.out).mono ?_
        rintro e w1 ⟨rfl, hb1⟩
        rw [hv]
        go_wp2_with (go_at_call 36; refine (implDikeLength _ _).mono ?_; rintro e w' ⟨rfl, rfl⟩; rw [hT])
        go_ret2
        exact ⟨_, rfl, Own.empty hb1.size, hb1.alloc hb1.size _⟩
      · have hF := divL_ok hv hT h0
        rw [hF]
        have hTr := inB_true.1 hT
        have hok := areas_share hv h0 (T := T) (by omega)
        have HB := hid (fun k => divAt_bd (l := shL xs T) (m := 300001) (fun i => by have h5 := share_bd hok i; exact ⟨h5.1, Int.le_trans h5.2 (by omega)⟩) k)
        have HSB : Hid (∀ i, 0 ≤ (shL xs T).getD i 0 ∧ (shL xs T).getD i 0 ≤ T + 1) := hid (fun i => share_bd hok i)
        have hlen : 0 < xs.length := List.length_pos_iff.2 h0
        have HV := hid hv
        have HOK := hid hok
        clear hF hok h0
        go_enter Try.func10, Try.ntmps10
        go_wp2_with fail
        refine (implParcels _ _ _ _ HX.out).mono ?_
        rintro e w1 ⟨rfl, hb1⟩
        rw [hv]
        have HX1 := hid (HX.out.below hb1)
        have HB1 := hid hb1
        have hs1 := hb1.size
        clear hb1 HX hv
        go_wp2_with (first | (go_at_call 36; refine (implDikeLength _ _).mono ?_; rintro e w' ⟨rfl, rfl⟩; rw [hT]))
        refine (implAreas _ _ _ _ (HX1.out.alloc _) HV.out).mono ?_
        rintro e w2 ⟨V2, q2, rfl, ho2, hb2⟩
        have HD2 := hid ((Own.empty (α := Duty) (e := 56) (Nat.le_refl w1.heap.size)).below hb2)
        have hsz2 : w1.heap.size + 1 ≤ w2.heap.size := by have := hb2.size; simpa using this
        have HB2 := hid ((HB1.out.alloc hs1 (.cells #[] 56)).trans (hb2.mono (by simp; omega)))
        have HO2 := hid (ho2.rd (by rw [areas_len]; decide))
        clear ho2 hb2
        go_wp2_with fail
        refine (implShare_ _ _ _ _ _ _ HO2.out HOK.out).mono ?_
        rintro e w3 ⟨V3, q3, rfl, ho3, hb3⟩
        have HD3 := hid (HD2.out.below hb3)
        have hl40 := shL_len xs T
        have hs3 := hb3.size
        have HB3 := hid (HB2.out.trans (hb3.mono (by omega)))
        have HG3 := hid (fun b (h : (Value.slice V3 (areasL xs).length q3).ownBlock = some b) => (ho3.block b h).1)
        have HS3 : Hid (Own w3 w1.heap.size 2 (.slice V3 (areasL xs).length q3) (shL xs T)) := ho3.mono (by omega)
        rw [areas_len] at HS3 HG3
        rw [areas_len]
        have HL := hid hl40
        clear ho3 hb3 hl40 HD2 HB2 HO2 HOK
        generalize hL : shL xs T = L at *
        have HLE := hid hL
        clear hL
        go_wp2_with fail
        go_loopw [6, 7, 31] (fun v at_ i wr => ∃ k : Nat, k ≤ 40 ∧ i = .int .i64 k ∧ at_ = .int .i64 (divAt L k).2 ∧ Own wr w1.heap.size 56 v (divAt L k).1 ∧ Own wr w1.heap.size 2 (.slice V3 40 q3) L ∧ (∀ a b, v.ownBlock = some a → (Value.slice V3 40 q3).ownBlock = some b → a ≠ b) ∧ Below w.heap.size w wr) (fun _ _ i _ => 40 - (intOf i).toNat)
        case atStart => exact ⟨0, Nat.zero_le _, rfl, rfl, HD3.out, HS3.out, fun a b ha hb => by have := HG3.out b hb; simp only [Value.ownBlock, Option.some.injEq] at ha; omega, HB3.out⟩
        case round =>
          obtain ⟨k, hk, rfl, rfl, ho, hs, hd, hb⟩ := hrel
          by_cases hlt : k < 40
          · obtain ⟨gs, rfl, hgb, hgs⟩ := hs.addr (k := k) (by rw [HL.out]; exact hlt)
            obtain ⟨c1, -⟩ := hs.int (k := k) (by rw [HL.out]; exact hlt)
            rw [← getD_int (by rw [HL.out]; exact hlt)] at c1
            have hbd := HB.out k
            have hsb := HSB.out k
            have hl : (divAt L k).1.length ≤ 1048576 := by have := divAt_len L k; omega
            have hbs := hb.size
            have HS := hid hs
            have HDJ := hid hd
            by_cases hp : 0 < L.getD k 0
            · have HV2 := hid (divAt_pos hp)
              clear HB HSB hs hd
              obtain ⟨out, at_, hda⟩ : ∃ o a, divAt L k = (o, a) := ⟨_, _, rfl⟩
              rw [hda] at HV2 hl ho hbd ⊢
              have HDA := hid hda
              simp only at hl ho hbd
              clear hda
              generalize L.getD k 0 = n at *
              obtain ⟨A3, q4, rfl⟩ := ho.form
              have HO := hid ho
              have HBB := hid hb
              clear ho hb
              go_wp2_with (at_builtin; refine wpList_push elDuty _ rfl (.tmp 38) (.tmp 45) rfl w1.heap.size (.slice A3 out.length q4) out (⟨k, at_, at_ + n⟩ : Duty) rfl (HO.out.alloc _) _ rfl (heap_alloc_new _ _) hl (le_alloc (by omega)) ?_; intro v' w' hown' hg' hat'; refine keep_ ?_)
              have hbn := below_own (HBB.out.alloc hbs _) (HO.out.alloc _) hg' hs1 (le_alloc hbs)
              have hsn := (HS.out.alloc (.cells #[.int .i64 k, .int .i64 at_, .int .i64 (at_ + n)] 56)).beside hg' (fun a g ha hg => (HDJ.out g a hg ha).symm)
              have hdn : ∀ a b, v'.ownBlock = some a → (Value.slice (some ⟨gs, 0, none⟩) 40 _).ownBlock = some b → a ≠ b := fun a b ha hb => by
                rcases hat' with e | e
                · exact HDJ.out a b (e.symm.trans ha) hb
                · rw [e] at ha
                  simp only [Option.some.injEq, Value.ownBlock] at ha hb
                  subst hb
                  simp at ha
                  omega
              refine go_ ?_
              go_wp2_with fail
              go_roundw
              case rel => exact ⟨k + 1, by omega, by go_num, by rw [HV2.out], by rw [HV2.out]; exact hown', hsn, hdn, hbn⟩
              case measure => simp [intOf]; omega
            · have HV2 := hid (divAt_neg hp)
              obtain ⟨out, at_, hda⟩ : ∃ o a, divAt L k = (o, a) := ⟨_, _, rfl⟩
              rw [hda] at HV2 hl ho hbd ⊢
              have HDA := hid hda
              simp only at hl ho hbd
              clear hda
              have HO := hid ho
              have HBB := hid hb
              clear ho hb hs hd
              go_wp2_with fail
              go_roundw
              case rel => exact ⟨k + 1, by omega, by go_num, by rw [HV2.out], by rw [HV2.out]; exact HO.out, HS.out, HDJ.out, HBB.out⟩
              case measure => simp [intOf]; omega
          · have hke : k = 40 := by omega
            subst hke
            have HO := hid (ho.mono hs1)
            have HBB := hid hb
            clear ho hb hs hd
            go_wp2_with fail
            go_ret2
            have hle := HLE.out
            subst hle
            exact ⟨_, rfl, HO.out, HBB.out⟩
    · rw [divL_len2 hv hT]
      rw [Bool.not_eq_true] at hT
      go_enter Try.func10, Try.ntmps10
      go_wp2_with fail
      refine (implParcels _ _ _ _ HX.out).mono ?_
      rintro e w1 ⟨rfl, hb1⟩
      rw [hv]
      go_wp2_with (go_at_call 36; refine (implDikeLength _ _).mono ?_; rintro e w' ⟨rfl, rfl⟩; rw [hT])
      go_ret2
      exact ⟨_, rfl, Own.empty hb1.size, hb1.alloc hb1.size _⟩
  · rw [divL_no hv]
    rw [Bool.not_eq_true] at hv
    go_enter Try.func10, Try.ntmps10
    go_wp2_with fail
    refine (implParcels _ _ _ _ HX.out).mono ?_
    rintro e w1 ⟨rfl, hb1⟩
    rw [hv]
    go_wp2_with fail
    go_ret2
    exact ⟨_, rfl, Own.empty hb1.size, hb1.alloc hb1.size _⟩
end Go.Proofs.Ytampbbknhbhcbaa
