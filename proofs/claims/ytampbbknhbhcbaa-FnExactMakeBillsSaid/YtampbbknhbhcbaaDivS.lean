/- A division of a dike by area: the reference. -/
import Derived.Test.YtampbbknhbhcbaaUnfP
import Derived.Test.YtampbbknhbhcbaaDutyOk
namespace Go.Proofs.Ytampbbknhbhcbaa
open Go.RowKit
set_option linter.unusedVariables false
theorem sumW_mn {ws : List Int} (hr : ∀ x ∈ ws, 0 ≤ x ∧ x ≤ 1000000000) : ∀ k, k ≤ ws.length → 0 ≤ sumW ws k ∧ sumW ws k ≤ 1000000000 * k
  | 0, _ => by simp [sumW]
  | k + 1, h => by
    have h1 := sumW_mn hr k (by omega)
    have h2 := hr _ (List.getElem_mem (show k < ws.length by omega))
    simp only [sumW]
    rw [getD_int (show k < ws.length by omega)]
    omega
set_option maxHeartbeats 400000 in
theorem specSumW (A : Option Addr) (xs : List Int) (c : Nat) (w : World) (hx : Rd w A xs) (hl : xs.length ≤ 1000) (hr : ∀ x ∈ xs, 0 ≤ x ∧ x ≤ 1000000000) :
    Calls Try.prog 55 #[.slice A xs.length c] w fun e w' => e = .returned (.int .i64 (sumW xs xs.length)) ∧ w = w' := by
  have HX := hid hx
  have HR := hid hr
  clear hx hr
  go_enter Try.func55, Try.ntmps55
  go_wp2_with fail
  go_loop [3, 4] (fun m j => ∃ k : Nat, k ≤ xs.length ∧ j = .int .i64 k ∧ m = .int .i64 (sumW xs k)) (fun _ j => xs.length - (intOf j).toNat)
  case atStart => exact ⟨0, Nat.zero_le _, rfl, rfl⟩
  case round =>
    obtain ⟨k, hk, rfl, rfl⟩ := hrel
    have hm := sumW_mn HR.out k hk
    by_cases hlt : k < xs.length
    · obtain ⟨b, off, rfl, c1⟩ := HX.out.int hlt
      have hxr := HR.out _ (List.getElem_mem hlt)
      have hs : sumW xs (k + 1) = sumW xs k + xs[k] := by simp only [sumW]; rw [getD_int hlt]
      generalize xs[k] = x at c1 hxr hs
      have HS := hid hs
      clear hs
      generalize sumW xs k = a at hm HS ⊢
      go_wp2_with fail
      go_round
      case rel => exact ⟨k + 1, by omega, by go_num, by rw [HS.out]⟩
      case measure => simp [intOf]; omega
    · have hke : k = xs.length := by omega
      rw [hke]
      rw [hke] at hm
      go_wp2_with fail
      go_ret
      exact ⟨rfl, rfl⟩
set_option maxHeartbeats 800000 in
theorem specShares (A : Option Addr) (xs : List Parcel) (c : Nat) (T : Int) (w : World) (hx : Rd w A xs) (hv : okP xs = true) (h0 : xs ≠ []) (hT : 0 ≤ T ∧ T ≤ 1000000000) :
    Calls Try.prog 33 #[.slice A xs.length c, .int .i64 T] w fun e w' => ∃ V q, e = .returned (.slice V (shL xs T).length q) ∧ Own w' w.heap.size 2 (.slice V (shL xs T).length q) (shL xs T) ∧ Below w.heap.size w w' := by
  have hn := hx.len
  have hok := areas_share hv h0 hT
  have HX := hid hx
  have HM := hid (areas_mem hv)
  have HL := hid (areas_len xs)
  have HS : Hid (sumW (areasL xs) (areasL xs).length = areaSum xs) := by show _ = _; rw [areas_len]; exact sumW_areas (okP_all hv)
  have HOK := hid hok
  have HV := hid hv
  have HE : Hid ((shL xs T).length = (areasL xs).length) := by show _ = _; rw [shL_len, areas_len]
  clear hx hv hok h0
  go_enter Try.func33, Try.ntmps33
  go_wp2_with fail
  refine (specAreas _ _ _ _ HX.out HV.out).mono ?_
  rintro e w1 ⟨V1, q1, rfl, ho1, hb1⟩
  have HO1 := hid ho1
  have HB1 := hid hb1
  have HR1 := hid (ho1.rd (by rw [areas_len]; omega))
  have hsz := hb1.size
  clear ho1 hb1
  go_wp2_with fail
  refine (specSumW _ _ _ _ HR1.out (by rw [HL.out]; omega) (fun x hx => by have := HM.out x hx; omega)).mono ?_
  rintro e w2 ⟨rfl, rfl⟩
  rw [HS.out]
  go_wp2_with fail
  refine (specShare_ _ _ _ _ _ _ HR1.out HOK.out).mono ?_
  rintro e w3 ⟨V3, q3, rfl, ho3, hb3⟩
  have HO3 := hid (ho3.mono hsz)
  have HB3 := hid (HB1.out.trans (hb3.mono hsz))
  clear ho3 hb3
  go_wp2_with fail
  go_ret
  rw [HE.out]
  exact ⟨V3, q3, rfl, HO3.out, HB3.out⟩
/-- The impl's side: the areas, then the shares of them. -/
theorem shares_areas {xs : List Parcel} (hv : okP xs = true) : (shL xs 0).length = (areasL xs).length := by rw [shL_len, areas_len]
theorem getD_share {xs : List Parcel} {T : Int} {k : Nat} (hk : k < 40) : (shL xs T).getD k 0 = (shL xs T)[k]'(by rw [shL_len]; exact hk) := getD_int _
theorem divAt_pos {l : List Int} {k : Nat} (h : 0 < l.getD k 0) : divAt l (k + 1) = ((divAt l k).1 ++ [⟨k, (divAt l k).2, (divAt l k).2 + l.getD k 0⟩], (divAt l k).2 + l.getD k 0) := by rw [divAt, if_pos h]
theorem divAt_neg {l : List Int} {k : Nat} (h : ¬ 0 < l.getD k 0) : divAt l (k + 1) = divAt l k := by rw [divAt, if_neg h]
theorem divL_ok {xs : List Parcel} {T : Int} (h1 : okP xs = true) (h2 : inB T 1 300000 = true) (h3 : ¬ xs = []) : divL xs T = ((divAt (shL xs T) 40).1, 0) := by unfold divL; rw [if_pos h1, if_pos h2, if_neg h3]
theorem divL_nil {T : Int} (h2 : inB T 1 300000 = true) : divL [] T = ([], 3) := by unfold divL; rw [if_pos (by decide), if_pos h2, if_pos rfl]
theorem divL_len2 {xs : List Parcel} {T : Int} (h1 : okP xs = true) (h2 : ¬ inB T 1 300000 = true) : divL xs T = ([], 2) := by unfold divL; rw [if_pos h1, if_neg h2]
theorem divL_no {xs : List Parcel} {T : Int} (h1 : ¬ okP xs = true) : divL xs T = ([], 1) := by unfold divL; rw [if_neg h1]
theorem Rd.intAt {w : World} {b off : Nat} {xs : List Int} (h : Rd w (some ⟨b, off, none⟩) xs) {k : Nat} (hk : k < xs.length) : w.cell? ⟨b, off + k, none⟩ = some (.int .i64 (xs.getD k 0)) := by
  obtain ⟨b', off', hA, c1⟩ := h.int hk
  injection hA with hA
  injection hA with h1 h2
  subst h1 h2
  rw [getD_int hk]
  exact c1
set_option maxHeartbeats 1000000 in
theorem specDivide (A : Option Addr) (xs : List Parcel) (c : Nat) (T : Int) (w : World) (hx : Rd w A xs) :
    Calls Try.prog 8 #[.slice A xs.length c, .int .i64 T] w fun e w' => ∃ v, e = .returned (.tuple #[v, .int .i64 (divL xs T).2]) ∧ Own w' w.heap.size 56 v (divL xs T).1 ∧ Below w.heap.size w w' := by
  have hn := hx.len
  have HX := hid hx
  clear hx
  by_cases hv : okP xs = true
  · by_cases hT : inB T 1 300000 = true
    · by_cases h0 : xs = []
      · subst h0
        rw [divL_nil hT]
        go_enter Try.func8, Try.ntmps8
        go_wp2_with fail
        refine (specParcels _ _ _ _ HX.out).mono ?_
        rintro e w1 ⟨rfl, hb1⟩
        rw [hv]
        go_wp2_with (go_at_call 32; refine (specLength _ _).mono ?_; rintro e w' ⟨rfl, rfl⟩; rw [hT])
        go_ret2
        exact ⟨_, rfl, Own.nil _ _ _, hb1⟩
      · have hF := divL_ok hv hT h0
        rw [hF]
        have hTr := inB_true.1 hT
        have hok := areas_share hv h0 (T := T) (by omega)
        have HB := hid (fun k => divAt_bd (l := shL xs T) (m := 300001) (fun i => by have h5 := share_bd hok i; exact ⟨h5.1, Int.le_trans h5.2 (by omega)⟩) k)
        have HSB : Hid (∀ i, 0 ≤ (shL xs T).getD i 0 ∧ (shL xs T).getD i 0 ≤ T + 1) := hid (fun i => share_bd hok i)
        have hlen : 0 < xs.length := List.length_pos_iff.2 h0
        have HV := hid hv
        have H0 := hid h0
        have HOK := hid hok
        clear hF hok h0
        go_enter Try.func8, Try.ntmps8
        go_wp2_with fail
        refine (specParcels _ _ _ _ HX.out).mono ?_
        rintro e w1 ⟨rfl, hb1⟩
        rw [hv]
        obtain ⟨y1, rfl⟩ := below_ex hb1
        clear hb1
        go_wp2_with (go_at_call 32; refine (specLength _ _).mono ?_; rintro e w' ⟨rfl, rfl⟩; rw [hT])
        refine (specShares _ _ _ _ _ HX.out.more HV.out H0.out (by omega)).mono ?_
        rintro e w2 ⟨V2, q2, rfl, ho2, hb2⟩
        have hb2' : Below w.heap.size w w2 := more_below.trans (hb2.mono more_size)
        have hl40 := shL_len xs T
        have HR2 := hid (ho2.rd (by omega))
        rw [hl40]
        have HL := hid hl40
        have HB2 := hid hb2'
        have hsz := hb2'.size
        clear ho2 hb2 hb2' hl40 hv
        generalize hL : shL xs T = L at *
        have HLE := hid hL
        clear hL
        obtain ⟨b, off, rfl, -⟩ := HR2.out.int (k := 0) (by rw [HL.out]; decide)
        go_wp2_with fail
        go_loopw [7, 8, 9] (fun v at_ i wr => ∃ k : Nat, k ≤ 40 ∧ i = .int .i64 k ∧ at_ = .int .i64 (divAt L k).2 ∧ Own wr w2.heap.size 56 v (divAt L k).1 ∧ Below w2.heap.size w2 wr) (fun _ _ i _ => 40 - (intOf i).toNat)
        case atStart => exact ⟨0, Nat.zero_le _, rfl, rfl, Own.empty (Nat.le_refl _), (Below.refl _ _).alloc (Nat.le_refl _) _⟩
        case round =>
          obtain ⟨k, hk, rfl, rfl, ho, hb⟩ := hrel
          by_cases hlt : k < 40
          · have c1 := (HR2.out.below hb).intAt (k := k) (by rw [HL.out]; exact hlt)
            have hbd := HB.out k
            have hsb := HSB.out k
            have hl : (divAt L k).1.length ≤ 1048576 := by have := divAt_len L k; omega
            have hbs := hb.size
            by_cases hp : 0 < L.getD k 0
            · have HS := hid (divAt_pos hp)
              have HRD := hid (fun (wz : World) (hz : Below w2.heap.size w2 wz) => (HR2.out.below hz).intAt (k := k) (by rw [HL.out]; exact hlt))
              clear HB HSB
              obtain ⟨out, at_, hda⟩ : ∃ o a, divAt L k = (o, a) := ⟨_, _, rfl⟩
              rw [hda] at HS hl ho hbd ⊢
              have HDA := hid hda
              simp only at hl ho hbd
              clear hda
              generalize L.getD k 0 = n at *
              obtain ⟨A3, q4, rfl⟩ := ho.form
              have HO := hid ho
              have HBB := hid hb
              clear ho hb
              go_wp2_with (at_builtin; (refine wpList_push elDuty _ rfl (.tmp 34) (.tmp 44) rfl w2.heap.size (.slice A3 out.length q4) out (⟨k, at_, at_ + n⟩ : Duty) rfl (HO.out.alloc _) _ rfl (heap_alloc_new _ _) hl (le_alloc hbs) ?_); intro v' w' hown' hg' hat'; refine keep_ ?_)
              have hbn := below_own (HBB.out.alloc hbs _) (HO.out.alloc _) hg' (Nat.le_refl _) (le_alloc hbs)
              have c2 := HRD.out _ hbn
              clear HRD
              refine go_ ?_
              go_wp2_with fail
              go_roundw
              case rel => exact ⟨k + 1, by omega, by go_num, by rw [HS.out], by rw [HS.out]; exact hown', hbn⟩
              case measure => simp [intOf]; omega
            · have HS := hid (divAt_neg hp)
              obtain ⟨out, at_, hda⟩ : ∃ o a, divAt L k = (o, a) := ⟨_, _, rfl⟩
              rw [hda] at HS hl ho hbd ⊢
              have HDA := hid hda
              simp only at hl ho hbd
              clear hda
              have HO := hid ho
              have HBB := hid hb
              clear ho hb
              go_wp2_with fail
              go_roundw
              case rel => exact ⟨k + 1, by omega, by go_num, by rw [HS.out], by rw [HS.out]; exact HO.out, HBB.out⟩
              case measure => simp [intOf]; omega
          · have hke : k = 40 := by omega
            subst hke
            have HO := hid (ho.mono hsz)
            have HBB := hid (HB2.out.trans (hb.mono hsz))
            clear ho hb
            go_wp2_with fail
            go_ret2
            have hle := HLE.out
            subst hle
            exact ⟨_, rfl, HO.out, HBB.out⟩
    · rw [divL_len2 hv hT]
      rw [Bool.not_eq_true] at hT
      go_enter Try.func8, Try.ntmps8
      go_wp2_with fail
      refine (specParcels _ _ _ _ HX.out).mono ?_
      rintro e w1 ⟨rfl, hb1⟩
      rw [hv]
      go_wp2_with (go_at_call 32; refine (specLength _ _).mono ?_; rintro e w' ⟨rfl, rfl⟩; rw [hT])
      go_ret2
      exact ⟨_, rfl, Own.nil _ _ _, hb1⟩
  · rw [divL_no hv]
    rw [Bool.not_eq_true] at hv
    go_enter Try.func8, Try.ntmps8
    go_wp2_with fail
    refine (specParcels _ _ _ _ HX.out).mono ?_
    rintro e w1 ⟨rfl, hb1⟩
    rw [hv]
    go_wp2_with fail
    go_ret2
    exact ⟨_, rfl, Own.nil _ _ _, hb1⟩
end Go.Proofs.Ytampbbknhbhcbaa
