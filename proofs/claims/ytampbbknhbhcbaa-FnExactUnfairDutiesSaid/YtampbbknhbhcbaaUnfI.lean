/- Duties less shares: the program. -/
import Derived.Test.YtampbbknhbhcbaaUnfS
import Derived.Test.YtampbbknhbhcbaaShareImpl
namespace Go.Proofs.Ytampbbknhbhcbaa
open Go.RowKit
set_option linter.unusedVariables false
set_option maxHeartbeats 600000 in
theorem implSum (A : Option Addr) (xs : List Duty) (c : Nat) (len o : Int) (w : World) (hx : Rd w A xs) (hv : validB xs len = true) :
    Calls Try.prog 44 #[.slice A xs.length c, .int .i64 o] w fun e w' => e = .returned (.int .i64 (sumOf o xs)) ∧ Below w.heap.size w w' := by
  have hn := hx.len
  go_enter Try.func44, Try.ntmps44
  go_wp2
  go_loopw [5, 10] (fun a i wr => ∃ k : Nat, k ≤ xs.length ∧ i = .int .i64 k ∧ a = .int .i64 (sumOf o (xs.take k)) ∧ ∃ q, wr = w.more q) (fun _ i _ => xs.length - (intOf i).toNat)
  case atStart => exact ⟨0, Nat.zero_le _, rfl, rfl, more_self⟩
  case round =>
    obtain ⟨k, hk, rfl, rfl, q, rfl⟩ := hrel
    by_cases hlt : k < xs.length
    · obtain ⟨b, off, rfl, c1, c2, c3⟩ := hx.duty hlt
      have hva := valid_at hv hlt
      have hsb := sumOf_bound (o := o) hv k (by omega)
      have hk40 := (valid_len hv).2.2.1
      have g1 : xs[k].t ≤ 300000 := hva.2.2.2.1
      have g2 : 0 ≤ xs[k].f := by omega
      have g3 : xs[k].f < xs[k].t := by omega
      have HS : Hid (sumOf o (xs.take (k + 1)) = sumStep o (sumOf o (xs.take k)) xs[k]) := foldl_take _ _ hlt
      clear hva hx hv
      generalize sumOf o (xs.take k) = z at HS hsb ⊢
      by_cases hp : xs[k].o = o
      · have hp' : (xs[k].o == o) = true := by simp [hp]
        have HP := hid hp
        clear hp
        go_wp2
        go_roundw
        case rel => exact ⟨k + 1, by omega, by go_num, by rw [HS.out, sumStep, if_pos HP.out], below_ex (more_below.alloc more_size _)⟩
        case measure => simp [intOf]; omega
      · have hp' : (xs[k].o == o) = false := by simp [hp]
        go_wp2
        go_roundw
        case rel => exact ⟨k + 1, by omega, by go_num, by rw [HS.out, sumStep, if_neg hp], below_ex (more_below.alloc more_size _)⟩
        case measure => simp [intOf]; omega
    · have ht : xs.take k = xs := List.take_of_length_le (by omega)
      rw [ht]
      clear hx hv
      go_wp2
      go_ret
      exact ⟨rfl, more_below⟩
theorem unfL_next (xs : List Duty) (L : List Int) (k : Nat) : (List.range (k + 1)).map (unfAt xs L) = (List.range k).map (unfAt xs L) ++ [unfAt xs L k] := by
  rw [List.range_succ, List.map_append]; rfl
set_option maxRecDepth 100000 in
set_option maxHeartbeats 2000000 in
theorem implUnfair (A : Option Addr) (xs : List Duty) (c : Nat) (T : Int) (B : Option Addr) (ps : List Parcel) (d : Nat) (w : World) (hx : Rd w A xs) (hp : Rd w B ps) :
    Calls Try.prog 19 #[.slice A xs.length c, .int .i64 T, .slice B ps.length d] w fun e w' => ∃ v, e = .returned (.tuple #[v, .int .i64 (unfair xs T ps).2]) ∧ Own w' w.heap.size 2 v (unfair xs T ps).1 ∧ Below w.heap.size w w' := by
  have hn := hx.len
  have hm := hp.len
  have HX := hid hx
  have HP := hid hp
  clear hx hp
  by_cases hv : validB xs T = true
  · by_cases hq : okP ps = true
    · by_cases h0 : ps = []
      · subst h0
        rw [unf_nil hv]
        have HV := hid hv
        clear hv
        go_enter Try.func19, Try.ntmps19
        go_wp2_with fail
        refine (implValid _ _ _ _ _ HX.out).mono ?_
        rintro e w0 ⟨rfl, hb0⟩
        rw [HV.out]
        have HB0 := hid hb0
        go_wp2_with fail
        refine (implParcels _ _ _ _ (HP.out.below hb0)).mono ?_
        rintro e w1 ⟨rfl, hb1⟩
        rw [hq]
        have hb2 := hb0.trans (hb1.mono hb0.size)
        clear hb1 hb0
        go_wp2_with fail
        go_ret2
        exact ⟨_, rfl, Own.empty hb2.size, hb2.alloc hb2.size _⟩
      · have hF := unf_ok hv hq h0
        rw [hF]
        have hTr := (valid_len hv).1
        have hok := areas_share hq h0 (T := T) (by omega)
        have HSB : Hid (∀ i, 0 ≤ (shL ps T).getD i 0 ∧ (shL ps T).getD i 0 ≤ T + 1) := hid (fun i => share_bd hok i)
        have hlen : 0 < ps.length := List.length_pos_iff.2 h0
        have hxl := (valid_len hv).2
        have HV := hid hv
        have HQ := hid hq
        have HOK := hid hok
        clear hF hok h0 hv
        go_enter Try.func19, Try.ntmps19
        go_wp2_with fail
        refine (implValid _ _ _ _ _ HX.out).mono ?_
        rintro e w0 ⟨rfl, hb0⟩
        rw [HV.out]
        go_wp2_with fail
        refine (implParcels _ _ _ _ (HP.out.below hb0)).mono ?_
        rintro e w1 ⟨rfl, hb1⟩
        rw [hq]
        have hb2 := hb0.trans (hb1.mono hb0.size)
        have HP1 := hid (HP.out.below hb2)
        have HB1 := hid hb2
        have hs1 := hb2.size
        clear hb1 hb0 hb2 HP hq
        go_wp2_with fail
        refine (implAreas _ _ _ _ (HP1.out.alloc _) HQ.out).mono ?_
        rintro e w2 ⟨V2, q2, rfl, ho2, hb2⟩
        have HD2 := hid ((Own.empty (α := Int) (e := 2) (Nat.le_refl w1.heap.size)).below hb2)
        have hsz2 : w1.heap.size + 1 ≤ w2.heap.size := by have := hb2.size; simpa using this
        have HB2 := hid ((HB1.out.alloc hs1 (.cells #[] 2)).trans (hb2.mono (by simp; omega)))
        have HO2 := hid (ho2.rd (by rw [areas_len]; decide))
        clear ho2 hb2
        go_wp2_with fail
        refine (implShare_ _ _ _ _ _ _ HO2.out HOK.out).mono ?_
        rintro e w3 ⟨V3, q3, rfl, ho3, hb3⟩
        have HD3 := hid (HD2.out.below hb3)
        have hl40 := shL_len ps T
        have hs3 := hb3.size
        have HB3 := hid (HB2.out.trans (hb3.mono (by omega)))
        have HG3 := hid (fun b (h : (Value.slice V3 (areasL ps).length q3).ownBlock = some b) => (ho3.block b h).1)
        have HS3 : Hid (Own w3 w1.heap.size 2 (.slice V3 (areasL ps).length q3) (shL ps T)) := ho3.mono (by omega)
        rw [areas_len] at HS3 HG3
        rw [areas_len]
        have HL := hid hl40
        clear ho3 hb3 hl40 HD2 HB2 HO2 HOK
        generalize hL : shL ps T = L at *
        have HLE := hid hL
        clear hL
        go_wp2_with fail
        go_loopw [8, 33] (fun v i wr => ∃ k : Nat, k ≤ 40 ∧ i = .int .i64 k ∧ Own wr w1.heap.size 2 v ((List.range k).map (unfAt xs L)) ∧ Own wr w1.heap.size 2 (.slice V3 40 q3) L ∧ (∀ a b, v.ownBlock = some a → (Value.slice V3 40 q3).ownBlock = some b → a ≠ b) ∧ Below w.heap.size w wr) (fun _ i _ => 40 - (intOf i).toNat)
        case atStart => exact ⟨0, Nat.zero_le _, rfl, HD3.out, HS3.out, fun a b ha hb => by have := HG3.out b hb; simp only [Value.ownBlock, Option.some.injEq] at ha; omega, HB3.out⟩
        case round =>
          obtain ⟨k, hk, rfl, ho, hs, hd, hb⟩ := hrel
          by_cases hlt : k < 40
          · obtain ⟨gs, rfl, hgb, hgs⟩ := hs.addr (k := k) (by rw [HL.out]; exact hlt)
            obtain ⟨c1, -⟩ := hs.int (k := k) (by rw [HL.out]; exact hlt)
            rw [← getD_int (by rw [HL.out]; exact hlt)] at c1
            have hsb := HSB.out k
            have hbd := sumOf_bd HV.out (k : Int)
            have hbs := hb.size
            have HXR := hid (HX.out.below hb)
            have HS := hid hs
            have HDJ := hid hd
            have HO := hid ho
            have HBB := hid hb
            have HN := hid (unfL_next xs L k)
            have HUA := hid (show unfAt xs L k = sumOf k xs - L.getD k 0 from rfl)
            rw [HUA.out] at HN
            have hkl : Hid (((List.range k).map (unfAt xs L)).length = k) := hid (by simp)
            clear HSB hs hd ho hb
            generalize (List.range k).map (unfAt xs L) = out at HN HO hkl
            generalize L.getD k 0 = n at *
            obtain ⟨A3, q4, rfl⟩ := HO.out.form
            go_wp2_with fail
            refine (implSum _ _ _ T _ _ HXR.out HV.out).mono ?_
            rintro e w5 ⟨rfl, hb5⟩
            have HO5 := hid (HO.out.below hb5)
            have HS5 := hid (HS.out.below hb5)
            have HB5 := hid (HBB.out.trans (hb5.mono hbs))
            have hs5 := hb5.size
            clear hb5 HO HS HBB HXR
            generalize sumOf (k : Int) xs = z at *
            go_wp2_with (at_builtin; (refine wpList_push elInt _ rfl (.tmp 38) (.tmp 44) rfl w1.heap.size (.slice A3 out.length q4) out (z - n) rfl (HO5.out.alloc _) _ rfl (heap_alloc_new _ _) (by have := hkl.out; omega) (le_alloc (by omega)) ?_); intro v' w' hown' hg' hat'; refine keep_ ?_)
            have hbn := below_own (HB5.out.alloc (Nat.le_trans hbs hs5) _) (HO5.out.alloc _) hg' hs1 (le_alloc (Nat.le_trans hbs hs5))
            have hsn := (HS5.out.alloc (.cells #[.int .i64 (z - n)] 2)).beside hg' (fun a g ha hg => (HDJ.out g a hg ha).symm)
            have hdn : ∀ a b, v'.ownBlock = some a → (Value.slice (some ⟨gs, 0, none⟩) 40 _).ownBlock = some b → a ≠ b := fun a b ha hb => by
              rcases hat' with e | e
              · exact HDJ.out a b (e.symm.trans ha) hb
              · rw [e] at ha
                simp only [Option.some.injEq, Value.ownBlock] at ha hb
                subst hb
                simp at ha
                omega
            refine go_ ?_
            go_wp2_with fail
            go_roundw
            case rel => exact ⟨k + 1, by omega, by go_num, by rw [HN.out]; exact hown', hsn, hdn, hbn⟩
            case measure => simp [intOf]; omega
          · have hke : k = 40 := by omega
            subst hke
            have HO := hid (ho.mono hs1)
            have HBB := hid hb
            clear ho hb hs hd
            go_wp2_with fail
            go_ret2
            have hle := HLE.out
            subst hle
            exact ⟨_, rfl, HO.out, HBB.out⟩
    · have hq' : okP ps = false := by simpa using hq
      rw [unf_no (fun h => hq h.2)]
      have HV := hid hv
      clear hv hq
      go_enter Try.func19, Try.ntmps19
      go_wp2_with fail
      refine (implValid _ _ _ _ _ HX.out).mono ?_
      rintro e w0 ⟨rfl, hb0⟩
      rw [HV.out]
      go_wp2_with fail
      refine (implParcels _ _ _ _ (HP.out.below hb0)).mono ?_
      rintro e w1 ⟨rfl, hb1⟩
      rw [hq']
      have hb2 := hb0.trans (hb1.mono hb0.size)
      clear hb1 hb0
      go_wp2_with fail
      go_ret2
      exact ⟨_, rfl, Own.empty hb2.size, hb2.alloc hb2.size _⟩
  · rw [unf_no (fun h => hv h.1)]
    rw [Bool.not_eq_true] at hv
    have HV := hid hv
    clear hv
    go_enter Try.func19, Try.ntmps19
    go_wp2_with fail
    refine (implValid _ _ _ _ _ HX.out).mono ?_
    rintro e w0 ⟨rfl, hb0⟩
    rw [HV.out]
    go_wp2_with fail
    go_ret2
    exact ⟨_, rfl, Own.empty hb0.size, hb0.alloc hb0.size _⟩
end Go.Proofs.Ytampbbknhbhcbaa
