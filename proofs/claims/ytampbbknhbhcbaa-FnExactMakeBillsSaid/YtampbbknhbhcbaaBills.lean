/- Bills: both sides. -/
import Derived.Test.YtampbbknhbhcbaaDuesO
namespace Go.Proofs.Ytampbbknhbhcbaa
open Go.RowKit
set_option linter.unusedVariables false
set_option maxHeartbeats 400000 in
theorem specDayB (n : Int) (w : World) : Calls Try.prog 48 #[.int .i64 n] w fun e w' => e = .returned (.bool (inB n 0 100000)) ∧ w = w' := by
  go_enter Try.func48, Try.ntmps48
  go_wp2_with (go_at_call 52; refine (specIn _ _ _ _).mono ?_; rintro e w' ⟨rfl, rfl⟩)
  go_ret
  exact ⟨rfl, rfl⟩
set_option maxHeartbeats 400000 in
theorem implDayB (n : Int) (w : World) : Calls Try.prog 49 #[.int .i64 n] w fun e w' => e = .returned (.bool (inB n 0 100000)) ∧ w = w' := by
  go_enter Try.func49, Try.ntmps49
  go_wp2_with (go_at_call 58; refine (implIn _ _ _ _).mono ?_; rintro e w' ⟨rfl, rfl⟩)
  go_ret
  exact ⟨rfl, rfl⟩
theorem billsF_1 {xs : List Parcel} {fs : List Int} {T day : Int} (h : dueC xs fs T = 1) : billsF xs fs T day = ([], 1) := by unfold billsF; rw [if_pos h]
theorem billsF_2 {xs : List Parcel} {fs : List Int} {T day : Int} (h : ¬ dueC xs fs T = 1) (hD : inB day 0 100000 = false) : billsF xs fs T day = ([], 2) := by unfold billsF; rw [if_neg h, hD]; rfl
theorem billsF_ok {xs : List Parcel} {fs : List Int} {T day : Int} (hD : inB day 0 100000 = true) (h : dueC xs fs T = 0) : billsF xs fs T day = (billAt (dueL xs fs T) day 40, 0) := by unfold billsF; rw [if_neg (by rw [h]; decide), if_pos hD, if_pos h]
theorem billsF_no {xs : List Parcel} {fs : List Int} {T day : Int} (h : ¬ dueC xs fs T = 1) (hD : inB day 0 100000 = true) (h0 : ¬ dueC xs fs T = 0) : billsF xs fs T day = ([], dueC xs fs T) := by unfold billsF; rw [if_neg h, if_pos hD, if_neg h0]
theorem billAt_pos {l : List Int} {day : Int} {k : Nat} (h : 0 < l.getD k 0) : billAt l day (k + 1) = billAt l day k ++ [⟨k, day, l.getD k 0, 0⟩] := by rw [billAt, if_pos h]
theorem billAt_neg {l : List Int} {day : Int} {k : Nat} (h : ¬ 0 < l.getD k 0) : billAt l day (k + 1) = billAt l day k := by rw [billAt, if_neg h]
set_option maxRecDepth 100000 in
set_option maxHeartbeats 4000000 in
theorem specBills (A : Option Addr) (xs : List Parcel) (c : Nat) (F : Option Addr) (fs : List Int) (d : Nat) (T day : Int) (w : World) (hx : Rd w A xs) (hf : Rd w F fs) :
    Calls Try.prog 26 #[.slice A xs.length c, .slice F fs.length d, .int .i64 T, .int .i64 day] w fun e w' => ∃ v, e = .returned (.tuple #[v, .int .i64 (billsF xs fs T day).2]) ∧ Own w' w.heap.size 72 v (billsF xs fs T day).1 ∧ Below w.heap.size w w' := by
  have HX := hid hx
  have HF := hid hf
  clear hx hf
  by_cases h1 : dueC xs fs T = 1
  · rw [billsF_1 h1]
    go_enter Try.func26, Try.ntmps26
    go_wp2_with fail
    refine (specDues _ _ _ _ _ _ _ _ HX.out HF.out).mono ?_
    rintro e w1 ⟨v1, rfl, ho1, hb1⟩
    rw [duesF_no (by rw [h1]; decide)]
    rw [h1]
    clear ho1
    go_wp2_with fail
    go_ret2
    exact ⟨_, rfl, Own.nil _ _ _, hb1⟩
  · have hn1 : (dueC xs fs T != 1) = true := by rw [bne_iff_ne]; exact h1
    have hn1' : (dueC xs fs T == 1) = false := by rw [beq_eq_false_iff_ne]; exact h1
    rcases hD : inB day 0 100000 with _ | _
    · rw [billsF_2 h1 hD]
      generalize hCe : dueC xs fs T = C at hn1 hn1' h1
      have HCE := hid hCe
      clear hCe h1
      go_enter Try.func26, Try.ntmps26
      go_wp2_with fail
      refine (specDues _ _ _ _ _ _ _ _ HX.out HF.out).mono ?_
      rintro e w1 ⟨v1, rfl, ho1, hb1⟩
      obtain ⟨Y, hY⟩ : ∃ Y, (duesF xs fs T) = (Y, C) := ⟨(duesF xs fs T).1, by rw [← HCE.out]; unfold duesF; split <;> simp_all⟩
      rw [hY] at ho1 ⊢
      obtain ⟨V1, q1, rfl⟩ := ho1.form
      clear ho1
      go_wp2_with (go_at_call 48; refine (specDayB _ _).mono ?_; rintro e w' ⟨rfl, rfl⟩; rw [hD])
      go_ret2
      exact ⟨_, rfl, Own.nil _ _ _, hb1⟩
    · by_cases h0 : dueC xs fs T = 0
      · rw [billsF_ok hD h0]
        have HB := hid (fun i => dueL_bd (dueC_ok h0).1 (dueC_ok h0).2.2.1 (dueC_ok h0).2.2.2.2 (dueC_ok h0).2.2.2.1 i)
        have HL := hid (dueL_len xs fs T)
        have hdr := inB_true.1 hD
        clear h1 hn1 hn1'
        go_enter Try.func26, Try.ntmps26
        go_wp2_with fail
        refine (specDues _ _ _ _ _ _ _ _ HX.out HF.out).mono ?_
        rintro e w1 ⟨v1, rfl, ho1, hb1⟩
        rw [duesF_ok h0] at ho1 ⊢
        have hs1 := hb1.size
        obtain ⟨V3, q3, rfl⟩ := ho1.form
        simp only at ho1
        rw [HL.out] at ho1
        simp only
        rw [HL.out]
        have HO1 := hid (ho1.rd (by rw [HL.out]; decide))
        have HB1 := hid hb1
        clear ho1 hb1 h0
        generalize hLe : dueL xs fs T = L at *
        have HLE := hid hLe
        clear hLe
        obtain ⟨gb, goff, rfl, -⟩ := HO1.out.int (k := 0) (by rw [HL.out]; decide)
        go_wp2_with (go_at_call 48; refine (specDayB _ _).mono ?_; rintro e w' ⟨rfl, rfl⟩; rw [hD])
        go_loopw [12, 13] (fun v i wr => ∃ k : Nat, k ≤ 40 ∧ i = .int .i64 k ∧ Own wr w1.heap.size 72 v (billAt L day k) ∧ Below w1.heap.size w1 wr) (fun _ i _ => 40 - (intOf i).toNat)
        case atStart => exact ⟨0, Nat.zero_le _, rfl, Own.empty (Nat.le_refl _), (Below.refl _ _).alloc (Nat.le_refl _) _⟩
        case round =>
          obtain ⟨k, hk, rfl, ho, hb⟩ := hrel
          by_cases hlt : k < 40
          · have c1 := (HO1.out.below hb).intAt (k := k) (by rw [HL.out]; exact hlt)
            have hsb := HB.out k
            have hl : Hid ((billAt L day k).length ≤ 1048576) := hid (by have := billAt_len L day k; omega)
            have hbs := hb.size
            have HO := hid ho
            have HBB := hid hb
            clear ho hb HB
            by_cases hp : 0 < L.getD k 0
            · have HS := hid (billAt_pos (day := day) hp)
              generalize billAt L day k = out at HS hl HO
              generalize L.getD k 0 = n at *
              obtain ⟨A3, q4, rfl⟩ := HO.out.form
              go_wp2_with (at_builtin; refine wpList_push elBill _ rfl (.tmp 43) (.tmp 51) rfl w1.heap.size (.slice A3 out.length q4) out (⟨k, day, n, 0⟩ : Bill) rfl (HO.out.alloc _) _ rfl (heap_alloc_new _ _) hl.out (le_alloc hbs) ?_; intro v' w' hown' hg' hat'; refine keep_ ?_)
              have hbn := below_own (HBB.out.alloc hbs _) (HO.out.alloc _) hg' (Nat.le_refl _) (le_alloc hbs)
              refine go_ ?_
              go_wp2_with fail
              go_roundw
              case rel => exact ⟨k + 1, by omega, by go_num, by rw [HS.out]; exact hown', hbn⟩
              case measure => simp [intOf]; omega
            · have HS := hid (billAt_neg (day := day) hp)
              go_wp2_with fail
              go_roundw
              case rel => exact ⟨k + 1, by omega, by go_num, by rw [HS.out]; exact HO.out, HBB.out⟩
              case measure => simp [intOf]; omega
          · have hke : k = 40 := by omega
            subst hke
            have HO := hid (ho.mono hs1)
            have HBB := hid (HB1.out.trans (hb.mono hs1))
            clear ho hb
            go_wp2_with fail
            go_ret2
            have hle := HLE.out
            subst hle
            exact ⟨_, rfl, HO.out, HBB.out⟩
      · rw [billsF_no h1 hD h0]
        have hn0 : (dueC xs fs T != 0) = true := by rw [bne_iff_ne]; exact h0
        generalize hCe : dueC xs fs T = C at hn1 hn1' h1 hn0 h0 ⊢
        have HCE := hid hCe
        clear hCe h1 h0
        go_enter Try.func26, Try.ntmps26
        go_wp2_with fail
        refine (specDues _ _ _ _ _ _ _ _ HX.out HF.out).mono ?_
        rintro e w1 ⟨v1, rfl, ho1, hb1⟩
        obtain ⟨Y, hY⟩ : ∃ Y, (duesF xs fs T) = (Y, C) := ⟨(duesF xs fs T).1, by rw [← HCE.out]; unfold duesF; split <;> simp_all⟩
        rw [hY] at ho1 ⊢
        obtain ⟨V1, q1, rfl⟩ := ho1.form
        clear ho1
        go_wp2_with (go_at_call 48; refine (specDayB _ _).mono ?_; rintro e w' ⟨rfl, rfl⟩; rw [hD])
        go_ret2
        exact ⟨_, rfl, Own.nil _ _ _, hb1⟩
set_option maxRecDepth 100000 in
set_option maxHeartbeats 4000000 in
theorem implBills (A : Option Addr) (xs : List Parcel) (c : Nat) (F : Option Addr) (fs : List Int) (d : Nat) (T day : Int) (w : World) (hx : Rd w A xs) (hf : Rd w F fs) :
    Calls Try.prog 27 #[.slice A xs.length c, .slice F fs.length d, .int .i64 T, .int .i64 day] w fun e w' => ∃ v, e = .returned (.tuple #[v, .int .i64 (billsF xs fs T day).2]) ∧ Own w' w.heap.size 72 v (billsF xs fs T day).1 ∧ Below w.heap.size w w' := by
  have HX := hid hx
  have HF := hid hf
  clear hx hf
  by_cases h1 : dueC xs fs T = 1
  · rw [billsF_1 h1]
    go_enter Try.func27, Try.ntmps27
    go_wp2_with fail
    refine (implDuesCode _ _ _ _ _ _ _ _ HX.out HF.out).mono ?_
    rintro e w1 ⟨rfl, hb1⟩
    rw [h1]
    go_wp2_with fail
    go_ret2
    exact ⟨_, rfl, Own.empty hb1.size, hb1.alloc hb1.size _⟩
  · have hn1 : (dueC xs fs T != 1) = true := by rw [bne_iff_ne]; exact h1
    have hn1' : (dueC xs fs T == 1) = false := by rw [beq_eq_false_iff_ne]; exact h1
    rcases hD : inB day 0 100000 with _ | _
    · rw [billsF_2 h1 hD]
      generalize hCe : dueC xs fs T = C at hn1 hn1' h1
      have HCE := hid hCe
      clear hCe h1
      go_enter Try.func27, Try.ntmps27
      go_wp2_with fail
      refine (implDuesCode _ _ _ _ _ _ _ _ HX.out HF.out).mono ?_
      rintro e w1 ⟨rfl, hb1⟩
      rw [HCE.out]
      go_wp2_with (go_at_call 49; refine (implDayB _ _).mono ?_; rintro e w' ⟨rfl, rfl⟩; rw [hD])
      go_ret2
      exact ⟨_, rfl, Own.empty hb1.size, hb1.alloc hb1.size _⟩
    · by_cases h0 : dueC xs fs T = 0
      · rw [billsF_ok hD h0]
        have HB := hid (fun i => dueL_bd (dueC_ok h0).1 (dueC_ok h0).2.2.1 (dueC_ok h0).2.2.2.2 (dueC_ok h0).2.2.2.1 i)
        have HL := hid (dueL_len xs fs T)
        have hdr := inB_true.1 hD
        clear h1 hn1 hn1'
        go_enter Try.func27, Try.ntmps27
        go_wp2_with fail
        refine (implDuesCode _ _ _ _ _ _ _ _ HX.out HF.out).mono ?_
        rintro e w1 ⟨rfl, hb1⟩
        rw [h0]
        have hs1 := hb1.size
        have HX1 := hid ((HX.out.below hb1).alloc (.cells #[] 72))
        have HF1 := hid ((HF.out.below hb1).alloc (.cells #[] 72))
        have HB1 := hid hb1
        have HH := hid h0
        clear hb1 h0
        go_wp2_with (go_at_call 49; refine (implDayB _ _).mono ?_; rintro e w' ⟨rfl, rfl⟩; rw [hD])
        refine (implDueL _ _ _ _ _ _ _ _ HX1.out HF1.out HH.out).mono ?_
        rintro e w3 ⟨v3, rfl, ho3, hb3⟩
        have HD3 := hid ((Own.empty (α := Bill) (e := 72) (Nat.le_refl w1.heap.size)).below hb3)
        have hsz3 : w1.heap.size + 1 ≤ w3.heap.size := by have := hb3.size; simpa using this
        have HB3 := hid ((HB1.out.alloc hs1 (.cells #[] 72)).trans (hb3.mono (by simp; omega)))
        obtain ⟨V3, q3, rfl⟩ := ho3.form
        have HG3 := hid (fun b (h : (Value.slice V3 (dueL xs fs T).length q3).ownBlock = some b) => (show w1.heap.size + 1 ≤ b by have := (ho3.block b h).1; simpa using this))
        have HS3 : Hid (Own w3 w1.heap.size 2 (.slice V3 (dueL xs fs T).length q3) (dueL xs fs T)) := ho3.mono (by simp)
        rw [HL.out] at HS3 HG3
        rw [HL.out]
        clear ho3 hb3
        generalize hLe : dueL xs fs T = L at *
        have HLE := hid hLe
        clear hLe
        go_wp2_with fail
        go_loopw [11, 39] (fun v i wr => ∃ k : Nat, k ≤ 40 ∧ i = .int .i64 k ∧ Own wr w1.heap.size 72 v (billAt L day k) ∧ Own wr w1.heap.size 2 (.slice V3 40 q3) L ∧ (∀ a b, v.ownBlock = some a → (Value.slice V3 40 q3).ownBlock = some b → a ≠ b) ∧ Below w.heap.size w wr) (fun _ i _ => 40 - (intOf i).toNat)
        case atStart => exact ⟨0, Nat.zero_le _, rfl, HD3.out, HS3.out, fun a b ha hb => by have := HG3.out b hb; simp only [Value.ownBlock, Option.some.injEq] at ha; omega, HB3.out⟩
        case round =>
          obtain ⟨k, hk, rfl, ho, hs, hd, hb⟩ := hrel
          by_cases hlt : k < 40
          · obtain ⟨gs, rfl, hgb, hgs⟩ := hs.addr (k := k) (by rw [HL.out]; exact hlt)
            obtain ⟨c1, -⟩ := hs.int (k := k) (by rw [HL.out]; exact hlt)
            rw [← getD_int (by rw [HL.out]; exact hlt)] at c1
            have hsb := HB.out k
            have hl : Hid ((billAt L day k).length ≤ 1048576) := hid (by have := billAt_len L day k; omega)
            have hbs := hb.size
            have HS := hid hs
            have HDJ := hid hd
            have HO := hid ho
            have HBB := hid hb
            clear ho hb hs hd HB
            by_cases hp : 0 < L.getD k 0
            · have HV2 := hid (billAt_pos (day := day) hp)
              generalize billAt L day k = out at HV2 hl HO
              generalize L.getD k 0 = n at *
              obtain ⟨A3, q4, rfl⟩ := HO.out.form
              go_wp2_with (at_builtin; refine wpList_push elBill _ rfl (.tmp 46) (.tmp 51) rfl w1.heap.size (.slice A3 out.length q4) out (⟨k, day, n, 0⟩ : Bill) rfl (HO.out.alloc _) _ rfl (heap_alloc_new _ _) hl.out (le_alloc (by omega)) ?_; intro v' w' hown' hg' hat'; refine keep_ ?_)
              have hbn := below_own (HBB.out.alloc hbs _) (HO.out.alloc _) hg' hs1 (le_alloc hbs)
              have hsn := (HS.out.alloc (.cells #[.int .i64 k, .int .i64 day, .int .i64 n, .int .i64 0] 72)).beside hg' (fun a g ha hg => (HDJ.out g a hg ha).symm)
              have hdn : ∀ a b, v'.ownBlock = some a → (Value.slice (some ⟨gs, 0, none⟩) 40 _).ownBlock = some b → a ≠ b := fun a b ha hb => by
                rcases hat' with e | e
                · exact HDJ.out a b (e.symm.trans ha) hb
                · rw [e] at ha
                  simp only [Option.some.injEq, Value.ownBlock] at ha hb
                  subst hb
                  simp at ha
                  omega
              refine go_ ?_
              go_wp2_with fail
              go_roundw
              case rel => exact ⟨k + 1, by omega, by go_num, by rw [HV2.out]; exact hown', hsn, hdn, hbn⟩
              case measure => simp [intOf]; omega
            · have HV2 := hid (billAt_neg (day := day) hp)
              go_wp2_with fail
              go_roundw
              case rel => exact ⟨k + 1, by omega, by go_num, by rw [HV2.out]; exact HO.out, HS.out, HDJ.out, HBB.out⟩
              case measure => simp [intOf]; omega
          · have hke : k = 40 := by omega
            subst hke
            have HO := hid (ho.mono hs1)
            have HBB := hid hb
            clear ho hb hs hd
            go_wp2_with fail
            go_ret2
            have hle := HLE.out
            subst hle
            exact ⟨_, rfl, HO.out, HBB.out⟩
      · rw [billsF_no h1 hD h0]
        have hn0 : (dueC xs fs T != 0) = true := by rw [bne_iff_ne]; exact h0
        generalize hCe : dueC xs fs T = C at hn1 hn1' h1 hn0 h0 ⊢
        have HCE := hid hCe
        clear hCe h1 h0
        go_enter Try.func27, Try.ntmps27
        go_wp2_with fail
        refine (implDuesCode _ _ _ _ _ _ _ _ HX.out HF.out).mono ?_
        rintro e w1 ⟨rfl, hb1⟩
        rw [HCE.out]
        go_wp2_with (go_at_call 49; refine (implDayB _ _).mono ?_; rintro e w' ⟨rfl, rfl⟩; rw [hD])
        go_ret2
        exact ⟨_, rfl, Own.empty hb1.size, hb1.alloc hb1.size _⟩
end Go.Proofs.Ytampbbknhbhcbaa
