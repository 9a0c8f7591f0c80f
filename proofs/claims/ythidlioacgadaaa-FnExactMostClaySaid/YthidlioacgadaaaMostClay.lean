/- MostClay: the walks. -/
import Derived.Test.YthidlioacgadaaaClay
namespace Go.Proofs.Ythidlioacgadaaa
open Go.RowKit
set_option linter.unusedVariables false
def mostStep (t : List Task) (st : List Int) (bm : Int × Int) (d : Nat) : Int × Int := if bm.2 < claySum t st d t.length then ((d : Int), claySum t st d t.length) else bm
def mostTo (t : List Task) (st : List Int) (n : Nat) : Int × Int := (List.range n).foldl (mostStep t st) (0, -1)
theorem mostTo_next (t : List Task) (st : List Int) (n : Nat) : mostTo t st (n + 1) = mostStep t st (mostTo t st n) n := by simp [mostTo, List.range_succ]
def mostF (t : List Task) : Int × Int × Int := if validT t = true then (if t.length = 0 then (0, 0, 3) else ((mostTo t (early t t.length).1 (early t t.length).2.toNat).1, (mostTo t (early t t.length).1 (early t t.length).2.toNat).2, 0)) else (0, 0, 1)
theorem ret_three {k k' k'' : IntKind} {p : Int × Int × Int} {a b c : Int} (h : p = (a, b, c)) : Ending.returned (.tuple #[.int k a, .int k' b, .int k'' c]) = .returned (.tuple #[.int k p.1, .int k' p.2.1, .int k'' p.2.2]) := by rw [h]
set_option maxHeartbeats 2000000 in
theorem specMostClay (v : Value) (t : List Task) (w : World) (h : RdTaskS w v t) :
    Calls Try.prog 38 #[v] w fun e w' => e = .returned (.tuple #[.int .i64 (mostF t).1, .int .i64 (mostF t).2.1, .int .i64 (mostF t).2.2]) ∧ Below w.heap.size w w' := by
  obtain ⟨A, c, rfl, hx⟩ := h
  by_cases hv : validT t = true
  · by_cases hz : t.length = 0
    · have HF : Hid (mostF t = (0, 0, 3)) := by unfold mostF; rw [if_pos hv, if_pos hz]; exact rfl
      have hz' : ((t.length : Int) == 0) = true := by simp [hz]
      clear hz
      go_enter Try.func38, Try.ntmps38
      go_wp2_with fail
      refine (specTasksOk _ _ _ _ hx).mono ?_
      rintro e w1 ⟨rfl, hb⟩
      rw [hv]
      go_wp2_with fail
      go_ret3
      exact ⟨ret_three HF.out, hb⟩
    · have HF : Hid (mostF t = ((mostTo t (early t t.length).1 (early t t.length).2.toNat).1, (mostTo t (early t t.length).1 (early t t.length).2.toNat).2, 0)) := by unfold mostF; rw [if_pos hv, if_neg hz]; exact rfl
      have hz' : ((t.length : Int) == 0) = false := by simp [hz]
      have hE := eok_valid hv
      have h12 := valid_len hv
      go_enter Try.func38, Try.ntmps38
      go_wp2_with fail
      refine (specTasksOk _ _ _ _ hx).mono ?_
      rintro e w1 ⟨rfl, hb⟩
      rw [hv]
      go_wp2_with fail
      refine (specStarts _ _ _ _ (hx.below hb) hE).mono ?_
      rintro e w2 ⟨u, rfl, ho, hb2⟩
      have HQ := hid (hb.trans (hb2.mono hb.size))
      have hx2 := hx.below HQ.out
      have hbd := (early_bound hE (Nat.le_refl t.length)).1
      have htb := (early_bound hE (Nat.le_refl t.length)).2
      have hsl := early_len (xs := t) (Nat.le_refl t.length)
      generalize (early t t.length).1 = st at HF ho hbd hsl
      generalize (early t t.length).2 = tot at HF htb ⊢
      obtain ⟨V, q, hvq⟩ := ho.form
      rw [hsl] at hvq
      subst hvq
      have hr := ho.rd (by omega)
      have HSL := hid hsl
      have HX := hid hx2
      have HR := hid hr
      have HBD := hid hbd
      have ht0 : 0 ≤ tot := htb.1
      have ht1 : tot ≤ 48000 := by omega
      clear hx ho hb hb2 hsl hx2 hr hbd htb hz
      go_wp2_with fail
      go_loopw [7, 8, 9] (fun b m i wr => ∃ k : Nat, (k : Int) ≤ tot ∧ i = .int .i64 k ∧ b = .int .i64 (mostTo t st k).1 ∧ m = .int .i64 (mostTo t st k).2 ∧ Below w2.heap.size w2 wr) (fun _ _ i _ => tot.toNat - (intOf i).toNat)
      case atStart => exact ⟨0, by omega, rfl, rfl, rfl, Below.refl _ _⟩
      case round =>
        obtain ⟨k, hk, rfl, rfl, rfl, hq⟩ := hrel
        have HK := hid hq
        by_cases hlt : (k : Int) < tot
        · have hN := mostTo_next t st k
          unfold mostStep at hN
          generalize mostTo t st k = bm at hN
          obtain ⟨b0, m0⟩ := bm
          have hcl := claySum_bound hv st (k : Int) (Nat.le_refl t.length)
          have hx3 := HX.out.below hq
          have hr3 := HR.out.below hq
          simp only at hN
          by_cases hc : m0 < claySum t st (k : Int) t.length
          · rw [if_pos hc] at hN
            have HN := hid hN
            have hc' : decide (m0 < claySum t st (k : Int) t.length) = true := decide_eq_true hc
            have HC := hid hc'
            clear hN hq hc hc'
            go_wp2_with fail
            refine (specClay _ _ t st _ _ _ _ hx3 hr3 hv HSL.out HBD.out).mono ?_
            rintro e w3 ⟨rfl, hb3⟩
            have HB3 := hid (HK.out.trans (hb3.mono HK.out.size))
            have hc' := HC.out
            clear hx3 hr3 hb3 HC
            generalize claySum t st (k : Int) t.length = n at HN hc' hcl ⊢
            go_wp2_with fail
            go_roundw
            case rel => exact ⟨k + 1, by omega, by go_num, by rw [HN.out], by rw [HN.out], HB3.out⟩
            case measure => simp [intOf]; omega
          · rw [if_neg hc] at hN
            have HN := hid hN
            have hc' : decide (m0 < claySum t st (k : Int) t.length) = false := decide_eq_false hc
            have HC := hid hc'
            clear hN hq hc hc'
            go_wp2_with fail
            refine (specClay _ _ t st _ _ _ _ hx3 hr3 hv HSL.out HBD.out).mono ?_
            rintro e w3 ⟨rfl, hb3⟩
            have HB3 := hid (HK.out.trans (hb3.mono HK.out.size))
            have hc' := HC.out
            clear hx3 hr3 hb3 HC
            generalize claySum t st (k : Int) t.length = n at HN hc' hcl ⊢
            go_wp2_with fail
            go_roundw
            case rel => exact ⟨k + 1, by omega, by go_num, by rw [HN.out], by rw [HN.out], HB3.out⟩
            case measure => simp [intOf]; omega
        · have hkl : Hid (k = tot.toNat) := by show k = tot.toNat; omega
          generalize hbm : mostTo t st k = bm
          have HBM := hid hbm
          clear hbm hq
          go_wp2_with fail
          go_ret3
          exact ⟨ret_three (by rw [HF.out, ← HBM.out, hkl.out]), HQ.out.trans (HK.out.mono HQ.out.size)⟩
  · have HF : Hid (mostF t = (0, 0, 1)) := by unfold mostF; rw [if_neg hv]; exact rfl
    rw [Bool.not_eq_true] at hv
    go_enter Try.func38, Try.ntmps38
    go_wp2_with fail
    refine (specTasksOk _ _ _ _ hx).mono ?_
    rintro e w1 ⟨rfl, hb⟩
    rw [hv]
    go_wp2_with fail
    go_ret3
    exact ⟨ret_three HF.out, hb⟩
set_option maxHeartbeats 2000000 in
theorem implMostClay (v : Value) (t : List Task) (w : World) (h : RdTaskS w v t) :
    Calls Try.prog 39 #[v] w fun e w' => e = .returned (.tuple #[.int .i64 (mostF t).1, .int .i64 (mostF t).2.1, .int .i64 (mostF t).2.2]) ∧ Below w.heap.size w w' := by
  obtain ⟨A, c, rfl, hx⟩ := h
  by_cases hv : validT t = true
  · by_cases hz : t.length = 0
    · have HF : Hid (mostF t = (0, 0, 3)) := by unfold mostF; rw [if_pos hv, if_pos hz]; exact rfl
      have hz' : ((t.length : Int) == 0) = true := by simp [hz]
      clear hz
      go_enter Try.func39, Try.ntmps39
      go_wp2_with fail
      refine (implValidTasks _ _ _ _ hx).mono ?_
      rintro e w1 ⟨rfl, hb⟩
      rw [hv]
      go_wp2_with fail
      go_ret3
      exact ⟨ret_three HF.out, hb⟩
    · have HF : Hid (mostF t = ((mostTo t (early t t.length).1 (early t t.length).2.toNat).1, (mostTo t (early t t.length).1 (early t t.length).2.toNat).2, 0)) := by unfold mostF; rw [if_pos hv, if_neg hz]; exact rfl
      have hz' : ((t.length : Int) == 0) = false := by simp [hz]
      have hE := eok_valid hv
      have h12 := valid_len hv
      go_enter Try.func39, Try.ntmps39
      go_wp2_with fail
      refine (implValidTasks _ _ _ _ hx).mono ?_
      rintro e w1 ⟨rfl, hb⟩
      rw [hv]
      go_wp2_with fail
      refine (implStarts _ _ _ _ (hx.below hb) hE).mono ?_
      rintro e w2 ⟨u, rfl, ho, hb2⟩
      have HQ := hid (hb.trans (hb2.mono hb.size))
      have hx2 := hx.below HQ.out
      have hbd := (early_bound hE (Nat.le_refl t.length)).1
      have htb := (early_bound hE (Nat.le_refl t.length)).2
      have hsl := early_len (xs := t) (Nat.le_refl t.length)
      generalize (early t t.length).1 = st at HF ho hbd hsl
      generalize (early t t.length).2 = tot at HF htb ⊢
      obtain ⟨V, q, hvq⟩ := ho.form
      rw [hsl] at hvq
      subst hvq
      have hr := ho.rd (by omega)
      have HSL := hid hsl
      have HX := hid hx2
      have HR := hid hr
      have HBD := hid hbd
      have ht0 : 0 ≤ tot := htb.1
      have ht1 : tot ≤ 48000 := by omega
      clear hx ho hb hb2 hsl hx2 hr hbd htb hz
      go_wp2_with fail
      go_loopw [7, 8, 9] (fun b m i wr => ∃ k : Nat, (k : Int) ≤ tot ∧ i = .int .i64 k ∧ b = .int .i64 (mostTo t st k).1 ∧ m = .int .i64 (mostTo t st k).2 ∧ Below w2.heap.size w2 wr) (fun _ _ i _ => tot.toNat - (intOf i).toNat)
      case atStart => exact ⟨0, by omega, rfl, rfl, rfl, Below.refl _ _⟩
      case round =>
        obtain ⟨k, hk, rfl, rfl, rfl, hq⟩ := hrel
        have HK := hid hq
        by_cases hlt : (k : Int) < tot
        · have hN := mostTo_next t st k
          unfold mostStep at hN
          generalize mostTo t st k = bm at hN
          obtain ⟨b0, m0⟩ := bm
          have hcl := claySum_bound hv st (k : Int) (Nat.le_refl t.length)
          have hx3 := HX.out.below hq
          have hr3 := HR.out.below hq
          simp only at hN
          by_cases hc : m0 < claySum t st (k : Int) t.length
          · rw [if_pos hc] at hN
            have HN := hid hN
            have hc' : decide (m0 < claySum t st (k : Int) t.length) = true := decide_eq_true hc
            have HC := hid hc'
            clear hN hq hc hc'
            go_wp2_with fail
            refine (implClay _ _ t st _ _ _ _ hx3 hr3 hv HSL.out HBD.out).mono ?_
            rintro e w3 ⟨rfl, hb3⟩
            have HB3 := hid (HK.out.trans (hb3.mono HK.out.size))
            have hc' := HC.out
            clear hx3 hr3 hb3 HC
            generalize claySum t st (k : Int) t.length = n at HN hc' hcl ⊢
            go_wp2_with fail
            go_roundw
            case rel => exact ⟨k + 1, by omega, by go_num, by rw [HN.out], by rw [HN.out], HB3.out⟩
            case measure => simp [intOf]; omega
          · rw [if_neg hc] at hN
            have HN := hid hN
            have hc' : decide (m0 < claySum t st (k : Int) t.length) = false := decide_eq_false hc
            have HC := hid hc'
            clear hN hq hc hc'
            go_wp2_with fail
            refine (implClay _ _ t st _ _ _ _ hx3 hr3 hv HSL.out HBD.out).mono ?_
            rintro e w3 ⟨rfl, hb3⟩
            have HB3 := hid (HK.out.trans (hb3.mono HK.out.size))
            have hc' := HC.out
            clear hx3 hr3 hb3 HC
            generalize claySum t st (k : Int) t.length = n at HN hc' hcl ⊢
            go_wp2_with fail
            go_roundw
            case rel => exact ⟨k + 1, by omega, by go_num, by rw [HN.out], by rw [HN.out], HB3.out⟩
            case measure => simp [intOf]; omega
        · have hkl : Hid (k = tot.toNat) := by show k = tot.toNat; omega
          generalize hbm : mostTo t st k = bm
          have HBM := hid hbm
          clear hbm hq
          go_wp2_with fail
          go_ret3
          exact ⟨ret_three (by rw [HF.out, ← HBM.out, hkl.out]), HQ.out.trans (HK.out.mono HQ.out.size)⟩
  · have HF : Hid (mostF t = (0, 0, 1)) := by unfold mostF; rw [if_neg hv]; exact rfl
    rw [Bool.not_eq_true] at hv
    go_enter Try.func39, Try.ntmps39
    go_wp2_with fail
    refine (implValidTasks _ _ _ _ hx).mono ?_
    rintro e w1 ⟨rfl, hb⟩
    rw [hv]
    go_wp2_with fail
    go_ret3
    exact ⟨ret_three HF.out, hb⟩
end Go.Proofs.Ythidlioacgadaaa
