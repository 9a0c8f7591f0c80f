/- FnMillHours: the walk and the row. -/
import Derived.Test.YteobejgkjjhfkaaMillDraw
import Derived.Test.YteobejgkjjhfkaaHours
import Derived.Deep.CutBlock
import Derived.Test.YteobejgkjjhfkaaBytes
import Derived.Test.YteobejgkjjhfkaaLaw
namespace Go.Proofs.Yteobejgkjjhfkaa.fnMillHours
open Go.ChangeShapes Go.WideShapes Go.ChangeAt Go.RowKit
set_option linter.unusedVariables false
set_option maxRecDepth 100000 in
set_option maxHeartbeats 16000000 in
theorem walk {w : World} (A0 : Option Addr) (n0 c0 : Nat) (x0 : ArgB w A0 n0) (A1 : Option Addr) (n1 c1 : Nat) (x1 : ArgB w A1 n1) :
    Calls Try.prog 7 #[.slice A0 n0 c0, .slice A1 n1 c1] w fun e w' => e = .returned (.bool true) ∧ Below w.heap.size w w' := by
  cases hL : (decide (3000 < n0) || decide (3000 < n1)) with
  | true =>
    have HL := hid hL
    go_enter Try.func7, Try.ntmps7
    go_wp2_with fail
    refine (a2Long_ _ _ _ _ _ _ _).mono ?_
    rintro e w1 ⟨rfl, rfl⟩
    rw [HL.out]
    go_wp2_with fail
    go_ret
    exact ⟨rfl, Below.refl _ _⟩
  | false =>
    have HL := hid hL
    simp only [Bool.or_eq_false_iff, decide_eq_false_iff_not] at hL
    obtain ⟨bs0, rfl, h0, hb0⟩ := x0.rd (by omega)
    obtain ⟨bs1, rfl, h1, hb1⟩ := x1.rd (by omega)
    clear hL
    have H0 := hid h0
    have H1 := hid h1
    clear h0 h1
    go_enter Try.func7, Try.ntmps7
    go_wp2_with fail
    refine (a2Long_ _ _ _ _ _ _ _).mono ?_
    rintro e w1 ⟨rfl, rfl⟩
    rw [HL.out]
    go_wp2_with fail
    refine (a2Stages_ _ _ _ _ H0.out hb0).mono ?_
    rintro e w1 ⟨V, vq, st, rfl, hst, hok, hb⟩
    have HX := hid hst
    have HB := hid hb
    have H1b := hid (H1.out.below hb)
    have HOK := hid hok
    have hst3 := hok.1
    clear hst hb hok
    go_wp2_with fail
    refine (a2At_ _ _ _ 0 256 _ H1b.out hb1 (by omega) (by omega)).mono ?_
    rintro e w' ⟨vol, rfl, hvol, rfl⟩
    have hv20 : 0 ≤ 20 * vol ∧ 20 * vol ≤ 5100 := by omega
    go_wp2_with fail
    go_loopw [7, 8] (fun u i wr => ∃ (k : Nat) (fs : List Int), k ≤ 8 ∧ i = .int .i64 k ∧ fs.length = k ∧ (∀ f ∈ fs, 0 ≤ f ∧ f ≤ 12) ∧ Own wr w1.heap.size 2 u fs ∧ Below w1.heap.size w1 wr) (fun _ i _ => 8 - (intOf i).toNat)
    case atStart => exact ⟨0, [], by omega, rfl, rfl, by simp, Own.empty (Nat.le_refl _), (Below.refl _ _).alloc (Nat.le_refl _) _⟩
    case round =>
      obtain ⟨k, fs, hk, rfl, hfl, hfr, ho, hq⟩ := hrel
      obtain ⟨wo, rfl⟩ : ∃ wo : World, wo = wr := ⟨_, rfl⟩
      obtain ⟨F, fq, rfl⟩ := ho.form
      have HO := hid ho
      have HQ := hid hq
      have HFR := hid hfr
      have H1c := hid (H1b.out.below hq)
      have hfs : fs.length ≤ 8 := by omega
      have HFL := hid hfl
      clear ho hq hfr hfl
      by_cases hlt : k < 8
      · go_wp2_with (first | fail | (go_at_call 14; refine (a2At_ _ _ _ (1 + (k : Int)) 13 _ H1c.out hb1 (by omega) (by omega)).mono ?_; rintro e w' ⟨f, rfl, hf, rfl⟩; refine keep_ ?_))
        refine go_ ?_
        go_wp2_with (first | fail | (at_builtin; refine wpList_push elInt _ rfl (.tmp 28) (.tmp 33) rfl w1.heap.size _ fs f rfl (HO.out.alloc _) _ rfl (heap_alloc_new _ _) (by omega) (le_alloc HQ.out.size) ?_; intro v' w' hown' hg' hat'; refine keep_ ?_))
        have hbn := below_own (HQ.out.alloc HQ.out.size _) (HO.out.alloc _) hg' (Nat.le_refl _) (le_alloc HQ.out.size)
        have Z1 := hid hbn
        have Z2 := hid hown'
        clear hbn hown' hg' hat'
        refine go_ ?_
        go_wp2_with fail
        go_roundw
        case rel => exact ⟨k + 1, fs ++ [f], by omega, by go_num, by rw [List.length_append, HFL.out]; rfl, fun x hx => by rcases List.mem_append.1 hx with h | h; exact HFR.out x h; simp at h; omega, Z2.out, Z1.out⟩
        case measure => simp [intOf]; omega
      · have hk8 : k = 8 := by omega
        have h8 : fs.length = 8 := by have := HFL.out; omega
        have HF := hid (HO.out.rd (by omega))
        have HXs := hid (HX.out.below HQ.out)
        have HBs := hid (HB.out.trans (HQ.out.mono HB.out.size))
        subst hk8
        have hcall : Calls Try.prog 28 #[.slice V st.length vq, .slice F fs.length fq, .int .i64 (20 * vol)] wo fun e w' => e = .returned (.tuple #[.int .i64 (hoursL (20 * vol) st 0 0 fs).1, .int .i64 (hoursL (20 * vol) st 0 0 fs).2]) ∧ Below wo.heap.size wo w' :=
          hoursToLift_ V F st fs vq fq (20 * vol) wo HXs.out HOK.out HF.out ⟨h8, HFR.out⟩ (by omega)
        have hcode := hours_code (20 * vol) st fs 0 0
        obtain ⟨n, one, hR⟩ : ∃ n one, hoursL (20 * vol) st 0 0 fs = (n, one) := ⟨_, _, rfl⟩
        rw [hR] at hcall hcode
        simp only at hcall hcode
        have HC := hid hcall
        have HCODE := hid hcode
        have HR : Hid (hoursL (20 * vol) st 0 ((0 : Nat) : Int) (fs.drop 0) = (n, one)) := by rw [List.drop_zero]; exact hR
        have H8 := hid h8
        clear hcall hR h8 HFL hcode
        obtain ⟨R0, hR0⟩ : ∃ R0, (n, one) = R0 := ⟨_, rfl⟩
        have HR2 : Hid (hoursL (20 * vol) st 0 ((0 : Nat) : Int) (fs.drop 0) = R0) := HR.out.trans hR0
        have HRE := hid hR0
        have hco := HCODE.out
        clear hR0 HR HCODE
        rcases hco with h1 | h1 <;> subst h1
        all_goals
          go_wp2_with fail
          refine HC.out.mono ?_
          rintro e w2 ⟨rfl, hb⟩
          have HX2 := hid (HXs.out.below hb)
          have HF2 := hid (HF.out.below hb)
          have HB2 := hid (HBs.out.trans (hb.mono HBs.out.size))
          clear hb
          go_wp2_with fail
          go_loopw [11, 12] (fun s i wr => ∃ (m : Nat) (l : Int), m ≤ 8 ∧ i = .int .i64 m ∧ s = .int .i64 l ∧ hoursL (20 * vol) st l m (fs.drop m) = R0 ∧ 0 ≤ l ∧ l ≤ 5000 * m ∧ Below w.heap.size w wr ∧ Below w2.heap.size w2 wr) (fun _ i _ => 8 - (intOf i).toNat)
          case atStart => exact ⟨0, 0, by omega, rfl, rfl, HR2.out, by omega, by omega, HB2.out, Below.refl _ _⟩
          case round =>
            obtain ⟨m, l, hm, rfl, rfl, hh, hl0, hl1, hq, hq2⟩ := hrel
            obtain ⟨wi, rfl⟩ : ∃ wi : World, wi = wr := ⟨_, rfl⟩
            have HQ1 := hid hq
            have HQ2 := hid hq2
            have HX3 := hid (HX2.out.below hq2)
            have HF3 := hid (HF2.out.below hq2)
            clear hq hq2
            by_cases hlt2 : m < 8
            · have hltf : m < fs.length := by have := H8.out; omega
              obtain ⟨b, off, hA, c1⟩ := HF3.out.int hltf
              subst hA
              have hfr := HFR.out _ (List.getElem_mem hltf)
              rw [drop_cons hltf] at hh
              simp only [hoursL] at hh
              have hge := hours_ge (20 * vol) st (fs.drop (m + 1)) (l + through fs[m] st) ((m : Int) + 1)
              generalize fs[m] = f at c1 hh hfr hge
              by_cases hvl : 20 * vol ≤ l
              · rw [if_pos hvl] at hh
                rw [← HRE.out] at hh
                simp only [Prod.mk.injEq] at hh
                obtain ⟨e1, e2⟩ := hh
                first
                | (exfalso; omega)
                | skip
                all_goals
                  subst e1
                  clear hge
                  go_wp2_with fail
                  go_ret
                  exact ⟨by first | rfl | exact ret_bool (by simp; omega), HQ1.out⟩
              · rw [if_neg hvl] at hh
                rw [hh] at hge
                have htr := through_range f HOK.out
                have HH := hid hh
                rw [← HRE.out] at hge
                first
                | (have hne : ¬ (m : Int) = n := fun h2 => by have := (hge rfl).1; simp only at this; omega)
                | skip
                clear hh hge
                go_wp2_with fail
                all_goals
                  refine (throughOf_ _ _ _ f _ HX3.out HOK.out hfr).mono ?_
                  rintro e w3 ⟨rfl, hb⟩
                  have HQ3 := hid (HQ1.out.trans (hb.mono HQ1.out.size))
                  have HQ4 := hid (HQ2.out.trans (hb.mono HQ2.out.size))
                  clear hb
                  generalize through f st = t at HH htr
                  go_wp2_with fail
                  go_roundw
                  case rel => exact ⟨m + 1, l + t, by omega, by go_num, rfl, HH.out, by omega, by omega, HQ3.out, HQ4.out⟩
                  case measure => simp [intOf]; omega
            · have hm8 : m = 8 := by omega
              have hge := hours_ge (20 * vol) st (fs.drop m) l (m : Int)
              rw [drop_end (show ¬ m < fs.length by have := H8.out; omega)] at hh hge
              rw [hh] at hge
              simp only [hoursL] at hh
              simp only [List.length_nil] at hge
              subst hm8
              by_cases hvl : l < 20 * vol
              · rw [if_pos hvl] at hh
                rw [← HRE.out] at hh
                simp only [Prod.mk.injEq] at hh
                obtain ⟨e1, e2⟩ := hh
                first
                | (exfalso; omega)
                | skip
                all_goals
                  subst e1
                  clear hge
                  go_wp2_with fail
                  go_ret
                  exact ⟨by first | rfl | exact ret_bool (by simp; omega), HQ1.out⟩
              · rw [if_neg hvl] at hh
                rw [← HRE.out] at hh
                simp only [Prod.mk.injEq] at hh
                obtain ⟨e1, e2⟩ := hh
                first
                | (exfalso; omega)
                | skip
                all_goals
                  subst e1
                  clear hge
                  go_wp2_with fail
                  go_ret
                  exact ⟨by first | rfl | exact ret_bool (by simp; omega), HQ1.out⟩
set_option maxRecDepth 100000 in
theorem lifted (os : Os) (started : os.Started) (H : Type) (enc : TypeId × Value → H) :
    ReturnsInHanded {} Try.checked os 7 .any (Rows.fnMillHoursSpec.pre6 enc Try.prog Try.f7 Rows.fnMillHoursRow.domain false) (Rows.fnMillHoursSpec.post enc Try.prog Try.f7 false true false false) := by
  refine returnsInHanded_of_change (C := Try.checked) ownLaw started (by kernel_rfl) Try.func7
    (ChangeSpec.witness6 (enc := enc) (C := Try.checked) false ⟨#[], #[.slice none 0 0, .slice none 0 0], []⟩ 8 (by kernel_rfl) (by kernel_rfl) (by kernel_rfl) (by kernel_rfl)) ?_
  intro W base args ds gs before hval0 hW _ _
  have hval : ∀ (j : Nat) t v, Try.f7.params[j]? = some t → args[j]? = some v → Value.okWide Try.prog W .any base t v := hval0
  have hW' := hW
  obtain ⟨p, q, hA0, hV, hbef, hfz, hnd⟩ := hW
  have hA : DataW.TrodAll enc Try.prog W 0 (fun _ => true) true Try.f7.params.toList args.toList ds p := hA0
  rw [Try.params7] at hA hval
  obtain ⟨v0, vs0, d0, ds0, p0, q0, hargs, rfl, hp0, h0, r0⟩ := trodAll_cons hA
  obtain ⟨v1, vs1, d1, ds1, p1, q1, rfl, rfl, hp1, h1, r1⟩ := trodAll_cons r0
  obtain ⟨rfl, rfl, hpl⟩ := trodAll_nil r1
  obtain rfl : args = #[v0, v1] := by cases args; simp_all
  obtain ⟨rfl, hq⟩ := trodVars_none hV
  obtain ⟨A0, n0, c0, rfl, x0⟩ := open_bytes Try.underlying22 Try.underlying5 (by kernel_rfl) (hval 0 _ v0 rfl rfl) h0
  obtain ⟨A1, n1, c1, rfl, x1⟩ := open_bytes Try.underlying22 Try.underlying5 (by kernel_rfl) (hval 1 _ v1 rfl rfl) h1
  refine (walk A0 n0 c0 x0 A1 n1 c1 x1).mono fun e W' ⟨he, hb⟩ => ?_
  subst he
  exact ⟨_, rfl, law_close laidLaw (by kernel_rfl) rfl rfl (by kernel_rfl) hW' rfl rfl rfl hb⟩

theorem over : Rows.fnMillHoursRow.holds Try.pinned (OpenSpec.ofChange Rows.fnMillHoursSpec) :=
  OpenClaim.holds_of_wide 7 Try.f7 rfl rfl rfl rfl rfl rfl rfl ⟨rfl, rfl, rfl, rfl, rfl⟩ rfl rfl rfl rfl rfl (by kernel_rfl) Try.func7 (by kernel_rfl)
    (of_decide_eq_true (by kernel_rfl)) (by unfold Func.isWrapper; first | (rw [if_pos (by decide +kernel)]; kernel_rfl) | (rw [if_neg (by decide +kernel)]; exact ⟨rfl, rfl⟩))
    (fun os started H enc _ => lifted os started H enc)

theorem proved : Rows.FnMillHoursSaid := over
end Go.Proofs.Yteobejgkjjhfkaa.fnMillHours
