/- FnBestAlarm: the walk and the row. -/
import Derived.Test.YteobejgkjjhfkaaAlarm
import Derived.Test.YteobejgkjjhfkaaShift
import Derived.Deep.CutBlock
import Derived.Test.YteobejgkjjhfkaaBytes
import Derived.Test.YteobejgkjjhfkaaLaw
namespace Go.Proofs.Yteobejgkjjhfkaa.fnBestAlarm
open Go.ChangeShapes Go.WideShapes Go.ChangeAt Go.RowKit
set_option linter.unusedVariables false
set_option maxRecDepth 100000 in
set_option maxHeartbeats 16000000 in
theorem walk {w : World} (A0 : Option Addr) (n0 c0 : Nat) (x0 : ArgB w A0 n0) (A1 : Option Addr) (n1 c1 : Nat) (x1 : ArgB w A1 n1) :
    Calls Try.prog 10 #[.slice A0 n0 c0, .slice A1 n1 c1] w fun e w' => e = .returned (.bool true) ∧ Below w.heap.size w w' := by
  cases hL : (decide (3000 < n0) || decide (3000 < n1)) with
  | true =>
    have HL := hid hL
    go_enter Try.func10, Try.ntmps10
    go_wp2_with fail
    refine (a2Long_ _ _ _ _ _ _ _).mono ?_
    rintro e w1 ⟨rfl, rfl⟩
    rw [HL.out]
    go_wp2_with fail
    go_ret
    exact ⟨rfl, Below.refl _ _⟩
  | false =>
    have HL := hid hL
    simp only [Bool.or_eq_false_iff, decide_eq_false_iff_not] at hL
    obtain ⟨bs0, rfl, h0, hb0⟩ := x0.rd (by omega)
    obtain ⟨bs1, rfl, h1, hb1⟩ := x1.rd (by omega)
    clear hL
    have H0 := hid h0
    have H1 := hid h1
    clear h0 h1
    go_enter Try.func10, Try.ntmps10
    go_wp2_with fail
    refine (a2Long_ _ _ _ _ _ _ _).mono ?_
    rintro e w1 ⟨rfl, rfl⟩
    rw [HL.out]
    go_wp2_with fail
    refine (a2Past_ _ _ _ _ H0.out hb0).mono ?_
    rintro e w1 ⟨V, vq, cs, rfl, hcs, hok, hb⟩
    have HX := hid hcs
    have HB := hid hb
    have H1b := hid (H1.out.below hb)
    have HOK := hid hok
    have hc11 := hok.1
    clear hcs hb hok
    go_wp2_with fail
    refine (a2At_ _ _ _ 0 6 _ H1b.out hb1 (by omega) (by omega)).mono ?_
    rintro e w' ⟨pr, rfl, hpr, rfl⟩
    go_wp2_with fail
    refine (bestAlarm_ _ _ _ pr _ HX.out HOK.out (by omega)).mono ?_
    rintro e w2 ⟨best, rfl, hbr, hall, hb⟩
    have HB2 := hid (HB.out.trans (hb.mono HB.out.size))
    have HX2 := hid (HX.out.below hb)
    have H1c := hid (H1b.out.below hb)
    have HALL := hid hall
    clear hb hall
    go_wp2_with fail
    refine (missedAndFalse_ _ _ _ best _ HX2.out HOK.out hbr).mono ?_
    rintro e w3 ⟨rfl, hb⟩
    have HB3 := hid (HB2.out.trans (hb.mono HB2.out.size))
    have HX3 := hid (HX2.out.below hb)
    have H1d := hid (H1c.out.below hb)
    clear hb
    go_wp2_with fail
    refine (a2At_ _ _ _ 1 200 _ H1d.out hb1 (by omega) (by omega)).mono ?_
    rintro e w' ⟨lv, rfl, hlv, rfl⟩
    obtain ⟨level, hlevel⟩ : ∃ x, 4 * lv - 100 = x := ⟨_, rfl⟩
    have hlr : -2000 ≤ level ∧ level ≤ 2000 := by omega
    go_wp2_with fail
    refine (missedAndFalse_ _ _ _ level _ HX3.out HOK.out hlr).mono ?_
    rintro e w4 ⟨rfl, hb⟩
    have HB4 := hid (HB3.out.trans (hb.mono HB3.out.size))
    have H1e := hid (H1d.out.below hb)
    clear hb hlevel
    obtain ⟨m1, m2, m3⟩ := miss_range best cs
    obtain ⟨l1, l2, l3⟩ := miss_range level cs
    obtain ⟨r1, r2, r3, r4⟩ := cost_range (pr := pr) (by omega) hc11 best
    obtain ⟨q1, q2, q3, q4⟩ := cost_range (pr := pr) (by omega) hc11 level
    have ec1 : pr * missM best cs + wrongM best cs = costA pr cs best := rfl
    have ec2 : pr * missM level cs + wrongM level cs = costA pr cs level := rfl
    have hopt := HALL.out level hlr
    obtain ⟨hop1, hop2⟩ := hopt
    generalize costA pr cs best = C1 at *
    generalize costA pr cs level = C2 at *
    generalize missM best cs = a1 at *
    generalize wrongM best cs = b1 at *
    generalize missM level cs = a2 at *
    generalize wrongM level cs = b2 at *
    have k0 : decide (C2 < C1) = false := decide_eq_false (by omega)
    have HOP : Hid (C2 = C1 → level ≤ best) := hop2
    clear hop2 HALL
    have hd : (C2 == C1 && decide (best < level)) = false := by
      rw [Bool.and_eq_false_iff]
      by_cases hc : C2 = C1
      · exact .inr (decide_eq_false (by have := HOP.out hc; omega))
      · exact .inl (beq_no hc)
    have HD := hid hd
    clear hd
    go_upto_region 9 with fail
    have hcases : (C2 = C1 ∧ level ≤ best) ∨ (C2 == C1) = false := by
      by_cases hc : C2 = C1
      · exact .inl ⟨hc, HOP.out hc⟩
      · exact .inr (beq_no hc)
    rcases hcases with ⟨hc, hle⟩ | hcb
    all_goals
      first
      | subst hc
      | skip
      clear HD HOP
      go_wp2_with fail
      refine (a2Levels_ _ _ _ _ H1e.out hb1).mono ?_
      rintro e w5 ⟨Y, yq, ys, rfl, hys, hlok, hb⟩
      have HY := hid hys
      have HLOK := hid hlok
      have hyl := hlok.1
      have HB5 := hid (HB4.out.trans (hb.mono HB4.out.size))
      clear hys hlok hb
      go_wp2_with fail
      go_loopw [18, 19] (fun ov i wr => ∃ k : Nat, k ≤ ys.length ∧ i = .int .i64 k ∧ Own wr w5.heap.size 2 ov (plus7 (ys.take k)) ∧ Below w5.heap.size w5 wr) (fun _ i _ => ys.length - (intOf i).toNat)
      case atStart => exact ⟨0, Nat.zero_le _, rfl, Own.empty (Nat.le_refl _), (Below.refl _ _).alloc (Nat.le_refl _) _⟩
      case round =>
        obtain ⟨k, hk, rfl, ho, hq⟩ := hrel
        obtain ⟨wo, rfl⟩ : ∃ wo : World, wo = wr := ⟨_, rfl⟩
        have HQ := hid hq
        have HO := hid ho
        have HY2 := hid (HY.out.below hq)
        obtain ⟨F, fq, rfl⟩ := ho.form
        have htl : (plus7 (ys.take k)).length = k := by rw [plus7_len, List.length_take]; omega
        rw [htl] at HO ⊢
        clear ho hq
        have HTL := hid htl
        clear htl
        by_cases hlt : k < ys.length
        · obtain ⟨b, off, rfl, c1⟩ := HY2.out.int hlt
          have hyr := HLOK.out.2 _ (List.getElem_mem hlt)
          have HT : Hid (plus7 (ys.take (k + 1)) = plus7 (ys.take k) ++ [ys[k] + 7]) := by
            show plus7 (ys.take (k + 1)) = _
            rw [List.take_succ_eq_append_getElem hlt]
            simp only [plus7, List.map_append, List.map_cons, List.map_nil]
          generalize ys[k] = y at c1 hyr HT
          go_wp2_with (first | fail | (at_builtin; refine wpList_push elInt _ rfl (.tmp 123) (.tmp 129) rfl w5.heap.size _ (plus7 (ys.take k)) (y + 7) rfl (HO.out.alloc _) _ rfl (heap_alloc_new _ _) (by rw [HTL.out]; omega) (le_alloc HQ.out.size) ?_; intro v' w' hown' hg' hat'; refine keep_ ?_))
          have hbn := below_own (HQ.out.alloc HQ.out.size _) (HO.out.alloc _) hg' (Nat.le_refl _) (le_alloc HQ.out.size)
          have Z1 := hid hbn
          have Z2 := hid hown'
          clear hbn hown' hg' hat'
          refine go_ ?_
          go_wp2_with fail
          go_roundw
          case rel => exact ⟨k + 1, by omega, by go_num, by rw [HT.out]; exact Z2.out, Z1.out⟩
          case measure => simp [intOf]; omega
        · have hke : k = ys.length := by omega
          subst hke
          have hO := HO.out
          rw [List.take_length] at hO
          have HF := hid (hO.rd (by rw [plus7_len]; omega))
          have HBs := hid (HB5.out.trans (HQ.out.mono HB5.out.size))
          clear hO
          go_wp2_with fail
          refine (errorsOfForecast_ _ _ _ _ _ _ HF.out HY2.out HLOK.out).mono ?_
          rintro e w6 ⟨E, eqn, rfl, hr, hb⟩
          have HE := hid hr
          have HB6 := hid (HBs.out.trans (hb.mono HBs.out.size))
          have HF6 := hid (HF.out.below hb)
          have HY6 := hid (HY2.out.below hb)
          clear hr hb
          go_wp2_with fail
          refine (shiftForecast_ _ _ _ _ _ _ HF6.out HY6.out HLOK.out).mono ?_
          rintro e w7 ⟨S, sq, rfl, hr, hb⟩
          have HS := hid hr
          have HB7 := hid (HB6.out.trans (hb.mono HB6.out.size))
          have HE7 := hid (HE.out.below hb)
          have HY7 := hid (HY6.out.below hb)
          clear hr hb
          go_wp2_with fail
          refine (a2Same_ _ _ _ _ _ _ HS.out HY7.out).mono ?_
          rintro e w8 ⟨rfl, hb⟩
          have HB8 := hid (HB7.out.trans (hb.mono HB7.out.size))
          have hcall : Calls Try.prog 17 #[.slice E ys.length eqn] w8 fun e w' => e = .returned (.int .i64 (7 * (ys.length : Int))) ∧ w8 = w' := by
            have h9 := a2Sum_ E (List.replicate ys.length (7 : Int)) eqn w8 (HE7.out.below hb) (by simp; omega) (fun x hx => by have := List.eq_of_mem_replicate hx; omega)
            rw [sum7, List.length_replicate] at h9
            exact h9
          have HC := hid hcall
          clear hb hcall
          go_wp2_with (go_at_call 17; refine HC.out.mono ?_; rintro e w' ⟨rfl, rfl⟩)
          go_ret
          exact ⟨by first | rfl | exact ret_bool (by simp), HB8.out⟩
set_option maxRecDepth 100000 in
theorem lifted (os : Os) (started : os.Started) (H : Type) (enc : TypeId × Value → H) :
    ReturnsInHanded {} Try.checked os 10 .any (Rows.fnBestAlarmSpec.pre6 enc Try.prog Try.f10 Rows.fnBestAlarmRow.domain false) (Rows.fnBestAlarmSpec.post enc Try.prog Try.f10 false true false false) := by
  refine returnsInHanded_of_change (C := Try.checked) ownLaw started (by kernel_rfl) Try.func10
    (ChangeSpec.witness6 (enc := enc) (C := Try.checked) false ⟨#[], #[.slice none 0 0, .slice none 0 0], []⟩ 8 (by kernel_rfl) (by kernel_rfl) (by kernel_rfl) (by kernel_rfl)) ?_
  intro W base args ds gs before hval0 hW _ _
  have hval : ∀ (j : Nat) t v, Try.f10.params[j]? = some t → args[j]? = some v → Value.okWide Try.prog W .any base t v := hval0
  have hW' := hW
  obtain ⟨p, q, hA0, hV, hbef, hfz, hnd⟩ := hW
  have hA : DataW.TrodAll enc Try.prog W 0 (fun _ => true) true Try.f10.params.toList args.toList ds p := hA0
  rw [Try.params10] at hA hval
  obtain ⟨v0, vs0, d0, ds0, p0, q0, hargs, rfl, hp0, h0, r0⟩ := trodAll_cons hA
  obtain ⟨v1, vs1, d1, ds1, p1, q1, rfl, rfl, hp1, h1, r1⟩ := trodAll_cons r0
  obtain ⟨rfl, rfl, hpl⟩ := trodAll_nil r1
  obtain rfl : args = #[v0, v1] := by cases args; simp_all
  obtain ⟨rfl, hq⟩ := trodVars_none hV
  obtain ⟨A0, n0, c0, rfl, x0⟩ := open_bytes Try.underlying22 Try.underlying5 (by kernel_rfl) (hval 0 _ v0 rfl rfl) h0
  obtain ⟨A1, n1, c1, rfl, x1⟩ := open_bytes Try.underlying22 Try.underlying5 (by kernel_rfl) (hval 1 _ v1 rfl rfl) h1
  refine (walk A0 n0 c0 x0 A1 n1 c1 x1).mono fun e W' ⟨he, hb⟩ => ?_
  subst he
  exact ⟨_, rfl, law_close laidLaw (by kernel_rfl) rfl rfl (by kernel_rfl) hW' rfl rfl rfl hb⟩

theorem over : Rows.fnBestAlarmRow.holds Try.pinned (OpenSpec.ofChange Rows.fnBestAlarmSpec) :=
  OpenClaim.holds_of_wide 10 Try.f10 rfl rfl rfl rfl rfl rfl rfl ⟨rfl, rfl, rfl, rfl, rfl⟩ rfl rfl rfl rfl rfl (by kernel_rfl) Try.func10 (by kernel_rfl)
    (of_decide_eq_true (by kernel_rfl)) (by unfold Func.isWrapper; first | (rw [if_pos (by decide +kernel)]; kernel_rfl) | (rw [if_neg (by decide +kernel)]; exact ⟨rfl, rfl⟩))
    (fun os started H enc _ => lifted os started H enc)

theorem proved : Rows.FnBestAlarmSaid := over
end Go.Proofs.Yteobejgkjjhfkaa.fnBestAlarm
