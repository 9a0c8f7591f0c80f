/- FnDitches: the walk and the row. -/
import Derived.Test.YteobejgkjjhfkaaDitchGreat
import Derived.Test.YteobejgkjjhfkaaDitchCf
import Derived.Test.YteobejgkjjhfkaaDitchSide
import Derived.Test.YteobejgkjjhfkaaAid
import Derived.Test.YteobejgkjjhfkaaBytes
import Derived.Deep.CutBlock
import Derived.Test.YteobejgkjjhfkaaLaw
namespace Go.Proofs.Yteobejgkjjhfkaa.fnDitches
open Go.ChangeShapes Go.WideShapes Go.ChangeAt Go.RowKit
set_option linter.unusedVariables false
set_option linter.unusedSimpArgs false
theorem side_upto {bl : List (Int × Int)} {J : Int} (hJ : 0 ≤ J) : UpTo J (sideL bl J) := by
  have h := where_pair (fun k => hasB (bl.map Prod.fst) (k : Int)) J.toNat
  refine ⟨fun a ha => ?_, h.1⟩
  obtain ⟨k, h1, _, rfl⟩ := mem_where.1 (show a ∈ whereTo _ _ from ha)
  omega
theorem walk_end {ds : List Ditch} {fr tot : Int} {fs : List Int} {bl : List (Int × Int)} {J : Int} (hv : ∀ d ∈ ds, DOk J d) (hm : MaxP ds fr fs tot) (ht : Tree ds (List.replicate ds.length 0) fr bl) (hd : Done ds (List.replicate ds.length 0) bl bl.length 0) (hj : InJ bl J) :
    hasB (sideL bl J) fr = true ∧ (hasB (sideL bl J) 0 = false → tot = 0) := by
  rw [side_has hj]
  exact ⟨decide_eq_true (List.mem_map.2 ⟨(fr, -1), List.mem_of_getElem? ht.first, rfl⟩), fun h0 => no_flow hm (bd_zero hv) ht hd h0⟩
set_option maxRecDepth 100000 in
set_option maxHeartbeats 16000000 in
theorem walk {w : World} (A0 : Option Addr) (n0 c0 : Nat) (x0 : ArgB w A0 n0) (A1 : Option Addr) (n1 c1 : Nat) (x1 : ArgB w A1 n1) :
    Calls Try.prog 8 #[.slice A0 n0 c0, .slice A1 n1 c1] w fun e w' => e = .returned (.bool true) ∧ Below w.heap.size w w' := by
  cases hL : (decide (3000 < n0) || decide (3000 < n1)) with
  | true =>
    have HL := hid hL
    go_enter Try.func8, Try.ntmps8
    go_wp2_with fail
    refine (l2Long_ _ _ _ _ _ _ _).mono ?_
    rintro e w1 ⟨rfl, rfl⟩
    rw [HL.out]
    go_wp2_with fail
    go_ret
    exact ⟨rfl, Below.refl _ _⟩
  | false =>
    have HL := hid hL
    simp only [Bool.or_eq_false_iff, decide_eq_false_iff_not] at hL
    obtain ⟨bs0, rfl, h0, hb0⟩ := x0.rd (by omega)
    obtain ⟨bs1, rfl, h1, hb1⟩ := x1.rd (by omega)
    clear hL
    have H0 := hid h0
    have H1 := hid h1
    clear h0 h1
    go_enter Try.func8, Try.ntmps8
    go_wp2_with fail
    refine (l2Long_ _ _ _ _ _ _ _).mono ?_
    rintro e w1 ⟨rfl, rfl⟩
    rw [HL.out]
    go_wp2_with fail
    refine (specA2Net _ _ _ _ H0.out hb0).mono ?_
    rintro e w1 ⟨J, V, vq, ds, fr, rfl, hx, hok, hfr, hb⟩
    have hJ := hok.j
    have hdl := hok.len
    have HX1 := hid hx
    have HOK := hid hok
    have HB1 := hid hb
    have H1b := hid (H1.out.below hb)
    clear hx hok hb H0 H1
    go_upto_region 4 with fail
    obtain ⟨G, hG⟩ : ∃ G, w1.heap.size = G := ⟨_, rfl⟩
    obtain ⟨w2, hw2⟩ : ∃ x, w1.alloc (.cells #[.int .i64 J, .slice V ds.length vq] 61) = x := ⟨_, rfl⟩
    have hb2 : Below w1.heap.size w1 w2 := by rw [← hw2]; exact (Below.refl _ _).alloc (Nat.le_refl _) _
    have i0 : w2.cell? ⟨G, 0, none⟩ = some (.int .i64 J) := by rw [← hw2, ← hG]; simp [go_sem]
    have i1 : w2.cell? ⟨G, 1, none⟩ = some (.slice V ds.length vq) := by rw [← hw2, ← hG]; simp [go_sem]
    have HB2 := hid (HB1.out.trans (hb2.mono HB1.out.size))
    have HX2 := hid (HX1.out.below hb2)
    have H1c := hid (H1b.out.below hb2)
    rw [hw2, hG]
    clear hb2 hw2 hG HB1 HX1 H1b
    go_wp2_with fail
    refine (implGreatestFlow J fr V ds vq _ HX2.out HOK.out hfr).mono ?_
    rintro e w3 ⟨fs, tot, rfl, hmax, hb⟩
    have j0 := box_cell hb i0
    have j1 := box_cell hb i1
    have HB3 := hid (HB2.out.trans (hb.mono HB2.out.size))
    have HX3 := hid (HX2.out.below hb)
    have H1d := hid (H1c.out.below hb)
    have HMX := hid hmax
    clear hb hmax i0 i1 HB2 HX2 H1c
    go_wp2_with fail
    refine (implNarrow J fr V ds vq _ HX3.out HOK.out hfr).mono ?_
    rintro e w4 ⟨S, sq, fs2, tot2, bl, rfl, hso, hmax2, ht, hd, hj, hb⟩
    have htot := HMX.out.same hmax2
    subst htot
    have hnar := narrow hmax2 ht hd hj
    have hup := side_upto (bl := bl) (show 0 ≤ J by omega)
    have hri := side_rises (bl := bl) (J := J)
    have hsl := side_len bl J
    have k0 := box_cell hb j0
    have k1 := box_cell hb j1
    have HB4 := hid (HB3.out.trans (hb.mono HB3.out.size))
    have HX4 := hid (HX3.out.below hb)
    have H1e := hid (H1d.out.below hb)
    have HSO := hid hso
    clear hmax2 ht hd hj hb hso j0 j1 HB3 HX3 H1d
    generalize sideL bl J = sd at hnar hup hri hsl HSO
    obtain ⟨hn1, hn2, hn3, hn4⟩ := hnar
    have HN3 := hid hn3
    have HN4 := hid hn4
    have HUP := hid hup
    have HRI := hid hri
    clear hn3 hn4 hup hri
    have HH1 : Hid (∀ x, Rd x S sd → Calls Try.prog 34 #[.slice S sd.length sq, .int .i64 fr] x fun e w' => e = .returned (.bool true) ∧ x = w') := fun x hx => by rw [← hn1]; exact l2Has_ S sd sq fr x hx
    have HH2 : Hid (∀ x, Rd x S sd → Calls Try.prog 34 #[.slice S sd.length sq, .int .i64 0] x fun e w' => e = .returned (.bool false) ∧ x = w') := fun x hx => by rw [← hn2]; exact l2Has_ S sd sq 0 x hx
    clear hn1 hn2
    go_wp2_with (first | (go_at_call 33; refine (l2Rises_ S sd sq J _ HSO.out HUP.out (by omega)).mono ?_; rintro e w5 ⟨rfl, hb⟩; refine keep_ ?_))
    have l0 := box_cell hb k0
    have l1 := box_cell hb k1
    have HB5 := hid (HB4.out.trans (hb.mono HB4.out.size))
    have HX5 := hid (HX4.out.below hb)
    have H1f := hid (H1e.out.below hb)
    have HSO5 := hid (HSO.out.below hb)
    clear hb k0 k1 HB4 HX4 H1e HSO HUP
    refine go_ ?_
    go_wp2_with (first | (go_at_call 34; first | (with_reducible refine (HH1.out _ HSO5.out).mono ?_; rintro e w' ⟨rfl, rfl⟩) | (with_reducible refine (HH2.out _ HSO5.out).mono ?_; rintro e w' ⟨rfl, rfl⟩)) | (go_at_call 35; refine keep_ ?_))
    refine go_ ?_
    refine (implCutFlow J V ds vq S sd sq _ HX5.out HOK.out HSO5.out HRI.out).mono ?_
    rintro e w6 ⟨rfl, hb⟩
    rw [HN3.out]
    have m0 := box_cell hb l0
    have m1 := box_cell hb l1
    have HB6 := hid (HB5.out.trans (hb.mono HB5.out.size))
    have HX6 := hid (HX5.out.below hb)
    have H1g := hid (H1f.out.below hb)
    clear hb l0 l1 HB5 HX5 H1f HSO5 HH1 HH2 HRI HN3
    go_wp2_with fail
    refine (specA2Side _ _ bs1 _ J fr V ds.length vq H1g.out hb1 hJ hfr).mono ?_
    rintro e w7 ⟨U, uq, D, rfl, hDr, hD1, hD0, hDri, hDl, hb⟩
    have q0 := box_cell hb m0
    have q1 := box_cell hb m1
    have HB7 := hid (HB6.out.trans (hb.mono HB6.out.size))
    have HX7 := hid (HX6.out.below hb)
    have HDR := hid hDr
    have HDRI := hid hDri
    obtain ⟨hle, heq⟩ := HN4.out D hD1 hD0
    have hle2 : decide (cutT (hasB D) ds < tot) = false := decide_eq_false (by omega)
    have HEQ : Hid (cutT (hasB D) ds = tot → decide ((D.length : Int) < (sd.length : Int)) = false) := fun h => decide_eq_false (by have := heq h; omega)
    clear hb m0 m1 HB6 HX6 H1g HN4 hDr hDri hD1 hD0 heq
    go_wp2_with fail
    refine (implCutFlow J V ds vq U D uq _ HX7.out HOK.out HDR.out HDRI.out).mono ?_
    rintro e w8 ⟨rfl, hb⟩
    have r0 := box_cell hb q0
    have r1 := box_cell hb q1
    have HB8 := hid (HB7.out.trans (hb.mono HB7.out.size))
    have HX8 := hid (HX7.out.below hb)
    generalize cutT (hasB D) ds = other at hle hle2 HEQ ⊢
    clear hb q0 q1 HB7 HX7 HDR HDRI hle
    by_cases heq : other = tot
    case' pos =>
      have hc1 : (other == tot) = true := beq_iff_eq.2 heq
      have hc2 := HEQ.out heq
      have hc3 : ¬ D.length < sd.length := by have := of_decide_eq_false hc2; omega
      clear heq HEQ
      go_wp2_with (go_at_call 37; refine keep_ ?_)
    case' neg =>
      have hc1 : (other == tot) = false := beq_eq_false_iff_ne.2 heq
      clear heq HEQ
      go_wp2_with (go_at_call 37; refine keep_ ?_)
    all_goals
      refine go_ ?_
      refine (implReachedFrom J fr V ds vq _ HX8.out HOK.out hfr).mono ?_
      rintro e w9 ⟨Z, zq, bl9, rfl, hz, ht, hd, hj, hb⟩
      obtain ⟨he1, he2⟩ := walk_end HOK.out.all HMX.out ht hd hj
      have HB9 := hid (HB8.out.trans (hb.mono HB8.out.size))
      have HZ := hid hz
      clear hz ht hd hj hb HB8 HX8 r0 r1
      generalize sideL bl9 J = rl at he1 he2 HZ ⊢
      have HG1 : Hid (∀ x, Rd x Z rl → Calls Try.prog 34 #[.slice Z rl.length zq, .int .i64 fr] x fun e w' => e = .returned (.bool true) ∧ x = w') := fun x hx => by rw [← he1]; exact l2Has_ Z rl zq fr x hx
      clear he1
      cases hz0 : hasB rl 0
      · have htz := he2 hz0
        have HG2 : Hid (∀ x, Rd x Z rl → Calls Try.prog 34 #[.slice Z rl.length zq, .int .i64 0] x fun e w' => e = .returned (.bool false) ∧ x = w') := fun x hx => by rw [← hz0]; exact l2Has_ Z rl zq 0 x hx
        clear he2 hz0
        have hcz : (tot == 0) = true := beq_iff_eq.2 htz
        clear htz
        go_wp2_with (go_at_call 34; first | (with_reducible refine (HG1.out _ HZ.out).mono ?_; rintro e w' ⟨rfl, rfl⟩) | (with_reducible refine (HG2.out _ HZ.out).mono ?_; rintro e w' ⟨rfl, rfl⟩))
        go_ret
        exact ⟨rfl, HB9.out⟩
      · have HG2 : Hid (∀ x, Rd x Z rl → Calls Try.prog 34 #[.slice Z rl.length zq, .int .i64 0] x fun e w' => e = .returned (.bool true) ∧ x = w') := fun x hx => by rw [← hz0]; exact l2Has_ Z rl zq 0 x hx
        clear he2 hz0
        go_wp2_with (go_at_call 34; first | (with_reducible refine (HG1.out _ HZ.out).mono ?_; rintro e w' ⟨rfl, rfl⟩) | (with_reducible refine (HG2.out _ HZ.out).mono ?_; rintro e w' ⟨rfl, rfl⟩))
        go_ret
        exact ⟨rfl, HB9.out⟩
set_option maxRecDepth 100000 in
theorem lifted (os : Os) (started : os.Started) (H : Type) (enc : TypeId × Value → H) :
    ReturnsInHanded {} Try.checked os 8 .any (Rows.fnDitchesSpec.pre6 enc Try.prog Try.f8 Rows.fnDitchesRow.domain false) (Rows.fnDitchesSpec.post enc Try.prog Try.f8 false true false false) := by
  refine returnsInHanded_of_change (C := Try.checked) ownLaw started (by kernel_rfl) Try.func8
    (ChangeSpec.witness6 (enc := enc) (C := Try.checked) false ⟨#[], #[.slice none 0 0, .slice none 0 0], []⟩ 8 (by kernel_rfl) (by kernel_rfl) (by kernel_rfl) (by kernel_rfl)) ?_
  intro W base args ds gs before hval0 hW _ _
  have hval : ∀ (j : Nat) t v, Try.f8.params[j]? = some t → args[j]? = some v → Value.okWide Try.prog W .any base t v := hval0
  have hW' := hW
  obtain ⟨p, q, hA0, hV, hbef, hfz, hnd⟩ := hW
  have hA : DataW.TrodAll enc Try.prog W 0 (fun _ => true) true Try.f8.params.toList args.toList ds p := hA0
  rw [Try.params8] at hA hval
  obtain ⟨v0, vs0, d0, ds0, p0, q0, hargs, rfl, hp0, h0, r0⟩ := trodAll_cons hA
  obtain ⟨v1, vs1, d1, ds1, p1, q1, rfl, rfl, hp1, h1, r1⟩ := trodAll_cons r0
  obtain ⟨rfl, rfl, hpl⟩ := trodAll_nil r1
  obtain rfl : args = #[v0, v1] := by cases args; simp_all
  obtain ⟨rfl, hq⟩ := trodVars_none hV
  obtain ⟨A0, n0, c0, rfl, x0⟩ := open_bytes Try.underlying22 Try.underlying5 (by kernel_rfl) (hval 0 _ v0 rfl rfl) h0
  obtain ⟨A1, n1, c1, rfl, x1⟩ := open_bytes Try.underlying22 Try.underlying5 (by kernel_rfl) (hval 1 _ v1 rfl rfl) h1
  refine (walk A0 n0 c0 x0 A1 n1 c1 x1).mono fun e W' ⟨he, hb⟩ => ?_
  subst he
  exact ⟨_, rfl, law_close laidLaw (by kernel_rfl) rfl rfl (by kernel_rfl) hW' rfl rfl rfl hb⟩

theorem over : Rows.fnDitchesRow.holds Try.pinned (OpenSpec.ofChange Rows.fnDitchesSpec) :=
  OpenClaim.holds_of_wide 8 Try.f8 rfl rfl rfl rfl rfl rfl rfl ⟨rfl, rfl, rfl, rfl, rfl⟩ rfl rfl rfl rfl rfl (by kernel_rfl) Try.func8 (by kernel_rfl)
    (of_decide_eq_true (by kernel_rfl)) (by unfold Func.isWrapper; first | (rw [if_pos (by decide +kernel)]; kernel_rfl) | (rw [if_neg (by decide +kernel)]; exact ⟨rfl, rfl⟩))
    (fun os started H enc _ => lifted os started H enc)

theorem proved : Rows.FnDitchesSaid := over
end Go.Proofs.Yteobejgkjjhfkaa.fnDitches
