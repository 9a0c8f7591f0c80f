/- FnTideShifts: the walk and the row. -/
import Derived.Test.YteobejgkjjhfkaaTideCut
import Derived.Deep.CutBlock
import Derived.Test.YteobejgkjjhfkaaBytes
import Derived.Test.YteobejgkjjhfkaaLaw
namespace Go.Proofs.Yteobejgkjjhfkaa.fnTideShifts
open Go.ChangeShapes Go.WideShapes Go.ChangeAt Go.RowKit
set_option linter.unusedVariables false
theorem frac_eq {N N' P Q lv D : Int} {g g' : Nat} (hg : 1 ≤ Q) (hgg : g = Int.gcd P Q) (hgg' : g' = Int.gcd (P + lv * Q) Q) (h1 : N * g = P) (h2 : D * g = Q) : ∀ {D' : Int}, N' * g' = P + lv * Q → D' * g' = Q → D = D' ∧ N' = N + lv * D := by
  intro D' h3 h4
  have e : g' = g := by rw [hgg, hgg', gcd_sh]
  rw [e] at h3 h4
  exact frac_sh (by rw [hgg]; exact Int.gcd_pos_of_ne_zero_right _ (by omega)) h1 h2 h3 h4
set_option maxRecDepth 100000 in
set_option maxHeartbeats 16000000 in
theorem walk {w : World} (A0 : Option Addr) (n0 c0 : Nat) (x0 : ArgB w A0 n0) (A1 : Option Addr) (n1 c1 : Nat) (x1 : ArgB w A1 n1) :
    Calls Try.prog 9 #[.slice A0 n0 c0, .slice A1 n1 c1] w fun e w' => e = .returned (.bool true) ∧ Below w.heap.size w w' := by
  cases hL : (decide (3000 < n0) || decide (3000 < n1)) with
  | true =>
    have HL := hid hL
    go_enter Try.func9, Try.ntmps9
    go_wp2_with fail
    refine (a2Long_ _ _ _ _ _ _ _).mono ?_
    rintro e w1 ⟨rfl, rfl⟩
    rw [HL.out]
    go_wp2_with fail
    go_ret
    exact ⟨rfl, Below.refl _ _⟩
  | false =>
    have HL := hid hL
    simp only [Bool.or_eq_false_iff, decide_eq_false_iff_not] at hL
    obtain ⟨bs0, rfl, h0, hb0⟩ := x0.rd (by omega)
    obtain ⟨bs1, rfl, h1, hb1⟩ := x1.rd (by omega)
    clear hL
    have H0 := hid h0
    have H1 := hid h1
    clear h0 h1
    go_enter Try.func9, Try.ntmps9
    go_wp2_with fail
    refine (a2Long_ _ _ _ _ _ _ _).mono ?_
    rintro e w1 ⟨rfl, rfl⟩
    rw [HL.out]
    go_wp2_with fail
    refine (a2Tides_ _ _ _ _ H0.out hb0).mono ?_
    rintro e w1 ⟨V, vq, xs, rfl, hxs, hdr, hb⟩
    have HX := hid hxs
    have htt := tt_of hdr
    have HTT := hid htt
    have HB := hid hb
    have H1b := hid (H1.out.below hb)
    have hx9 := hdr.2.1
    have hx2 := hdr.1.len
    have HEA := hid hdr.2.2
    obtain ⟨hfl, hf0, hz0⟩ := first_last htt
    clear hxs hdr hb htt
    go_wp2_with fail
    refine (a2At_ _ _ _ 0 100 _ H1b.out hb1 (by omega) (by omega)).mono ?_
    rintro e w' ⟨mi, rfl, hmi, rfl⟩
    go_wp2_with fail
    refine (a2At_ _ _ _ 1 200 _ H1b.out hb1 (by omega) (by omega)).mono ?_
    rintro e w' ⟨l0, rfl, hl0, rfl⟩
    go_wp2_with fail
    obtain ⟨lv, hlv⟩ : ∃ x, l0 - 100 = x := ⟨_, rfl⟩
    have hlr : -100 ≤ lv ∧ lv ≤ 99 := by omega
    rw [hlv]
    clear hlv
    have hok2 : TideOk (shX mi lv xs) := shX_ok HTT.out.ok (fun x hx => by have := HEA.out x hx; omega)
    have HTT2 : Hid (TT (shX mi lv xs)) := ⟨hok2, ⟨by have := hok2.len; omega, fun x hx => by obtain ⟨y, hy, rfl⟩ := List.mem_map.1 hx; have := HEA.out y hy; simp only [shT]; omega⟩⟩
    clear hok2
    refine (shiftTides_ _ _ _ mi lv _ HX.out HTT.out.ok HTT2.out.ok (by omega) (by omega)).mono ?_
    rintro e w2 ⟨VX, xq, rfl, hys, hb⟩
    have HX2 := hid (HX.out.below hb)
    have HB2 := hid (HB.out.trans (hb.mono HB.out.size))
    have H1c := hid (H1b.out.below hb)
    have HY2 := hid hys
    clear hys hb
    have hsh : ∀ w1, Rd w1 VX (shX mi lv xs) → Calls Try.prog 38 #[.slice VX xs.length xq, .int .i64 (-mi), .int .i64 (-lv)] w1 fun e w' => ∃ V q, e = .returned (.tuple #[.slice V xs.length q, .int .i64 0]) ∧ Rd w' V xs ∧ Below w1.heap.size w1 w' := fun w1 hr => by
      have h9 := shiftTides_ VX (shX mi lv xs) xq (-mi) (-lv) w1 hr HTT2.out.ok (by rw [shX_back]; exact HTT.out.ok) (by omega) (by omega)
      rw [shX_back, shX_len] at h9
      exact h9
    have HSH := hid hsh
    clear hsh
    go_wp2_with fail
    refine (HSH.out _ HY2.out).mono ?_
    rintro e w3 ⟨VZ, zq, rfl, hzs, hb⟩
    have HX3 := hid (HX2.out.below hb)
    have HB3 := hid (HB2.out.trans (hb.mono HB2.out.size))
    have H1d := hid (H1c.out.below hb)
    have HY3 := hid (HY2.out.below hb)
    have HZ3 := hid hzs
    clear hzs hb HSH
    go_wp2_with fail
    refine (specSameT_ _ _ _ _ _ _ HZ3.out HX3.out).mono ?_
    rintro e w4 ⟨rfl, nn, rfl⟩
    obtain ⟨w4, hw4⟩ : ∃ x, w3.drewN nn = x := ⟨_, rfl⟩
    have hb : Below w3.heap.size w3 w4 := by rw [← hw4]; exact (Below.refl _ _).drewN _
    rw [hw4]
    have HX4 := hid (HX3.out.below hb)
    have HB4 := hid (HB3.out.trans (hb.mono HB3.out.size))
    have H1e := hid (H1d.out.below hb)
    have HY4 := hid (HY3.out.below hb)
    clear hb hw4 HZ3
    obtain ⟨b, off, rfl, hc⟩ := HX4.out.tides (by omega)
    have hc0 := (hc 0 (by omega)).1
    have hcl := (hc (xs.length - 1) (by omega)).1
    rw [← getD_tide (show 0 < xs.length by omega)] at hc0
    rw [← getD_tide (show xs.length - 1 < xs.length by omega)] at hcl
    have k0 : w4.cell? ⟨b, off, none⟩ = some (.int .i64 (firstT xs)) := by rw [Nat.zero_mul, Nat.add_zero] at hc0; exact hc0
    obtain ⟨xn, hxn⟩ : ∃ n, xs.length = n + 1 := ⟨xs.length - 1, by omega⟩
    have kl : w4.cell? ⟨b, off + xn * 2, none⟩ = some (.int .i64 (lastT xs)) := by rw [show xn = xs.length - 1 by omega]; exact hcl
    have HXN := hid hxn
    have hxn9 : xn ≤ 8 ∧ 1 ≤ xn := by omega
    clear hc hc0 hcl
    have hTA : ∀ m w1, Below w4.heap.size w4 w1 → firstT xs ≤ m ∧ m ≤ lastT xs → Calls Try.prog 40 #[.slice (some ⟨b, off, none⟩) (xn + 1) vq, .int .i64 m] w1 fun e w' => ∃ N D : Int, e = .returned (.tuple #[.agg #[.int .i64 N, .int .i64 D], .int .i64 0]) ∧ (-1000000000000 ≤ N ∧ N ≤ 1000000000000) ∧ (1 ≤ D ∧ D ≤ 1000) ∧ N * (Int.gcd (tnum xs m) (tden xs m) : Nat) = tnum xs m ∧ D * (Int.gcd (tnum xs m) (tden xs m) : Nat) = tden xs m ∧ Below w1.heap.size w1 w' := fun m w1 hb hm => by
      have h9 := implTideAt_ (some ⟨b, off, none⟩) xs vq m w1 (HX4.out.below hb) HTT.out hm
      rw [hxn] at h9
      refine h9.mono ?_
      rintro e w' ⟨N, D, he, h1, h2, hb⟩
      obtain ⟨t1, t2⟩ := tb_num HTT.out hm
      obtain ⟨q1, q2⟩ := frac_bound (show (1 : Int) ≤ (Int.gcd (tnum xs m) (tden xs m) : Nat) by have := Int.gcd_pos_of_ne_zero_right (tnum xs m) (show tden xs m ≠ 0 by omega); omega) h1 h2 t1 t2
      exact ⟨N, D, he, q1, q2, h1, h2, hb⟩
    have hTB : ∀ m w1, Below w4.heap.size w4 w1 → firstT xs ≤ m ∧ m ≤ lastT xs → Calls Try.prog 40 #[.slice VX (xn + 1) xq, .int .i64 (m + mi)] w1 fun e w' => ∃ N D : Int, e = .returned (.tuple #[.agg #[.int .i64 N, .int .i64 D], .int .i64 0]) ∧ N * (Int.gcd (tnum xs m + lv * tden xs m) (tden xs m) : Nat) = tnum xs m + lv * tden xs m ∧ D * (Int.gcd (tnum xs m + lv * tden xs m) (tden xs m) : Nat) = tden xs m ∧ Below w1.heap.size w1 w' := fun m w1 hb hm => by
      have e1 : firstT (shX mi lv xs) = firstT xs + mi := by unfold firstT; rw [shX_getD (by omega)]; rfl
      have e2 : lastT (shX mi lv xs) = lastT xs + mi := by unfold lastT; rw [shX_len, shX_getD (by omega)]; rfl
      have h9 := implTideAt_ VX (shX mi lv xs) xq (m + mi) w1 (HY4.out.below hb) HTT2.out (by rw [e1, e2]; omega)
      rw [tnum_sh _ _ _ (by omega), tden_sh _ _ _ (by omega), shX_len, hxn] at h9
      exact h9
    have hCW : ∀ w1, Below w4.heap.size w4 w1 → Calls Try.prog 41 #[.slice (some ⟨b, off, none⟩) (xn + 1) vq, .int .i64 (firstT xs), .int .i64 (lastT xs)] w1 fun e w' => ∃ V q, e = .returned (.tuple #[.slice V (xn + 1) q, .int .i64 0]) ∧ Rd w' V xs ∧ Below w1.heap.size w1 w' := fun w1 hb => by
      have h9 := cutTides_ (some ⟨b, off, none⟩) xs vq (firstT xs) (lastT xs) w1 (HX4.out.below hb) HTT.out (Int.le_refl _) hfl (Int.le_refl _)
      rw [cut_whole HTT.out.ok] at h9
      rw [hxn] at h9
      refine h9.mono ?_
      rintro e w' (⟨V, q, he, hr, hb⟩ | ⟨h, _⟩)
      · rw [hxn] at he
        exact ⟨V, q, he, hr, hb⟩
      · exact absurd HTT.out.ok h
    have hCP : ∀ m w1, Below w4.heap.size w4 w1 → firstT xs ≤ m ∧ m < lastT xs → Calls Try.prog 41 #[.slice (some ⟨b, off, none⟩) (xn + 1) vq, .int .i64 m, .int .i64 (lastT xs)] w1 (CutR (cutX xs m (lastT xs)) w1) := fun m w1 hb hm => by
      have h9 := cutTides_ (some ⟨b, off, none⟩) xs vq m (lastT xs) w1 (HX4.out.below hb) HTT.out hm.1 hm.2 (Int.le_refl _)
      rw [hxn] at h9
      exact h9
    have hlx : w4.cell? ⟨b, off + xn * 2 + 1, none⟩ = some (.int .i64 (nearT xs (lastT xs))) := by
      obtain ⟨b2, off2, e, _, d2⟩ := HX4.out.tide (k := xn) (by omega)
      injection e with e
      injection e with i9 j9
      subst i9 j9
      rw [near_last HTT.out.ok, show xs.length - 1 = xn by omega, getD_tide (by omega)]
      exact d2
    have HTA := hid hTA
    have HTB := hid hTB
    have HCW := hid hCW
    have HCP := hid hCP
    have HDB : Hid (∀ m, firstT xs ≤ m ∧ m ≤ lastT xs → (-1000000000000 ≤ tnum xs m ∧ tnum xs m ≤ 1000000000000) ∧ 1 ≤ tden xs m ∧ tden xs m ≤ 1000) := fun m hm => tb_num HTT.out hm
    rw [HXN.out]
    have HX4' : Hid (∀ (ww : World) (A : Option Addr) (ys : List Tide), ys = xs → Rd ww A ys → Rd ww A xs) := fun ww A ys e h => by rw [← e]; exact h
    clear hTA hTB hCW hCP hxn HX HX2 HX3 HY2 HY3 HB HB2 HB3 H1 H1b H1c H1d H0 HEA hx9 hx2
    go_wp2_with (first | fail | (go_at_call 14; refine (a2At_ _ _ _ 2 (lastT xs - firstT xs) _ H1e.out hb1 (by omega) (by omega)).mono ?_; rintro e w' ⟨r, rfl, hr, rfl⟩; refine keep_ ?_))
    obtain ⟨m, hm⟩ : ∃ x, firstT xs + r = x := ⟨_, rfl⟩
    have hmr : firstT xs ≤ m ∧ m < lastT xs := by omega
    have ta := hid (HTA.out m w4 (Below.refl _ _) (by omega))
    have htb := HTB.out m
    obtain ⟨hp1, hp2⟩ := HDB.out m (by omega)
    clear HTA HTB HDB
    generalize tnum xs m = P at ta htb hp1
    generalize tden xs m = Q at ta htb hp2
    have HTB := hid htb
    clear htb
    refine go_ ?_
    go_wp2_with fail
    have HM := hid hm
    clear hm
    refine ta.out.mono ?_
    rintro e w5 ⟨N, D, rfl, hN, hD, f1, f2, hb⟩
    have HB5 := hid hb
    have F1 := hid f1
    have F2 := hid f2
    clear hb f1 f2 ta
    have hsz5 := HB5.out.size
    go_wp2_with fail
    refine (HTB.out _ (HB5.out.alloc hsz5 _) (by omega)).mono ?_
    rintro e w6 ⟨N2, D2, rfl, g1, g2, hb⟩
    obtain ⟨rfl, rfl⟩ := frac_eq hp2.1 rfl rfl F1.out F2.out g1 g2
    have q1 := mul_small (a := lv) (b := D) (A := 100) (B := 1000) (by omega) (by omega) (by omega) (by omega)
    have a0 : w6.cell? ⟨w5.heap.size, 0, none⟩ = some (.int .i64 N) := box_cell hb (by simp [go_sem])
    have a1 : w6.cell? ⟨w5.heap.size, 1, none⟩ = some (.int .i64 D) := box_cell hb (by simp [go_sem])
    have HB6 := hid ((HB5.out.alloc hsz5 _).trans (hb.mono (le_alloc hsz5)))
    have hlt6 : w5.heap.size < w6.heap.size := World.block_lt_of_cell? w6 _ a0
    clear hb g1 g2 F1 F2 HTB
    go_wp2_with fail
    have hsz6 := HB6.out.size
    refine (HCW.out _ (HB6.out.alloc hsz6 _)).mono ?_
    rintro e w7 ⟨VW, wq, rfl, hw7, hb⟩
    have HW7 := hid hw7
    have HB7 := hid ((HB6.out.alloc hsz6 _).trans (hb.mono (le_alloc hsz6)))
    have HX7 := hid (HX4.out.below HB7.out)
    clear hw7 hb HCW
    go_wp2_with fail
    refine (HCP.out m _ HB7.out hmr).mono ?_
    rintro e w8 hcr
    have hss : ∀ w1, Below w8.heap.size w8 w1 → True := fun _ _ => trivial
    clear hss
    rcases hcr with ⟨VP, pq, rfl, hrp, hb⟩ | ⟨-, VP, pq, rfl, hb⟩
    case' inl =>
      have hcln := cut_len xs m (lastT xs)
      have hc9 := cut_first xs m (lastT xs)
      have hcl := cut_last xs m (lastT xs)
      have HW8 := hid (HW7.out.below hb)
      have HX8 := hid (HX7.out.below hb)
      have HB8 := hid (HB7.out.trans (hb.mono HB7.out.size))
      have HRP := hid hrp
      have l0 := box_cell HB8.out kl
      have l1 := box_cell HB8.out hlx
      have hsm : Calls Try.prog 39 #[.slice VW (xn + 1) wq, .slice (some ⟨b, off, none⟩) (xn + 1) vq] w8 fun e w' => e = .returned (.bool true) ∧ ∃ n, w' = w8.drewN n := by
        have h9 := specSameT_ _ _ _ wq vq _ HW8.out HX8.out
        rw [HXN.out] at h9
        exact h9
      have HSM := hid hsm
      obtain ⟨pb, po, rfl, d0, d1⟩ := hrp.tide (k := 0) (by omega)
      obtain ⟨pb2, po2, e9, e0, e1⟩ := hrp.tide (k := (cutX xs m (lastT xs)).length - 1) (by omega)
      injection e9 with e9
      injection e9 with i9 j9
      subst i9 j9
      rw [hc9] at d0
      rw [hcl] at e0 e1
      simp only at d0 e0 e1
      clear d1 hc9 hcl hrp HRP
      generalize hcx : (cutX xs m (lastT xs)).length = CN at *
      obtain ⟨cn, rfl⟩ : ∃ k, CN = k + 1 := ⟨CN - 1, by omega⟩
      rw [Nat.add_sub_cancel] at e0 e1
      rw [Nat.zero_mul, Nat.add_zero] at d0
      have hcn40 : cn + 1 ≤ 11 := by have := HXN.out; omega
      generalize nearT xs (lastT xs) = nl at *
      generalize lastT xs = za at *
      clear hsm hb hcx
      go_wp2_with fail
      refine HSM.out.mono ?_
      rintro e w9 ⟨rfl, n9, rfl⟩
      go_upto_region 21 with fail
      have he9 : ((⟨za, nl⟩ : Tide) == ⟨za, nl⟩) = true := by simp
      have z1 : decide ((2 : Int) ≤ (cn : Int) + 1) = true := decide_eq_true (by omega)
      have z2 : decide (1 ≤ cn) = true := decide_eq_true (by omega)
      have z3 : decide ((1 : Int) ≤ (cn : Int)) = true := decide_eq_true (by omega)
      have z4 : decide (2 ≤ cn + 1) = true := decide_eq_true (by omega)
      clear HW8 HX8
      go_quiet (fail)
      go_wp2_with fail
      go_ret
      exact ⟨by first | rfl | exact ret_bool (by simp), by first | exact HB4.out.trans ((HB8.out.drewN _).mono HB4.out.size) | exact HB4.out.trans (((HB8.out.drewN _).drewN _).mono HB4.out.size)⟩
    case' inr =>
      have HW8 := hid (HW7.out.below hb)
      have HX8 := hid (HX7.out.below hb)
      have HB8 := hid (HB7.out.trans (hb.mono HB7.out.size))
      have hsm : Calls Try.prog 39 #[.slice VW (xn + 1) wq, .slice (some ⟨b, off, none⟩) (xn + 1) vq] w8 fun e w' => e = .returned (.bool true) ∧ ∃ n, w' = w8.drewN n := by
        have h9 := specSameT_ _ _ _ wq vq _ HW8.out HX8.out
        rw [HXN.out] at h9
        exact h9
      have HSM := hid hsm
      clear hsm hb
      go_wp2_with fail
      refine HSM.out.mono ?_
      rintro e w9 ⟨rfl, n9, rfl⟩
      go_upto_region 21 with fail
      go_quiet (fail)
      go_wp2_with fail
      go_ret
      exact ⟨by first | rfl | exact ret_bool (by simp), by first | exact HB4.out.trans ((HB8.out.drewN _).mono HB4.out.size) | exact HB4.out.trans (((HB8.out.drewN _).drewN _).mono HB4.out.size)⟩
set_option maxRecDepth 100000 in
theorem lifted (os : Os) (started : os.Started) (H : Type) (enc : TypeId × Value → H) :
    ReturnsInHanded {} Try.checked os 9 .any (Rows.fnTideShiftsSpec.pre6 enc Try.prog Try.f9 Rows.fnTideShiftsRow.domain false) (Rows.fnTideShiftsSpec.post enc Try.prog Try.f9 false true false false) := by
  refine returnsInHanded_of_change (C := Try.checked) ownLaw started (by kernel_rfl) Try.func9
    (ChangeSpec.witness6 (enc := enc) (C := Try.checked) false ⟨#[], #[.slice none 0 0, .slice none 0 0], []⟩ 8 (by kernel_rfl) (by kernel_rfl) (by kernel_rfl) (by kernel_rfl)) ?_
  intro W base args ds gs before hval0 hW _ _
  have hval : ∀ (j : Nat) t v, Try.f9.params[j]? = some t → args[j]? = some v → Value.okWide Try.prog W .any base t v := hval0
  have hW' := hW
  obtain ⟨p, q, hA0, hV, hbef, hfz, hnd⟩ := hW
  have hA : DataW.TrodAll enc Try.prog W 0 (fun _ => true) true Try.f9.params.toList args.toList ds p := hA0
  rw [Try.params9] at hA hval
  obtain ⟨v0, vs0, d0, ds0, p0, q0, hargs, rfl, hp0, h0, r0⟩ := trodAll_cons hA
  obtain ⟨v1, vs1, d1, ds1, p1, q1, rfl, rfl, hp1, h1, r1⟩ := trodAll_cons r0
  obtain ⟨rfl, rfl, hpl⟩ := trodAll_nil r1
  obtain rfl : args = #[v0, v1] := by cases args; simp_all
  obtain ⟨rfl, hq⟩ := trodVars_none hV
  obtain ⟨A0, n0, c0, rfl, x0⟩ := open_bytes Try.underlying22 Try.underlying5 (by kernel_rfl) (hval 0 _ v0 rfl rfl) h0
  obtain ⟨A1, n1, c1, rfl, x1⟩ := open_bytes Try.underlying22 Try.underlying5 (by kernel_rfl) (hval 1 _ v1 rfl rfl) h1
  refine (walk A0 n0 c0 x0 A1 n1 c1 x1).mono fun e W' ⟨he, hb⟩ => ?_
  subst he
  exact ⟨_, rfl, law_close laidLaw (by kernel_rfl) rfl rfl (by kernel_rfl) hW' rfl rfl rfl hb⟩

theorem over : Rows.fnTideShiftsRow.holds Try.pinned (OpenSpec.ofChange Rows.fnTideShiftsSpec) :=
  OpenClaim.holds_of_wide 9 Try.f9 rfl rfl rfl rfl rfl rfl rfl ⟨rfl, rfl, rfl, rfl, rfl⟩ rfl rfl rfl rfl rfl (by kernel_rfl) Try.func9 (by kernel_rfl)
    (of_decide_eq_true (by kernel_rfl)) (by unfold Func.isWrapper; first | (rw [if_pos (by decide +kernel)]; kernel_rfl) | (rw [if_neg (by decide +kernel)]; exact ⟨rfl, rfl⟩))
    (fun os started H enc _ => lifted os started H enc)

theorem proved : Rows.FnTideShiftsSaid := over
end Go.Proofs.Yteobejgkjjhfkaa.fnTideShifts
