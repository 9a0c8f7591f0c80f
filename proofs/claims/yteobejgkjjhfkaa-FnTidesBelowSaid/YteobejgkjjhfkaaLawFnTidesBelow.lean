/- FnTidesBelow: the walk and the row. -/
import Derived.Test.YteobejgkjjhfkaaTideLawP
import Derived.Deep.CutBlock
import Derived.Test.YteobejgkjjhfkaaBytes
import Derived.Test.YteobejgkjjhfkaaLaw
namespace Go.Proofs.Yteobejgkjjhfkaa.fnTidesBelow
open Go.ChangeShapes Go.WideShapes Go.ChangeAt Go.RowKit
set_option linter.unusedVariables false
set_option maxRecDepth 100000 in
set_option maxHeartbeats 16000000 in
theorem walk {w : World} (A0 : Option Addr) (n0 c0 : Nat) (x0 : ArgB w A0 n0) (A1 : Option Addr) (n1 c1 : Nat) (x1 : ArgB w A1 n1) :
    Calls Try.prog 6 #[.slice A0 n0 c0, .slice A1 n1 c1] w fun e w' => e = .returned (.bool true) ∧ Below w.heap.size w w' := by
  cases hL : (decide (3000 < n0) || decide (3000 < n1)) with
  | true =>
    have HL := hid hL
    go_enter Try.func6, Try.ntmps6
    go_wp2_with fail
    refine (a2Long_ _ _ _ _ _ _ _).mono ?_
    rintro e w1 ⟨rfl, rfl⟩
    rw [HL.out]
    go_wp2_with fail
    go_ret
    exact ⟨rfl, Below.refl _ _⟩
  | false =>
    have HL := hid hL
    simp only [Bool.or_eq_false_iff, decide_eq_false_iff_not] at hL
    obtain ⟨bs0, rfl, h0, hb0⟩ := x0.rd (by omega)
    obtain ⟨bs1, rfl, h1, hb1⟩ := x1.rd (by omega)
    clear hL
    have H0 := hid h0
    have H1 := hid h1
    clear h0 h1
    go_enter Try.func6, Try.ntmps6
    go_wp2_with fail
    refine (a2Long_ _ _ _ _ _ _ _).mono ?_
    rintro e w1 ⟨rfl, rfl⟩
    rw [HL.out]
    go_wp2_with fail
    refine (a2Tides_ _ _ _ _ H0.out hb0).mono ?_
    rintro e w1 ⟨V, vq, xs, rfl, hxs, hdr, hb⟩
    have HX := hid hxs
    have HTT := hid (tt_of hdr)
    have HB := hid hb
    have H1b := hid (H1.out.below hb)
    have hx9 := hdr.2.1
    have hx2 := hdr.1.len
    clear hxs hdr hb
    go_wp2_with fail
    refine (a2At_ _ _ _ 0 256 _ H1b.out hb1 (by omega) (by omega)).mono ?_
    rintro e w' ⟨l0, rfl, hl0, rfl⟩
    go_wp2_with fail
    obtain ⟨lv, hlv⟩ : ∃ x, l0 - 128 = x := ⟨_, rfl⟩
    have hlr : -128 ≤ lv ∧ lv ≤ 127 := by omega
    rw [hlv]
    clear hlv
    refine (spellsBelowI_ _ _ _ lv _ HX.out HTT.out (by omega)).mono ?_
    rintro e w2 ⟨P, pq, rfl, hps, hb⟩
    have HX2 := hid (HX.out.below hb)
    have HB2 := hid (HB.out.trans (hb.mono HB.out.size))
    have H1c := hid (H1b.out.below hb)
    have HP2 := hid hps
    clear hps hb
    go_wp2_with fail
    refine (minutesBelow_ _ _ _ lv _ HX2.out HTT.out (by omega)).mono ?_
    rintro e w3 ⟨rfl, hb⟩
    have HX3 := hid (HX2.out.below hb)
    have HB3 := hid (HB2.out.trans (hb.mono HB2.out.size))
    have H1d := hid (H1c.out.below hb)
    have HP3 := hid (HP2.out.below hb)
    clear hb
    obtain ⟨hfl, hf0, hz0⟩ := first_last HTT.out
    have hok0 := spT_ok (lowB xs lv) (firstT xs) (lastT xs - firstT xs + 1).toNat
    obtain ⟨ps, hps⟩ : ∃ ps, spAll xs lv = ps := ⟨_, rfl⟩
    have hok : SpTOk (lowB xs lv) (firstT xs) (lastT xs - firstT xs + 1).toNat ps := by rw [← hps]; exact hok0
    rw [hps] at HP3 ⊢
    clear hps hok0 HP2
    have hcr := cntT_range (lowB xs lv) (firstT xs) (lastT xs - firstT xs + 1).toNat
    have hsum := hok.sum
    have hpl := hok.len
    have HEA : Hid (∀ p ∈ ps, 0 ≤ p.1 ∧ p.1 ≤ p.2 ∧ p.2 ≤ 1000) := fun p hp => by have := (hok.each p hp).pos; omega
    have HAP := hid hok.apart
    have HIN : Hid (∀ m, firstT xs ≤ m → m ≤ lastT xs → inT m ps = lowB xs lv m) := fun m h1 h2 => in_low hok (by omega)
    obtain ⟨SM, hSM⟩ : ∃ S, sumT ps = S := ⟨_, rfl⟩
    rw [hSM] at hsum ⊢
    have HSM : Hid (0 + sumT (ps.drop 0) = SM) := by rw [List.drop_zero, Int.zero_add]; exact hSM
    have HCN := hid hsum
    have hSMr : 0 ≤ SM ∧ SM ≤ 1001 := by omega
    clear hok hSM hsum
    obtain ⟨b, off, rfl, hc⟩ := HX3.out.tides (by omega)
    have hc0 := (hc 0 (by omega)).1
    have hcl := (hc (xs.length - 1) (by omega)).1
    rw [← getD_tide (show 0 < xs.length by omega)] at hc0
    rw [← getD_tide (show xs.length - 1 < xs.length by omega)] at hcl
    have HC0 : Hid (w3.cell? ⟨b, off, none⟩ = some (.int .i64 (firstT xs))) := by rw [Nat.zero_mul, Nat.add_zero] at hc0; exact hc0
    obtain ⟨xn, hxn⟩ : ∃ n, xs.length = n + 1 := ⟨xs.length - 1, by omega⟩
    have HCL : Hid (w3.cell? ⟨b, off + xn * 2, none⟩ = some (.int .i64 (lastT xs))) := hid (by rw [show xn = xs.length - 1 by omega]; exact hcl)
    have HXN := hid hxn
    clear hc hc0 hcl hxn
    go_upto_region 11 with fail
    go_wp2_with fail
    go_loopw [11, 12] (fun u i wr => ∃ (k : Nat) (a : Int), k ≤ ps.length ∧ i = .int .i64 k ∧ u = .int .i64 a ∧ a + sumT (ps.drop k) = SM ∧ 0 ≤ a ∧ a ≤ 1001 * k ∧ Below w3.heap.size w3 wr) (fun _ i _ => ps.length - (intOf i).toNat)
    case atStart => exact ⟨0, 0, Nat.zero_le _, rfl, rfl, HSM.out, by omega, by omega, Below.refl _ _⟩
    case round =>
      obtain ⟨k, a, hk, rfl, rfl, ha, ha0, ha1, hq⟩ := hrel
      obtain ⟨wo, rfl⟩ : ∃ wo : World, wo = wr := ⟨_, rfl⟩
      have HQ := hid hq
      have HP4 := hid (HP3.out.below hq)
      clear hq
      by_cases hlt : k < ps.length
      · obtain ⟨pb, po, rfl, e1, e2⟩ := HP4.out.pair hlt
        have hea := HEA.out _ (List.getElem_mem hlt)
        rw [List.drop_eq_getElem_cons hlt] at ha
        simp only [sumT] at ha
        by_cases hk0 : k < 1
        · generalize ps[k] = p at e1 e2 hea ha
          obtain ⟨p1, p2⟩ := p
          simp only at e1 e2 hea ha
          have s5 : decide ((0 : Int) < (k : Int)) = false := decide_eq_false (by omega)
          have s5n : decide (0 < k) = false := decide_eq_false (by omega)
          have s8 : decide (p2 < p1) = false := decide_eq_false (by omega)
          go_upto_region 14 with fail
          go_quiet (fail)
          go_wp2_with fail
          go_roundw
          case rel => exact ⟨k + 1, a + (p2 - p1 + 1), by omega, by go_num, rfl, by omega, by omega, by omega, (HQ.out.alloc HQ.out.size _).drewN _⟩
          case measure => simp [intOf]; omega
        · obtain ⟨j, rfl⟩ : ∃ j, k = j + 1 := ⟨k - 1, by omega⟩
          have hjl : j < ps.length := by omega
          obtain ⟨pb', po', hA, g1, g2⟩ := HP4.out.pair hjl
          injection hA with hA
          injection hA with i9 j9
          subst i9 j9
          have hap := List.pairwise_iff_getElem.mp HAP.out j (j + 1) hjl hlt (by omega)
          have heb := HEA.out _ (List.getElem_mem hjl)
          generalize ps[j] = q at g1 g2 hap heb
          generalize ps[j + 1] = p at e1 e2 hea ha hap
          obtain ⟨p1, p2⟩ := p
          obtain ⟨q1, q2⟩ := q
          simp only at e1 e2 hea ha g1 g2 hap heb
          have s5 : decide ((0 : Int) < (j : Int) + 1) = true := decide_eq_true (by omega)
          have s8 : decide (p2 < p1) = false := decide_eq_false (by omega)
          have s9 : decide (p1 ≤ q2 + 1) = false := decide_eq_false (by omega)
          go_upto_region 14 with fail
          go_quiet (fail)
          go_wp2_with fail
          go_roundw
          case rel => exact ⟨j + 1 + 1, a + (p2 - p1 + 1), by omega, by go_num, rfl, by omega, by omega, by omega, (HQ.out.alloc HQ.out.size _).drewN _⟩
          case measure => simp [intOf]; omega
      · rw [List.drop_eq_nil_of_le (by omega)] at ha
        simp only [sumT, Int.add_zero] at ha
        subst ha
        have HB4 := hid (HB3.out.trans (HQ.out.mono HB3.out.size))
        have HX4 := hid (HX3.out.below HQ.out)
        have H1e := hid (H1d.out.below HQ.out)
        have c0 := box_cell HQ.out HC0.out
        have cl := box_cell HQ.out HCL.out
        have HTA : Hid (∀ m w1, Below wo.heap.size wo w1 → firstT xs ≤ m ∧ m ≤ lastT xs → Calls Try.prog 25 #[.slice (some ⟨b, off, none⟩) (xn + 1) vq, .int .i64 m] w1 fun e w' => ∃ N D : Int, e = .returned (.tuple #[.agg #[.int .i64 N, .int .i64 D], .int .i64 0]) ∧ ((-1000000000000 ≤ N ∧ N ≤ 1000000000000) ∧ 1 ≤ D ∧ D ≤ 1000) ∧ decide (N < lv * D) = lowB xs lv m ∧ Below w1.heap.size w1 w') := fun m w1 hb hm => by
          have h9 := specTideAt_ (some ⟨b, off, none⟩) xs vq m w1 (HX4.out.below hb) HTT.out hm
          rw [HXN.out] at h9
          refine h9.mono ?_
          rintro e w' ⟨N, D, g, he, hg, h1, h2, hb⟩
          obtain ⟨t1, t2⟩ := tb_num HTT.out hm
          exact ⟨N, D, he, frac_bound hg h1 h2 t1 t2, low_frac hg h1 h2, hb⟩
        have HNB : Hid (∀ st w1, Below wo.heap.size wo w1 → firstT xs ≤ st ∧ st ≤ lastT xs → Calls Try.prog 26 #[.slice (some ⟨b, off, none⟩) (xn + 1) vq, .int .i64 lv, .int .i64 st] w1 fun e w' => e = .returned (.tuple #[.int .i64 (nextT (lowB xs lv) st (lastT xs - st + 1).toNat).1, .int .i64 (nextT (lowB xs lv) st (lastT xs - st + 1).toNat).2]) ∧ Below w1.heap.size w1 w') := fun st w1 hb hst => by
          have h9 := nextBelow_ (some ⟨b, off, none⟩) xs vq lv st w1 (HX4.out.below hb) HTT.out (by omega) hst
          rwa [HXN.out] at h9
        rw [HXN.out]
        have hxn9 : xn ≤ 8 := by have := HXN.out; omega
        clear HX HX2 HX3 HX4 HTT HXN hx9 hx2 HB HB2 HB3 HC0 HCL
        generalize firstT xs = fa at *
        generalize lastT xs = za at *
        generalize lowB xs lv = low at *
        go_upto_region 19 with fail
        go_wp2_with (first | fail | (go_at_call 14; refine (a2At_ _ _ _ 1 (za - fa + 1) _ H1e.out hb1 (by omega) (by omega)).mono ?_; rintro e w' ⟨r, rfl, hr, rfl⟩; refine keep_ ?_))
        obtain ⟨st, hst⟩ : ∃ x, fa + r = x := ⟨_, rfl⟩
        have hstr : fa ≤ st ∧ st ≤ za := by omega
        have hnb := HNB.out st
        obtain ⟨R1, R2, hR⟩ : ∃ R1 R2, nextT low st (za - st + 1).toNat = (R1, R2) := ⟨_, _, rfl⟩
        rw [hR] at hnb
        have HNB2 := hid hnb
        have HNX0 : Hid (NxI low st za fa (-1) R1 R2) := .inl ⟨rfl, by rw [show max fa st = st by omega]; exact hR⟩
        clear hnb hR HNB
        refine go_ ?_
        go_wp2_with fail
        clear hst
        go_loopw [16, 17, 19] (fun c x i wr => ∃ (j : Nat) (nx : Int), (j : Int) ≤ za - fa + 1 ∧ i = .int .i64 (fa + j) ∧ c = .int .i64 (cntT low fa j) ∧ x = .int .i64 nx ∧ (-1 ≤ nx ∧ nx ≤ 1000) ∧ NxI low st za (fa + j) nx R1 R2 ∧ Below wo.heap.size wo wr) (fun _ _ i _ => (za + 1 - intOf i).toNat)
        case atStart => exact ⟨0, -1, by omega, val_int (by omega), rfl, rfl, by omega, by simpa using HNX0.out, Below.refl _ _⟩
        case round =>
          obtain ⟨j, nx, hj, rfl, rfl, rfl, hnx0, hnx, hq⟩ := hrel
          obtain ⟨wi, rfl⟩ : ∃ wi : World, wi = wr := ⟨_, rfl⟩
          have HQi := hid hq
          have HPi := hid (HP4.out.below hq)
          have HNX := hid hnx
          have hcj := cntT_range low fa j
          clear hq hnx
          by_cases hlt2 : fa + (j : Int) ≤ za
          · have hta := hid (HTA.out (fa + j) wi HQi.out (by omega))
            have hst2 := hid (nx_step (low := low) (st := st) (z := za) (m := fa + j) (by omega) hlt2 HNX.out)
            have hcs : cntT low fa (j + 1) = cntT low fa j + (if low (fa + j) = true then 1 else 0) := rfl
            have HCS := hid hcs
            have hin := hid (HIN.out (fa + j) (by omega) hlt2)
            clear hcs
            generalize cntT low fa j = cj at *
            obtain ⟨bl, hbl⟩ : ∃ x, low (fa + (j : Int)) = x := ⟨_, rfl⟩
            rw [hbl] at hta hin hst2 HCS
            clear hbl
            go_upto_region 25 with fail
            go_upto_region 26 with (go_at_call 25; refine hta.out.mono ?_; rintro e w5 ⟨N, D, rfl, ⟨hN, hD1, hD2⟩, hlow, hb⟩; have HLOW := hid hlow; have HB5 := hid hb; clear hlow hb)
            have q1 := mul_small (a := lv) (b := D) (A := 128) (B := 1000) (by omega) (by omega) (by omega) (by omega)
            have HP5 := hid ((HPi.out.below HB5.out).alloc (.cells #[.int .i64 N, .int .i64 D] 40))
            go_upto_region 29 with fail
            rw [HLOW.out]
            have HBE := hid ((HQi.out.trans (HB5.out.mono HQi.out.size)).alloc (Nat.le_trans HQi.out.size HB5.out.size) (.cells #[.int .i64 N, .int .i64 D] 40))
            clear HLOW q1
            go_wp2_with fail
            go_loop [23, 24] (fun u i => ∃ (k : Nat) (b3 : Bool), k ≤ ps.length ∧ i = .int .i64 k ∧ u = .bool b3 ∧ (b3 || inT (fa + (j : Int)) (ps.drop k)) = bl) (fun _ i => ps.length - (intOf i).toNat)
            case atStart => exact ⟨0, false, Nat.zero_le _, rfl, rfl, by simpa using hin.out⟩
            case round =>
              obtain ⟨k, b3, hk, rfl, rfl, hb3⟩ := hrel
              by_cases hlt3 : k < ps.length
              · obtain ⟨pb, po, rfl, e1, e2⟩ := HP5.out.pair hlt3
                rw [List.drop_eq_getElem_cons hlt3] at hb3
                simp only [inT] at hb3
                generalize ps[k] = p at e1 e2 hb3
                obtain ⟨p1, p2⟩ := p
                simp only at e1 e2 hb3
                have H3 := hid hb3
                clear hb3
                cases b3 with
                | true =>
                  go_wp2_with fail
                  go_round
                  case rel => exact ⟨k + 1, true, by omega, by go_num, rfl, by have := H3.out; simpa using this⟩
                  case measure => simp [intOf]; omega
                | false =>
                  by_cases h1 : p1 ≤ fa + (j : Int)
                  · by_cases h2 : fa + (j : Int) ≤ p2
                    · go_wp2_with fail
                      go_round
                      case rel => exact ⟨k + 1, true, by omega, by go_num, rfl, by have := H3.out; simpa [h1, h2] using this⟩
                      case measure => simp [intOf]; omega
                    · go_wp2_with fail
                      go_round
                      case rel => exact ⟨k + 1, false, by omega, by go_num, rfl, by have := H3.out; simpa [h1, h2] using this⟩
                      case measure => simp [intOf]; omega
                  · go_wp2_with fail
                    go_round
                    case rel => exact ⟨k + 1, false, by omega, by go_num, rfl, by have := H3.out; simpa [h1] using this⟩
                    case measure => simp [intOf]; omega
              · rw [List.drop_eq_nil_of_le (by omega)] at hb3
                simp only [inT, Bool.or_false] at hb3
                subst hb3
                clear hin HP5
                cases b3 with
                | false =>
                  go_wp2_with fail
                  go_roundw
                  case rel => exact ⟨j + 1, nx, by omega, val_int (by omega), val_int (by have := HCS.out; simp at this; omega), rfl, by omega, by have h8 := hst2.out; rw [if_neg (fun h => absurd h.1 (by decide))] at h8; rw [show fa + ((j + 1 : Nat) : Int) = fa + (j : Int) + 1 by omega]; exact h8, HBE.out⟩
                  case measure => simp [intOf]; omega
                | true =>
                  by_cases g1 : st ≤ fa + (j : Int)
                  · by_cases g2 : nx < 0
                    · go_wp2_with fail
                      go_roundw
                      case rel => exact ⟨j + 1, fa + j, by omega, val_int (by omega), val_int (by have := HCS.out; simp at this; omega), rfl, by omega, by have h8 := hst2.out; rw [if_pos ⟨rfl, g1, g2⟩] at h8; rw [show fa + ((j + 1 : Nat) : Int) = fa + (j : Int) + 1 by omega]; exact h8, HBE.out⟩
                      case measure => simp [intOf]; omega
                    · go_wp2_with fail
                      go_roundw
                      case rel => exact ⟨j + 1, nx, by omega, val_int (by omega), val_int (by have := HCS.out; simp at this; omega), rfl, by omega, by have h8 := hst2.out; rw [if_neg (fun h => g2 h.2.2)] at h8; rw [show fa + ((j + 1 : Nat) : Int) = fa + (j : Int) + 1 by omega]; exact h8, HBE.out⟩
                      case measure => simp [intOf]; omega
                  · go_wp2_with fail
                    go_roundw
                    case rel => exact ⟨j + 1, nx, by omega, val_int (by omega), val_int (by have := HCS.out; simp at this; omega), rfl, by omega, by have h8 := hst2.out; rw [if_neg (fun h => g1 h.2.1)] at h8; rw [show fa + ((j + 1 : Nat) : Int) = fa + (j : Int) + 1 by omega]; exact h8, HBE.out⟩
                    case measure => simp [intOf]; omega
          · have hje : (za - fa + 1).toNat = j := by omega
            have hfin := nx_end (low := low) (st := st) (z := za) hstr.2 (by rw [show za + 1 = fa + (j : Int) by omega]; exact HNX.out)
            have hcn := HCN.out
            rw [hje] at hcn
            clear HNX
            generalize cntT low fa j = cj at *
            subst hcn
            have hnbc := hid (HNB2.out wi HQi.out hstr)
            have HBi := hid (HB4.out.trans (HQi.out.mono HB4.out.size))
            rcases hfin with ⟨rfl, rfl⟩ | ⟨g1, g2, rfl⟩
            · go_wp2_with fail
              refine hnbc.out.mono ?_
              rintro e w9 ⟨rfl, hb⟩
              have HB9 := hid (HBi.out.trans (hb.mono HBi.out.size))
              clear hb
              go_wp2_with fail
              go_ret
              exact ⟨by first | rfl | exact ret_bool (by simp; omega), HB9.out⟩
            · subst g2
              go_wp2_with fail
              refine hnbc.out.mono ?_
              rintro e w9 ⟨rfl, hb⟩
              have HB9 := hid (HBi.out.trans (hb.mono HBi.out.size))
              clear hb
              go_wp2_with fail
              go_ret
              exact ⟨by first | rfl | exact ret_bool (by simp; omega), HB9.out⟩
set_option maxRecDepth 100000 in
theorem lifted (os : Os) (started : os.Started) (H : Type) (enc : TypeId × Value → H) :
    ReturnsInHanded {} Try.checked os 6 .any (Rows.fnTidesBelowSpec.pre6 enc Try.prog Try.f6 Rows.fnTidesBelowRow.domain false) (Rows.fnTidesBelowSpec.post enc Try.prog Try.f6 false true false false) := by
  refine returnsInHanded_of_change (C := Try.checked) ownLaw started (by kernel_rfl) Try.func6
    (ChangeSpec.witness6 (enc := enc) (C := Try.checked) false ⟨#[], #[.slice none 0 0, .slice none 0 0], []⟩ 8 (by kernel_rfl) (by kernel_rfl) (by kernel_rfl) (by kernel_rfl)) ?_
  intro W base args ds gs before hval0 hW _ _
  have hval : ∀ (j : Nat) t v, Try.f6.params[j]? = some t → args[j]? = some v → Value.okWide Try.prog W .any base t v := hval0
  have hW' := hW
  obtain ⟨p, q, hA0, hV, hbef, hfz, hnd⟩ := hW
  have hA : DataW.TrodAll enc Try.prog W 0 (fun _ => true) true Try.f6.params.toList args.toList ds p := hA0
  rw [Try.params6] at hA hval
  obtain ⟨v0, vs0, d0, ds0, p0, q0, hargs, rfl, hp0, h0, r0⟩ := trodAll_cons hA
  obtain ⟨v1, vs1, d1, ds1, p1, q1, rfl, rfl, hp1, h1, r1⟩ := trodAll_cons r0
  obtain ⟨rfl, rfl, hpl⟩ := trodAll_nil r1
  obtain rfl : args = #[v0, v1] := by cases args; simp_all
  obtain ⟨rfl, hq⟩ := trodVars_none hV
  obtain ⟨A0, n0, c0, rfl, x0⟩ := open_bytes Try.underlying22 Try.underlying5 (by kernel_rfl) (hval 0 _ v0 rfl rfl) h0
  obtain ⟨A1, n1, c1, rfl, x1⟩ := open_bytes Try.underlying22 Try.underlying5 (by kernel_rfl) (hval 1 _ v1 rfl rfl) h1
  refine (walk A0 n0 c0 x0 A1 n1 c1 x1).mono fun e W' ⟨he, hb⟩ => ?_
  subst he
  exact ⟨_, rfl, law_close laidLaw (by kernel_rfl) rfl rfl (by kernel_rfl) hW' rfl rfl rfl hb⟩

theorem over : Rows.fnTidesBelowRow.holds Try.pinned (OpenSpec.ofChange Rows.fnTidesBelowSpec) :=
  OpenClaim.holds_of_wide 6 Try.f6 rfl rfl rfl rfl rfl rfl rfl ⟨rfl, rfl, rfl, rfl, rfl⟩ rfl rfl rfl rfl rfl (by kernel_rfl) Try.func6 (by kernel_rfl)
    (of_decide_eq_true (by kernel_rfl)) (by unfold Func.isWrapper; first | (rw [if_pos (by decide +kernel)]; kernel_rfl) | (rw [if_neg (by decide +kernel)]; exact ⟨rfl, rfl⟩))
    (fun os started H enc _ => lifted os started H enc)

theorem proved : Rows.FnTidesBelowSaid := over
end Go.Proofs.Yteobejgkjjhfkaa.fnTidesBelow
