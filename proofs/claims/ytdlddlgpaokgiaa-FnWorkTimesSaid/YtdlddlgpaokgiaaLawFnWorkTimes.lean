/- FnWorkTimes: the walk and the row. -/
import Derived.Test.YtdlddlgpaokgiaaWkFact
import Derived.Test.YtdlddlgpaokgiaaDelay
import Derived.Test.YtdlddlgpaokgiaaLateF
import Derived.Test.YtdlddlgpaokgiaaWorksEasy
import Derived.Test.YtdlddlgpaokgiaaCrit
import Derived.Test.YtdlddlgpaokgiaaBytes
import Derived.Deep.CutBlock
import Derived.Test.YtdlddlgpaokgiaaLaw
namespace Go.Proofs.Ytdlddlgpaokgiaa.fnWorkTimes
open Go.ChangeShapes Go.WideShapes Go.ChangeAt Go.RowKit
set_option linter.unusedVariables false
set_option linter.unusedSimpArgs false
theorem int_at {w : World} {b off : Nat} {xs : List Int} (h : Rd w (some ⟨b, off, none⟩) xs) {k : Nat} (hk : k < xs.length) : w.cell? ⟨b, off + k, none⟩ = some (.int .i64 xs[k]) := by
  obtain ⟨b', off', hA, hc⟩ := h.int hk
  injection hA with hA
  injection hA with h1 h2
  subst h1 h2
  exact hc
theorem days_at {w : World} {b off : Nat} {xs : List Task} (h : RdT w (some ⟨b, off, none⟩) xs) {k : Nat} (hk : k < xs.length) : w.cell? ⟨b, off + k * 4, none⟩ = some (.int .i64 xs[k].days) ∧ w.cell? ⟨b, off + k * 4 + 1, none⟩ = some (.int .i64 xs[k].cost) := by
  obtain ⟨b', off', P, q, hA, hc, hc2, _⟩ := h.at_ hk
  injection hA with hA
  injection hA with h1 h2
  subst h1 h2
  exact ⟨hc, hc2⟩
set_option maxRecDepth 100000 in
set_option maxHeartbeats 16000000 in
theorem walk {w : World} (A0 : Option Addr) (n0 c0 : Nat) (x0 : ArgB w A0 n0) (A1 : Option Addr) (n1 c1 : Nat) (x1 : ArgB w A1 n1) :
    Calls Try.prog 4 #[.slice A0 n0 c0, .slice A1 n1 c1] w fun e w' => e = .returned (.bool true) ∧ Below w.heap.size w w' := by
  cases hL : (decide (3000 < n0) || decide (3000 < n1)) with
  | true =>
    have HL := hid hL
    go_enter Try.func4, Try.ntmps4
    go_wp2_with fail
    refine (l2Long_ _ _ _ _ _ _ _).mono ?_
    rintro e w1 ⟨rfl, rfl⟩
    rw [HL.out]
    go_wp2_with fail
    go_ret
    exact ⟨rfl, Below.refl _ _⟩
  | false =>
    have HL := hid hL
    simp only [Bool.or_eq_false_iff, decide_eq_false_iff_not] at hL
    obtain ⟨bs0, rfl, h0, hb0⟩ := x0.rd (by omega)
    obtain ⟨bs1, rfl, h1, hb1⟩ := x1.rd (by omega)
    clear hL
    have H0 := hid h0
    have H1 := hid h1
    clear h0 h1
    go_enter Try.func4, Try.ntmps4
    go_wp2_with fail
    refine (l2Long_ _ _ _ _ _ _ _).mono ?_
    rintro e w1 ⟨rfl, rfl⟩
    rw [HL.out]
    go_wp2_with fail
    refine (specA2Tasks _ _ _ _ H0.out hb0).mono ?_
    rintro e w1 ⟨u, ts, t, rfl, ht, hd, h1t, hb⟩
    obtain ⟨V, vq, rfl⟩ := ht.form
    have h7 : t.length ≤ 7 := hd.1
    have HD := hid hd
    have HV := hid (drawn_valid hd)
    have HX := hid (ht.rdt (by omega) fun x hx => by obtain ⟨k, hk, rfl⟩ := List.getElem_of_mem hx; have := (hd.2 k hk).n; omega)
    have HB := hid hb
    have H1b := hid (H1.out.below hb)
    clear ht hd hb H0 H1
    go_wp2_with fail
    refine (implEarliest _ t _ ⟨V, vq, rfl, HX.out⟩).mono ?_
    rintro e w2 ⟨u, rfl, ho, hb⟩
    rw [codeV_ok HV.out]
    obtain ⟨E, eq, rfl⟩ := ho.form
    have HE := hid (ho.rd (earlyF_len t))
    have HX2 := hid (HX.out.below hb)
    have HB2 := hid (HB.out.trans (hb.mono HB.out.size))
    have H1c := hid (H1b.out.below hb)
    rw [earlyF_n HV.out]
    clear ho hb HX HB H1b
    go_wp2_with fail
    refine (implLatestStarts _ t _ ⟨V, vq, rfl, HX2.out⟩).mono ?_
    rintro e w3 ⟨u, rfl, ho, hb⟩
    rw [codeV_ok HV.out]
    obtain ⟨F, fq, rfl⟩ := ho.form
    have HF := hid (ho.rd (lateF_len t))
    have HE3 := hid (HE.out.below hb)
    have HX3 := hid (HX2.out.below hb)
    have HB3 := hid (HB2.out.trans (hb.mono HB2.out.size))
    have H1d := hid (H1c.out.below hb)
    rw [lateF_n HV.out]
    clear ho hb HX2 HB2 H1c HE
    go_wp2_with fail
    refine (implProjectDays _ t _ ⟨V, vq, rfl, HX3.out⟩).mono ?_
    rintro e w4 ⟨rfl, hb⟩
    rw [projF_ok HV.out]
    have HF4 := hid (HF.out.below hb)
    have HE4 := hid (HE3.out.below hb)
    have HX4 := hid (HX3.out.below hb)
    have HB4 := hid (HB3.out.trans (hb.mono HB3.out.size))
    have H1e := hid (H1d.out.below hb)
    clear hb HX3 HB3 H1d HE3 HF
    go_wp2_with fail
    refine (implCritical _ t _ ⟨V, vq, rfl, HX4.out⟩).mono ?_
    rintro e w5 ⟨u, rfl, ho, hb⟩
    rw [codeV_ok HV.out]
    obtain ⟨C, cq, rfl⟩ := ho.form
    have HC := hid (ho.rd (critF_len t))
    have HF5 := hid (HF4.out.below hb)
    have HE5 := hid (HE4.out.below hb)
    have HX5 := hid (HX4.out.below hb)
    have HB5 := hid (HB4.out.trans (hb.mono HB4.out.size))
    have H1f := hid (H1e.out.below hb)
    have HU := hid (crit_upTo HV.out)
    have hcn := crit_ne HV.out h1t
    have HHAS := hid (fun k (hk : k < t.length) => crit_has HV.out hk)
    have hcm := HC.out.len
    clear ho hb HX4 HB4 H1e HE4 HF4
    generalize critF t = cl at HC HU hcn HHAS hcm ⊢
    have hc0 : ((cl.length : Int) == 0) = false := by rw [beq_eq_false_iff_ne]; omega
    obtain ⟨T, hT⟩ : ∃ T, totOf t = T := ⟨_, rfl⟩
    rw [hT]
    have HT := hid hT
    clear hT
    go_wp2_with (go_at_call 21; refine (l2Rises_ C cl cq _ _ HC.out HU.out (by omega)).mono ?_; rintro e w6 ⟨rfl, hb⟩; have HC6 := hid (HC.out.below hb); have HF6 := hid (HF5.out.below hb); have HE6 := hid (HE5.out.below hb); have HX6 := hid (HX5.out.below hb); have HB6 := hid (HB5.out.trans (hb.mono HB5.out.size)); have H1g := hid (H1f.out.below hb); clear hb HX5 HB5 H1f HE5 HF5 HC; refine keep_ ?_)
    refine go_ ?_
    go_wp2_with fail
    go_loopw [14, 15] (fun e i wr => ∃ k : Nat, k ≤ t.length ∧ i = .int .i64 k ∧ e = .int .i64 (totTo t k) ∧ Below w6.heap.size w6 wr) (fun _ i _ => t.length - (intOf i).toNat)
    case atStart => exact ⟨0, Nat.zero_le _, rfl, rfl, Below.refl _ _⟩
    case round =>
      obtain ⟨k, hk, rfl, rfl, hb⟩ := hrel
      obtain ⟨wo, rfl⟩ : ∃ wo : World, wo = wr := ⟨_, rfl⟩
      have HQ := hid hb
      have HXo := hid (HX6.out.below hb)
      have HEo := hid (HE6.out.below hb)
      have HFo := hid (HF6.out.below hb)
      have HCo := hid (HC6.out.below hb)
      clear hb
      by_cases hlt : k < t.length
      · have hask := ask HD.out hlt
        have HASK := hid hask
        obtain ⟨b, off, P, q, rfl, t0, t1, t2, t3, hP⟩ := HXo.out.at_ hlt
        obtain ⟨eb, eo, rfl, ce⟩ := HEo.out.int (k := k) (by rw [earlyF_n HV.out]; exact hlt)
        obtain ⟨fb, fo, rfl, cf⟩ := HFo.out.int (k := k) (by rw [lateF_n HV.out]; exact hlt)
        rw [earlyF_at HV.out] at ce
        rw [lateF_at HV.out] at cf
        have HTN := hid (totTo_next hlt)
        have hhas := HHAS.out k hlt
        have HAK := hid (fun j (hj : j < t[k].after.length) => ask2 HD.out hlt hj)
        have HP := hid hP
        have hpl := hP.len
        have htb : 0 ≤ totTo t k ∧ totTo t k ≤ 140 := by
          have h1 := (tot_to (eok_valid HV.out) (k := k) (by omega)).1
          have h2 := (tot_to (eok_valid HV.out) (k := k) (by omega)).2.2 (totOf t) (tot_char (eok_valid HV.out)).1 fun j hj => (tot_char (eok_valid HV.out)).2.1 j (by omega)
          exact ⟨h1, by have := hask.2.2.2; unfold totTo; omega⟩
        rw [HT.out] at hask
        have hTb : totOf t ≤ 140 := HASK.out.2.2.2
        rw [HT.out] at hTb
        generalize hek : eAt t k = ek at hask ce hhas HTN
        generalize hlk : lAt t k = lk at hask cf hhas
        generalize hdk : t[k].days = dk at hask t0 HTN
        generalize totTo t k = tk at HTN htb
        obtain ⟨bq, hbq⟩ : ∃ bq, hasB cl (k : Int) = bq := ⟨_, rfl⟩
        rw [hbq] at hhas
        have HHC : Hid (∀ x : World, Below wo.heap.size wo x → Calls Try.prog 22 #[.slice C cl.length cq, .int .i64 k] x fun e w' => e = .returned (.bool bq) ∧ x = w') := fun x hx => by
          have := l2Has_ C cl cq (k : Int) x (HCo.out.below hx)
          rw [hbq] at this
          exact this
        have d1 : decide (ek < 0) = false := decide_eq_false (by omega)
        have d2 : decide (lk < ek) = false := decide_eq_false (by omega)
        have d3 : decide (T < lk + dk) = false := decide_eq_false (by omega)
        have d4 : (lk == ek) = bq := by rw [hhas, Bool.eq_iff_iff]; simp only [beq_iff_eq]; exact eq_comm
        have e1 : IntKind.i64.wrap (lk + dk) = lk + dk := IntWalk.i64_in _ (by omega)
        have e2 : IntKind.i64.wrap (ek + dk) = ek + dk := IntWalk.i64_in _ (by omega)
        clear hek hlk hdk hhas hP hbq HASK
        go_wp2_with fail
        refine wp_region_more (by kernel_rfl) (by kernel_rfl) ?_
        repeat (go_big_quiet_step ((go_at_call 22; exact quiet_same (HHC.out _ more_below))))
        refine wpQuiet_nil ?_
        rintro _ ⟨mq, rfl⟩
        go_wp2_with fail
        go_quiet (fail)
        rw [max_if, ← HTN.out]
        have hbx : Below wo.heap.size wo ((wo.more mq).drewN nq) := more_below.drewN _
        generalize (wo.more mq).drewN nq = wx at hbx ⊢
        have t3x := box_cell hbx t3
        have HPx := hid (HP.out.below hbx)
        have HXx := hid (HXo.out.below hbx)
        have HEx := hid (HEo.out.below hbx)
        have HFx := hid (HFo.out.below hbx)
        have HBx := hid (HQ.out.trans (hbx.mono HQ.out.size))
        have HEK := hid (show eAt t k = eAt t k from rfl)
        clear d1 d2 d3 d4 e1 e2 ce cf t0 t1 t2 t3 hbx HXo HEo HFo HCo HHC HP HQ
        go_wp2_with fail
        go_loopw [16] (fun j wi => ∃ m : Nat, m ≤ t[k].after.length ∧ j = .int .i64 m ∧ Below wx.heap.size wx wi) (fun j _ => t[k].after.length - (intOf j).toNat)
        case atStart => exact ⟨0, Nat.zero_le _, rfl, Below.refl _ _⟩
        case round =>
          obtain ⟨m, hm, rfl, hb⟩ := hrel
          obtain ⟨wi, rfl⟩ : ∃ wi : World, wi = wr := ⟨_, rfl⟩
          have HQi := hid hb
          have t3i := box_cell hb t3x
          by_cases hlm : m < t[k].after.length
          · obtain ⟨a, hat, hak, hav, i1, i2⟩ := HAK.out m hlm
            obtain ⟨pb, po, rfl, ca⟩ := (HPx.out.below hb).int hlm
            rw [hav] at ca
            have ce := int_at (HEx.out.below hb) (k := k) (by rw [earlyF_n HV.out]; exact hlt)
            have cf := int_at (HFx.out.below hb) (k := k) (by rw [lateF_n HV.out]; exact hlt)
            have de := int_at (HEx.out.below hb) (k := a) (by rw [earlyF_n HV.out]; exact hat)
            have df := int_at (HFx.out.below hb) (k := a) (by rw [lateF_n HV.out]; exact hat)
            have dd := (days_at (HXx.out.below hb) hat).1
            rw [earlyF_at HV.out] at ce de
            rw [lateF_at HV.out] at cf df
            have ha2 := ask HD.out hat
            have ha3 := ask HD.out hlt
            rw [HT.out] at ha2 ha3
            generalize eAt t a = ea at de ha2 i1
            generalize lAt t a = la at df ha2 i2
            generalize t[a].days = da at dd ha2 i1 i2
            generalize lAt t k = lk at cf ha3 i2
            generalize eAt t k = ek at ce ha3 i1
            have d1 : decide (ek < ea + da) = false := decide_eq_false (by omega)
            have d2 : decide (lk < la + da) = false := decide_eq_false (by omega)
            have e1 : IntKind.i64.wrap (la + da) = la + da := IntWalk.i64_in _ (by omega)
            have e2 : IntKind.i64.wrap (ea + da) = ea + da := IntWalk.i64_in _ (by omega)
            clear hb hav t3x HPx
            go_wp2_with fail
            go_quiet (fail)
            go_wp2_with fail
            go_roundw
            case rel => exact ⟨m + 1, by omega, by go_num, HQi.out.drewN _⟩
            case measure => simp [intOf]; omega
          · clear hb t3x HPx
            go_wp2_with fail
            go_roundw
            case rel => exact ⟨k + 1, by omega, by go_num, rfl, HBx.out.trans (HQi.out.mono HBx.out.size)⟩
            case measure => simp [intOf]; omega
      · have hkt : k = t.length := by omega
        have HKT := hid hkt
        clear hkt
        go_wp2_with fail
        refine (l2At_ A1 bs1 c1 0 (t.length : Int) _ (H1g.out.below HQ.out) hb1 (by omega) (by omega)).mono ?_
        rintro e w' ⟨r, rfl, hr, rfl⟩
        obtain ⟨k2, rfl⟩ : ∃ k2 : Nat, r = (k2 : Int) := ⟨r.toNat, by omega⟩
        have hk2 : k2 < t.length := by omega
        have ha3 := ask HD.out hk2
        rw [HT.out] at ha3
        obtain ⟨eb, eo, rfl, ce⟩ := HEo.out.int (k := k2) (by rw [earlyF_n HV.out]; exact hk2)
        obtain ⟨fb, fo, rfl, cf⟩ := HFo.out.int (k := k2) (by rw [lateF_n HV.out]; exact hk2)
        rw [earlyF_at HV.out] at ce
        rw [lateF_at HV.out] at cf
        have HDA : Hid (∀ x, Calls Try.prog 24 #[.slice V t.length vq, .int .i64 k2, .int .i64 (lAt t k2 - eAt t k2)] (wo.more x) fun e w' => e = .returned (.tuple #[.int .i64 T, .int .i64 0]) ∧ Below (wo.more x).heap.size (wo.more x) w') := fun x => by
          have := implDelay (.slice V t.length vq) t (k2 : Int) (lAt t k2 - eAt t k2) (wo.more x) ⟨V, vq, rfl, HXo.out.more⟩ (by omega) (by omega)
          rw [delay_a HD.out hk2, HT.out] at this
          exact this
        have HDB : Hid (∀ x, Below wo.heap.size wo x → Calls Try.prog 24 #[.slice V t.length vq, .int .i64 k2, .int .i64 (lAt t k2 - eAt t k2 + 1)] x fun e w' => e = .returned (.tuple #[.int .i64 (T + 1), .int .i64 0]) ∧ Below x.heap.size x w') := fun x hx => by
          have := implDelay (.slice V t.length vq) t (k2 : Int) (lAt t k2 - eAt t k2 + 1) x ⟨V, vq, rfl, HXo.out.below hx⟩ (by omega) (by omega)
          rw [delay_b HD.out hk2, HT.out] at this
          exact this
        have HCU : Hid (∀ x, Below wo.heap.size wo x → Calls Try.prog 25 #[.slice V t.length vq, .int .i64 T] x fun e w' => e = .returned (.tuple #[.int .i64 (costTo t t.length), .int .i64 0]) ∧ Below x.heap.size x w') := fun x hx => by
          have := implCostUntil (.slice V t.length vq) t (totOf t) x ⟨V, vq, rfl, HXo.out.below hx⟩
          rw [cost_a HD.out, HT.out] at this
          exact this
        have htk : totTo t k = T := by rw [HKT.out]; exact HT.out
        rw [htk]
        generalize lAt t k2 = lk at cf ha3 HDA HDB
        generalize eAt t k2 = ek at ce ha3 HDA HDB
        have e1 : IntKind.i64.wrap (lk - ek) = lk - ek := IntWalk.i64_in _ (by omega)
        have e2 : IntKind.i64.wrap (lk - ek + 1) = lk - ek + 1 := IntWalk.i64_in _ (by omega)
        clear htk
        go_wp2_with fail
        refine wp_region_more (by kernel_rfl) (by kernel_rfl) ?_
        repeat (go_big_quiet_step ((go_at_call 24; exact quiet_below (HDA.out _))))
        refine wpQuiet_nil ?_
        rintro _ ⟨mq, rfl⟩
        have hbx : Below wo.heap.size wo (wo.more mq) := more_below
        generalize wo.more mq = wx at hbx ⊢
        have HBX := hid hbx
        have cex := box_cell hbx ce
        have cfx := box_cell hbx cf
        clear ce cf hbx HDA
        go_wp2_with fail
        refine wp_region_more (by kernel_rfl) (by kernel_rfl) ?_
        repeat (go_big_quiet_step ((go_at_call 24; exact quiet_below (HDB.out _ (below_go HBX.out HBX.out.size)))))
        refine wpQuiet_nil ?_
        rintro _ ⟨mq2, rfl⟩
        have hby : Below wo.heap.size wo (wx.more mq2) := below_go HBX.out HBX.out.size
        generalize wx.more mq2 = wy at hby ⊢
        have HBY := hid hby
        clear hby cex cfx e1 e2 HDB
        go_wp2_with fail
        refine (HCU.out _ HBY.out).mono ?_
        rintro e wz ⟨rfl, hb⟩
        have HBZ := hid (HBY.out.trans (hb.mono HBY.out.size))
        have hcb := costTo_bound HV.out (Nat.le_refl t.length)
        clear hb HCU
        generalize hct : costTo t t.length = ct at hcb ⊢
        have HCT := hid hct
        clear hct
        go_wp2_with fail
        go_loopw [25, 26] (fun s i wi => ∃ m : Nat, m ≤ t.length ∧ i = .int .i64 m ∧ s = .int .i64 (costTo t m) ∧ wi = wz) (fun _ i _ => t.length - (intOf i).toNat)
        case atStart => exact ⟨0, Nat.zero_le _, rfl, rfl, rfl⟩
        case round =>
          obtain ⟨m, hm, rfl, rfl, rfl⟩ := hrel
          by_cases hlm : m < t.length
          · obtain ⟨b, off, P, q, hA, t0, t1, _, _, _⟩ := (HXo.out.below HBZ.out).at_ hlm
            subst hA
            have hcm2 := costTo_bound HV.out hm
            have HCN := hid (costTo_next HV.out hlm)
            have hcst := (ask HD.out hlm).2.2.1
            generalize t[m].cost = cm at t1 HCN hcst
            generalize costTo t m = c0 at hcm2 HCN
            clear t0
            go_wp2_with fail
            go_roundw
            case rel => exact ⟨m + 1, by omega, by go_num, by rw [HCN.out], trivial⟩
            case measure => simp [intOf]; omega
          · have hmt : m = t.length := by omega
            rw [hmt, HCT.out]
            have HMT := hid hmt
            clear hmt
            go_wp2_with fail
            go_ret
            exact ⟨rfl, HB6.out.trans ((HQ.out.trans (HBZ.out.mono HQ.out.size)).mono HB6.out.size)⟩
set_option maxRecDepth 100000 in
theorem lifted (os : Os) (started : os.Started) (H : Type) (enc : TypeId × Value → H) :
    ReturnsInHanded {} Try.checked os 4 .any (Rows.fnWorkTimesSpec.pre6 enc Try.prog Try.f4 Rows.fnWorkTimesRow.domain false) (Rows.fnWorkTimesSpec.post enc Try.prog Try.f4 false true false false) := by
  refine returnsInHanded_of_change (C := Try.checked) ownLaw started (by kernel_rfl) Try.func4
    (ChangeSpec.witness6 (enc := enc) (C := Try.checked) false ⟨#[], #[.slice none 0 0, .slice none 0 0], []⟩ 8 (by kernel_rfl) (by kernel_rfl) (by kernel_rfl) (by kernel_rfl)) ?_
  intro W base args ds gs before hval0 hW _ _
  have hval : ∀ (j : Nat) t v, Try.f4.params[j]? = some t → args[j]? = some v → Value.okWide Try.prog W .any base t v := hval0
  have hW' := hW
  obtain ⟨p, q, hA0, hV, hbef, hfz, hnd⟩ := hW
  have hA : DataW.TrodAll enc Try.prog W 0 (fun _ => true) true Try.f4.params.toList args.toList ds p := hA0
  rw [Try.params4] at hA hval
  obtain ⟨v0, vs0, d0, ds0, p0, q0, hargs, rfl, hp0, h0, r0⟩ := trodAll_cons hA
  obtain ⟨v1, vs1, d1, ds1, p1, q1, rfl, rfl, hp1, h1, r1⟩ := trodAll_cons r0
  obtain ⟨rfl, rfl, hpl⟩ := trodAll_nil r1
  obtain rfl : args = #[v0, v1] := by cases args; simp_all
  obtain ⟨rfl, hq⟩ := trodVars_none hV
  obtain ⟨A0, n0, c0, rfl, x0⟩ := open_bytes Try.underlying35 Try.underlying5 (by kernel_rfl) (hval 0 _ v0 rfl rfl) h0
  obtain ⟨A1, n1, c1, rfl, x1⟩ := open_bytes Try.underlying35 Try.underlying5 (by kernel_rfl) (hval 1 _ v1 rfl rfl) h1
  refine (walk A0 n0 c0 x0 A1 n1 c1 x1).mono fun e W' ⟨he, hb⟩ => ?_
  subst he
  exact ⟨_, rfl, law_close laidLaw (by kernel_rfl) rfl rfl (by kernel_rfl) hW' rfl rfl rfl hb⟩

theorem over : Rows.fnWorkTimesRow.holds Try.pinned (OpenSpec.ofChange Rows.fnWorkTimesSpec) :=
  OpenClaim.holds_of_wide 4 Try.f4 rfl rfl rfl rfl rfl rfl rfl ⟨rfl, rfl, rfl, rfl, rfl⟩ rfl rfl rfl rfl rfl (by kernel_rfl) Try.func4 (by kernel_rfl)
    (of_decide_eq_true (by kernel_rfl)) (by unfold Func.isWrapper; first | (rw [if_pos (by decide +kernel)]; kernel_rfl) | (rw [if_neg (by decide +kernel)]; exact ⟨rfl, rfl⟩))
    (fun os started H enc _ => lifted os started H enc)

theorem proved : Rows.FnWorkTimesSaid := over
end Go.Proofs.Ytdlddlgpaokgiaa.fnWorkTimes
