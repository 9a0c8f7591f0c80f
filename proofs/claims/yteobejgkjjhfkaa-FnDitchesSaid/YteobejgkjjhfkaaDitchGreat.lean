/- impl.Net.greatest: walked. -/
import Derived.Test.YteobejgkjjhfkaaDitchReach
import Derived.Test.YteobejgkjjhfkaaDitchPush
namespace Go.Proofs.Yteobejgkjjhfkaa
open Go.RowKit
set_option linter.unusedVariables false
set_option linter.unusedSimpArgs false
/-- make([]T, n), run. -/
theorem run_made {P : Program} {α : Type} [Enc α] {t e : TypeId} {z0 : α} (T : El P t e z0) (w : World) (base : Nat) (kl kc : IntKind) (n : Nat) (hn : n ≤ 1048576) (hb : base ≤ w.heap.size) :
    ∃ w', (Instr.makeSlice t (.int kl (n : Int)) (.int kc (n : Int))).run P w = .ok (.slice (some ⟨w.heap.size, 0, none⟩) n n) w' ∧ Own w' base e (.slice (some ⟨w.heap.size, 0, none⟩) n n) (List.replicate n z0) ∧ Below w.heap.size w w' := by
  obtain ⟨i, z, hi, hz, hsz, hby, hzc, hpos⟩ := T.ex
  obtain ⟨w', h1, h2, h3⟩ := run_make_full (P := P) (w := w) base t e i z (Enc.size α) T.und hi hz hsz kl kc n (Nat.le_trans (Nat.mul_le_mul hby hn) (by decide)) (by simp only [maxLen]; omega) hb
  refine ⟨w', h1, ?_, (Below.refl _ _).grown h3 (Nat.le_refl _) (by simp)⟩
  rw [hzc, flat_made z0 n hpos] at h2
  unfold Own
  rw [List.length_replicate]
  exact h2
theorem net_cap {J fr : Int} {ds : List Ditch} {fs : List Int} {t : Int} (hv : NetOk J ds) (hb : Bd ds fs) (hfr : 1 ≤ fr) (h : ∀ T : Int → Bool, T fr = true → T 0 = false → netT T ds fs = t) : t ≤ 20000 := by
  have h1 := h (hasB [fr]) (decide_eq_true (by simp)) (decide_eq_false (by simp; omega))
  have h2 := net_le (hasB [fr]) hb
  have h3 := (cutT_bd (hasB [fr]) hv.all ds.length (Nat.le_refl _)).2
  rw [List.take_length] at h3
  have := hv.len
  omega
theorem max_stop {fr : Int} {ds : List Ditch} {fs : List Int} {t : Int} {bl : List (Int × Int)} (hb : Bd ds fs) (h : ∀ T : Int → Bool, T fr = true → T 0 = false → netT T ds fs = t) (ht : Tree ds fs fr bl) (hd : Done ds fs bl bl.length 0) (h0 : hasI bl 0 = false) : MaxP ds fr fs t :=
  ⟨hb, h, _, decide_eq_true (List.mem_map.2 ⟨(fr, -1), List.mem_of_getElem? ht.first, rfl⟩), h0, hd.closed (Nat.le_refl _)⟩
theorem has_at {bl : List (Int × Int)} {v : Int} (h : hasI bl v = true) : ∃ (p : Nat) (k : Int), bl[p]? = some (v, k) := by
  obtain ⟨⟨x, k⟩, hm, rfl⟩ := List.mem_map.1 (of_decide_eq_true h)
  obtain ⟨p, hp, he⟩ := List.mem_iff_getElem.1 hm
  exact ⟨p, k, by rw [List.getElem?_eq_getElem hp, he]⟩
theorem side_len (bl : List (Int × Int)) (J : Int) : (sideL bl J).length ≤ J.toNat := whereTo_len _ _
theorem ind_one {T : Int → Bool} {j : Int} (h : T j = true) : indT T j = 1 := by unfold indT; rw [if_pos h]
theorem ind_nil {T : Int → Bool} {j : Int} (h : T j = false) : indT T j = 0 := by unfold indT; rw [h]; rfl
set_option maxRecDepth 100000 in
set_option maxHeartbeats 2000000 in
theorem implGreatest (J fr : Int) (A : Option Addr) (ds : List Ditch) (c : Nat) (w : World) (hx : Rd w A ds) (hv : NetOk J ds) (hfr : 1 ≤ fr ∧ fr ≤ J - 1) :
    Calls Try.prog 83 #[.agg #[.int .i64 J, .slice A ds.length c], .int .i64 fr] w fun e w' => ∃ (F : Option Addr) (q : Nat) (fs : List Int) (tot : Int),
      e = .returned (.tuple #[.slice F ds.length q, .int .i64 tot]) ∧ fs.length = ds.length ∧ Own w' w.heap.size 2 (.slice F ds.length q) fs ∧ MaxP ds fr fs tot ∧ Below w.heap.size w w' := by
  have hdl := hv.len
  obtain ⟨W1, hW1⟩ : ∃ x, w.alloc (.cells #[.int .i64 J, .slice A ds.length c] 61) = x := ⟨_, rfl⟩
  have hb1 : Below w.heap.size w W1 := by rw [← hW1]; exact (Below.refl w.heap.size w).alloc (Nat.le_refl _) _
  have hsz1 : W1.heap.size = w.heap.size + 1 := by rw [← hW1]; simp
  have n0 : W1.cell? ⟨w.heap.size, 0, none⟩ = some (.int .i64 J) := by rw [← hW1]; simp [go_sem]
  have n1 : W1.cell? ⟨w.heap.size, 1, none⟩ = some (.slice A ds.length c) := by rw [← hW1]; simp [go_sem]
  have HB1 := hid hb1
  have N0 := hid n0
  have N1 := hid n1
  have HX := hid (hx.below hb1)
  have HV := hid hv
  have HW := hid hW1
  have HZ1 := hid hsz1
  have HBZ := hid (bd_zero hv.all)
  clear hx hv hW1 hb1 hsz1
  go_enter Try.func83, Try.ntmps83
  go_upto_region 1 with fail
  rw [HW.out]
  clear HW
  go_wp2_with (first | fail | (at_make; refine wpList_make' elInt _ rfl _ _ rfl W1.heap.size .i64 .i64 _ _ ds.length rfl rfl rfl rfl (by omega) (Nat.le_refl _) ?_; intro wa hoa hba; refine keep_ ?_))
  have HOA := hid hoa
  have HBA := hid hba
  obtain ⟨g0, hg0⟩ : ∃ g, W1.heap.size = g := ⟨_, rfl⟩
  have HG0 := hid hg0
  rw [hg0] at HOA ⊢
  clear hoa hba hg0 n0 n1
  refine go_ ?_
  go_wp2_with fail
  go_loopw [7] (fun tv wr => ∃ (t : Nat) (fs : List Int), tv = .int .i64 t ∧ fs.length = ds.length ∧ Bd ds fs ∧ (∀ T : Int → Bool, T fr = true → T 0 = false → netT T ds fs = t) ∧ Own wr W1.heap.size 2 (.slice (some ⟨g0, 0, none⟩) ds.length ds.length) fs ∧ Below W1.heap.size W1 wr) (fun tv _ => 20001 - (intOf tv).toNat)
  case atStart => exact ⟨0, List.replicate ds.length 0, rfl, by simp, HBZ.out, fun T _ _ => net_zero T ds _, by rw [HG0.out]; exact HOA.out, HBA.out⟩
  case round =>
    obtain ⟨t, fs, rfl, hfl, hbd, hnet, ho, hb⟩ := hrel
    obtain ⟨wo, rfl⟩ : ∃ wo : World, wo = wr := ⟨_, rfl⟩
    have hcap := net_cap HV.out hbd hfr.1 hnet
    have m0 := box_cell hb N0.out
    have m1 := box_cell hb N1.out
    have hre := implReached J fr A (some ⟨g0, 0, none⟩) ds c fs ds.length wo (HX.out.below hb) (ho.rd (by omega)) HV.out hbd hfr
    have hlt := (ho.block g0 rfl).2
    rw [hfl] at hre
    have HRE := hid hre
    have HFL := hid hfl
    have HBD := hid hbd
    have HN := hid hnet
    have HO := hid ho
    have HB := hid hb
    clear hre hfl hbd hnet ho hb HBZ HOA HBA
    go_wp2_with (go_at_call 84; refine HRE.out.mono ?_; rintro e w2 ⟨S, sq, mb, bl, rfl, hso, hmp, hmb, ht, hd, hj, hb2⟩; refine keep_ ?_)
    have HMP := hid hmp
    have HT := hid ht
    have HD := hid hd
    have HJ := hid hj
    have HO2 := hid (HO.out.below hb2)
    have HB2 := hid (HB.out.trans (hb2.mono HB.out.size))
    have k0 := box_cell hb2 m0
    have k1 := box_cell hb2 m1
    have hmg : mb ≠ g0 := by omega
    have hmw : w.heap.size ≤ W1.heap.size := by have := HZ1.out; omega
    have hzi : inI 0 := by unfold inI; omega
    clear hmp ht hd hj hso HRE HB HO m0 m1 hb2
    generalize (sideL bl J).length = sl
    refine go_ ?_
    cases hh : hasI bl 0 with
    | false =>
      have HMX := hid (max_stop HBD.out HN.out HT.out HD.out hh)
      go_wp2_with (first | (at_lookup; refine wpList_lookOkI _ rfl _ _ rfl mb bl 0 rfl rfl HMP.out hzi ?_; rw [hh]; refine keep_ ?_) | fail)
      clear hh
      refine go_ ?_
      go_wp2_with fail
      go_ret2
      exact ⟨some ⟨g0, 0, none⟩, ds.length, fs, t, rfl, HFL.out, HO2.out.mono hmw, HMX.out, HB1.out.trans (HB2.out.mono hmw)⟩
    | true =>
      have hpu := implPush J fr A ds c mb g0 bl fs ds.length W1 w2 HX.out HV.out HB2.out HMP.out (by rw [HFL.out]; exact HO2.out) hmg HT.out HBD.out HJ.out (has_at hh)
      rw [HFL.out] at hpu
      have HPU := hid hpu
      clear hpu
      go_wp2_with (first | (at_lookup; refine wpList_lookOkI _ rfl _ _ rfl mb bl 0 rfl rfl HMP.out hzi ?_; rw [hh]; refine keep_ ?_) | fail)
      clear hh
      refine go_ ?_
      go_wp2_with (go_at_call 122; refine HPU.out.mono ?_; rintro e w3 ⟨rfl, gs, hgl, hgb, hgn, hgo, hgw⟩; refine keep_ ?_)
      have hnet2 : ∀ T : Int → Bool, T fr = true → T 0 = false → netT T ds gs = ((t + 1 : Nat) : Int) := fun T h1 h2 => by
        rw [hgn T, HN.out T h1 h2, ind_one h1, ind_nil h2]
        omega
      have hcap2 := net_cap HV.out hgb hfr.1 hnet2
      have HN2 := hid hnet2
      have HGL := hid hgl
      have HGB := hid hgb
      have HGO := hid hgo
      have HGW := hid hgw
      clear hnet2 hgl hgb hgn hgo hgw
      refine go_ ?_
      go_wp2_with fail
      go_roundw
      case rel => exact ⟨t + 1, gs, by go_num, HGL.out, HGB.out, HN2.out, HGO.out, HGW.out⟩
      case measure => simp [intOf]; omega
set_option maxRecDepth 100000 in
set_option maxHeartbeats 2000000 in
theorem implGreatestFlow (J fr : Int) (A : Option Addr) (ds : List Ditch) (c : Nat) (w : World) (hx : Rd w A ds) (hv : NetOk J ds) (hfr : 1 ≤ fr ∧ fr ≤ J - 1) :
    Calls Try.prog 31 #[.agg #[.int .i64 J, .slice A ds.length c], .int .i64 fr] w fun e w' => ∃ (fs : List Int) (tot : Int), e = .returned (.tuple #[.int .i64 tot, .int .i64 0]) ∧ MaxP ds fr fs tot ∧ Below w.heap.size w w' := by
  have HB0 := hid ((Below.refl w.heap.size w).alloc (Nat.le_refl _) (.cells #[.int .i64 J, .slice A ds.length c] 61))
  have c0 : (w.alloc (.cells #[.int .i64 J, .slice A ds.length c] 61)).cell? ⟨w.heap.size, 0, none⟩ = some (.int .i64 J) := by simp [go_sem]
  have c1 : (w.alloc (.cells #[.int .i64 J, .slice A ds.length c] 61)).cell? ⟨w.heap.size, 1, none⟩ = some (.slice A ds.length c) := by simp [go_sem]
  have C0 := hid c0
  have C1 := hid c1
  have HX := hid hx
  have HJ := hid hv.j
  have HV := hid (fun x hx => implValidNet J A ds c x hx hv)
  have HG := hid (fun x hx => implGreatest J fr A ds c x hx hv hfr)
  clear hx hv c0 c1
  go_enter Try.func31, Try.ntmps31
  go_wp2_with (go_at_call 81; refine (HV.out _ (HX.out.below HB0.out)).mono ?_; rintro e w1 ⟨rfl, hb⟩; refine keep_ ?_)
  have d0 := box_cell hb C0.out
  have d1 := box_cell hb C1.out
  have HB1 := hid (HB0.out.trans (hb.mono HB0.out.size))
  clear hb C0 C1
  refine go_ ?_
  go_wp2_with (go_at_call 82; refine (implInner J fr (.slice A ds.length c) _ HJ.out hfr).mono ?_; rintro e w2 ⟨rfl, hb⟩; refine keep_ ?_)
  have k0 := box_cell hb d0
  have k1 := box_cell hb d1
  have HB2 := hid (HB1.out.trans (hb.mono HB1.out.size))
  clear hb d0 d1
  refine go_ ?_
  go_wp2_with (go_at_call 83; refine (HG.out _ (HX.out.below HB2.out)).mono ?_; rintro e w3 ⟨F, fq, fs, tot, rfl, _, _, hm, hb⟩; have HB3 := hid (HB2.out.trans (hb.mono HB2.out.size)); have HM := hid hm; clear hb hm)
  go_ret2
  exact ⟨fs, tot, rfl, HM.out, HB3.out⟩
set_option maxRecDepth 100000 in
set_option maxHeartbeats 2000000 in
theorem implNarrow (J fr : Int) (A : Option Addr) (ds : List Ditch) (c : Nat) (w : World) (hx : Rd w A ds) (hv : NetOk J ds) (hfr : 1 ≤ fr ∧ fr ≤ J - 1) :
    Calls Try.prog 32 #[.agg #[.int .i64 J, .slice A ds.length c], .int .i64 fr] w fun e w' => ∃ (S : Option Addr) (q : Nat) (fs : List Int) (tot : Int) (bl : List (Int × Int)), e = .returned (.tuple #[.slice S (sideL bl J).length q, .int .i64 0]) ∧ Rd w' S (sideL bl J) ∧ MaxP ds fr fs tot ∧ Tree ds fs fr bl ∧ Done ds fs bl bl.length 0 ∧ InJ bl J ∧ Below w.heap.size w w' := by
  have HB0 := hid ((Below.refl w.heap.size w).alloc (Nat.le_refl _) (.cells #[.int .i64 J, .slice A ds.length c] 61))
  have c0 : (w.alloc (.cells #[.int .i64 J, .slice A ds.length c] 61)).cell? ⟨w.heap.size, 0, none⟩ = some (.int .i64 J) := by simp [go_sem]
  have c1 : (w.alloc (.cells #[.int .i64 J, .slice A ds.length c] 61)).cell? ⟨w.heap.size, 1, none⟩ = some (.slice A ds.length c) := by simp [go_sem]
  have C0 := hid c0
  have C1 := hid c1
  have hdl := hv.len
  have hJ := hv.j
  have HX := hid hx
  have HJ := hid hv.j
  have HVN := hid hv
  have HV := hid (fun x hx => implValidNet J A ds c x hx hv)
  have HG := hid (fun x hx => implGreatest J fr A ds c x hx hv hfr)
  clear hx hv c0 c1
  go_enter Try.func32, Try.ntmps32
  go_wp2_with (go_at_call 81; refine (HV.out _ (HX.out.below HB0.out)).mono ?_; rintro e w1 ⟨rfl, hb⟩; refine keep_ ?_)
  have d0 := box_cell hb C0.out
  have d1 := box_cell hb C1.out
  have HB1 := hid (HB0.out.trans (hb.mono HB0.out.size))
  clear hb C0 C1
  refine go_ ?_
  go_wp2_with (go_at_call 82; refine (implInner J fr (.slice A ds.length c) _ HJ.out hfr).mono ?_; rintro e w2 ⟨rfl, hb⟩; refine keep_ ?_)
  have k0 := box_cell hb d0
  have k1 := box_cell hb d1
  have HB2 := hid (HB1.out.trans (hb.mono HB1.out.size))
  clear hb d0 d1
  refine go_ ?_
  go_wp2_with (go_at_call 83; refine (HG.out _ (HX.out.below HB2.out)).mono ?_; rintro e w3 ⟨F, fq, fs, tot, rfl, hfl, hfo, hm, hb⟩; refine keep_ ?_)
  have j0 := box_cell hb k0
  have j1 := box_cell hb k1
  have HB3 := hid (HB2.out.trans (hb.mono HB2.out.size))
  have HM := hid hm
  have hre := implReached J fr A F ds c fs fq w3 (HX.out.below HB3.out) (hfo.rd (by omega)) HVN.out hm.1 hfr
  rw [hfl] at hre
  have HRE := hid hre
  clear hb hm k0 k1 hre hfo hfl
  refine go_ ?_
  go_wp2_with (go_at_call 84; refine HRE.out.mono ?_; rintro e w4 ⟨S, sq, mb, bl, rfl, hso, _, _, ht, hd, hj, hb⟩; refine keep_ ?_)
  have hlen : (sideL bl J).length ≤ 1048576 := by
    have := whereTo_len (fun k => hasB (bl.map Prod.fst) (k : Int)) J.toNat
    unfold sideL
    omega
  have HS := hid (hso.rd hlen)
  have HT := hid ht
  have HD := hid hd
  have HJN := hid hj
  have HB4 := hid (HB3.out.trans (hb.mono HB3.out.size))
  obtain ⟨R, hR⟩ : ∃ R, sideL bl J = R := ⟨_, rfl⟩
  have HR := hid hR
  rw [hR]
  clear hso ht hd hj hb hlen HRE hR
  refine go_ ?_
  go_wp2_with fail
  go_ret2
  have hr := HR.out
  subst hr
  exact ⟨S, sq, fs, tot, bl, rfl, HS.out, HM.out, HT.out, HD.out, HJN.out, HB4.out⟩
set_option maxRecDepth 100000 in
set_option maxHeartbeats 4000000 in
theorem implReachedFrom (J fr : Int) (A : Option Addr) (ds : List Ditch) (c : Nat) (w : World) (hx : Rd w A ds) (hv : NetOk J ds) (hfr : 1 ≤ fr ∧ fr ≤ J - 1) :
    Calls Try.prog 37 #[.agg #[.int .i64 J, .slice A ds.length c], .int .i64 fr] w fun e w' => ∃ (S : Option Addr) (q : Nat) (bl : List (Int × Int)), e = .returned (.tuple #[.slice S (sideL bl J).length q, .int .i64 0]) ∧ Rd w' S (sideL bl J) ∧ Tree ds (List.replicate ds.length 0) fr bl ∧ Done ds (List.replicate ds.length 0) bl bl.length 0 ∧ InJ bl J ∧ Below w.heap.size w w' := by
  have HB0 := hid ((Below.refl w.heap.size w).alloc (Nat.le_refl _) (.cells #[.int .i64 J, .slice A ds.length c] 61))
  have c0 : (w.alloc (.cells #[.int .i64 J, .slice A ds.length c] 61)).cell? ⟨w.heap.size, 0, none⟩ = some (.int .i64 J) := by simp [go_sem]
  have c1 : (w.alloc (.cells #[.int .i64 J, .slice A ds.length c] 61)).cell? ⟨w.heap.size, 1, none⟩ = some (.slice A ds.length c) := by simp [go_sem]
  have C0 := hid c0
  have C1 := hid c1
  have hdl := hv.len
  have hJ := hv.j
  have HX := hid hx
  have HJ := hid hv.j
  have HV := hid (fun x hx => implValidNet J A ds c x hx hv)
  have HBZ := hid (bd_zero hv.all)
  have HR : Hid (∀ (F : Option Addr) (q : Nat) (x : World), Rd x A ds → Rd x F (List.replicate ds.length (0 : Int)) → _) := fun F q x hx hf => implReached J fr A F ds c (List.replicate ds.length 0) q x hx hf hv HBZ.out hfr
  simp only [List.length_replicate] at HR
  clear hx hv c0 c1
  go_enter Try.func37, Try.ntmps37
  go_wp2_with (go_at_call 81; refine (HV.out _ (HX.out.below HB0.out)).mono ?_; rintro e w1 ⟨rfl, hb⟩; refine keep_ ?_)
  have d0 := box_cell hb C0.out
  have d1 := box_cell hb C1.out
  have HB1 := hid (HB0.out.trans (hb.mono HB0.out.size))
  clear hb C0 C1
  refine go_ ?_
  go_wp2_with (go_at_call 82; refine (implInner J fr (.slice A ds.length c) _ HJ.out hfr).mono ?_; rintro e w2 ⟨rfl, hb⟩; refine keep_ ?_)
  have k0 := box_cell hb d0
  have k1 := box_cell hb d1
  have HB2 := hid (HB1.out.trans (hb.mono HB1.out.size))
  have hle : w.heap.size ≤ w2.heap.size := HB2.out.size
  have HX2 := hid (HX.out.below HB2.out)
  have HBZ2 := hid HBZ.out
  clear hb d0 d1 HBZ
  refine go_ ?_
  go_wp2_with fail
  obtain ⟨wa, hmk, hoa, hba⟩ := run_made (P := Try.prog) elInt w2.drew w2.heap.size .i64 .i64 ds.length (by omega) (Nat.le_refl _)
  have hmk2 : (Instr.makeSlice 24 (.int .i64 (ds.length : Int)) (.int .i64 (ds.length : Int))).run Try.prog w2.drew = .ok (.slice (some ⟨w2.heap.size, 0, none⟩) ds.length ds.length) wa := hmk
  have hba2 := undrew hba
  have j0 := box_cell hba2 k0
  have j1 := box_cell hba2 k1
  have HRC := hid (HR.out (some ⟨w2.heap.size, 0, none⟩) ds.length wa (HX2.out.below hba2) (hoa.rd (by simp; omega)))
  have HBA := hid hba2
  clear hmk hoa hba hba2 HR
  generalize w2.heap.size = G at hmk2 HRC
  go_region_with (go_at_call 84; refine HRC.out.mono ?_; rintro e w4 ⟨S, sq, mb, bl, rfl, hso, _, _, ht, hd, hj, hb⟩; have HSO := hid hso; have HT := hid ht; have HD := hid hd; have HJN := hid hj; have HB4 := hid hb; clear hso ht hd hj hb)
  all_goals
    go_wp2_with fail
    go_ret2
    exact ⟨S, sq, bl, rfl, HSO.out.rd (Nat.le_trans (side_len bl J) (by omega)), HT.out, HD.out, HJN.out, HB2.out.trans ((HBA.out.trans (HB4.out.mono HBA.out.size)).mono hle)⟩
end Go.Proofs.Yteobejgkjjhfkaa
