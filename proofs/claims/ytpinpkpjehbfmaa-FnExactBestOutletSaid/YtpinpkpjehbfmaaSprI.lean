/- Surfaces: the other program walked. -/
import Derived.Test.YtpinpkpjehbfmaaSpreadI
namespace Go.Proofs.Ytpinpkpjehbfmaa
open Go.RowKit
set_option linter.unusedVariables false

theorem from_order (t : Land) : ∀ (cs : List Int) (s : Sp), (cs.foldl (spFrom t) s).order = s.order
  | [], _ => rfl
  | c :: cs, s => by rw [List.foldl_cons, from_order t cs]; rfl
theorem SpI.order0 {W0 : World} {gS gD gO base N : Nat} {wr : World} {s : Sp} {u : Value} (h : SpI W0 gS gD gO base N wr s u) (he : s.order = []) :
    SpI W0 gS gD gO base N (wr.alloc (.cells #[] 2)) s (.slice (some ⟨wr.heap.size, 0, none⟩) 0 0) := by
  have h9 := h.step ((Below.refl _ _).alloc (Nat.le_refl _) (.cells #[] 2))
  refine ⟨h9.below, h.o0, h.o1, h.o2, h.o3, h9.hS, h9.hD, h9.hK, ?_, h9.sz⟩
  rw [he]
  exact Own.empty h.sz
set_option maxRecDepth 100000 in
set_option maxHeartbeats 16000000 in
theorem implSpread (v : Value) (t : Land) (ht : LOk t) (A1 : Option Addr) (cs : List Int) (c1 : Nat) (w : World) (h : RdLand w v t) (hx : Rd w A1 cs) (hc : ∀ c ∈ cs, 0 ≤ c ∧ c < t.heights.length) :
    Calls Try.prog 61 #[v, .slice A1 cs.length c1] w fun e w' => ∃ u v, e = .returned (.tuple #[u, v]) ∧ Own w' w.heap.size 2 u (surf t cs).out ∧ Own w' w.heap.size 2 v (surf t cs).order ∧ Below w.heap.size w w' := by
  obtain ⟨A, q, rfl, hA⟩ := h
  have hle := ht.le
  have hxl := hx.len
  have hn20 : t.heights.length ≤ 1048576 := by omega
  obtain ⟨w0, hw0⟩ : ∃ x, w.alloc (.cells #[.int .i64 t.rows, .int .i64 t.columns, .slice A t.heights.length q] 28) = x := ⟨_, rfl⟩
  have hbw0 : Below w.heap.size w w0 := by rw [← hw0]; exact (Below.refl _ _).alloc (Nat.le_refl _) _
  have kR : w0.cell? ⟨w.heap.size, 0, none⟩ = some (.int .i64 t.rows) := by rw [← hw0]; simp [go_sem]
  have kC : w0.cell? ⟨w.heap.size, 1, none⟩ = some (.int .i64 t.columns) := by rw [← hw0]; simp [go_sem]
  have kH : w0.cell? ⟨w.heap.size, 2, none⟩ = some (.slice A t.heights.length q) := by rw [← hw0]; simp [go_sem]
  have HA0 := hid (hA.below hbw0)
  have HBW := hid hbw0
  have HW := hid hw0
  have HPT : Hid (RdLand w0 (.agg #[.int .i64 t.rows, .int .i64 t.columns, .slice A t.heights.length q]) t) := ⟨A, q, rfl, HA0.out⟩
  have HX := hid (hx.below hbw0)
  have HST : ∀ k, Hid (SInv t ((cs.take k).foldl (spFrom t) (spInit t)) ∧ ∀ x, seenAt ((cs.take k).foldl (spFrom t) (spInit t)).done x = false) := fun k => start_inv ht (cs.take k) (spInit_inv t) (fun x => seen_rep0 _ _) (fun c h => hc c (List.mem_of_mem_take h))
  have HC := hid hc
  obtain ⟨F, hF⟩ : ∃ F, surf t cs = F := ⟨_, rfl⟩
  rw [hF]
  have HF : Hid (spread t (t.heights.length + 1) (cs.foldl (spFrom t) (spInit t)) = F) := hF
  clear hx hA hc hF hbw0 hw0
  have hmm := @run_makeMap Try.prog
  go_enter Try.func61, Try.ntmps61
  go_upto_region 1 with fail
  rw [HW.out]
  clear HW
  go_wp2_with (first | fail | (at_make; refine wpList_make' elInt _ rfl _ _ rfl w0.heap.size .i64 .i64 _ _ t.heights.length rfl rfl rfl rfl hn20 (Nat.le_refl _) ?_; intro wa hoa hba; refine keep_ ?_))
  have kHa := box_cell hba kH
  have HOA := hid hoa
  have HBA := hid hba
  clear hoa hba
  refine go_ ?_
  go_upto_region 3 with fail
  clear hmm
  obtain ⟨wz, hwz⟩ : ∃ x, (wa.alloc (.map #[] 0)).alloc (.map #[] 0) = x := ⟨_, rfl⟩
  have hz : Below wa.heap.size wa wz := by rw [← hwz]; exact ((Below.refl _ _).alloc (Nat.le_refl _) _).alloc (by simp) _
  have m1 : MpB wz wa.heap.size [] := by rw [← hwz]; exact (MpB.made wa).below ((Below.refl _ _).alloc (Nat.le_refl _) _)
  have m2 : MpB wz (wa.heap.size + 1) [] := by
    rw [← hwz]
    have h9 := MpB.made (wa.alloc (.map #[] 0))
    rw [size_alloc_new] at h9
    exact h9
  have hzs : wa.heap.size + 2 ≤ wz.heap.size := by rw [← hwz]; simp
  have HS0 := hid (SpI.start (o := .map #[] 0) HOA.out HBA.out (t := t) rfl hz m1 m2 (Nat.lt_succ_self _) hzs (Own.nil _ _ _))
  rw [hwz]
  clear hwz hz m1 m2 hzs kHa
  go_wp2_with fail
  go_loopw [26] (fun i wr => ∃ k : Nat, k ≤ cs.length ∧ i = .int .i64 k ∧ SpI w0 w0.heap.size wa.heap.size (wa.heap.size + 1) (wa.heap.size + 1 + 1) t.heights.length wr ((cs.take k).foldl (spFrom t) (spInit t)) (.slice none 0 0)) (fun i _ => cs.length - (intOf i).toNat)
  case atStart => exact ⟨0, Nat.zero_le _, rfl, HS0.out⟩
  case round =>
    obtain ⟨k, hk, rfl, hp⟩ := hrel
    obtain ⟨wo, rfl⟩ : ∃ wo : World, wo = wr := ⟨_, rfl⟩
    by_cases hlt : k < cs.length
    · obtain ⟨b1, o1, hA1, x1⟩ := (HX.out.below hp.below).int hlt
      subst hA1
      have hcr := HC.out _ (List.getElem_mem hlt)
      have hft := from_take (t := t) (s := spInit t) hlt
      obtain ⟨hsi, hdn⟩ := (HST k).out
      generalize (cs.take k).foldl (spFrom t) (spInit t) = s at hp hft hsi hdn
      obtain ⟨c, hcc⟩ : ∃ c, cs[k] = c := ⟨_, rfl⟩
      rw [hcc] at x1 hcr hft
      have hcn : c.toNat < t.heights.length := by omega
      have hck : c < s.known.length := by rw [hsi.lk]; exact hcr.2
      have hco : c.toNat < s.out.length := by rw [hsi.lo]; exact hcn
      obtain ⟨d1, f1⟩ := hp.outAt hco
      generalize outAt s.out c = v0 at d1
      obtain ⟨b3, o3, hAA, y1⟩ := (HA0.out.below hp.below).int hcn
      subst hAA
      have kH1 := box_cell hp.below kH
      have hhn := hAt_get' hcn
      have PX := hp.setOut hco t.heights[c.toNat]
      obtain ⟨ks, mK, hK, lK⟩ := PX.hK.keys hle
      have hK2 := fun x (h0 : 0 ≤ x) => open_set (s := s) (c := c) (v := s.out.set c.toNat (hAt t c)) hcr.1 hck (hdn c) (x := x) h0
      have c0 := hcr.1
      have c1' := hcr.2
      have hci : inI c := ⟨by omega, by omega⟩
      have lK' : ks.length < 1048576 := by omega
      have HFT := hid hft
      have HHN := hid hhn
      have HPX := hid PX
      have HMK := hid mK
      have HK1 := hid hK
      have HK2 := hid hK2
      clear hft hcc hsi hp hcr hck PX mK hK hK2 hhn hdn
      go_wp2_with (first | (at_mapUpdate; refine wpList_storeB _ rfl _ _ _ rfl (wa.heap.size + 1) ks c rfl rfl rfl HMK.out hci lK' ?_; intro wm hm hg; refine keep_ ?_) | fail)
      have PK := HPX.out.turnK (s' := spFrom t s c) (MpC.add HK1.out hm c0 c1' (fun x h0 h1 => HK2.out x h0)) hg ⟨by rw [spFrom, HHN.out], rfl, rfl⟩
      have HPK := hid PK
      clear PK hm hg HPX HMK d1 f1
      refine go_ ?_
      go_wp2_with fail
      go_roundw
      case rel => exact ⟨k + 1, by omega, by go_num, by rw [HFT.out]; exact HPK.out⟩
      case measure => simp [intOf]; omega
    · have hkl : cs.take k = cs := List.take_of_length_le (by omega)
      have hsi := (HST cs.length).out.1
      rw [hkl] at hp
      rw [List.take_length] at hsi
      have HP := hid (hp.order0 (from_order t cs (spInit t)))
      have HF1 := hid (show spread t (t.heights.length + 1) (cs.foldl (spFrom t) (spInit t)) = F from HF.out)
      generalize cs.foldl (spFrom t) (spInit t) = s0 at HP hsi HF1
      have HSI := hid hsi
      clear hp hsi hkl HS0
      go_wp2_with fail
      go_loopw [11] (fun u wr => ∃ f s, spread t f s = F ∧ SInv t s ∧ t.heights.length < s.order.length + f ∧ SpI w0 w0.heap.size wa.heap.size (wa.heap.size + 1) (wa.heap.size + 1 + 1) t.heights.length wr s u) (fun u _ => t.heights.length - lenV u)
      case atStart => exact ⟨_, s0, HF1.out, HSI.out, by omega, HP.out⟩
      case round =>
        obtain ⟨f, s, hsF, hsi, hsf, hp⟩ := hrel
        obtain ⟨w1, rfl⟩ : ∃ wo : World, wo = wr := ⟨_, rfl⟩
        have hol := hsi.toSOk.order_le
        obtain ⟨Q, qc, hu⟩ := hp.hO.form
        subst hu
        have HSF := hid hsF
        have HSI := hid hsi
        have HSQ := hid hsf
        clear HP
        have HP := hid hp
        obtain ⟨ko, mK, hK, lK⟩ := hp.hK.keys hle
        have hpk := pick_keys hK
        have HMK := hid mK
        have HKK := hid hK
        obtain ⟨b, hb⟩ : ∃ b, pick s t.heights.length = b := ⟨_, rfl⟩
        have HB := hid hb
        rw [hb] at hpk
        clear hsF hsi hsf hp mK hK hb
        by_cases hb0 : b < 0
        · have hk0 : ko = [] := by
            cases ko with
            | nil => rfl
            | cons x xs => exact absurd hb0 (hpk.1 (by simp))
          subst hk0
          have HST2 := hid (HSF.out.symm.trans (spread_stop (l := t) (f := f) (s := s) (by rw [HB.out]; exact hb0)))
          clear hb0 hpk
          go_wp2_with (first | (at_len; refine wpList_lenB _ rfl _ rfl (wa.heap.size + 1) [] rfl HMK.out ?_) | fail)
          go_ret2
          exact ⟨_, _, rfl, by rw [HST2.out]; exact HP.out.hS.mono HBW.out.size, by rw [HST2.out]; exact HP.out.hO.mono (Nat.le_trans HBW.out.size HP.out.base0), HBW.out.trans (HP.out.below.mono HBW.out.size)⟩
        · have hkp := hpk.2 hb0
          clear hpk
          go_wp2_with (first | (at_len; refine wpList_lenB _ rfl _ rfl (wa.heap.size + 1) ko rfl HMK.out ?_) | fail)
          go_loopw [12, 47] (fun b i wr => ∃ k : Nat, k ≤ t.heights.length ∧ i = .int .i64 k ∧ b = .int .i64 (pick s k) ∧ SpI w0 w0.heap.size wa.heap.size (wa.heap.size + 1) (wa.heap.size + 1 + 1) t.heights.length wr s (.slice Q s.order.length qc)) (fun _ i _ => t.heights.length - (intOf i).toNat)
          case atStart => exact ⟨0, Nat.zero_le _, rfl, rfl, HP.out⟩
          case round =>
            obtain ⟨k, hk, rfl, rfl, hp⟩ := hrel
            obtain ⟨w2, rfl⟩ : ∃ wo : World, wo = wr := ⟨_, rfl⟩
            have hps := pick_spec s k
            by_cases hlt : k < t.heights.length
            · have hlo : (k : Int).toNat < s.out.length := by rw [HSI.out.lo]; exact hlt
              have HPN := hid (pick_next s k)
              have e3 := (hp.outAt hlo).1
              rw [Int.toNat_natCast] at e3
              obtain ⟨kz, mZ, hZ, lZ⟩ := hp.hK.keys hle
              have hki : inI k := ⟨by omega, by omega⟩
              have hlk : ∀ n, (Instr.lookup 56 (.map (some (wa.heap.size + 1))) (.int .i64 k) false).run Try.prog (w2.drewN n) = .ok (.bool (openAt s k)) (w2.drewN n) := fun n => by
                rw [(mZ.drewN n).look hki, dec_mem hZ (by omega) (by omega)]
              have hrg := HSI.out.rng k (by omega) (by omega)
              generalize hb : pick s k = b at hps HPN
              have hbs : b < 0 ∧ b = -1 ∨ 0 ≤ b ∧ b < k := by rcases hps with ⟨h, _⟩ | ⟨h1, h2, _⟩; exact .inl (by omega); exact .inr ⟨h1, h2⟩
              clear HP
              have HP := hid hp
              clear hps hp hlo hb mZ hZ
              cases hop : openAt s k with
              | false =>
                have HN : Hid (pick s (k + 1) = b) := by show _ = _; rw [HPN.out]; unfold pickStep; rw [hop]; simp
                rw [hop] at hlk
                clear hop hbs e3 hrg
                go_wp2_with fail
                go_quiet (fail)
                go_wp2_with fail
                go_roundw
                case rel => exact ⟨k + 1, by omega, by go_num, by rw [HN.out], HP.out.step ((Below.refl _ _).drewN _)⟩
                case measure => simp [intOf]; omega
              | true =>
                rw [hop] at hlk
                by_cases hb1 : b < 0
                · have HN : Hid (pick s (k + 1) = k) := by show _ = _; rw [HPN.out]; unfold pickStep; rw [if_pos ⟨hop, .inl hb1⟩]
                  have hdb : decide (b < 0) = true := decide_eq_true hb1
                  clear hop hbs e3 hrg hb1
                  go_wp2_with fail
                  go_quiet (fail)
                  go_wp2_with fail
                  go_roundw
                  case rel => exact ⟨k + 1, by omega, by go_num, by rw [HN.out], HP.out.step ((Below.refl _ _).drewN _)⟩
                  case measure => simp [intOf]; omega
                · have hb2 : 0 ≤ b ∧ b < k := by omega
                  have hbo : b.toNat < s.out.length := by rw [HSI.out.lo]; omega
                  have hbn : b.toNat < t.heights.length := by omega
                  obtain ⟨e4, _⟩ := HP.out.outAt hbo
                  have h0b := hb2.1
                  have hdb : decide (b < 0) = false := decide_eq_false hb1
                  have hcase : pick s (k + 1) = if outAt s.out k < outAt s.out b then (k : Int) else b := by
                    rw [HPN.out]; unfold pickStep
                    by_cases hz : outAt s.out k < outAt s.out b
                    · rw [if_pos ⟨hop, .inr hz⟩, if_pos hz]
                    · rw [if_neg (by rintro ⟨_, h | h⟩; exact hb1 h; exact hz h), if_neg hz]
                  generalize outAt s.out k = x at e3 hcase
                  generalize outAt s.out b = y at e4 hcase
                  clear hbs hop hrg hb2 hbo hb1
                  by_cases hz : x < y
                  · have hdz : decide (x < y) = true := decide_eq_true hz
                    rw [if_pos hz] at hcase
                    have HN := hid hcase
                    clear hcase hz
                    go_wp2_with fail
                    go_quiet (fail)
                    go_wp2_with fail
                    go_roundw
                    case rel => exact ⟨k + 1, by omega, by go_num, by rw [HN.out], HP.out.step ((Below.refl _ _).drewN _)⟩
                    case measure => simp [intOf]; omega
                  · have hdz : decide (x < y) = false := decide_eq_false hz
                    rw [if_neg hz] at hcase
                    have HN := hid hcase
                    clear hcase hz
                    go_wp2_with fail
                    go_quiet (fail)
                    go_wp2_with fail
                    go_roundw
                    case rel => exact ⟨k + 1, by omega, by go_num, by rw [HN.out], HP.out.step ((Below.refl _ _).drewN _)⟩
                    case measure => simp [intOf]; omega
            · have hkn : k = t.heights.length := by omega
              subst hkn
              clear HP
              have HP := hid hp
              rw [HB.out]
              obtain ⟨b0, b1, hmid⟩ := HSI.out.mid HB.out.symm (by omega)
              have hf0 : f - 1 + 1 = f := by have := HSQ.out; omega
              have hss := spread_step (l := t) (f := f - 1) (s := s) (by rw [HB.out]; omega)
              rw [hf0, HSF.out, HB.out] at hss
              have hround := HSI.out.round ht HB.out.symm (by omega)
              have hro := round_order t s b
              have hbn : b.toNat < t.heights.length := by omega
              have hbd : b < s.done.length := by rw [HSI.out.ld]; exact b1
              obtain ⟨k1, mK1, hK1, lK1⟩ := hp.hK.keys hle
              obtain ⟨k2, mD1, hD1, lD1⟩ := hp.hD.keys hle
              have hop : openAt s b = true := by
                rcases hps with ⟨h, _⟩ | ⟨_, _, h, _⟩
                · rw [HB.out] at h; omega
                · rw [HB.out] at h; exact h
              have hmem : b ∈ k1 := (hK1 b).2 ⟨b0, b1, hop⟩
              have hbi : inI b := ⟨by omega, by omega⟩
              have lD2 : k2.length < 1048576 := by omega
              have HMK1 := hid mK1
              have HMD1 := hid mD1
              have HK1 := hid hK1
              have HD1 := hid hD1
              have HSS := hid hss
              have HRO := hid hro
              have HRD := hid hround
              have HMID := hid hmid
              have hso : s.order.length ≤ 1048576 := by omega
              have HBD := hid hbd
              clear hss hround hmid hbd hb0 hro hp hps hlt hk mK1 mD1 hK1 hD1 hop
              go_wp2_with (first | (at_delete; refine wpList_dropB _ rfl _ _ rfl (wa.heap.size + 1) k1 b rfl rfl HMK1.out hbi hmem ?_; intro wd md gd; refine keep_ ?_) | fail)
              have mD2 := HMD1.out.kept gd (by simp)
              have HMD2 := hid mD2
              have HGD := hid gd
              have HMD := hid md
              clear mD2 gd md
              refine go_ ?_
              go_wp2_with (first | (at_mapUpdate; refine wpList_storeB _ rfl _ _ _ rfl wa.heap.size k2 b rfl rfl rfl HMD2.out hbi lD2 ?_; intro we me ge; refine keep_ ?_) | fail)
              have PX := SpI.turn2 (s' := { s with done := s.done.set b.toNat true }) HP.out HGD.out (MpC.sub HK1.out HMK1.out.nd HMD.out (fun x h0 h1 => open_done (o := s.order) b0 HBD.out h0)) ge (MpC.add HD1.out me b0 b1 (fun x h0 h1 => done_set b0 HBD.out h0)) (fun _ _ _ => rfl) ⟨rfl, rfl⟩
              have HPX := hid PX
              clear PX me ge HMD2 HMD HGD HMD1 HMK1
              refine go_ ?_
              go_wp2_with (first | fail | (at_builtin; refine wpList_push elInt _ rfl (.tmp 75) (.tmp 77) rfl (wa.heap.size + 1 + 1) _ s.order b rfl (HPX.out.hO.alloc _) _ rfl (heap_alloc_new _ _) hso (le_alloc HPX.out.sz) ?_; intro v' w3 hown' hg' hat'; refine keep_ ?_))
              have PN : SpI w0 w0.heap.size wa.heap.size (wa.heap.size + 1) (wa.heap.size + 1 + 1) t.heights.length w3 (spDone s b) v' := SpI.push (HPX.out.step ((Below.refl _ _).alloc (Nat.le_refl _) _)) hown' hg'
              have HPN := hid PN
              have hvl : Hid (lenV v' = s.order.length + 1) := by
                obtain ⟨Q2, qc2, rfl⟩ := hown'.form
                show (s.order ++ [b]).length = _
                simp
              have cR := box_cell PN.below kR
              have cC := box_cell PN.below kC
              have cH := box_cell PN.below kH
              clear PN hown' hg' hat' HPX
              refine go_ ?_
              go_wp2_with fail
              refine (implNext _ t ht b _ (HPT.out.below HPN.out.below) b0 b1).mono ?_
              rintro e w4 ⟨un, rfl, hon, hb2⟩
              obtain ⟨N, nq_, rfl⟩ := hon.form
              have HP4 := hid (HPN.out.step hb2)
              have hnl := near_len t b
              have HNI := hid (near_ok ht b0 b1)
              have HON := hid hon
              have hMS : ∀ k, Hid (SMid t b (((near t b).take k).foldl (relaxS t b) (spDone s b))) := fun k => (SMid.fold ht b0 b1 ((near t b).take k) HMID.out (fun n hn => HNI.out n (List.mem_of_mem_take hn))).1
              have HS2 : Hid (F = spread t (f - 1) ((near t b).foldl (relaxS t b) (spDone s b))) := HSS.out
              have HR2 : Hid (SInv t ((near t b).foldl (relaxS t b) (spDone s b))) := HRD.out
              have HO2 : Hid (((near t b).foldl (relaxS t b) (spDone s b)).order = s.order ++ [b]) := HRO.out
              clear hb2 hon HRD HSS HRO HMID cR cC cH
              generalize spDone s b = s1 at HP4 hMS HS2 HR2 HO2
              generalize near t b = ns at *
              go_wp2_with fail
              go_loopw [83] (fun i wr => ∃ k : Nat, k ≤ ns.length ∧ i = .int .i64 k ∧ SpI w0 w0.heap.size wa.heap.size (wa.heap.size + 1) (wa.heap.size + 1 + 1) t.heights.length wr ((ns.take k).foldl (relaxS t b) s1) v' ∧ Own wr w3.heap.size 2 (.slice N ns.length nq_) ns) (fun i _ => ns.length - (intOf i).toNat)
              case atStart => exact ⟨0, Nat.zero_le _, rfl, HP4.out, HON.out⟩
              case round =>
                obtain ⟨k, hk, rfl, hp, hn⟩ := hrel
                obtain ⟨wi, rfl⟩ : ∃ x : World, x = wr := ⟨_, rfl⟩
                by_cases hlt : k < ns.length
                · obtain ⟨b2, off2, hN2, x2⟩ := (hn.rd (by omega)).int hlt
                  have hni := HNI.out _ (List.getElem_mem hlt)
                  have hrt := relax_take (t := t) (b := b) (s := s1) hlt
                  have hsm := (hMS k).out
                  generalize (ns.take k).foldl (relaxS t b) s1 = s2 at hp hrt hsm
                  generalize hnk : ns[k] = n at x2 hni hrt
                  subst hN2
                  have hnn : n.toNat < t.heights.length := by omega
                  have hno : n.toNat < s2.out.length := by rw [hsm.lo]; exact hnn
                  have hnk2 : n < s2.known.length := by rw [hsm.lk]; exact hni.2
                  have hbo : b.toNat < s2.out.length := by rw [hsm.lo]; omega
                  have hr1 := hsm.rng b b0 b1
                  have hr2 := hAt_bound ht n
                  obtain ⟨d1, f1⟩ := hp.outAt hbo
                  have cH := box_cell hp.below kH
                  obtain ⟨b3, o3, hAA, y1⟩ := (HA0.out.below hp.below).int hnn
                  subst hAA
                  have hhn := hAt_get' hnn
                  rw [← hhn] at y1
                  have n0 := hni.1
                  have n1 := hni.2
                  have HPI := hid hp
                  have HNO := hid hn
                  have HTE := hid (hsm.test n0 n1)
                  have hrx : relaxS t b s2 n = if seenAt s2.known n = false ∨ max (outAt s2.out b) (hAt t n) < outAt s2.out n then { s2 with out := s2.out.set n.toNat (max (outAt s2.out b) (hAt t n)), known := s2.known.set n.toNat true } else s2 := rfl
                  rw [hrx] at hrt
                  have HRT := hid hrt
                  clear hp hn hsm hrt hrx hhn hnk hni
                  generalize hob : outAt s2.out b = ob at d1 hr1 HRT HTE
                  generalize hhb : hAt t n = hh at y1 hr2 HRT HTE
                  clear hob hhb
                  go_wp2_with fail
                  go_quiet (fail)
                  rw [max_if]
                  have PM := HPI.out.step ((Below.refl _ _).drewN nq)
                  have NM := HNO.out.below ((Below.refl _ _).drewN nq)
                  generalize wi.drewN nq = wm at PM NM ⊢
                  generalize max ob hh = mx at HRT HTE ⊢
                  obtain ⟨e2, g2⟩ := PM.outAt hno
                  obtain ⟨k8, mK8, hK8, lK8⟩ := PM.hK.keys hle
                  obtain ⟨k9, mK9, hK9, lK9⟩ := PM.hD.keys hle
                  have hki : inI n := ⟨by omega, by omega⟩
                  have l1 := mK9.look hki
                  have l2 := mK8.look hki
                  rw [dec_mem hK9 n0 n1] at l1
                  rw [dec_mem hK8 n0 n1] at l2
                  clear mK8 hK8 mK9 hK9
                  cases hdn : seenAt s2.done n with
                  | true =>
                    rw [hdn] at l1
                    have hE := HRT.out
                    rw [if_neg (fun h => by have h9 := (HTE.out.1 h).1; rw [hdn] at h9; cases h9)] at hE
                    have HE := hid hE
                    have Z1 := hid PM
                    have Z2 := hid NM
                    clear hE PM NM hdn l2
                    go_wp2_with fail
                    go_roundw
                    case rel => exact ⟨k + 1, by omega, by go_num, by rw [HE.out]; exact Z1.out, Z2.out⟩
                    case measure => simp [intOf]; omega
                  | false =>
                    rw [hdn] at l1
                    cases hop : openAt s2 n with
                    | false =>
                      rw [hop] at l2
                      have hE := HRT.out
                      rw [if_pos (HTE.out.2 ⟨hdn, .inl hop⟩)] at hE
                      have HE := hid hE
                      have PX := PM.setOut hno mx
                      obtain ⟨ks, mK, hK, lK⟩ := PX.hK.keys hle
                      have HPX := hid PX
                      have HMK := hid mK
                      have HK1 := hid hK
                      have HDN := hid hdn
                      have hsz1 : w0.heap.size < w3.heap.size ∧ wa.heap.size + 1 < w3.heap.size := by have := HPN.out.o1; have := HPN.out.o2; have := HPN.out.o3; have := HPN.out.sz; omega
                      have Z2 := hid ((NM.past (p := ⟨w0.heap.size, n.toNat, none⟩) hsz1.1 (.int .i64 mx)))
                      have lK' : ks.length < 1048576 := by omega
                      clear hE PM NM PX mK hK hdn hop
                      go_wp2_with (first | (at_mapUpdate; refine wpList_storeB _ rfl _ _ _ rfl (wa.heap.size + 1) ks n rfl rfl rfl HMK.out hki lK' ?_; intro wq hm hg; refine keep_ ?_) | fail)
                      have PK := HPX.out.turnK (s' := { s2 with out := s2.out.set n.toNat mx, known := s2.known.set n.toNat true }) (MpC.add HK1.out hm n0 n1 (fun x h0 h1 => open_set n0 hnk2 HDN.out h0)) hg ⟨rfl, rfl, rfl⟩
                      have Z1 := hid PK
                      have Z3 := hid (Z2.out.grown hg (.inr (by
                        intro e
                        have := (Z2.out.block _ e).1
                        omega)))
                      clear PK hm hg HPX HMK
                      refine go_ ?_
                      go_wp2_with fail
                      go_roundw
                      case rel => exact ⟨k + 1, by omega, by go_num, by rw [HE.out]; exact Z1.out, Z3.out⟩
                      case measure => simp [intOf]; omega
                    | true =>
                      rw [hop] at l2
                      by_cases hz : mx < outAt s2.out n
                      · have hdz : decide (mx < outAt s2.out n) = true := decide_eq_true hz
                        have hE := HRT.out
                        rw [if_pos (HTE.out.2 ⟨hdn, .inr hz⟩)] at hE
                        have HE := hid hE
                        have PX := PM.setOut hno mx
                        obtain ⟨ks, mK, hK, lK⟩ := PX.hK.keys hle
                        have HPX := hid PX
                        have HMK := hid mK
                        have HK1 := hid hK
                        have HDN := hid hdn
                        have hsz1 : w0.heap.size < w3.heap.size ∧ wa.heap.size + 1 < w3.heap.size := by have := HPN.out.o1; have := HPN.out.o2; have := HPN.out.o3; have := HPN.out.sz; omega
                        have Z2 := hid ((NM.past (p := ⟨w0.heap.size, n.toNat, none⟩) hsz1.1 (.int .i64 mx)))
                        have lK' : ks.length < 1048576 := by omega
                        clear hE PM NM PX mK hK hdn hop hz
                        go_wp2_with (first | (at_mapUpdate; refine wpList_storeB _ rfl _ _ _ rfl (wa.heap.size + 1) ks n rfl rfl rfl HMK.out hki lK' ?_; intro wq hm hg; refine keep_ ?_) | fail)
                        have PK := HPX.out.turnK (s' := { s2 with out := s2.out.set n.toNat mx, known := s2.known.set n.toNat true }) (MpC.add HK1.out hm n0 n1 (fun x h0 h1 => open_set n0 hnk2 HDN.out h0)) hg ⟨rfl, rfl, rfl⟩
                        have Z1 := hid PK
                        have Z3 := hid (Z2.out.grown hg (.inr (by
                          intro e
                          have := (Z2.out.block _ e).1
                          omega)))
                        clear PK hm hg HPX HMK
                        refine go_ ?_
                        go_wp2_with fail
                        go_roundw
                        case rel => exact ⟨k + 1, by omega, by go_num, by rw [HE.out]; exact Z1.out, Z3.out⟩
                        case measure => simp [intOf]; omega
                      · have hdz : decide (mx < outAt s2.out n) = false := decide_eq_false hz
                        have hE := HRT.out
                        rw [if_neg (fun h => by rcases (HTE.out.1 h).2 with h9 | h9; rw [hop] at h9; cases h9; exact hz h9)] at hE
                        have HE := hid hE
                        have Z1 := hid PM
                        have Z2 := hid NM
                        clear hE PM NM hdn hop hz
                        go_wp2_with fail
                        go_roundw
                        case rel => exact ⟨k + 1, by omega, by go_num, by rw [HE.out]; exact Z1.out, Z2.out⟩
                        case measure => simp [intOf]; omega
                · have hkl : ns.take k = ns := List.take_of_length_le (by omega)
                  rw [hkl] at hp
                  have HPZ := hid hp
                  have hlo := HR2.out.toSOk.order_le
                  rw [HO2.out] at hlo
                  simp only [List.length_append, List.length_cons, List.length_nil] at hlo
                  clear hp hkl hn
                  go_wp2_with fail
                  go_roundw
                  case rel => exact ⟨f - 1, _, HS2.out.symm, HR2.out, by rw [HO2.out]; have := HSQ.out; simp; omega, HPZ.out⟩
                  case measure => rw [hvl.out]; simp [lenV]; omega
end Go.Proofs.Ytpinpkpjehbfmaa
