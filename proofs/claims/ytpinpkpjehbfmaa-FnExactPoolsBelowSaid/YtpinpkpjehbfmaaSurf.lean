/- Surfaces: the reference walked. -/
import Derived.Test.YtpinpkpjehbfmaaSpreadMem
namespace Go.Proofs.Ytpinpkpjehbfmaa
open Go.RowKit
set_option linter.unusedVariables false
set_option maxHeartbeats 400000 in
theorem specMaxI (a b : Int) (w : World) : Calls Try.prog 78 #[.int .i64 a, .int .i64 b] w fun e w' => e = .returned (.int .i64 (max a b)) ∧ w = w' := by
  by_cases h : b < a
  all_goals
    go_enter Try.func78, Try.ntmps78
    go_wp2
    go_ret
    exact ⟨ret_int (by omega), rfl⟩
theorem pick_is (s : Sp) (n k : Nat) (b : Int) (h : pick s k = b) : pick s (k + 1) = pickStep s b k := by rw [pick_next, h]
theorem SpM.base0 {W0 : World} {gS gK gD base N : Nat} {wr : World} {s : Sp} {u : Value} (h : SpM W0 gS gK gD base N wr s u) : W0.heap.size ≤ base := by
  have := h.o0; have := h.o1; have := h.o2; have := h.o3; omega
theorem SpM.start {w wa wb wc : World} {N : Nat} {o : Obj} {u : Value}
    (hoa : Own wa w.heap.size 2 (.slice (some ⟨w.heap.size, 0, none⟩) N N) (List.replicate N (0 : Int))) (hba : Below w.heap.size w wa)
    (hob : Own wb wa.heap.size 4 (.slice (some ⟨wa.heap.size, 0, none⟩) N N) (List.replicate N false)) (hbb : Below wa.heap.size wa wb)
    (hoc : Own wc wb.heap.size 4 (.slice (some ⟨wb.heap.size, 0, none⟩) N N) (List.replicate N false)) (hbc : Below wb.heap.size wb wc)
    (ho : Own (wc.alloc o) wc.heap.size 2 u ([] : List Int)) {t : Land} (hN : t.heights.length = N) :
    SpM w w.heap.size wa.heap.size wb.heap.size wc.heap.size N (wc.alloc o) (spInit t) u := by
  subst hN
  have h1 := (hoa.block _ rfl).2
  have h2 := (hob.block _ rfl).2
  have h3 := (hoc.block _ rfl).2
  exact ⟨((hba.trans (hbb.mono hba.size)).trans (hbc.mono (Nat.le_trans hba.size hbb.size))).alloc (by have := hba.size; have := hbb.size; have := hbc.size; omega) _, Nat.le_refl _, h1, h2, h3, ((hoa.below hbb).below hbc).alloc _, ((hob.mono (Nat.le_refl _)).below hbc).alloc _, hoc.alloc _, ho, by simp⟩
set_option maxRecDepth 100000 in
set_option maxHeartbeats 16000000 in
theorem specSurfaces (g off : Nat) (t : Land) (ht : LOk t) (A1 : Option Addr) (cs : List Int) (c1 : Nat) (w : World) (h : PtLand w g off t) (hx : Rd w A1 cs) (hc : ∀ c ∈ cs, 0 ≤ c ∧ c < t.heights.length) :
    Calls Try.prog 59 #[.pointer (some ⟨g, off, none⟩), .slice A1 cs.length c1] w fun e w' => ∃ u v, e = .returned (.tuple #[u, v]) ∧ Own w' w.heap.size 2 u (surf t cs).out ∧ Own w' w.heap.size 2 v (surf t cs).order ∧ Below w.heap.size w w' := by
  have hle := ht.le
  have HPT := hid h
  have hxl := hx.len
  obtain ⟨A, q, ⟨_, _, eH⟩, hA⟩ := h
  have hn20 : t.heights.length ≤ 1048576 := by omega
  have HX := hid hx
  have HST : ∀ k, Hid (SInv t ((cs.take k).foldl (spFrom t) (spInit t))) := fun k => (start_inv ht (cs.take k) (spInit_inv t) (fun x => seen_rep0 _ _) (fun c h => hc c (List.mem_of_mem_take h))).1
  have HC := hid hc
  obtain ⟨F, hF⟩ : ∃ F, surf t cs = F := ⟨_, rfl⟩
  rw [hF]
  have HF : Hid (spread t (t.heights.length + 1) (cs.foldl (spFrom t) (spInit t)) = F) := hF
  clear hx hA hc hF
  go_enter Try.func59, Try.ntmps59
  go_wp2_with (first | fail | (at_make; refine wpList_make' elInt _ rfl _ _ rfl w.heap.size .i64 .i64 _ _ t.heights.length rfl rfl rfl rfl hn20 (Nat.le_refl _) ?_; intro wa hoa hba; refine keep_ ?_))
  have HOA := hid hoa
  have HBA := hid hba
  clear hoa hba eH
  refine go_ ?_
  go_wp2_with (first | fail | (at_make; refine wpList_make' elBool _ rfl _ _ rfl wa.heap.size .i64 .i64 _ _ t.heights.length rfl rfl rfl rfl hn20 (Nat.le_refl _) ?_; intro wb hob hbb; refine keep_ ?_))
  have HOB := hid hob
  have HBB := hid hbb
  clear hob hbb
  refine go_ ?_
  go_wp2_with (first | fail | (at_make; refine wpList_make' elBool _ rfl _ _ rfl wb.heap.size .i64 .i64 _ _ t.heights.length rfl rfl rfl rfl hn20 (Nat.le_refl _) ?_; intro wc hoc hbc; refine keep_ ?_))
  have HOC := hid hoc
  have HBC := hid hbc
  clear hoc hbc
  refine go_ ?_
  go_wp2_with fail
  go_loopw [11] (fun i wr => ∃ k : Nat, k ≤ cs.length ∧ i = .int .i64 k ∧ SpM w w.heap.size wa.heap.size wb.heap.size wc.heap.size t.heights.length wr ((cs.take k).foldl (spFrom t) (spInit t)) (.slice (some ⟨wc.heap.size, 0, none⟩) 0 0)) (fun i _ => cs.length - (intOf i).toNat)
  case atStart => exact ⟨0, Nat.zero_le _, rfl, SpM.start HOA.out HBA.out HOB.out HBB.out HOC.out HBC.out (Own.empty (Nat.le_refl _)) rfl⟩
  case round =>
    obtain ⟨k, hk, rfl, hp⟩ := hrel
    obtain ⟨wo, rfl⟩ : ∃ wo : World, wo = wr := ⟨_, rfl⟩
    by_cases hlt : k < cs.length
    · obtain ⟨b1, o1, hA1, x1⟩ := (HX.out.below hp.below).int hlt
      have hcr := HC.out _ (List.getElem_mem hlt)
      have hft := from_take (t := t) (s := spInit t) hlt
      have hsi := (HST k).out
      generalize (cs.take k).foldl (spFrom t) (spInit t) = s at hp hft hsi
      obtain ⟨c, hcc⟩ : ∃ c, cs[k] = c := ⟨_, rfl⟩
      have HCC := hid hcc
      rw [hcc] at x1 hcr hft
      have hcn : c.toNat < t.heights.length := by omega
      have hck : c.toNat < s.known.length := by rw [hsi.lk]; exact hcn
      have hco : c.toNat < s.out.length := by rw [hsi.lo]; exact hcn
      obtain ⟨d1, f1⟩ := hp.knownAt hck
      generalize seenAt s.known c = b0 at d1
      have PX := hp.setKnown hck
      have c0 := hcr.1
      have c1' := hcr.2
      have HFT := hid hft
      clear hft hcc hsi hp hcr hck
      go_upto_region 10 with fail
      obtain ⟨wx, hwx⟩ : ∃ x, wo.setCell ⟨wa.heap.size, c.toNat, none⟩ (.bool true) = x := ⟨_, rfl⟩
      rw [hwx] at PX ⊢
      obtain ⟨b2, o2, hA2, x2⟩ := (HX.out.below PX.below).int hlt
      rw [hA1] at hA2
      injection hA2 with hA2
      injection hA2 with i9 j9
      subst i9 j9
      subst hA1
      rw [HCC.out] at x2
      obtain ⟨A', q', ⟨_, _, eH⟩, hA'⟩ := HPT.out.below PX.below
      obtain ⟨b3, o3, rfl, y1⟩ := hA'.int hcn
      have hhn := hAt_get' hcn
      obtain ⟨e1, g1⟩ := PX.outAt hco
      generalize outAt _ c = v0 at e1
      have PY := PX.setOut hco (t.heights[c.toNat])
      have HPX := hid PX
      have HPY := hid PY
      have HHN := hid hhn
      clear hA' PX PY hhn x1 d1 f1 hwx
      go_region
      all_goals
        go_wp2_with fail
        go_roundw
        case rel => exact ⟨k + 1, by omega, by go_num, by rw [HFT.out]; unfold spFrom; rw [HHN.out]; exact HPY.out.step (Below.refl _ _).drew⟩
        case measure => simp [intOf]; omega
    · have hkl : cs.take k = cs := List.take_of_length_le (by omega)
      have hsi := (HST cs.length).out
      rw [hkl] at hp
      rw [List.take_length] at hsi
      have HP := hid hp
      have HF1 := hid (show spread t (t.heights.length + 1) (cs.foldl (spFrom t) (spInit t)) = F from HF.out)
      generalize cs.foldl (spFrom t) (spInit t) = s0 at HP hsi HF1
      have HSI := hid hsi
      clear hp hsi hkl
      go_wp2_with fail
      go_loopw [10] (fun u wr => ∃ f s, spread t f s = F ∧ SInv t s ∧ t.heights.length < s.order.length + f ∧ SpM w w.heap.size wa.heap.size wb.heap.size wc.heap.size t.heights.length wr s u) (fun u _ => t.heights.length - lenV u)
      case atStart => exact ⟨_, s0, HF1.out, HSI.out, by omega, HP.out⟩
      case round =>
        obtain ⟨f, s, hsF, hsi, hsf, hp⟩ := hrel
        obtain ⟨w1, rfl⟩ : ∃ wo : World, wo = wr := ⟨_, rfl⟩
        have hol := hsi.toSOk.order_le
        obtain ⟨Q, qc, hu⟩ := hp.hO.form
        subst hu
        have HSF := hid hsF
        have HSI := hid hsi
        have HSQ := hid hsf
        have HP := hid hp
        clear hsF hsi hsf hp
        go_wp2_with fail
        go_loopw [12, 13] (fun b i wr => ∃ k : Nat, k ≤ t.heights.length ∧ i = .int .i64 k ∧ b = .int .i64 (pick s k) ∧ SpM w w.heap.size wa.heap.size wb.heap.size wc.heap.size t.heights.length wr s (.slice Q s.order.length qc)) (fun _ i _ => t.heights.length - (intOf i).toNat)
        case atStart => exact ⟨0, Nat.zero_le _, rfl, rfl, HP.out⟩
        case round =>
          obtain ⟨k, hk, rfl, rfl, hp⟩ := hrel
          obtain ⟨w2, rfl⟩ : ∃ wo : World, wo = wr := ⟨_, rfl⟩
          have hps := pick_spec s k
          by_cases hlt : k < t.heights.length
          · have hlk : (k : Int).toNat < s.known.length := by rw [HSI.out.lk]; exact hlt
            have hld : (k : Int).toNat < s.done.length := by rw [HSI.out.ld]; exact hlt
            have hlo : (k : Int).toNat < s.out.length := by rw [HSI.out.lo]; exact hlt
            have HPN := hid (pick_next s k)
            have e1 := (hp.knownAt hlk).1
            have e2 := (hp.doneAt hld).1
            have e3 := (hp.outAt hlo).1
            rw [Int.toNat_natCast] at e1 e2 e3
            have hrg := HSI.out.rng k (by omega) (by omega)
            generalize hb : pick s k = b at hps HPN
            have hbs : b < 0 ∧ b = -1 ∨ 0 ≤ b ∧ b < k := by rcases hps with ⟨h, _⟩ | ⟨h1, h2, _⟩; exact .inl (by omega); exact .inr ⟨h1, h2⟩
            have HP := hid hp
            have HOP : Hid (openAt s k = (seenAt s.known k && !seenAt s.done k)) := rfl
            clear hps hp hlk hld hlo hb
            have hsame : ∀ p : Prop, Hid (pick s (k + 1) = b) → p → p := fun _ _ h => h
            cases hkn : seenAt s.known k with
            | false =>
              have HN : Hid (pick s (k + 1) = b) := by show _ = _; rw [HPN.out]; unfold pickStep; rw [HOP.out, hkn]; simp
              rw [hkn] at e1
              clear hkn hbs e2 e3 hrg hsame
              go_wp2_with fail
              go_quiet (fail)
              go_wp2_with fail
              go_roundw
              case rel => exact ⟨k + 1, by omega, by go_num, by rw [HN.out], HP.out.drewN _⟩
              case measure => simp [intOf]; omega
            | true =>
              rw [hkn] at e1
              cases hdn : seenAt s.done k with
              | true =>
                have HN : Hid (pick s (k + 1) = b) := by show _ = _; rw [HPN.out]; unfold pickStep; rw [HOP.out, hdn]; simp
                rw [hdn] at e2
                clear hkn hdn hbs e3 hrg hsame
                go_wp2_with fail
                go_quiet (fail)
                go_wp2_with fail
                go_roundw
                case rel => exact ⟨k + 1, by omega, by go_num, by rw [HN.out], HP.out.drewN _⟩
                case measure => simp [intOf]; omega
              | false =>
                rw [hdn] at e2
                have hop : openAt s k = true := by rw [HOP.out, hkn, hdn]; rfl
                by_cases hb0 : b < 0
                · have HN : Hid (pick s (k + 1) = k) := by show _ = _; rw [HPN.out]; unfold pickStep; rw [if_pos ⟨hop, .inl hb0⟩]
                  have hdb : decide (b < 0) = true := decide_eq_true hb0
                  clear hkn hdn hbs e3 hrg hop hb0 hsame
                  go_wp2_with fail
                  go_quiet (fail)
                  go_wp2_with fail
                  go_roundw
                  case rel => exact ⟨k + 1, by omega, by go_num, by rw [HN.out], HP.out.drewN _⟩
                  case measure => simp [intOf]; omega
                · have hb1 : 0 ≤ b ∧ b < k := by omega
                  have hbo : b.toNat < s.out.length := by rw [HSI.out.lo]; omega
                  have hbn : b.toNat < t.heights.length := by omega
                  obtain ⟨e4, _⟩ := HP.out.outAt hbo
                  have h0b := hb1.1
                  have hdb : decide (b < 0) = false := decide_eq_false hb0
                  have hcase : pick s (k + 1) = if outAt s.out k < outAt s.out b then (k : Int) else b := by
                    rw [HPN.out]; unfold pickStep
                    by_cases hz : outAt s.out k < outAt s.out b
                    · rw [if_pos ⟨hop, .inr hz⟩, if_pos hz]
                    · rw [if_neg (by rintro ⟨_, h | h⟩; exact hb0 h; exact hz h), if_neg hz]
                  generalize outAt s.out k = x at e3 hcase
                  generalize outAt s.out b = y at e4 hcase
                  clear hbs hkn hdn hrg hop hb1 hbo hb0 hsame
                  by_cases hz : x < y
                  · have hdz : decide (x < y) = true := decide_eq_true hz
                    rw [if_pos hz] at hcase
                    have HN := hid hcase
                    clear hcase hz
                    go_wp2_with fail
                    go_quiet (fail)
                    go_wp2_with fail
                    go_roundw
                    case rel => exact ⟨k + 1, by omega, by go_num, by rw [HN.out], HP.out.drewN _⟩
                    case measure => simp [intOf]; omega
                  · have hdz : decide (x < y) = false := decide_eq_false hz
                    rw [if_neg hz] at hcase
                    have HN := hid hcase
                    clear hcase hz
                    go_wp2_with fail
                    go_quiet (fail)
                    go_wp2_with fail
                    go_roundw
                    case rel => exact ⟨k + 1, by omega, by go_num, by rw [HN.out], HP.out.drewN _⟩
                    case measure => simp [intOf]; omega
          · have hkn : k = t.heights.length := by omega
            subst hkn
            clear HP
            have HP := hid hp
            obtain ⟨b, hb⟩ : ∃ b, pick s t.heights.length = b := ⟨_, rfl⟩
            have HB := hid hb
            clear hp hps hlt hk
            rw [hb]
            clear hb
            by_cases hb0 : b < 0
            · have hdb : decide (b < 0) = true := decide_eq_true hb0
              have HST2 := hid (HSF.out.symm.trans (spread_stop (l := t) (f := f) (s := s) (by rw [HB.out]; exact hb0)))
              clear hb0
              go_wp2_with fail
              go_ret2
              exact ⟨_, _, rfl, by rw [HST2.out]; exact HP.out.hS, by rw [HST2.out]; exact HP.out.hO.mono HP.out.base0, HP.out.below⟩
            · obtain ⟨b0, b1, hmid⟩ := HSI.out.mid HB.out.symm hb0
              have hf0 : f - 1 + 1 = f := by have := HSQ.out; omega
              have hss := spread_step (l := t) (f := f - 1) (s := s) (by rw [HB.out]; exact hb0)
              rw [hf0, HSF.out, HB.out] at hss
              have hround := HSI.out.round ht HB.out.symm hb0
              have hro := round_order t s b
              have hbn : b.toNat < t.heights.length := by omega
              have hbd : b.toNat < s.done.length := by rw [HSI.out.ld]; exact hbn
              obtain ⟨d1, f1⟩ := HP.out.doneAt hbd
              generalize seenAt s.done b = z at d1
              have PX := HP.out.setDone hbd
              have hdb : decide (b < 0) = false := decide_eq_false hb0
              have HSS := hid hss
              have HRO := hid hro
              have HRD := hid hround
              have HMID := hid hmid
              clear hss hround hmid hbd hb0 hro
              go_upto_region 20 with fail
              obtain ⟨wx, hwx⟩ : ∃ x, w2.setCell ⟨wb.heap.size, b.toNat, none⟩ (.bool true) = x := ⟨_, rfl⟩
              rw [hwx] at PX ⊢
              have HPX := hid PX
              have hso : s.order.length ≤ 1048576 := by omega
              clear PX hwx d1 f1
              go_wp2_with (first | fail | (at_builtin; refine wpList_push elInt _ rfl (.tmp 97) (.tmp 99) rfl wc.heap.size _ s.order b rfl (HPX.out.hO.alloc _) _ rfl (heap_alloc_new _ _) hso (le_alloc HPX.out.sz) ?_; intro v' w3 hown' hg' hat'; refine keep_ ?_))
              have PN : SpM w w.heap.size wa.heap.size wb.heap.size wc.heap.size t.heights.length w3 (spDone s b) v' := SpM.push (HPX.out.step ((Below.refl _ _).alloc (Nat.le_refl _) _)) hown' hg'
              have HPN := hid PN
              have hvl : Hid (lenV v' = s.order.length + 1) := by
                obtain ⟨Q2, qc2, rfl⟩ := hown'.form
                show (s.order ++ [b]).length = _
                simp
              clear PN hown' hg' hat' HPX
              refine go_ ?_
              go_wp2_with fail
              refine (specNear _ _ t ht b _ (HPT.out.below HPN.out.below) b0 b1).mono ?_
              rintro e w4 ⟨un, rfl, hon, hb2⟩
              obtain ⟨N, nq_, rfl⟩ := hon.form
              have HP4 := hid (HPN.out.step hb2)
              have hnl := near_len t b
              have HNI := hid (near_ok ht b0 b1)
              have HON := hid hon
              have hMS : ∀ k, Hid (SMid t b (((near t b).take k).foldl (relaxS t b) (spDone s b))) := fun k => (SMid.fold ht b0 b1 ((near t b).take k) HMID.out (fun n hn => HNI.out n (List.mem_of_mem_take hn))).1
              have HS2 : Hid (F = spread t (f - 1) ((near t b).foldl (relaxS t b) (spDone s b))) := HSS.out
              have HR2 : Hid (SInv t ((near t b).foldl (relaxS t b) (spDone s b))) := HRD.out
              have HO2 : Hid (((near t b).foldl (relaxS t b) (spDone s b)).order = s.order ++ [b]) := HRO.out
              have h34 : Hid (w3.heap.size ≤ w4.heap.size) := hb2.size
              clear hb2 hon HRD HSS HRO HMID
              generalize spDone s b = s1 at HP4 hMS HS2 HR2 HO2
              generalize near t b = ns at *
              go_wp2_with fail
              go_loopw [15] (fun i wr => ∃ k : Nat, k ≤ ns.length ∧ i = .int .i64 k ∧ SpM w w.heap.size wa.heap.size wb.heap.size wc.heap.size t.heights.length wr ((ns.take k).foldl (relaxS t b) s1) v' ∧ Own wr w3.heap.size 2 (.slice N ns.length nq_) ns) (fun i _ => ns.length - (intOf i).toNat)
              case atStart => exact ⟨0, Nat.zero_le _, rfl, HP4.out, HON.out⟩
              case round =>
                obtain ⟨k, hk, rfl, hp, hn⟩ := hrel
                obtain ⟨wi, rfl⟩ : ∃ x : World, x = wr := ⟨_, rfl⟩
                by_cases hlt : k < ns.length
                · obtain ⟨b2, off2, hN2, x2⟩ := (hn.rd (by omega)).int hlt
                  have hni := HNI.out _ (List.getElem_mem hlt)
                  have hrt := relax_take (t := t) (b := b) (s := s1) hlt
                  have hsm := (hMS k).out
                  generalize (ns.take k).foldl (relaxS t b) s1 = s2 at hp hrt hsm
                  generalize hnk : ns[k] = n at x2 hni hrt
                  subst hN2
                  have hnn : n.toNat < t.heights.length := by omega
                  have hno : n.toNat < s2.out.length := by rw [hsm.lo]; exact hnn
                  have hnk2 : n.toNat < s2.known.length := by rw [hsm.lk]; exact hnn
                  have hbo : b.toNat < s2.out.length := by rw [hsm.lo]; omega
                  have hr1 := hsm.rng b b0 b1
                  have hr2 := hAt_bound ht n
                  obtain ⟨d1, f1⟩ := hp.outAt hbo
                  obtain ⟨A', q', ⟨_, _, eH⟩, hA'⟩ := HPT.out.below hp.below
                  obtain ⟨b3, o3, rfl, y1⟩ := hA'.int hnn
                  have hhn := hAt_get' hnn
                  rw [← hhn] at y1
                  have n0 := hni.1
                  have n1 := hni.2
                  have HPI := hid hp
                  have HNO := hid hn
                  have HSM := hid hsm
                  have hrx : relaxS t b s2 n = if seenAt s2.known n = false ∨ max (outAt s2.out b) (hAt t n) < outAt s2.out n then { s2 with out := s2.out.set n.toNat (max (outAt s2.out b) (hAt t n)), known := s2.known.set n.toNat true } else s2 := rfl
                  rw [hrx] at hrt
                  have HRT := hid hrt
                  clear hp hn hsm hrt hrx hhn hA' hnk hni
                  generalize hob : outAt s2.out b = ob at d1 hr1 HRT
                  generalize hhb : hAt t n = hh at y1 hr2 HRT
                  clear hob hhb
                  go_wp2_with fail
                  refine wp_region_more (by kernel_rfl) (by kernel_rfl) ?_
                  repeat (go_big_quiet_step ((go_at_call 78; exact quiet_same (specMaxI _ _ _))))
                  refine wpQuiet_nil ?_
                  rintro _ ⟨nq, rfl⟩
                  have PM := HPI.out.step (more_below (x := nq))
                  have NM := HNO.out.below (more_below (x := nq))
                  generalize wi.more nq = wm at PM NM ⊢
                  obtain ⟨e1, g1⟩ := PM.knownAt hnk2
                  obtain ⟨e2, g2⟩ := PM.outAt hno
                  generalize max ob hh = mx at HRT ⊢
                  have hsk : Hid (∀ x, seenAt s2.known n = x → seenAt s2.known n = x) := fun _ h => h
                  cases hkn : seenAt s2.known n with
                  | true =>
                    rw [hkn] at e1
                    by_cases hz : mx < outAt s2.out n
                    · have hdz : decide (mx < outAt s2.out n) = true := decide_eq_true hz
                      have hE := HRT.out
                      rw [if_pos (.inr hz)] at hE
                      clear hz
                      have HE := hid hE
                      have Z1 := hid ((PM.setKnown hnk2).setOut hno mx)
                      have Z2 := hid ((NM.past (p := ⟨wa.heap.size, n.toNat, none⟩) (by have := HPN.out.o1; have := HPN.out.o2; have := HPN.out.o3; have := HPN.out.sz; simp only; omega) (.bool true)).past (p := ⟨w.heap.size, n.toNat, none⟩) (by have := HPN.out.o1; have := HPN.out.o2; have := HPN.out.o3; have := HPN.out.sz; simp only; omega) (.int .i64 mx))
                      have PK := PM.setKnown hnk2
                      clear hE hkn PM NM
                      go_upto_region 29 with fail
                      generalize wm.setCell ⟨wa.heap.size, n.toNat, none⟩ (.bool true) = wk at PK Z1 Z2 ⊢
                      obtain ⟨e3, g3⟩ := PK.outAt hno
                      clear PK e1 g1 e2 g2
                      go_wp2_with fail
                      go_roundw
                      case rel => exact ⟨k + 1, by omega, by go_num, by rw [HE.out]; exact Z1.out, Z2.out⟩
                      case measure => simp [intOf]; omega
                    · have hdz : decide (mx < outAt s2.out n) = false := decide_eq_false hz
                      have hE := HRT.out
                      rw [if_neg (by rw [hkn]; rintro (h | h); cases h; exact hz h)] at hE
                      have HE := hid hE
                      have Z1 := hid PM
                      have Z2 := hid NM
                      clear hE hz hkn PM NM
                      go_wp2_with fail
                      go_roundw
                      case rel => exact ⟨k + 1, by omega, by go_num, by rw [HE.out]; exact Z1.out, Z2.out⟩
                      case measure => simp [intOf]; omega
                  | false =>
                    rw [hkn] at e1
                    have hE := HRT.out
                    rw [if_pos (.inl hkn)] at hE
                    have HE := hid hE
                    have Z1 := hid ((PM.setKnown hnk2).setOut hno mx)
                    have Z2 := hid ((NM.past (p := ⟨wa.heap.size, n.toNat, none⟩) (by have := HPN.out.o1; have := HPN.out.o2; have := HPN.out.o3; have := HPN.out.sz; simp only; omega) (.bool true)).past (p := ⟨w.heap.size, n.toNat, none⟩) (by have := HPN.out.o1; have := HPN.out.o2; have := HPN.out.o3; have := HPN.out.sz; simp only; omega) (.int .i64 mx))
                    have PK := PM.setKnown hnk2
                    clear hE hkn PM NM
                    go_upto_region 29 with fail
                    generalize wm.setCell ⟨wa.heap.size, n.toNat, none⟩ (.bool true) = wk at PK Z1 Z2 ⊢
                    obtain ⟨e3, g3⟩ := PK.outAt hno
                    clear PK e1 g1 e2 g2
                    go_wp2_with fail
                    go_roundw
                    case rel => exact ⟨k + 1, by omega, by go_num, by rw [HE.out]; exact Z1.out, Z2.out⟩
                    case measure => simp [intOf]; omega
                · have hkl : ns.take k = ns := List.take_of_length_le (by omega)
                  rw [hkl] at hp
                  have HPZ := hid hp
                  have hlo := HR2.out.toSOk.order_le
                  rw [HO2.out] at hlo
                  simp only [List.length_append, List.length_cons, List.length_nil] at hlo
                  clear hp hkl hn
                  go_wp2_with fail
                  go_roundw
                  case rel => exact ⟨f - 1, _, HS2.out.symm, HR2.out, by rw [HO2.out]; have := HSQ.out; simp; omega, HPZ.out⟩
                  case measure => rw [hvl.out]; simp [lenV]; omega
end Go.Proofs.Ytpinpkpjehbfmaa
