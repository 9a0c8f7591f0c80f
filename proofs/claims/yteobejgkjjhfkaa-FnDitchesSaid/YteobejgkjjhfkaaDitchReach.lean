/- impl.Net.reached: walked. -/
import Derived.Test.YteobejgkjjhfkaaDitchStep
import Derived.Deep.CutBlock
import Derived.Deep.RegionWith
namespace Go.Proofs.Yteobejgkjjhfkaa
open Go.RowKit
set_option linter.unusedVariables false
set_option linter.unusedSimpArgs false
set_option maxRecDepth 100000 in
set_option maxHeartbeats 2000000 in
theorem implReached (J fr : Int) (A F : Option Addr) (ds : List Ditch) (c : Nat) (fs : List Int) (cf : Nat) (w : World) (hx : Rd w A ds) (hf : Rd w F fs) (hv : NetOk J ds) (hb : Bd ds fs) (hfr : 1 ≤ fr ∧ fr ≤ J - 1) :
    Calls Try.prog 84 #[.agg #[.int .i64 J, .slice A ds.length c], .int .i64 fr, .slice F fs.length cf] w fun e w' => ∃ (S : Option Addr) (q mb : Nat) (bl : List (Int × Int)),
      e = .returned (.tuple #[.slice S (sideL bl J).length q, .map (some mb)]) ∧ Own w' w.heap.size 2 (.slice S (sideL bl J).length q) (sideL bl J) ∧ MpI w' mb bl ∧ w.heap.size ≤ mb ∧ Tree ds fs fr bl ∧ Done ds fs bl bl.length 0 ∧ InJ bl J ∧ Below w.heap.size w w' := by
  have hj := hv.j
  have hdl := hv.len
  have hfl := hb.len
  obtain ⟨W1, hW1⟩ : ∃ x, w.alloc (.cells #[.int .i64 J, .slice A ds.length c] 61) = x := ⟨_, rfl⟩
  have hb1 : Below w.heap.size w W1 := by rw [← hW1]; exact (Below.refl w.heap.size w).alloc (Nat.le_refl _) _
  have hsz1 : W1.heap.size = w.heap.size + 1 := by rw [← hW1]; simp
  have n0 : W1.cell? ⟨w.heap.size, 0, none⟩ = some (.int .i64 J) := by rw [← hW1]; simp [go_sem]
  have n1 : W1.cell? ⟨w.heap.size, 1, none⟩ = some (.slice A ds.length c) := by rw [← hW1]; simp [go_sem]
  have HB1 := hid hb1
  have N0 := hid n0
  have N1 := hid n1
  have HX := hid (hx.below hb1)
  have HF := hid (hf.below hb1)
  have HV := hid hv
  have HBD := hid hb
  have HW := hid hW1
  have HFL := hid hfl
  clear hx hf hv hb hW1 hb1 n0 n1 hfl
  have hmm := @run_makeMap Try.prog
  go_enter Try.func84, Try.ntmps84
  go_upto_region 1 with fail
  rw [HW.out]
  go_upto_region 2 with fail
  obtain ⟨W2, hW2⟩ : ∃ x, (W1.alloc (.cells #[.int .i64 fr] 2)).alloc (.cells #[.slice (some ⟨w.heap.size + 1, 0, none⟩) 1 1] 24) = x := ⟨_, rfl⟩
  have hb2 : Below W1.heap.size W1 W2 := by rw [← hW2]; exact ((Below.refl _ _).alloc (Nat.le_refl _) _).alloc (by simp) _
  have HZ2 : Hid (W2.heap.size = w.heap.size + 3) := by show _ = _; rw [← hW2]; simp [hsz1]
  have p1 : W2.cell? ⟨w.heap.size + 1 + 1, 0, none⟩ = some (.slice (some ⟨w.heap.size + 1, 0, none⟩) 1 1) := by rw [← hW2]; simp [go_sem, hsz1]
  have p2 : W2.frozen? ⟨w.heap.size + 1 + 1, 0, none⟩ = false := by rw [← hW2]; simp [go_sem, hsz1]
  have p3 : Own W2 W1.heap.size 2 (.slice (some ⟨w.heap.size + 1, 0, none⟩) 1 1) [fr] := by
    rw [← hW2, ← hsz1]
    exact (Own.one (w := W1) (base := W1.heap.size) (e := 2) fr (Nat.le_refl _)).alloc _
  rw [hW2]
  have P1 := hid p1
  have P2 := hid p2
  have P3 := hid p3
  have HB2 := hid hb2
  clear hW2 hb2 p1 p2 p3
  have hfi : inI fr := by unfold inI; omega
  have HZ1 := hid hsz1
  clear hsz1
  go_wp2_with (first | (refine wpList_insertI _ rfl _ _ _ rfl W2.heap.size [] fr (-1) rfl rfl rfl (MpI.made W2) hfi (by unfold inI; omega) (by simp) (by simp) ?_; intro w4 hm4 hg4; refine keep_ ?_) | fail)
  have HM4 := hid hm4
  have HG4 := hid hg4
  clear hm4 hg4
  refine go_ ?_
  go_upto_region 3 with fail
  obtain ⟨W5, hW5⟩ : ∃ x, w4.alloc (.cells #[.map (some W2.heap.size)] 109) = x := ⟨_, rfl⟩
  have hz1 := HZ1.out
  have hz2 := HZ2.out
  have hz4 : W2.heap.size + 1 ≤ w4.heap.size := by have := HG4.out.size; simpa using this
  have HB5 : Hid (Below W1.heap.size W1 W5) := by
    show Below _ _ _
    rw [← hW5]
    exact ((HB2.out.alloc HB2.out.size (.map #[] 0)).grown HG4.out (le_alloc HB2.out.size) (fun g hg => by injection hg with hg; subst hg; exact HB2.out.size)).alloc (by omega) _
  have q1 : w4.cell? ⟨w.heap.size + 1 + 1, 0, none⟩ = some (.slice (some ⟨w.heap.size + 1, 0, none⟩) 1 1) := grown_cell HG4.out (by simp [go_sem, P1.out]) (fun g hg => by injection hg with hg; simp only; omega)
  have q2 : w4.frozen? ⟨w.heap.size + 1 + 1, 0, none⟩ = false := grown_free HG4.out (by simp [go_sem, P1.out]) (by simp [go_sem, P1.out, P2.out]) (fun g hg => by injection hg with hg; simp only; omega)
  have HBX : Hid (Bxs W5 W1.heap.size w4.heap.size (w.heap.size + 1 + 1) W2.heap.size (.slice (some ⟨w.heap.size + 1, 0, none⟩) 1 1) [(fr, -1)]) := by
    show Bxs _ _ _ _ _ _ _
    rw [← hW5]
    refine ⟨by simp [go_sem], by simp [go_sem, q1], by simp [go_sem], by simp [go_sem, q1, q2], HM4.out.below ((Below.refl _ _).alloc (Nat.le_refl _) _), ?_, by omega, by omega, fun g hg => ?_⟩
    · exact ((P3.out.alloc _).grown HG4.out (.inr (by simp only [Value.ownBlock, ne_eq, Option.some.injEq]; omega))).alloc _
    · simp only [Value.ownBlock, Option.some.injEq] at hg
      omega
  rw [hW5]
  generalize w4.heap.size = pm at HBX ⊢
  generalize W2.heap.size = mb at HBX ⊢
  generalize w.heap.size + 1 + 1 = pl at HBX ⊢
  clear hmm hW5 hz1 hz2 hz4 HZ2 HB2 HG4 HM4 P1 P2 P3 q1 q2 HW
  go_wp2_with fail
  go_loopw [11] (fun iv wr => ∃ (i : Nat) (bl : List (Int × Int)) (L : Value), iv = .int .i64 i ∧ i ≤ bl.length ∧ Tree ds fs fr bl ∧ InJ bl J ∧ Done ds fs bl i 0 ∧ Bxs wr W1.heap.size pm pl mb L bl ∧ Below W1.heap.size W1 wr) (fun iv _ => 10 - (intOf iv).toNat)
  case atStart => exact ⟨0, [(fr, -1)], _, rfl, by simp, Tree.one, fun x hx => by simp at hx; omega, fun q u j _ kk d f _ _ hor => by omega, HBX.out, HB5.out⟩
  case round =>
    obtain ⟨i, bl, L, rfl, hi, ht, hin, hdn, hbx, hb⟩ := hrel
    obtain ⟨wo, rfl⟩ : ∃ wo : World, wo = wr := ⟨_, rfl⟩
    have hfew := bl_few ht.nodup hin
    have c2 := hbx.l
    obtain ⟨V, vq, rfl⟩ := hbx.own.form
    have HT := hid ht
    have HIN := hid hin
    have HDN := hid hdn
    have HBO := hid hbx
    have HB := hid hb
    have m1 := box_cell hb (by simpa using N1.out)
    obtain ⟨ks, hks⟩ : ∃ ks, bl.map Prod.fst = ks := ⟨_, rfl⟩
    rw [hks] at c2 HBO
    have hkl : ks.length = bl.length := by rw [← hks, List.length_map]
    have HKS := hid hks
    clear ht hin hdn hbx hb hks HBX HB5
    by_cases hlt : i < bl.length
    · have hltk : (i : Int) < (ks.length : Int) := by omega
      have HKL := hid hkl
      clear hkl
      go_wp2_with fail
      obtain ⟨⟨u, j0⟩, hu⟩ : ∃ x, bl[i]? = some x := ⟨_, List.getElem?_eq_getElem hlt⟩
      have HAT := hid (show At ds fs fr J bl i 0 u from ⟨HT.out, HIN.out, HDN.out, j0, hu⟩)
      clear hu hlt hltk hfew hi HT HIN HDN HKL c2 m1
      go_loopw [29] (fun kv wr => ∃ (k : Nat) (bl2 : List (Int × Int)) (L2 : Value), kv = .int .i64 k ∧ k ≤ ds.length ∧ At ds fs fr J bl2 i k u ∧ Bxs wr W1.heap.size pm pl mb L2 bl2 ∧ Below W1.heap.size W1 wr) (fun kv _ => ds.length - (intOf kv).toNat)
      case atStart => exact ⟨0, bl, _, rfl, Nat.zero_le _, HAT.out, HBO.out, HB.out⟩
      case round =>
        clear HKS HBO HB HAT
        obtain ⟨k, bl2, L2, rfl, hk, hat, hbx, hb⟩ := hrel
        obtain ⟨wi, rfl⟩ : ∃ wi : World, wi = wr := ⟨_, rfl⟩
        by_cases hkt : k < ds.length
        · obtain ⟨b, off, hA, e0, e1, e2⟩ := (HX.out.below hb).ditch hkt
          subst hA
          have hkf : k < fs.length := by rw [HFL.out]; exact hkt
          obtain ⟨b', off', hF, ef⟩ := (HF.out.below hb).int hkf
          subst hF
          obtain ⟨V2, q2, rfl⟩ := hbx.own.form
          have hil : i < (bl2.map Prod.fst).length := by rw [List.length_map]; exact hat.lt
          obtain ⟨g, hg, hg1, hg2⟩ := hbx.own.addr hil
          subst hg
          have ci := (hbx.own.int hil).1
          rw [hat.key hil] at ci
          have hfew := hat.few
          have hbd := HBD.out.at_ k hkt hkf
          have hdk := HV.out.all _ (List.getElem_mem hkt)
          have hskip := hat.skip hkt hkf
          have hon : ds[k].a = u → fs[k] < ds[k].c → At ds fs fr J (addI bl2 ds[k].b (k : Int)) i (k + 1) u := fun h1 h => hat.add hkt hkf hdk.b (by rw [← h1]; exact edge_on hkt hkf h) (fun _ _ => rfl) (fun h2 _ => absurd (h1.trans h2.symm) hdk.ne)
          have hba : ds[k].b = u → 0 < fs[k] → At ds fs fr J (addI bl2 ds[k].a (k : Int)) i (k + 1) u := fun h1 h => hat.add hkt hkf hdk.a (by rw [← h1]; exact edge_back hkt hkf h) (fun h2 _ => absurd (h2.trans h1.symm) hdk.ne) (fun _ _ => rfl)
          have hdk2 : DOk J ds[k] := hdk
          generalize ds[k] = d at e0 e1 e2 hbd hdk2 hskip hon hba
          generalize fs[k] = f at ef hbd hskip hon hba
          obtain ⟨x1, x2, x3⟩ := d
          obtain ⟨r1, r2, rn, r3⟩ := hdk2
          simp only at e0 e1 e2 hbd r1 r2 rn r3 hskip hon hba
          obtain ⟨wd, hwd⟩ : ∃ x, wi.alloc (.cells #[.int .i64 x1, .int .i64 x2, .int .i64 x3] 139) = x := ⟨_, rfl⟩
          have hbw : Below wi.heap.size wi wd := by rw [← hwd]; exact (Below.refl _ _).alloc (Nat.le_refl _) _
          have d0 : wd.cell? ⟨wi.heap.size, 0, none⟩ = some (.int .i64 x1) := by rw [← hwd]; simp [go_sem]
          have d1 : wd.cell? ⟨wi.heap.size, 1, none⟩ = some (.int .i64 x2) := by rw [← hwd]; simp [go_sem]
          have d2 : wd.cell? ⟨wi.heap.size, 2, none⟩ = some (.int .i64 x3) := by rw [← hwd]; simp [go_sem]
          have hpl := World.block_lt_of_cell? wi _ hbx.l
          have hmb := hbx.mp.lt
          have hkl : (bl2.map Prod.fst).length = bl2.length := List.length_map _
          have c2 := box_cell hbw hbx.l
          have ci2 := box_cell hbw ci
          have ef2 := box_cell hbw ef
          have HBX := hid (hbx.next hbw)
          have HBi := hid (hb.trans (hbw.mono hb.size))
          generalize bl2.map Prod.fst = ks2 at c2 HBX hil hkl
          have hik : (i : Int) < (ks2.length : Int) := by omega
          clear hbx hb hat hbd hdk ci ef HV HBD
          have HW := hid hwd
          clear hwd hbw
          go_upto_region 10 with fail
          rw [HW.out]
          clear HW e0 e1 e2
          have hkd : (k : Int) < (ds.length : Int) := by omega
          have hkd2 : (k : Int) < (fs.length : Int) := by omega
          have hfew2 : bl2.length ≤ 1000 := by omega
          have hpld : pl ≠ wi.heap.size := by simp only at hpl; omega
          have hmbd : mb ≠ wi.heap.size := by omega
          have hgd : g ≠ wi.heap.size := by omega
          have hgo : (Value.slice (some ⟨g, 0, none⟩) ks2.length q2).ownBlock ≠ some wi.heap.size := by simp only [Value.ownBlock, ne_eq, Option.some.injEq]; exact hgd
          have HGO := hid hgo
          have HKL := hid hkl
          have hs1 : W1.heap.size ≤ wi.heap.size := by omega
          generalize wi.heap.size = dB at d0 d1 d2 hpld hmbd hgd HGO hs1 ⊢
          clear hkl hgo hpl hmb hfew hg2 hk hkf
          by_cases hA : x1 = u ∧ f < x3
          · have g1 : (x1 == u) = true := beq_iff_eq.2 hA.1
            have g2 : decide (f < x3) = true := decide_eq_true hA.2
            have g3 : (x2 == u) = false := beq_eq_false_iff_ne.2 (fun e => rn (hA.1.trans e.symm))
            have HAT := hid (hon hA.1 hA.2)
            clear hskip hon hba hA
            go_quiet (fail)
            obtain ⟨wq, hwq⟩ : ∃ x, wd.drewN nq = x := ⟨_, rfl⟩
            have hbq : Below wd.heap.size wd wq := by rw [← hwq]; exact (Below.refl _ _).drewN _
            have z1 := box_cell hbq d1
            rw [hwq]
            have HBX2 := hid (HBX.out.next hbq)
            have HBi2 := hid (HBi.out.trans (hbq.mono HBi.out.size))
            clear hwq hbq d0 d1 d2 ci2 ef2 c2 HBX HBi
            go_wp2_with (go_at_call 123; refine (implAdd x2 (k : Int) _ pm pl mb _ bl2 _ HBX2.out (by unfold inI; omega) (by unfold inI; omega) hfew2 HBi2.out.size).mono ?_; rintro e w3 ⟨rfl, ⟨L3, hbx3⟩, hb3, ho3⟩; refine keep_ ?_)
            have hbx4 : Bxs w3 W1.heap.size pm pl mb L3 (addI bl2 x2 (k : Int)) := hbx3
            generalize addI bl2 x2 (k : Int) = bl3 at HAT hbx4
            obtain ⟨V3, q3, rfl⟩ := hbx4.own.form
            have hil3 : i < (bl3.map Prod.fst).length := by rw [List.length_map]; exact HAT.out.lt
            obtain ⟨g', hg', _, hgl⟩ := hbx4.own.addr hil3
            subst hg'
            have ci3 := (hbx4.own.int hil3).1
            rw [HAT.out.key hil3] at ci3
            have c3 := hbx4.l
            have z2 := oth_cell ho3 z1 hpld.symm hmbd.symm HGO.out
            generalize bl3.map Prod.fst = ks3 at c3 hbx4 hil3
            have HBX4 := hid hbx4
            have HBi4 := hid (HBi2.out.trans hb3)
            have hik3 : (i : Int) < (ks3.length : Int) := by omega
            clear hbx3 hb3 ho3 hbx4 z1 HBX2 HBi2
            refine go_ ?_
            go_wp2_with fail
            go_quiet (fail)
            go_wp2_with fail
            go_roundw
            case rel => exact ⟨k + 1, bl3, _, by go_num, by omega, HAT.out, HBX4.out.next ((Below.refl _ _).drewN _), HBi4.out.drewN _⟩
            case measure => simp [intOf]; omega
          · by_cases hC : x2 = u ∧ 0 < f
            · have g1 : (x1 == u) = false := beq_eq_false_iff_ne.2 (fun e => rn (e.trans hC.1.symm))
              have g2 : (x2 == u) = true := beq_iff_eq.2 hC.1
              have g3 : decide (0 < f) = true := decide_eq_true hC.2
              have HAT := hid (hba hC.1 hC.2)
              clear hskip hon hba hA hC
              go_quiet (fail)
              obtain ⟨wq, hwq⟩ : ∃ x, wd.drewN nq = x := ⟨_, rfl⟩
              have hbq : Below wd.heap.size wd wq := by rw [← hwq]; exact (Below.refl _ _).drewN _
              have z0 := box_cell hbq d0
              have z1 := box_cell hbq d1
              have z2 := box_cell hbq ci2
              have z3 := box_cell hbq ef2
              have z4 := box_cell hbq c2
              rw [hwq]
              have HBX2 := hid (HBX.out.next hbq)
              have HBi2 := hid (HBi.out.trans (hbq.mono HBi.out.size))
              clear hwq hbq d0 d1 d2 ci2 ef2 c2 HBX HBi
              go_wp2_with fail
              go_quiet (fail)
              obtain ⟨wr, hwr⟩ : ∃ x, wq.drewN nq = x := ⟨_, rfl⟩
              have hbq : Below wq.heap.size wq wr := by rw [← hwr]; exact (Below.refl _ _).drewN _
              have y0 := box_cell hbq z0
              rw [hwr]
              have HBX3 := hid (HBX2.out.next hbq)
              have HBi3 := hid (HBi2.out.trans (hbq.mono HBi2.out.size))
              clear hwr hbq z0 z1 z2 z3 z4 HBX2 HBi2
              go_wp2_with (go_at_call 123; refine (implAdd x1 (k : Int) _ pm pl mb _ bl2 _ HBX3.out (by unfold inI; omega) (by unfold inI; omega) hfew2 HBi3.out.size).mono ?_; rintro e w3 ⟨rfl, ⟨L3, hbx3⟩, hb3, ho3⟩; refine keep_ ?_)
              have hbx4 : Bxs w3 W1.heap.size pm pl mb L3 (addI bl2 x1 (k : Int)) := hbx3
              have HBX4 := hid hbx4
              have HBi4 := hid (HBi3.out.trans hb3)
              clear hbx3 hb3 ho3 hbx4 HBX3 HBi3
              refine go_ ?_
              go_wp2_with fail
              go_roundw
              case rel => exact ⟨k + 1, _, _, by go_num, by omega, HAT.out, HBX4.out, HBi4.out⟩
              case measure => simp [intOf]; omega
            · have HAT := hid (hskip hA hC)
              clear hskip hon hba
              by_cases e1 : x1 = u
              · have g1 : (x1 == u) = true := beq_iff_eq.2 e1
                have g2 : decide (f < x3) = false := decide_eq_false (fun h => hA ⟨e1, h⟩)
                have g3 : (x2 == u) = false := beq_eq_false_iff_ne.2 (fun e => rn (e1.trans e.symm))
                clear e1 hA hC
                go_quiet (fail)
                obtain ⟨wq, hwq⟩ : ∃ x, wd.drewN nq = x := ⟨_, rfl⟩
                have hbq : Below wd.heap.size wd wq := by rw [← hwq]; exact (Below.refl _ _).drewN _
                have z0 := box_cell hbq d0
                have z1 := box_cell hbq d1
                have z2 := box_cell hbq ci2
                have z3 := box_cell hbq ef2
                have z4 := box_cell hbq c2
                rw [hwq]
                have HBX2 := hid (HBX.out.next hbq)
                have HBi2 := hid (HBi.out.trans (hbq.mono HBi.out.size))
                clear hwq hbq d0 d1 d2 ci2 ef2 c2 HBX HBi
                go_wp2_with fail
                go_quiet (fail)
                go_wp2_with fail
                go_roundw
                case rel => exact ⟨k + 1, bl2, _, by go_num, by omega, HAT.out, HBX2.out.next ((Below.refl _ _).drewN _), HBi2.out.drewN _⟩
                case measure => simp [intOf]; omega
              · have g1 : (x1 == u) = false := beq_eq_false_iff_ne.2 e1
                by_cases e2 : x2 = u
                · have g2 : (x2 == u) = true := beq_iff_eq.2 e2
                  have g3 : decide (0 < f) = false := decide_eq_false (fun h => hC ⟨e2, h⟩)
                  clear e1 e2 hA hC
                  go_quiet (fail)
                  obtain ⟨wq, hwq⟩ : ∃ x, wd.drewN nq = x := ⟨_, rfl⟩
                  have hbq : Below wd.heap.size wd wq := by rw [← hwq]; exact (Below.refl _ _).drewN _
                  have z0 := box_cell hbq d0
                  have z1 := box_cell hbq d1
                  have z2 := box_cell hbq ci2
                  have z3 := box_cell hbq ef2
                  have z4 := box_cell hbq c2
                  rw [hwq]
                  have HBX2 := hid (HBX.out.next hbq)
                  have HBi2 := hid (HBi.out.trans (hbq.mono HBi.out.size))
                  clear hwq hbq d0 d1 d2 ci2 ef2 c2 HBX HBi
                  go_wp2_with fail
                  go_quiet (fail)
                  go_wp2_with fail
                  go_roundw
                  case rel => exact ⟨k + 1, bl2, _, by go_num, by omega, HAT.out, HBX2.out.next ((Below.refl _ _).drewN _), HBi2.out.drewN _⟩
                  case measure => simp [intOf]; omega
                · have g2 : (x2 == u) = false := beq_eq_false_iff_ne.2 e2
                  clear e1 e2 hA hC
                  go_quiet (fail)
                  obtain ⟨wq, hwq⟩ : ∃ x, wd.drewN nq = x := ⟨_, rfl⟩
                  have hbq : Below wd.heap.size wd wq := by rw [← hwq]; exact (Below.refl _ _).drewN _
                  have z0 := box_cell hbq d0
                  have z1 := box_cell hbq d1
                  have z2 := box_cell hbq ci2
                  have z3 := box_cell hbq ef2
                  have z4 := box_cell hbq c2
                  rw [hwq]
                  have HBX2 := hid (HBX.out.next hbq)
                  have HBi2 := hid (HBi.out.trans (hbq.mono HBi.out.size))
                  clear hwq hbq d0 d1 d2 ci2 ef2 c2 HBX HBi
                  go_wp2_with fail
                  go_quiet (fail)
                  go_wp2_with fail
                  go_roundw
                  case rel => exact ⟨k + 1, bl2, _, by go_num, by omega, HAT.out, HBX2.out.next ((Below.refl _ _).drewN _), HBi2.out.drewN _⟩
                  case measure => simp [intOf]; omega
        · have hil := hat.lt
          have hfw := hat.few
          have HAT := hid hat
          have HBX := hid hbx
          have HBi := hid hb
          clear hat hbx hb
          go_wp2_with fail
          go_roundw
          case rel => exact ⟨i + 1, bl2, L2, by go_num, by omega, HAT.out.tree, HAT.out.inj, HAT.out.row (by omega), HBX.out, HBi.out⟩
          case measure => simp [intOf]; omega
    · have hie : i = bl.length := by omega
      have HD : Hid (Done ds fs bl bl.length 0) := by show Done _ _ _ _ _; rw [← hie]; exact HDN.out
      have m0 := box_cell HB.out (by simpa using N0.out)
      have cm := HBO.out.m
      have hor := HBO.out.own.rd (by rw [List.length_map]; omega)
      have HWH : Hid (∀ x, Below wo.heap.size wo x → Calls Try.prog 124 #[.int .i64 J, .func (.func 125) #[] #[.pointer (some ⟨pl, 0, none⟩)]] x fun e w' => ∃ v, e = .returned v ∧ Own w' x.heap.size 2 v (sideL bl J) ∧ Below x.heap.size x w') := fun x hbx => by
        have h := implWhere_Reach (.pointer (some ⟨pl, 0, none⟩)) J.toNat (fun k => hasB (bl.map Prod.fst) (k : Int)) x (by omega) (fun k hk w' hb' => implReach2 (k : Int) pl V (bl.map Prod.fst) vq w' (hor.below (hbx.trans (hb'.mono hbx.size))) (by rw [HKS.out]; exact box_cell hb' (box_cell hbx c2)))
        rw [show ((J.toNat : Nat) : Int) = J by omega] at h
        exact h
      have hnk : ¬ i < ks.length := by omega
      have HBW := hid (HB1.out.trans (HB.out.mono HB1.out.size))
      have hle : w.heap.size ≤ wo.heap.size := HBW.out.size
      have hmb : w.heap.size ≤ mb := by have := HBO.out.lo; have := HZ1.out; omega
      have HMP := hid HBO.out.mp
      clear hkl hie hor HKS
      go_wp2_with fail
      go_region_with (go_at_call 124; refine (HWH.out _ ((Below.refl _ _).drew)).mono ?_; rintro e w6 ⟨v, rfl, hov, hb6⟩; obtain ⟨S, sq, rfl⟩ := hov.form; have hb7 := undrew hb6; have cm6 := box_cell hb7 cm; have HOV := hid hov; have HB7 := hid hb7; clear hov hb6 hb7)
      all_goals
        go_wp2_with fail
        go_ret2
        exact ⟨S, sq, mb, bl, rfl, HOV.out.mono hle, HMP.out.below HB7.out, hmb, HT.out, HD.out, HIN.out, HBW.out.trans (HB7.out.mono hle)⟩
end Go.Proofs.Yteobejgkjjhfkaa
