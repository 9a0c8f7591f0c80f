/- BestTasks: the reference's walk. -/
import Derived.Test.YtdlddlgpaokgiaaBestI
namespace Go.Proofs.Ytdlddlgpaokgiaa
open Go.RowKit
set_option linter.unusedVariables false
set_option linter.unusedSimpArgs false
theorem bit_is (j m : Nat) (hj : j ≤ 4096) : (bits BinOp.and IntKind.i64 ((j : Int) / 2 ^ m) 1 == 1) = j.testBit m := by
  have h1 : ((j : Int) / 2 ^ m) = ((j / 2 ^ m : Nat) : Int) := by rw [Int.natCast_ediv, Int.natCast_pow]; rfl
  have hle : j / 2 ^ m ≤ 4096 := Nat.le_trans (Nat.div_le_self _ _) hj
  have h2 : bits BinOp.and IntKind.i64 ((j / 2 ^ m : Nat) : Int) 1 = ((j / 2 ^ m % 2 : Nat) : Int) := by
    generalize j / 2 ^ m = n at hle
    show IntKind.i64.wrap ((BitVec.ofInt 64 (n : Int) &&& BitVec.ofInt 64 1).toNat : Int) = _
    rw [BitVec.toNat_and, BitVec.ofInt_natCast, BitVec.toNat_ofNat, Nat.mod_eq_of_lt (by omega : n < 2 ^ 64)]
    rw [show (BitVec.ofInt 64 1).toNat = 1 from rfl, Nat.and_one_is_mod]
    exact IntWalk.i64_in _ (by omega)
  rw [h1, h2, Nat.testBit_eq_decide_div_mod_eq, Bool.eq_iff_iff]
  simp only [beq_iff_eq, decide_eq_true_eq]
  omega
set_option maxHeartbeats 1000000 in
theorem specLess (A B : Option Addr) (xs ys : List Int) (c d : Nat) (w : World) (hx : Rd w A xs) (hy : Rd w B ys) (hl : xs.length = ys.length) :
    Calls Try.prog 30 #[.slice A xs.length c, .slice B ys.length d] w fun e w' => e = .returned (.bool (lexB xs ys)) ∧ Below w.heap.size w w' := by
  have hn := hx.len
  have HL := hid hl
  clear hl
  obtain ⟨R, hR⟩ : ∃ R, lexB xs ys = R := ⟨_, rfl⟩
  rw [hR]
  have HR := hid hR
  clear hR
  go_enter Try.func30, Try.ntmps30
  go_wp2
  go_loopw [5] (fun i wr => ∃ k : Nat, k ≤ xs.length ∧ i = .int .i64 k ∧ lexB (xs.drop k) (ys.drop k) = R ∧ (∃ m, wr = w.more m)) (fun i _ => xs.length - (intOf i).toNat)
  case atStart => exact ⟨0, Nat.zero_le _, rfl, HR.out, more_self⟩
  case round =>
    obtain ⟨k, hk, rfl, ht, m, rfl⟩ := hrel
    by_cases hlt : k < xs.length
    · have hlt2 : k < ys.length := by rw [← HL.out]; exact hlt
      obtain ⟨b, off, rfl, c1⟩ := hx.int hlt
      obtain ⟨b', off', rfl, d1⟩ := hy.int hlt2
      rw [List.drop_eq_getElem_cons hlt, List.drop_eq_getElem_cons hlt2] at ht
      simp only [lexB] at ht
      generalize xs[k] = x at c1 ht
      generalize ys[k] = y at d1 ht
      clear hx hy
      by_cases he : x = y
      · rw [if_pos he] at ht
        have Ht := hid ht
        have d2 : (x != y) = false := by simp [he]
        clear ht he
        go_wp2_with fail
        go_quiet (fail)
        go_wp2_with fail
        go_roundw
        case rel => exact ⟨k + 1, by omega, by go_num, Ht.out, below_ex (more_below.drewN _)⟩
        case measure => simp [intOf]; omega
      · rw [if_neg he] at ht
        have Ht := hid ht
        have d2 : (x != y) = true := by simp [he]
        clear ht he
        go_wp2_with fail
        go_quiet (fail)
        go_wp2_with fail
        go_quiet (fail)
        go_wp2_with fail
        go_ret
        exact ⟨ret_bool Ht.out, (more_below.drewN _).drewN _⟩
    · rw [List.drop_eq_nil_of_le (by omega)] at ht
      have Ht := hid ht
      clear ht
      go_wp2_with fail
      go_ret
      exact ⟨ret_bool (by rw [← Ht.out]; rfl), more_below⟩
set_option maxRecDepth 100000 in
set_option maxHeartbeats 8000000 in
theorem specBest (v : Value) (t : List Task) (V : Option Addr) (ws : List Int) (q : Nat) (money : Int) (w : World) (h : RdTaskS w v t) (hw : Rd w V ws) :
    Calls Try.prog 6 #[v, .slice V ws.length q, .int .i64 money] w fun e w' => ∃ u, e = .returned (.tuple #[u, .int .i64 (bestF t ws money).1.2, .int .i64 (bestF t ws money).2]) ∧ Own w' w.heap.size 2 u (bestF t ws money).1.1 ∧ Below w.heap.size w w' := by
  obtain ⟨A, c, rfl, hx⟩ := h
  have hwl := hw.len
  by_cases hv : validT t = true
  · have h12 := valid_len hv
    have HV := hid hv
    go_enter Try.func6, Try.ntmps6
    go_wp2_with fail
    refine (specTasksOk _ _ _ _ hx).mono ?_
    rintro e w1 ⟨rfl, hb⟩
    rw [hv]
    have HB1 := hid hb
    have HX1 := hid (hx.below hb)
    have HW1 := hid (hw.below hb)
    clear hb hx hw hv
    go_wp2_with fail
    go_loop [9] (fun i => ∃ k : Nat, k ≤ ws.length ∧ i = .int .i64 k ∧ (ws.take k).all (fun x => inB x 0 1000) = true) (fun i => ws.length - (intOf i).toNat)
    case atStart => exact ⟨0, Nat.zero_le _, rfl, rfl⟩
    case round =>
      obtain ⟨k, hk, rfl, hall⟩ := hrel
      by_cases hlt : k < ws.length
      · obtain ⟨b, off, rfl, c1⟩ := HW1.out.int hlt
        have hn : (ws.take (k + 1)).all (fun x => inB x 0 1000) = inB ws[k] 0 1000 := by rw [take_next hlt, List.all_append, hall]; simp
        have hf : inB ws[k] 0 1000 = false → ws.all (fun x => inB x 0 1000) = false := fun h => by
          rw [List.all_eq_false]
          exact ⟨ws[k], List.getElem_mem hlt, by simp [h]⟩
        have HN := hid hn
        have HFF := hid hf
        clear hn hf hall
        generalize ws[k] = x at c1 HN HFF
        cases hxi : inB x 0 1000
        · have HF := hid (codeB_two (t := t) (ws := ws) (money := money) HV.out (by rw [HFF.out hxi]; simp))
          go_wp2_with (go_at_call 28; refine (specIn _ _ _ _).mono ?_; rintro e w' ⟨rfl, rfl⟩; rw [hxi])
          go_ret3
          exact ⟨.slice none 0 0, ret_best (by rw [HF.out]) (by rw [HF.out]), by rw [HF.out]; exact Own.nil _ _ _, HB1.out⟩
        · go_wp2_with (go_at_call 28; refine (specIn _ _ _ _).mono ?_; rintro e w' ⟨rfl, rfl⟩; rw [hxi])
          go_round
          case rel => exact ⟨k + 1, by omega, by go_num, by rw [HN.out]; exact hxi⟩
          case measure => simp [intOf]; omega
      · rw [List.take_of_length_le (by omega)] at hall
        have HAL := hid hall
        clear hall
        cases h1 : decide (ws.length = t.length)
        · have HF := hid (codeB_two (ws := ws) (money := money) HV.out (by rw [h1]; simp))
          have l1 : ((ws.length : Int) != t.length) = true := by rw [bne_iff_ne]; rw [decide_eq_false_iff_not] at h1; omega
          clear h1
          go_wp2_with fail
          go_ret3
          exact ⟨.slice none 0 0, ret_best (by rw [HF.out]) (by rw [HF.out]), by rw [HF.out]; exact Own.nil _ _ _, HB1.out⟩
        · have l0 : ws.length = t.length := by simpa using h1
          have l1 : ((ws.length : Int) != t.length) = false := by simp [l0]
          have HL0 := hid l0
          clear l0
          cases h3 : inB money 0 12000000
          · have HF := hid (codeB_two (ws := ws) (money := money) HV.out (by rw [h3]; simp))
            clear h1
            go_wp2_with (go_at_call 28; refine (specIn _ _ _ _).mono ?_; rintro e w' ⟨rfl, rfl⟩; rw [h3])
            go_ret3
            exact ⟨.slice none 0 0, ret_best (by rw [HF.out]) (by rw [HF.out]), by rw [HF.out]; exact Own.nil _ _ _, HB1.out⟩
          · have HF := hid (codeB_ok (ws := ws) (money := money) HV.out (by rw [h1, HAL.out, h3]; simp))
            have hwr : ∀ x ∈ ws, 0 ≤ x ∧ x ≤ 1000 := fun x hx => inB_true.1 (List.all_eq_true.1 HAL.out x hx)
            have hmr := inB_true.1 h3
            have HWR := hid hwr
            clear h1 hwr
            go_wp2_with (go_at_call 28; refine (specIn _ _ _ _).mono ?_; rintro e w' ⟨rfl, rfl⟩; rw [h3])
            have hp : (2 : Nat) ^ t.length ≤ 4096 := Nat.pow_le_pow_right (n := 2) (by decide) h12
            obtain ⟨N, hN⟩ : ∃ N, 2 ^ t.length = N := ⟨_, rfl⟩
            rw [hN] at hp
            have e0 : wrap64 ((2 : Int) ^ t.length) = (N : Int) := by rw [show ((2 : Int) ^ t.length) = ((2 ^ t.length : Nat) : Int) from by rw [Int.natCast_pow]; rfl, hN]; exact IntWalk.wrap64_in _ (by omega)
            have HN := hid hN
            clear hN
            go_loopw [10, 11, 12] (fun u m i wr => ∃ (j : Nat) (bl : List Int) (bw : Int), j ≤ N ∧ i = .int .i64 j ∧ m = .int .i64 bw ∧ bscan t ws money j = (bl, bw) ∧ (-1 ≤ bw ∧ bw ≤ 12000) ∧ bl.length ≤ 12 ∧ Own wr w.heap.size 2 u bl ∧ Below w1.heap.size w1 wr) (fun _ _ i _ => N - (intOf i).toNat)
            case atStart => exact ⟨0, [], -1, Nat.zero_le _, rfl, rfl, rfl, by omega, by simp, Own.empty HB1.out.size, (Below.refl _ _).alloc (Nat.le_refl _) _⟩
            case round =>
              obtain ⟨j, bl, bw, hj, rfl, rfl, hq, hbw, hbl, ho, hb⟩ := hrel
              obtain ⟨wo, rfl⟩ : ∃ wo : World, wo = wr := ⟨_, rfl⟩
              have HB := hid hb
              have HO := hid ho
              have HXo := hid (HX1.out.below hb)
              have HWo := hid (HW1.out.below hb)
              clear hb ho
              by_cases hlt : j < N
              · go_wp2_with fail
                rw [e0]
                go_loopw [13, 14, 15, 16] (fun u a b i wi => ∃ (m : Nat) (s : List Int), m ≤ t.length ∧ i = .int .i64 m ∧ s = whereTo (fun k => j.testBit k) m ∧ a = .int .i64 (costOf t s) ∧ b = .int .i64 (worthOf ws s) ∧ (0 ≤ costOf t s ∧ costOf t s ≤ 1000000 * m) ∧ (0 ≤ worthOf ws s ∧ worthOf ws s ≤ 1000 * m) ∧ Own wi wo.heap.size 2 u s ∧ Below wo.heap.size wo wi) (fun _ _ _ i _ => t.length - (intOf i).toNat)
                case atStart => exact ⟨0, [], Nat.zero_le _, rfl, rfl, rfl, rfl, by simp [costOf], by simp [worthOf], Own.empty (Nat.le_refl _), (Below.refl _ _).alloc (Nat.le_refl _) _⟩
                case round =>
                  obtain ⟨m, s, hm, rfl, hs, rfl, rfl, hcb, hwb, hso, hb⟩ := hrel
                  obtain ⟨wi, rfl⟩ : ∃ wi : World, wi = wr := ⟨_, rfl⟩
                  obtain ⟨SA, sq, rfl⟩ := hso.form
                  by_cases hlm : m < t.length
                  · have htb := bit_is j m (by omega)
                    have HSO := hid hso
                    have HBI := hid hb
                    have hsl : s.length ≤ m := by rw [hs]; exact whereTo_len _ _
                    have HSS := hid hs
                    clear hso hb hs
                    cases hbt : j.testBit m
                    · rw [hbt] at htb
                      have HB9 := hid hbt
                      clear hbt
                      go_wp2_with fail
                      go_roundw
                      case rel => exact ⟨m + 1, s, by omega, by go_num, by rw [whereTo_next, HB9.out, if_neg (by decide)]; exact HSS.out, rfl, rfl, by omega, by omega, HSO.out, HBI.out⟩
                      case measure => simp [intOf]; omega
                    · rw [hbt] at htb
                      have HB9 := hid hbt
                      clear hbt
                      have haw : m < ws.length := by rw [HL0.out]; exact hlm
                      have hva := (valid_at HV.out hlm).2.1
                      have hwa := HWR.out _ (List.getElem_mem haw)
                      have hcs := costOf_snoc t s (m : Int)
                      have hws := worthOf_snoc ws s (m : Int)
                      have e1 : costAt t ((m : Int).toNat) = t[m].cost := by rw [Int.toNat_natCast]; exact costAt_eq hlm
                      have e2 : ws.getD ((m : Int).toNat) 0 = ws[m] := by rw [Int.toNat_natCast]; simp [haw]
                      rw [e1] at hcs
                      rw [e2] at hws
                      clear e1 e2
                      have HCS := hid hcs
                      have HWS := hid hws
                      have hsz := HBI.out.size
                      clear hcs hws
                      go_wp2_with (at_builtin; refine wpList_push elInt _ rfl (.tmp 64) (.tmp 66) rfl wo.heap.size _ s (m : Int) rfl (HSO.out.alloc _) _ rfl (heap_alloc_new _ _) (by omega) (le_alloc hsz) ?_; intro v' w' hown' hg' hat'; refine keep_ ?_)
                      have HB2 := hid (below_own (HBI.out.alloc hsz (.cells #[.int .i64 (m : Int)] 2)) (HSO.out.alloc _) hg' (Nat.le_refl _) (le_alloc hsz))
                      obtain ⟨s2, hs2⟩ : ∃ s2, s ++ [(m : Int)] = s2 := ⟨_, rfl⟩
                      rw [hs2] at hown' HCS HWS
                      obtain ⟨NA, nq, rfl⟩ := hown'.form
                      have HO2 := hid hown'
                      have HS2 := hid hs2
                      clear hown' hg' hat' hs2
                      obtain ⟨tb, to_, P2, q2, hA, _, t1, _, _, _⟩ := (HXo.out.below HB2.out).at_ hlm
                      subst hA
                      obtain ⟨wb, wo2, hA, u1⟩ := (HWo.out.below HB2.out).int haw
                      subst hA
                      generalize t[m].cost = ca at t1 HCS hva
                      generalize ws[m] = wa at u1 HWS hwa
                      generalize costOf t s = cm at hcb HCS
                      generalize worthOf ws s = wm at hwb HWS
                      refine go_ ?_
                      go_wp2_with fail
                      go_roundw
                      case rel => exact ⟨m + 1, s2, by omega, by go_num, by rw [whereTo_next, HB9.out, if_pos rfl, ← HSS.out]; exact HS2.out.symm, by rw [HCS.out], by rw [HWS.out], by rw [HCS.out]; omega, by rw [HWS.out]; omega, HO2.out, HB2.out⟩
                      case measure => simp [intOf]; omega
                  · have hmt : m = t.length := by omega
                    have hse : s = maskL t.length j := by rw [hs, hmt]; rfl
                    have hsl : s.length ≤ m := by rw [hs]; exact whereTo_len _ _
                    have hqn : bscan t ws money (j + 1) = bstep t ws money (bl, bw) j := by rw [bscan_next, hq]
                    unfold bstep at hqn
                    rw [← hse] at hqn
                    have HRI := hid (rises_of (n := t.length) (s := s) (by rw [hse]; exact mask_upTo _ _))
                    have HSO := hid hso
                    have HBI := hid hb
                    have hwb2 : 0 ≤ worthOf ws s ∧ worthOf ws s ≤ 12000 := by omega
                    have hm12 : s.length ≤ 12 := by omega
                    have HSR := hid (hso.rd (by omega))
                    have HBR := hid (HO.out.below hb)
                    have hbm : bl.length ≤ 12 := hbl
                    obtain ⟨BA, bq, rfl⟩ := HO.out.form
                    clear hso hb hs hse hwb hmt
                    generalize costOf t s = cm at hcb hqn
                    generalize worthOf ws s = wm at hwb2 hqn
                    simp only at hqn
                    by_cases q1 : money < cm
                    · simp only [decide_eq_true q1, Bool.true_or, if_true] at hqn
                      have HQ9 := hid hqn
                      clear hqn
                      go_wp2_with fail
                      go_roundw
                      case rel => exact ⟨j + 1, bl, bw, by omega, by go_num, rfl, HQ9.out, hbw, hbl, HBR.out, HB.out.trans (HBI.out.mono HB.out.size)⟩
                      case measure => simp [intOf]; omega
                    · by_cases q2 : wm < bw
                      · simp only [decide_eq_true q2, Bool.or_true, Bool.true_or, if_true] at hqn
                        have HQ9 := hid hqn
                        clear hqn
                        go_wp2_with fail
                        go_roundw
                        case rel => exact ⟨j + 1, bl, bw, by omega, by go_num, rfl, HQ9.out, hbw, hbl, HBR.out, HB.out.trans (HBI.out.mono HB.out.size)⟩
                        case measure => simp [intOf]; omega
                      · have HCL : Hid (∀ x, x = wi → Calls Try.prog 29 #[.slice A t.length c, .slice SA s.length sq] x fun e w' => e = .returned (.bool (closedB t s)) ∧ x = w') := fun x hx => by subst hx; exact specClosed A SA t s c sq x (HXo.out.below HBI.out) HSR.out HRI.out
                        cases q3 : closedB t s
                        · rw [q3] at HCL hqn
                          simp only [Bool.not_false, Bool.or_true, if_true] at hqn
                          have HQ9 := hid hqn
                          clear hqn
                          go_wp2_with (go_at_call 29; refine (HCL.out _ rfl).mono ?_; rintro e w5 ⟨rfl, rfl⟩)
                          go_roundw
                          case rel => exact ⟨j + 1, bl, bw, by omega, by go_num, rfl, HQ9.out, hbw, hbl, HBR.out, HB.out.trans (HBI.out.mono HB.out.size)⟩
                          case measure => simp [intOf]; omega
                        · rw [q3] at HCL hqn
                          simp only [decide_eq_false q1, decide_eq_false q2, Bool.not_true, Bool.or_false, Bool.false_eq_true, if_false] at hqn
                          by_cases q4 : bw < wm
                          · simp only [decide_eq_true q4, Bool.true_or, if_true] at hqn
                            have HQ9 := hid hqn
                            clear hqn
                            go_wp2_with (go_at_call 29; refine (HCL.out _ rfl).mono ?_; rintro e w5 ⟨rfl, rfl⟩)
                            go_roundw
                            case rel => exact ⟨j + 1, s, wm, by omega, by go_num, rfl, HQ9.out, by omega, hm12, HSO.out.mono (by have := HB.out.size; have := HB1.out.size; omega), HB.out.trans (HBI.out.mono HB.out.size)⟩
                            case measure => simp [intOf]; omega
                          · by_cases q5 : s.length < bl.length
                            · simp only [decide_eq_true q5, Bool.or_true, Bool.true_or, if_true] at hqn
                              have HQ9 := hid hqn
                              have hwe : wm = bw := by omega
                              clear hqn
                              go_wp2_with (go_at_call 29; refine (HCL.out _ rfl).mono ?_; rintro e w5 ⟨rfl, rfl⟩)
                              go_roundw
                              case rel => exact ⟨j + 1, s, wm, by omega, by go_num, val_int (by omega), HQ9.out, by omega, hm12, HSO.out.mono (by have := HB.out.size; have := HB1.out.size; omega), HB.out.trans (HBI.out.mono HB.out.size)⟩
                              case measure => simp [intOf]; omega
                            · by_cases q6 : s.length = bl.length
                              · have l6 : ((s.length : Int) == bl.length) = true := by simp [q6]
                                have HLS : Hid (∀ x, x = wi → Calls Try.prog 30 #[.slice SA s.length sq, .slice BA bl.length bq] x fun e w' => e = .returned (.bool (lexB s bl)) ∧ Below x.heap.size x w') := fun x hx => by subst hx; exact specLess SA BA s bl sq bq x HSR.out (HBR.out.rd (by omega)) q6
                                simp only [decide_eq_false q4, decide_eq_false q5, decide_eq_true q6, Bool.false_or, Bool.true_and] at hqn
                                have H6 := hid q6
                                clear q6
                                cases q7 : lexB s bl
                                · rw [q7] at HLS hqn
                                  simp only [Bool.false_eq_true, if_false] at hqn
                                  have HQ9 := hid hqn
                                  clear hqn
                                  go_wp2_with (first | (go_at_call 29; refine (HCL.out _ rfl).mono ?_; rintro e w5 ⟨rfl, rfl⟩) | (go_at_call 30; refine (HLS.out _ rfl).mono ?_; rintro e w5 ⟨rfl, hb⟩; have HB5 := hid hb; clear hb; refine keep_ ?_))
                                  refine go_ ?_
                                  go_wp2_with fail
                                  go_roundw
                                  case rel => exact ⟨j + 1, bl, bw, by omega, by go_num, rfl, HQ9.out, hbw, hbl, HBR.out.below HB5.out, (HB.out.trans (HBI.out.mono HB.out.size)).trans (HB5.out.mono (Nat.le_trans HB.out.size HBI.out.size))⟩
                                  case measure => simp [intOf]; omega
                                · rw [q7] at HLS hqn
                                  simp only [if_true] at hqn
                                  have HQ9 := hid hqn
                                  have hwe : wm = bw := by omega
                                  clear hqn
                                  go_wp2_with (first | (go_at_call 29; refine (HCL.out _ rfl).mono ?_; rintro e w5 ⟨rfl, rfl⟩) | (go_at_call 30; refine (HLS.out _ rfl).mono ?_; rintro e w5 ⟨rfl, hb⟩; have HB5 := hid hb; clear hb; refine keep_ ?_))
                                  refine go_ ?_
                                  go_wp2_with fail
                                  go_roundw
                                  case rel => exact ⟨j + 1, s, wm, by omega, by go_num, val_int (by omega), HQ9.out, by omega, hm12, (HSO.out.below HB5.out).mono (by have := HB.out.size; have := HB1.out.size; omega), (HB.out.trans (HBI.out.mono HB.out.size)).trans (HB5.out.mono (Nat.le_trans HB.out.size HBI.out.size))⟩
                                  case measure => simp [intOf]; omega
                              · have l6 : ((s.length : Int) == bl.length) = false := by rw [beq_eq_false_iff_ne]; omega
                                simp only [decide_eq_false q4, decide_eq_false q5, decide_eq_false q6, Bool.false_or, Bool.false_and, Bool.false_eq_true, if_false] at hqn
                                have HQ9 := hid hqn
                                clear hqn
                                go_wp2_with (go_at_call 29; refine (HCL.out _ rfl).mono ?_; rintro e w5 ⟨rfl, rfl⟩)
                                go_roundw
                                case rel => exact ⟨j + 1, bl, bw, by omega, by go_num, rfl, HQ9.out, hbw, hbl, HBR.out, HB.out.trans (HBI.out.mono HB.out.size)⟩
                                case measure => simp [intOf]; omega
              · have hjn : j = N := by omega
                subst hjn
                have hall : bscan t ws money (2 ^ t.length) = (bl, bw) := by rw [HN.out]; exact hq
                have HALL := hid hall
                clear hall hq
                go_wp2_with fail
                go_ret3
                exact ⟨_, ret_best (by rw [HF.out, HALL.out]) (by rw [HF.out]), by rw [HF.out, HALL.out]; exact HO.out, HB1.out.trans (HB.out.mono HB1.out.size)⟩
  · have HF := hid (codeB_one (ws := ws) (money := money) hv)
    rw [Bool.not_eq_true] at hv
    go_enter Try.func6, Try.ntmps6
    go_wp2_with fail
    refine (specTasksOk _ _ _ _ hx).mono ?_
    rintro e w1 ⟨rfl, hb⟩
    rw [hv]
    go_wp2_with fail
    go_ret3
    exact ⟨.slice none 0 0, ret_best (by rw [HF.out]) (by rw [HF.out]), by rw [HF.out]; exact Own.nil _ _ _, hb⟩
theorem bestF_len (t : List Task) (ws : List Int) (money : Int) : (bestF t ws money).1.1.length ≤ 1048576 := by
  by_cases hv : validT t = true
  · cases h : (decide (ws.length = t.length) && ws.all (fun x => inB x 0 1000) && inB money 0 12000000)
    · rw [codeB_two hv h]; simp
    · rw [codeB_ok hv h]
      simp only [Bool.and_eq_true] at h
      have hb := bscan_all (t := t) (ws := ws) (money := money) (fun x hx => (inB_true.1 (List.all_eq_true.1 h.1.2 x hx)).1) (inB_true.1 h.2).1
      have := upTo_len hb.mem
      have := valid_len hv
      simp only
      omega
  · rw [codeB_one hv]; simp
end Go.Proofs.Ytdlddlgpaokgiaa
