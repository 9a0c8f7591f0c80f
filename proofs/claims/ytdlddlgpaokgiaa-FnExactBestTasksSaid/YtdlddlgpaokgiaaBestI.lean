/- BestTasks: impl's walk. -/
import Derived.Test.YtdlddlgpaokgiaaBestP
import Derived.Test.YtdlddlgpaokgiaaDelay
import Derived.Test.YtdlddlgpaokgiaaTaskValid
import Derived.Deep.CutBlock
namespace Go.Proofs.Ytdlddlgpaokgiaa
open Go.RowKit
set_option linter.unusedVariables false
set_option linter.unusedSimpArgs false
theorem rises_of {n : Nat} {s : List Int} (h : UpTo (n : Int) s) : risesB 0 ((n : Int) - 1) s = true := by
  unfold risesB
  rw [decide_eq_true_eq]
  exact fun k hk => ⟨by have := h.1 _ (List.getElem_mem hk); omega, fun h' h0 => List.pairwise_iff_getElem.1 h.2 (k - 1) k h' hk (by omega)⟩
theorem Rws.rowO {w : World} {base : Nat} {A : Option Addr} {n c : Nat} {cs : List RowC} {L : List (List Int)} (h : Rws w base (.slice A n c) cs L) (hl : L.length ≤ 1048576) {k : Nat} (hk : k < L.length) :
    ∃ b off P q, A = some ⟨b, off, none⟩ ∧ w.cell? ⟨b, off + k, none⟩ = some (.slice P L[k].length q) ∧ Own w base 2 (.slice P L[k].length q) L[k] := by
  have hk' : k < cs.length := by rw [h.len]; exact hk
  obtain ⟨e1, e2, _⟩ := h.all k hk' hk
  obtain ⟨b, off, hA, hc⟩ := (h.own.rd (by rw [h.len]; exact hl)).2 k hk'
  refine ⟨b, off, cs[k].A, cs[k].q, hA, ?_, by rw [← e1]; exact e2⟩
  rw [← e1]
  simpa [Enc.size] using hc 0 _ rfl
theorem costOf_take {t : List Task} {s : List Int} {m : Nat} (hm : m < s.length) : costOf t (s.take (m + 1)) = costOf t (s.take m) + costAt t s[m].toNat := by rw [take_next hm, costOf_snoc]
theorem worthOf_take {ws s : List Int} {m : Nat} (hm : m < s.length) : worthOf ws (s.take (m + 1)) = worthOf ws (s.take m) + ws.getD s[m].toNat 0 := by rw [take_next hm, worthOf_snoc]
theorem ints_at {w : World} {b off : Nat} {xs : List Int} (h : Rd w (some ⟨b, off, none⟩) xs) {k : Nat} (hk : k < xs.length) : w.cell? ⟨b, off + k, none⟩ = some (.int .i64 xs[k]) := by
  obtain ⟨b', off', hA, hc⟩ := h.int hk
  injection hA with hA
  injection hA with h1 h2
  subst h1 h2
  exact hc
theorem codeB_two {t : List Task} {ws : List Int} {money : Int} (hv : validT t = true) (h : (decide (ws.length = t.length) && ws.all (fun x => inB x 0 1000) && inB money 0 12000000) = false) : bestF t ws money = (([], 0), 2) := by
  unfold bestF codeB
  rw [if_pos hv, h]
  rfl
theorem codeB_one {t : List Task} {ws : List Int} {money : Int} (hv : ¬ validT t = true) : bestF t ws money = (([], 0), 1) := by
  unfold bestF codeB
  rw [if_neg hv]
  rfl
theorem codeB_ok {t : List Task} {ws : List Int} {money : Int} (hv : validT t = true) (h : (decide (ws.length = t.length) && ws.all (fun x => inB x 0 1000) && inB money 0 12000000) = true) : bestF t ws money = (bscan t ws money (2 ^ t.length), 0) := by
  unfold bestF codeB
  rw [if_pos hv, h]
  rfl
theorem ret_best {u : Value} {p : (List Int × Int) × Int} {a b : Int} (h1 : p.1.2 = a) (h2 : p.2 = b) : Ending.returned (.tuple #[u, .int .i64 a, .int .i64 b]) = .returned (.tuple #[u, .int .i64 p.1.2, .int .i64 p.2]) := by rw [h1, h2]
theorem bestIn (x : Int) (w : World) : Calls Try.prog 34 #[.int .i64 x] w fun e w' => e = .returned (.bool (inB x 0 1000)) ∧ Below w.heap.size w w' := by
  go_enter Try.func34, Try.ntmps34
  go_wp2_with (go_at_call 35; refine (implIn _ _ _ _).mono ?_; rintro e w' ⟨rfl, rfl⟩)
  go_ret
  exact ⟨rfl, Below.refl _ _⟩
set_option maxHeartbeats 1000000 in
theorem implAll_Best (A : Option Addr) (xs : List Int) (c : Nat) (p : Int → Bool) (w : World) (hx : Rd w A xs)
    (hcl : ∀ x ∈ xs, ∀ w', Below w.heap.size w w' → Calls Try.prog 34 #[.int .i64 x] w' fun e w'' => e = .returned (.bool (p x)) ∧ Below w'.heap.size w' w'') :
    Calls Try.prog 33 #[.slice A xs.length c, .func (.func 34) #[] #[]] w fun e w' => e = .returned (.bool (xs.all p)) ∧ Below w.heap.size w w' := by
  have hn := hx.len
  go_enter Try.func33, Try.ntmps33
  go_wp2
  go_loopw [9] (fun i wr => ∃ k : Nat, k ≤ xs.length ∧ i = .int .i64 k ∧ (xs.take k).all p = true ∧ ∃ q, wr = w.more q) (fun i _ => xs.length - (intOf i).toNat)
  case atStart => exact ⟨0, Nat.zero_le _, rfl, rfl, more_self⟩
  case round =>
    obtain ⟨k, hk, rfl, ht, q, rfl⟩ := hrel
    have Ht := hid ht
    clear ht
    by_cases hlt : k < xs.length
    · obtain ⟨b, off, rfl, c1⟩ := hx.int hlt
      have hc := hcl _ (List.getElem_mem hlt) (w.more q) more_below
      have hmem := List.getElem_mem hlt
      have HT : Hid ((xs.take (k + 1)).all p = p xs[k]) := by
        show (xs.take (k + 1)).all p = p xs[k]
        rw [take_next hlt, List.all_append, Ht.out]; simp
      have HF : Hid (p xs[k] = false → xs.all p = false) := fun h => by
        rw [List.all_eq_false]
        exact ⟨xs[k], hmem, by simp [h]⟩
      generalize xs[k] = x at c1 hc HT HF
      clear hx hcl hmem
      by_cases h1 : p x = true
      · go_wp2_with (go_at_call 34; refine hc.mono ?_; rintro e w' ⟨rfl, hb⟩; rw [h1])
        go_roundw
        case rel => exact ⟨k + 1, by omega, by go_num, by rw [HT.out]; exact h1, below_ex (more_below.trans (hb.mono more_size))⟩
        case measure => simp [intOf]; omega
      · rw [Bool.not_eq_true] at h1
        go_wp2_with (go_at_call 34; refine hc.mono ?_; rintro e w' ⟨rfl, hb⟩; rw [h1])
        go_ret
        exact ⟨ret_bool (HF.out h1).symm, more_below.trans (hb.mono more_size)⟩
    · have HE : Hid (xs.all p = true) := by
        have := Ht.out
        rw [List.take_of_length_le (by omega)] at this
        exact this
      clear hx hcl
      go_wp2
      go_ret
      exact ⟨ret_bool HE.out.symm, more_below⟩
set_option maxRecDepth 100000 in
set_option maxHeartbeats 8000000 in
theorem implBest (v : Value) (t : List Task) (V : Option Addr) (ws : List Int) (q : Nat) (money : Int) (w : World) (h : RdTaskS w v t) (hw : Rd w V ws) :
    Calls Try.prog 9 #[v, .slice V ws.length q, .int .i64 money] w fun e w' => ∃ u, e = .returned (.tuple #[u, .int .i64 (bestF t ws money).1.2, .int .i64 (bestF t ws money).2]) ∧ Own w' w.heap.size 2 u (bestF t ws money).1.1 ∧ Below w.heap.size w w' := by
  obtain ⟨A, c, rfl, hx⟩ := h
  have hwl := hw.len
  by_cases hv : validT t = true
  · have h12 := valid_len hv
    cases h1 : decide (ws.length = t.length)
    · have HF := hid (codeB_two (ws := ws) (money := money) hv (by rw [h1]; simp))
      have l1 : ((ws.length : Int) != t.length) = true := by rw [bne_iff_ne]; rw [decide_eq_false_iff_not] at h1; omega
      clear h1
      go_enter Try.func9, Try.ntmps9
      go_wp2_with fail
      refine (implValidTasks _ _ _ _ hx).mono ?_
      rintro e w1 ⟨rfl, hb⟩
      rw [hv]
      go_wp2_with fail
      go_ret3
      exact ⟨_, ret_best (by rw [HF.out]) (by rw [HF.out]), by rw [HF.out]; exact Own.empty hb.size, hb.alloc hb.size _⟩
    · have l0 : ws.length = t.length := by simpa using h1
      have l1 : ((ws.length : Int) != t.length) = false := by simp [l0]
      have HL0 := hid l0
      clear l0
      cases h2 : ws.all (fun x => inB x 0 1000)
      · have HF := hid (codeB_two (ws := ws) (money := money) hv (by rw [h1, h2]; simp))
        clear h1
        go_enter Try.func9, Try.ntmps9
        go_wp2_with fail
        refine (implValidTasks _ _ _ _ hx).mono ?_
        rintro e w1 ⟨rfl, hb⟩
        rw [hv]
        go_wp2_with (go_at_call 33; refine (implAll_Best V ws q _ _ (hw.below hb) fun x _ w' _ => bestIn x w').mono ?_; rintro e w2 ⟨rfl, hb2⟩; rw [h2]; refine keep_ ?_)
        have HQ := hid (hb.trans (hb2.mono hb.size))
        refine go_ ?_
        go_wp2_with fail
        go_ret3
        exact ⟨_, ret_best (by rw [HF.out]) (by rw [HF.out]), by rw [HF.out]; exact Own.empty HQ.out.size, HQ.out.alloc HQ.out.size _⟩
      · cases h3 : inB money 0 12000000
        · have HF := hid (codeB_two (ws := ws) (money := money) hv (by rw [h1, h2, h3]; simp))
          clear h1
          go_enter Try.func9, Try.ntmps9
          go_wp2_with fail
          refine (implValidTasks _ _ _ _ hx).mono ?_
          rintro e w1 ⟨rfl, hb⟩
          rw [hv]
          go_wp2_with (go_at_call 33; refine (implAll_Best V ws q _ _ (hw.below hb) fun x _ w' _ => bestIn x w').mono ?_; rintro e w2 ⟨rfl, hb2⟩; rw [h2]; refine keep_ ?_)
          have HQ := hid (hb.trans (hb2.mono hb.size))
          refine go_ ?_
          go_wp2_with (go_at_call 35; refine (implIn _ _ _ _).mono ?_; rintro e w' ⟨rfl, rfl⟩; rw [h3])
          go_ret3
          exact ⟨_, ret_best (by rw [HF.out]) (by rw [HF.out]), by rw [HF.out]; exact Own.empty HQ.out.size, HQ.out.alloc HQ.out.size _⟩
        · have HF := hid (codeB_ok (ws := ws) (money := money) hv (by rw [h1, h2, h3]; simp))
          have hwr : ∀ x ∈ ws, 0 ≤ x ∧ x ≤ 1000 := fun x hx => inB_true.1 (List.all_eq_true.1 h2 x hx)
          have hmr := inB_true.1 h3
          have HWR := hid hwr
          have HV := hid hv
          clear h1 hwr
          go_enter Try.func9, Try.ntmps9
          go_wp2_with fail
          refine (implValidTasks _ _ _ _ hx).mono ?_
          rintro e w1 ⟨rfl, hb⟩
          rw [hv]
          go_wp2_with (go_at_call 33; refine (implAll_Best V ws q _ _ (hw.below hb) fun x _ w' _ => bestIn x w').mono ?_; rintro e w2 ⟨rfl, hb2⟩; rw [h2]; refine keep_ ?_)
          have HQ := hid (hb.trans (hb2.mono hb.size))
          have HX := hid (hx.below HQ.out)
          have HW := hid (hw.below HQ.out)
          clear hb hb2 hx hw hv
          refine go_ ?_
          go_wp2_with (first | (go_at_call 35; refine (implIn _ _ _ _).mono ?_; rintro e w' ⟨rfl, rfl⟩; rw [h3]) | (go_at_call 37; refine (sizeTasks1 _ _ _ _ (by omega)).mono ?_; rintro e w' ⟨rfl, rfl⟩) | (go_at_call 36; refine (implSubsets t.length _ h12).mono ?_; rintro e w3 ⟨u, cs, L, rfl, hR, hS, hb⟩; refine keep_ ?_))
          have HB3 := hid ((HQ.out.alloc HQ.out.size (.cells #[] 2)).trans (hb.mono (by simp; have := HQ.out.size; omega)))
          have HO3 := hid ((Own.empty (α := Int) (w := w2) (base := w.heap.size) (e := 2) HQ.out.size).below hb)
          have HX3 := hid ((HX.out.alloc _).below hb)
          have HW3 := hid ((HW.out.alloc _).below hb)
          have HR3 := hid (hR.mono (b := w.heap.size) (by simp; have := HQ.out.size; omega))
          have HS := hid hS
          have hp : (2 : Nat) ^ t.length ≤ 4096 := Nat.pow_le_pow_right (n := 2) (by decide) h12
          have hLl : L.length ≤ 4096 := Nat.le_trans hS.len hp
          have HP := hid hp
          obtain ⟨LA, LQ, rfl⟩ := hR.form
          clear hb hR hS hp HX HW HQ
          refine go_ ?_
          go_wp2_with fail
          go_loopw [9, 10, 44] (fun u m i wr => ∃ (j : Nat) (bl : List Int) (bw : Int), j ≤ L.length ∧ i = .int .i64 j ∧ m = .int .i64 bw ∧ qscan t ws money (L.take j) = (bl, bw) ∧ (-1 ≤ bw ∧ bw ≤ 12000) ∧ Own wr w.heap.size 2 u bl ∧ Below w3.heap.size w3 wr) (fun _ _ i _ => L.length - (intOf i).toNat)
          case atStart => exact ⟨0, [], -1, Nat.zero_le _, rfl, rfl, rfl, by omega, HO3.out, Below.refl _ _⟩
          case round =>
            obtain ⟨j, bl, bw, hj, rfl, rfl, hq, hbw, ho, hb⟩ := hrel
            obtain ⟨wo, rfl⟩ : ∃ wo : World, wo = wr := ⟨_, rfl⟩
            have HB := hid hb
            have HO := hid ho
            have HXo := hid (HX3.out.below hb)
            have HWo := hid (HW3.out.below hb)
            clear hb ho
            by_cases hlt : j < L.length
            · have hup := HS.out.up _ (List.getElem_mem hlt)
              have hsl := upTo_len hup
              obtain ⟨b, off, P, sq, hA, c1, hso⟩ := (HR3.out.below HB.out).rowO (by omega) hlt
              subst hA
              have HQN := hid ((qscan_next t ws money hlt).trans (by rw [hq]))
              have HSO := hid hso
              have HSR := hid (hso.rd (by omega))
              have HUP := hid hup
              clear hso hup hq
              generalize L[j] = s at c1 HQN HSO HSR HUP hsl
              go_wp2_with fail
              go_loop [13, 14, 50] (fun a b i => ∃ m : Nat, m ≤ s.length ∧ i = .int .i64 m ∧ a = .int .i64 (costOf t (s.take m)) ∧ b = .int .i64 (worthOf ws (s.take m)) ∧ (0 ≤ costOf t (s.take m) ∧ costOf t (s.take m) ≤ 1000000 * m) ∧ (0 ≤ worthOf ws (s.take m) ∧ worthOf ws (s.take m) ≤ 1000 * m)) (fun _ _ i => s.length - (intOf i).toNat)
              case atStart => exact ⟨0, Nat.zero_le _, rfl, rfl, rfl, by simp [costOf], by simp [worthOf]⟩
              case round =>
                obtain ⟨m, hm, rfl, rfl, rfl, hcb, hwb⟩ := hrel
                by_cases hlm : m < s.length
                · obtain ⟨sb, so, hA, s1⟩ := HSR.out.int hlm
                  subst hA
                  have hmem := HUP.out.1 _ (List.getElem_mem hlm)
                  have HC2 := hid (costOf_take (t := t) hlm)
                  have HW2 := hid (worthOf_take (ws := ws) hlm)
                  obtain ⟨a, ha⟩ : ∃ a : Nat, s[m] = (a : Int) := ⟨s[m].toNat, by omega⟩
                  rw [ha] at s1 hmem HC2 HW2
                  have hat : a < t.length := by omega
                  have haw : a < ws.length := by rw [HL0.out]; exact hat
                  obtain ⟨tb, to_, P2, q2, hA, _, t1, _, _, _⟩ := HXo.out.at_ hat
                  subst hA
                  obtain ⟨wb, wo2, hA, u1⟩ := HWo.out.int haw
                  subst hA
                  have hva := (valid_at HV.out hat).2.1
                  have hwa := HWR.out _ (List.getElem_mem haw)
                  have e1 : costAt t ((a : Int).toNat) = t[a].cost := by rw [Int.toNat_natCast]; exact costAt_eq hat
                  have e2 : ws.getD ((a : Int).toNat) 0 = ws[a] := by rw [Int.toNat_natCast]; simp [haw]
                  rw [e1] at HC2
                  rw [e2] at HW2
                  generalize t[a].cost = ca at t1 HC2 hva
                  generalize ws[a] = wa at u1 HW2 hwa
                  have hC3 := HC2.out
                  have hW3 := HW2.out
                  generalize costOf t (s.take m) = cm at hcb HC2 hC3
                  generalize worthOf ws (s.take m) = wm at hwb HW2 hW3
                  clear e1 e2 ha hC3 hW3
                  go_wp2_with fail
                  go_round
                  case rel => exact ⟨m + 1, by omega, by go_num, by rw [HC2.out], by rw [HW2.out], by rw [HC2.out]; omega, by rw [HW2.out]; omega⟩
                  case measure => simp [intOf]; omega
                · have hst : s.take m = s := List.take_of_length_le (by omega)
                  rw [hst] at hcb hwb ⊢
                  have HST := hid hst
                  have HRI := hid (rises_of HUP.out)
                  clear hst
                  have hq9 := HQN.out
                  unfold qstep at hq9
                  have hwb2 : 0 ≤ worthOf ws s ∧ worthOf ws s ≤ 12000 := by omega
                  clear hwb
                  generalize costOf t s = cm at hcb hq9
                  generalize worthOf ws s = wm at hwb2 hq9
                  simp only at hq9
                  by_cases q1 : cm ≤ money
                  · by_cases q2 : bw < wm
                    · have HCL : Hid (∀ x, Below wo.heap.size wo x → Calls Try.prog 38 #[.slice A t.length c, .slice P s.length sq] x fun e w' => e = .returned (.bool (closedB t s)) ∧ Below x.heap.size x w') := fun x hx => implClosed A P t s c sq x (HXo.out.below hx) (HSR.out.below hx) HRI.out
                      cases q3 : closedB t s
                      · rw [q3] at HCL hq9
                        simp only [Bool.and_false, Bool.false_eq_true, if_false] at hq9
                        have HQ9 := hid hq9
                        clear hq9 HQN
                        go_wp2_with (go_at_call 38; refine (HCL.out _ (Below.refl _ _)).mono ?_; rintro e w5 ⟨rfl, hb⟩; have HB5 := hid hb; clear hb; refine keep_ ?_)
                        refine go_ ?_
                        go_wp2_with fail
                        go_roundw
                        case rel => exact ⟨j + 1, bl, bw, by omega, by go_num, rfl, HQ9.out, hbw, HO.out.below HB5.out, HB.out.trans (HB5.out.mono HB.out.size)⟩
                        case measure => simp [intOf]; omega
                      · rw [q3] at HCL hq9
                        simp only [decide_eq_true q1, decide_eq_true q2, Bool.and_self, if_true] at hq9
                        have HQ9 := hid hq9
                        clear hq9 HQN
                        go_wp2_with (go_at_call 38; refine (HCL.out _ (Below.refl _ _)).mono ?_; rintro e w5 ⟨rfl, hb⟩; have HB5 := hid hb; clear hb; refine keep_ ?_)
                        refine go_ ?_
                        go_wp2_with fail
                        go_roundw
                        case rel => exact ⟨j + 1, s, wm, by omega, by go_num, rfl, HQ9.out, by omega, HSO.out.below HB5.out, HB.out.trans (HB5.out.mono HB.out.size)⟩
                        case measure => simp [intOf]; omega
                    · simp only [decide_eq_false q2, Bool.and_false, Bool.false_and, Bool.false_eq_true, if_false] at hq9
                      have HQ9 := hid hq9
                      clear hq9 HQN
                      go_wp2_with fail
                      go_roundw
                      case rel => exact ⟨j + 1, bl, bw, by omega, by go_num, rfl, HQ9.out, hbw, HO.out, HB.out⟩
                      case measure => simp [intOf]; omega
                  · simp only [decide_eq_false q1, Bool.false_and, Bool.false_eq_true, if_false] at hq9
                    have HQ9 := hid hq9
                    clear hq9 HQN
                    go_wp2_with fail
                    go_roundw
                    case rel => exact ⟨j + 1, bl, bw, by omega, by go_num, rfl, HQ9.out, hbw, HO.out, HB.out⟩
                    case measure => simp [intOf]; omega
            · have hall : bscan t ws money (2 ^ t.length) = (bl, bw) := by
                rw [← qscan_all (fun x hx => (HWR.out x hx).1) hmr.1 HS.out, ← hq, List.take_of_length_le (by omega)]
              have HALL := hid hall
              clear hall hq
              go_wp2_with fail
              go_ret3
              exact ⟨_, ret_best (by rw [HF.out, HALL.out]) (by rw [HF.out]), by rw [HF.out, HALL.out]; exact HO.out, HB3.out.trans (HB.out.mono HB3.out.size)⟩
  · have HF := hid (codeB_one (ws := ws) (money := money) hv)
    rw [Bool.not_eq_true] at hv
    go_enter Try.func9, Try.ntmps9
    go_wp2_with fail
    refine (implValidTasks _ _ _ _ hx).mono ?_
    rintro e w1 ⟨rfl, hb⟩
    rw [hv]
    go_wp2_with fail
    go_ret3
    exact ⟨_, ret_best (by rw [HF.out]) (by rw [HF.out]), by rw [HF.out]; exact Own.empty hb.size, hb.alloc hb.size _⟩
end Go.Proofs.Ytdlddlgpaokgiaa
