/- HandOver: the program's walk. -/
import Derived.Test.YtjamkomgdfgmlaaHandPlain
import Derived.Test.YtjamkomgdfgmlaaKind
import Derived.Deep.CutBlock
import Derived.OwnWalk
namespace Go.Proofs.Ytjamkomgdfgmlaa
open Go.RowKit
set_option linter.unusedVariables false
/-- The closure's variable: a cell that holds the slice so far. -/
structure Nx (a w : World) (B g : Nat) (L : List Duty) : Prop where
  out : ∃ A c, w.cell? ⟨g, 0, none⟩ = some (.slice A L.length c) ∧ w.frozen? ⟨g, 0, none⟩ = false ∧ Own w B 56 (.slice A L.length c) L ∧ (∀ k, (Value.slice A L.length c).ownBlock = some k → k ≠ g)
  below : Below B a w
  le : B ≤ g
  lt : g < w.heap.size
theorem Nx.grow {a w w' : World} {B g : Nat} {L : List Duty} (h : Nx a w B g L) (hb : Below w.heap.size w w') : Nx a w' B g L := by
  obtain ⟨⟨A, c, h1, h2, h3, h4⟩, h5, h6, h7⟩ := h
  exact ⟨⟨A, c, box_cell hb h1, box_free hb (by rw [h1]; rfl) h2, h3.below hb, h4⟩, h5.trans (hb.mono (by omega)), h6, by have := hb.size; omega⟩
theorem span_grownBy' {w : World} (g : Nat) (v : Value) : w.grownBy (w.setCell ⟨g, 0, none⟩ v) (some g) :=
  ⟨rfl, rfl, rfl, by simp [World.setCell], fun k hk hne => Below.heap_setCell w ⟨g, 0, none⟩ v k (by intro e; subst e; exact hne rfl)⟩
def pcs (d : Duty) : List Duty := if d.f < d.t then [d] else []
set_option maxHeartbeats 2000000 in
theorem add_ (a w : World) (B g : Nat) (L : List Duty) (d : Duty) (h : Nx a w B g L) (hl : L.length ≤ 1000) :
    Calls Try.prog 62 #[.agg #[.int .i64 d.o, .int .i64 d.f, .int .i64 d.t], .pointer (some ⟨g, 0, none⟩)] w fun e w' => e = .returned (.tuple #[]) ∧ Nx a w' B g (L ++ pcs d) := by
  obtain ⟨o, f, t⟩ := d
  have hlt := h.lt
  have hle := h.le
  have HH := hid h
  have hg1 := h.grow ((Below.refl _ _).alloc (Nat.le_refl _) (.cells #[.int .i64 o, .int .i64 f, .int .i64 t] 56))
  have HN := hid hg1
  obtain ⟨A, c, k1, k2, k3, k4⟩ := h.out
  have HO := hid k3
  have HOFF := hid k4
  have HBW := hid h.below
  clear h hg1 k3 k4
  by_cases hc : f < t
  · have hp : pcs ⟨o, f, t⟩ = [⟨o, f, t⟩] := if_pos hc
    have HP := hid hp
    clear hp
    have hz : B ≤ w.heap.size := by omega
    go_enter Try.func62, Try.ntmps62
    go_wp2_with (first | fail | (at_builtin; refine wpList_push elDuty _ rfl (.tmp 8) (.tmp 10) rfl B _ L (⟨o, f, t⟩ : Duty) rfl ((HO.out.alloc _).alloc _) _ rfl (by first | exact heap_alloc_new _ _ | exact (show _ from by have hz := heap_alloc_new (w.alloc (.cells #[.int .i64 o, .int .i64 f, .int .i64 t] 56)) (.cells #[.int .i64 o, .int .i64 f, .int .i64 t] 56); rw [show (w.alloc (.cells #[.int .i64 o, .int .i64 f, .int .i64 t] 56)).heap.size = w.heap.size + 1 from by simp] at hz; exact hz)) (by omega) (le_alloc (le_alloc hz)) ?_; intro v' w' hown' hg' hat'; refine keep_ ?_))
    have hbn := below_own ((HBW.out.alloc hz (.cells #[.int .i64 o, .int .i64 f, .int .i64 t] 56)).alloc (le_alloc hz) (.cells #[.int .i64 o, .int .i64 f, .int .i64 t] 56)) ((HO.out.alloc _).alloc _) hg' (Nat.le_refl _) (le_alloc (le_alloc hz))
    have hnn : ∀ q, (Value.slice A L.length c).ownBlock = some q → q ≠ g := HOFF.out
    have kc : w'.cell? ⟨g, 0, none⟩ = some (.slice A L.length c) := grown_cell hg' (by simp [go_sem, k1]) hnn
    have kf : w'.frozen? ⟨g, 0, none⟩ = false := grown_free hg' (by simp [go_sem, k1]) (by simp [go_sem, k1, k2]) hnn
    obtain ⟨A2, c2, hv2⟩ := hown'.form
    subst hv2
    have hoff' : ∀ q, (Value.slice A2 (L ++ [(⟨o, f, t⟩ : Duty)]).length c2).ownBlock = some q → q ≠ g := by
      intro q hq
      rcases hat' with e | e
      · exact hnn q (e.symm.trans hq)
      · rw [e] at hq
        injection hq with hq
        simp at hq
        omega
    have hgz : g < w'.heap.size := World.block_lt_of_cell? w' _ kc
    have Z1 := hid hbn
    have Z2 := hid hown'
    have Z3 := hid hoff'
    clear hbn hown' hg' hat' hnn hoff' k1 k2
    refine go_ ?_
    go_wp2_with fail
    refine bodyPost_end (v := .tuple #[]) ?_ rfl ?_
    · simp [results, go_sem]
    · refine ⟨rfl, ⟨⟨A2, c2, ?_, ?_, ?_, ?_⟩, Z1.out.setCell hle _, hle, ?_⟩⟩
      · rw [HP.out]
        simp [go_sem, kc]
      · simp [go_sem, kf]
      · rw [HP.out]
        exact Z2.out.grown (span_grownBy' g _) (.inr fun e => Z3.out g e rfl)
      · rw [HP.out]
        exact Z3.out
      · simpa [World.setCell] using hgz
  · have hp : pcs ⟨o, f, t⟩ = [] := if_neg hc
    rw [hp, List.append_nil]
    go_enter Try.func62, Try.ntmps62
    go_wp2_with fail
    refine bodyPost_end (v := .tuple #[]) ?_ rfl ?_
    · simp [results, go_sem]
    · exact ⟨rfl, HN.out⟩
theorem pcs1 {d : Duty} (fr : Int) (h : d.f < d.t) : pcs ⟨d.o, d.f, min d.t fr⟩ = hp1 fr d := by
  unfold pcs hp1
  by_cases hc : d.f < fr
  · rw [if_pos (show d.f < min d.t fr by omega), if_pos hc]
  · rw [if_neg (show ¬ d.f < min d.t fr by omega), if_neg hc]
theorem pcs3 {d : Duty} (tt : Int) (h : d.f < d.t) : pcs ⟨d.o, max d.f tt, d.t⟩ = hp3 tt d := by
  unfold pcs hp3
  by_cases hc : tt < d.t
  · rw [if_pos (show max d.f tt < d.t by omega), if_pos hc]
  · rw [if_neg (show ¬ max d.f tt < d.t by omega), if_neg hc]
set_option maxHeartbeats 4000000 in
theorem implHand (A : Option Addr) (xs : List Duty) (c : Nat) (len fr tt ow : Int) (w : World) (hx : Rd w A xs) :
    Calls Try.prog 36 #[.slice A xs.length c, .int .i64 len, .int .i64 fr, .int .i64 tt, .int .i64 ow] w fun e w' => ∃ v, e = .returned (.tuple #[v, .int .i64 (handOver xs len fr tt ow).2]) ∧ Own w' w.heap.size 56 v (handOver xs len fr tt ow).1 ∧ Below w.heap.size w w' := by
  have hn := hx.len
  have HX := hid hx
  by_cases hv : validB xs len = true
  · by_cases hr : (0 ≤ fr ∧ fr < tt ∧ tt ≤ len) ∧ inB ow 0 39 = true
    · have hF : handOver xs len fr tt ow = if 40 < (handM xs fr tt ow).length then ([], 5) else (handM xs fr tt ow, 0) := by
        unfold handOver
        rw [if_pos hv, if_pos hr]
      obtain ⟨R, hR⟩ : ∃ R, handOver xs len fr tt ow = R := ⟨_, rfl⟩
      rw [hR] at hF ⊢
      have HF := hid hF
      have HV := hid hv
      obtain ⟨⟨r1, r2, r3⟩, ho⟩ := hr
      have HOW := hid ho
      have hxl : xs.length ≤ 40 := (valid_len hv).2.2.1
      clear hF hR hv ho hx
      go_enter Try.func36, Try.ntmps36
      go_wp2_with fail
      refine (implValid _ _ _ _ _ HX.out).mono ?_
      rintro e w1 ⟨rfl, hb⟩
      rw [HV.out]
      have HB := hid hb
      have hz := hb.size
      have NX : Hid (Nx w ((w1.alloc (.cells #[] 56)).alloc (.cells #[.slice (some ⟨w1.heap.size, 0, none⟩) 0 0] 25)) w.heap.size (w1.heap.size + 1) []) := by
        refine ⟨⟨some ⟨w1.heap.size, 0, none⟩, 0, ?_, ?_, ?_, ?_⟩, (hb.alloc hz _).alloc (le_alloc hz) _, by omega, by simp⟩
        · simp [go_sem]
        · simp [go_sem]
        · exact Own.alloc (Own.empty hz) _
        · intro k hk
          have e : some w1.heap.size = some k := hk
          injection e with e
          omega
      clear hb
      go_wp2_with (go_at_call 52; refine (implOwner _ _).mono ?_; rintro e w' ⟨rfl, rfl⟩; rw [HOW.out])
      go_loopw [47] (fun i wr => ∃ k : Nat, k ≤ xs.length ∧ i = .int .i64 k ∧ Nx w wr w.heap.size (w1.heap.size + 1) ((xs.take k).flatMap (hp1 fr))) (fun i _ => xs.length - (intOf i).toNat)
      case atStart => exact ⟨0, Nat.zero_le _, rfl, NX.out⟩
      case round =>
        obtain ⟨k, hk, rfl, hnx⟩ := hrel
        obtain ⟨wo, rfl⟩ : ∃ wo : World, wo = wr := ⟨_, rfl⟩
        have HN := hid hnx
        have HX2 := hid (HX.out.below hnx.below)
        have hL : ((xs.take k).flatMap (hp1 fr)).length ≤ 1000 := by
          have := hp1_len (fr := fr) (xs.take k)
          have : (xs.take k).length ≤ k := List.length_take_le _ _
          omega
        clear hnx
        by_cases hlt : k < xs.length
        · obtain ⟨b, off, rfl, c1, c2, c3⟩ := HX2.out.duty hlt
          have hva := valid_at HV.out hlt
          have HT : Hid ((xs.take (k + 1)).flatMap (hp1 fr) = (xs.take k).flatMap (hp1 fr) ++ hp1 fr xs[k]) := by
            show (xs.take (k + 1)).flatMap (hp1 fr) = _
            rw [List.take_succ_eq_append_getElem hlt, List.flatMap_append]
            simp
          have hpc := pcs1 (d := xs[k]) fr hva.2.2.1
          obtain ⟨_, a1, a2, a3, _, _⟩ := hva
          generalize xs[k] = d at c1 c2 c3 HT hpc a1 a2 a3
          obtain ⟨o, f, t⟩ := d
          simp only at c1 c2 c3 hpc a1 a2 a3
          have HPC := hid hpc
          clear hpc
          by_cases hc : ¬ fr < t
          · have hmn : min t fr = t := by omega
            have hpc := HPC.out
            rw [hmn] at hpc
            have HPC := hid hpc
            clear hpc
            go_wp2_with (go_at_call 62; refine (add_ w _ w.heap.size (w1.heap.size + 1) _ (⟨o, f, t⟩ : Duty) (HN.out.grow ((Below.refl _ _).alloc (Nat.le_refl _) _)) hL).mono ?_; rintro e w' ⟨rfl, hnx⟩; have HN2 := hid hnx; clear hnx)
            all_goals go_roundw
            case rel => exact ⟨k + 1, by omega, by go_num, by rw [HT.out, ← HPC.out]; exact HN2.out⟩
            case measure => simp [intOf]; omega
          · have hc : fr < t := by omega
            have hmn : min t fr = fr := by omega
            have hpc := HPC.out
            rw [hmn] at hpc
            have HPC := hid hpc
            clear hpc
            go_wp2_with (go_at_call 62; refine (add_ w _ w.heap.size (w1.heap.size + 1) _ (⟨o, f, fr⟩ : Duty) (HN.out.grow ((Below.refl _ _).alloc (Nat.le_refl _) _)) hL).mono ?_; rintro e w' ⟨rfl, hnx⟩; have HN2 := hid hnx; clear hnx)
            all_goals go_roundw
            case rel => exact ⟨k + 1, by omega, by go_num, by rw [HT.out, ← HPC.out]; exact HN2.out⟩
            case measure => simp [intOf]; omega
        · have hN := HN.out
          rw [List.take_of_length_le (by omega)] at hN hL
          have HN1 := hid hN
          have hp2 : pcs (⟨ow, fr, tt⟩ : Duty) = [(⟨ow, fr, tt⟩ : Duty)] := if_pos r2
          have HP2 := hid hp2
          have h3l := hp3_len (tt := tt) xs
          have h1l := hp1_len (fr := fr) xs
          clear hN hp2 HN
          go_wp2_with (go_at_call 62; refine (add_ w _ w.heap.size (w1.heap.size + 1) _ (⟨ow, fr, tt⟩ : Duty) HN1.out hL).mono ?_; rintro e w2 ⟨rfl, hnx⟩; rw [HP2.out] at hnx; have HN2 := hid hnx; clear hnx)
          go_loopw [71] (fun i wr => ∃ k : Nat, k ≤ xs.length ∧ i = .int .i64 k ∧ Nx w wr w.heap.size (w1.heap.size + 1) (xs.flatMap (hp1 fr) ++ [(⟨ow, fr, tt⟩ : Duty)] ++ (xs.take k).flatMap (hp3 tt))) (fun i _ => xs.length - (intOf i).toNat)
          case atStart => exact ⟨0, Nat.zero_le _, rfl, by simpa using HN2.out⟩
          case round =>
            obtain ⟨m, hm, rfl, hnx⟩ := hrel
            obtain ⟨wi, rfl⟩ : ∃ wi : World, wi = wr := ⟨_, rfl⟩
            have HN3 := hid hnx
            have HX3 := hid (HX.out.below hnx.below)
            have hL3 : (xs.flatMap (hp1 fr) ++ [(⟨ow, fr, tt⟩ : Duty)] ++ (xs.take m).flatMap (hp3 tt)).length ≤ 1000 := by
              have := hp3_len (tt := tt) (xs.take m)
              have : (xs.take m).length ≤ m := List.length_take_le _ _
              simp only [List.length_append, List.length_cons, List.length_nil]
              omega
            clear hnx
            by_cases hlt2 : m < xs.length
            · obtain ⟨b, off, hA, c1, c2, c3⟩ := HX3.out.duty hlt2
              subst hA
              have hva := valid_at HV.out hlt2
              have HT : Hid ((xs.take (m + 1)).flatMap (hp3 tt) = (xs.take m).flatMap (hp3 tt) ++ hp3 tt xs[m]) := by
                show (xs.take (m + 1)).flatMap (hp3 tt) = _
                rw [List.take_succ_eq_append_getElem hlt2, List.flatMap_append]
                simp
              have hpc := pcs3 (d := xs[m]) tt hva.2.2.1
              obtain ⟨_, a1, a2, a3, _, _⟩ := hva
              generalize xs[m] = d at c1 c2 c3 HT hpc a1 a2 a3
              obtain ⟨o, f, t⟩ := d
              simp only at c1 c2 c3 hpc a1 a2 a3
              have HPC := hid hpc
              clear hpc
              by_cases hc : f < tt
              · have hmn : max f tt = tt := by omega
                have hpc := HPC.out
                rw [hmn] at hpc
                have HPC := hid hpc
                clear hpc
                go_wp2_with (go_at_call 62; refine (add_ w _ w.heap.size (w1.heap.size + 1) _ (⟨o, tt, t⟩ : Duty) (HN3.out.grow ((Below.refl _ _).alloc (Nat.le_refl _) _)) hL3).mono ?_; rintro e w' ⟨rfl, hnx⟩; have HN4 := hid hnx; clear hnx)
                all_goals go_roundw
                case rel => exact ⟨m + 1, by omega, by go_num, by rw [HT.out, ← List.append_assoc, ← HPC.out]; exact HN4.out⟩
                case measure => simp [intOf]; omega
              · have hmn : max f tt = f := by omega
                have hpc := HPC.out
                rw [hmn] at hpc
                have HPC := hid hpc
                clear hpc
                go_wp2_with (go_at_call 62; refine (add_ w _ w.heap.size (w1.heap.size + 1) _ (⟨o, f, t⟩ : Duty) (HN3.out.grow ((Below.refl _ _).alloc (Nat.le_refl _) _)) hL3).mono ?_; rintro e w' ⟨rfl, hnx⟩; have HN4 := hid hnx; clear hnx)
                all_goals go_roundw
                case rel => exact ⟨m + 1, by omega, by go_num, by rw [HT.out, ← List.append_assoc, ← HPC.out]; exact HN4.out⟩
                case measure => simp [intOf]; omega
            · have hN := HN3.out
              rw [List.take_of_length_le (by omega)] at hN hL3
              obtain ⟨⟨A5, c5, k1, k2, k3, k4⟩, k5, k6, k7⟩ := hN
              have HR5 := hid (k3.rd (by omega))
              have HB5 := hid k5
              have hmB : mergeB (xs.flatMap (hp1 fr) ++ [(⟨ow, fr, tt⟩ : Duty)] ++ xs.flatMap (hp3 tt)) = handM xs fr tt ow := rfl
              generalize xs.flatMap (hp1 fr) ++ [(⟨ow, fr, tt⟩ : Duty)] ++ xs.flatMap (hp3 tt) = L5 at k1 HR5 hmB hL3
              have hml := mergeB_len L5
              rw [hmB] at hml
              have HMB := hid hmB
              clear k3 k4 k5 hmB HN3
              have hzB : w.heap.size ≤ wi.heap.size := HB5.out.size
              go_wp2_with fail
              refine (implMerge _ _ _ _ HR5.out).mono ?_
              rintro e w6 ⟨v, rfl, ho, hb⟩
              rw [HMB.out] at ho
              obtain ⟨A6, c6, rfl⟩ := ho.form
              have q1 := box_cell hb k1
              have q2 := box_free hb (by rw [k1]; rfl) k2
              have HO6 := hid ((ho.past (p := ⟨w1.heap.size + 1, 0, none⟩) k7 (.slice A6 (handM xs fr tt ow).length c6)).mono hzB)
              have HB6 := hid ((HB5.out.trans (hb.mono hzB)).setCell (p := ⟨w1.heap.size + 1, 0, none⟩) k6 (.slice A6 (handM xs fr tt ow).length c6))
              have hsz6 : w.heap.size ≤ w6.heap.size := Nat.le_trans hzB hb.size
              generalize handM xs fr tt ow = M at HO6 HB6 HF hml
              clear ho hb k1 k2
              by_cases hc : 40 < M.length
              · have hF := HF.out
                rw [if_pos hc] at hF
                subst hF
                go_wp2_with fail
                go_ret2
                have hE := Own.empty (α := Duty) (w := w6.setCell ⟨w1.heap.size + 1, 0, none⟩ (.slice A6 M.length c6)) (base := w.heap.size) (e := 56) (le_set hsz6)
                rw [show (w6.setCell ⟨w1.heap.size + 1, 0, none⟩ (.slice A6 M.length c6)).heap.size = w6.heap.size from by simp [World.setCell]] at hE
                exact ⟨_, rfl, hE, HB6.out.alloc (le_set hsz6) _⟩
              · have hF := HF.out
                rw [if_neg hc] at hF
                subst hF
                go_wp2_with fail
                go_ret2
                exact ⟨_, rfl, HO6.out, HB6.out⟩
    · have hF : handOver xs len fr tt ow = ([], 2) := by
        unfold handOver
        rw [if_pos hv, if_neg hr]
      rw [hF]
      have HV := hid hv
      have HR := hid hr
      clear hv hr hF hx
      have step : ∀ w1, Below w.heap.size w w1 → Hid (Own (w1.alloc (.cells #[] 56)) w.heap.size 56 (.slice (some ⟨w1.heap.size, 0, none⟩) 0 0) ([] : List Duty) ∧ Below w.heap.size w (w1.alloc (.cells #[] 56))) := fun w1 hb => ⟨Own.empty hb.size, hb.alloc hb.size _⟩
      go_enter Try.func36, Try.ntmps36
      go_wp2_with fail
      refine (implValid _ _ _ _ _ HX.out).mono ?_
      rintro e w1 ⟨rfl, hb⟩
      rw [HV.out]
      have HB := hid (step _ hb)
      clear hb step
      by_cases h1 : 0 ≤ fr
      · by_cases h2 : fr < tt
        · by_cases h3 : tt ≤ len
          · have HOW : Hid (inB ow 0 39 = false) := by
              show inB ow 0 39 = false
              rw [← Bool.not_eq_true]
              exact fun h => HR.out ⟨⟨h1, h2, h3⟩, h⟩
            go_wp2_with (go_at_call 52; refine (implOwner _ _).mono ?_; rintro e w' ⟨rfl, rfl⟩; rw [HOW.out])
            go_ret2
            exact ⟨_, rfl, HB.out.1, HB.out.2⟩
          · go_wp2_with fail
            go_ret2
            exact ⟨_, rfl, HB.out.1, HB.out.2⟩
        · go_wp2_with fail
          go_ret2
          exact ⟨_, rfl, HB.out.1, HB.out.2⟩
      · go_wp2_with fail
        go_ret2
        exact ⟨_, rfl, HB.out.1, HB.out.2⟩
  · have hF : handOver xs len fr tt ow = ([], 1) := by
      unfold handOver
      rw [if_neg hv]
    rw [hF]
    rw [Bool.not_eq_true] at hv
    have HV := hid hv
    clear hv hF hx
    go_enter Try.func36, Try.ntmps36
    go_wp2_with fail
    refine (implValid _ _ _ _ _ HX.out).mono ?_
    rintro e w1 ⟨rfl, hb⟩
    rw [HV.out]
    have HB := hid hb
    clear hb
    go_wp2_with fail
    go_ret2
    exact ⟨_, rfl, Own.empty HB.out.size, HB.out.alloc HB.out.size _⟩
end Go.Proofs.Ytjamkomgdfgmlaa
