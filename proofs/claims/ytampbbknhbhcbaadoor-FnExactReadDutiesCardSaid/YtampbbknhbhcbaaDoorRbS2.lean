/- ReadBill: the reference's walk. -/
import Derived.Test.YtampbbknhbhcbaaDoorRbP
import Derived.Deep.CutBlock
namespace Go.Proofs.YtampbbknhbhcbaaDoor
open Go.RowKit
set_option linter.unusedVariables false
set_option linter.unusedSimpArgs false
theorem ret_bill {p : Bill × Bool} {o d a q : Int} {b : Bool} (h : p = (⟨o, d, a, q⟩, b)) : Ending.returned (.tuple #[.agg #[.int .i64 o, .int .i64 d, .int .i64 a, .int .i64 q], .bool b]) = .returned (.tuple #[.agg #[.int .i64 p.1.o, .int .i64 p.1.d, .int .i64 p.1.a, .int .i64 p.1.p], .bool p.2]) := by rw [h]
theorem numR_cases (s : List UInt8) : (numO s = none ∧ numR s = (0, false)) ∨ ∃ n, numO s = some n ∧ numR s = (n, true) := by
  unfold numR
  cases h : numO s with
  | none => exact .inl ⟨rfl, rfl⟩
  | some n => exact .inr ⟨n, rfl, rfl⟩
theorem split_len (c : UInt8) : ∀ (s : List UInt8), ∀ x ∈ splitB c s, x.length ≤ s.length
  | [], x, hx => by
    have : x = [] := by simpa [splitB] using hx
    subst this
    exact Nat.le_refl _
  | y :: s, x, hx => by
    have ih := split_len c s
    simp only [splitB] at hx
    rw [List.length_cons]
    split at hx
    · rcases List.mem_cons.1 hx with rfl | hx
      · simp
      · have := ih x hx; omega
    · split at hx
      · rename_i h t he
        rcases List.mem_cons.1 hx with rfl | hx
        · have := ih h (by rw [he]; simp)
          rw [List.length_cons]
          omega
        · have := ih x (by rw [he]; simp [hx])
          omega
      · rename_i he
        rw [List.mem_singleton.1 hx]
        simp
theorem strAt {w : World} {b off : Nat} {xs : List ByteArray} (h : Rd w (some ⟨b, off, none⟩) xs) {k : Nat} (hk : k < xs.length) : w.cell? ⟨b, off + k, none⟩ = some (.string xs[k]) := by
  obtain ⟨b', off', hA, hc⟩ := h.str hk
  injection hA with hA
  injection hA with h1 h2
  subst h1 h2
  exact hc
theorem list8 {α : Type} {l : List α} (h : l.length = 8) : ∃ a b c d e f g k, l = [a, b, c, d, e, f, g, k] := by
  match l, h with
  | [a, b, c, d, e, f, g, k], _ => exact ⟨a, b, c, d, e, f, g, k, rfl⟩
set_option maxHeartbeats 400000 in
theorem specBillOk (o d a p : Int) (w : World) : Calls Tryd.prog 37 #[.agg #[.int .i64 o, .int .i64 d, .int .i64 a, .int .i64 p]] w fun e w' => e = .returned (.bool (billOkB ⟨o, d, a, p⟩)) ∧ Below w.heap.size w w' := by
  have hown : ∀ (n : Int) (w : World), Calls Tryd.prog 62 #[.int .i64 n] w fun e w' => e = .returned (.bool (inB n 0 39)) ∧ w = w' := fun n w => by
    go_enter Tryd.func62, Tryd.ntmps62
    go_wp2_with (go_at_call 51; refine (specIn _ _ _ _).mono ?_; rintro e w' ⟨rfl, rfl⟩)
    go_ret
    exact ⟨rfl, rfl⟩
  have hday : ∀ (n : Int) (w : World), Calls Tryd.prog 63 #[.int .i64 n] w fun e w' => e = .returned (.bool (inB n 0 100000)) ∧ w = w' := fun n w => by
    go_enter Tryd.func63, Tryd.ntmps63
    go_wp2_with (go_at_call 51; refine (specIn _ _ _ _).mono ?_; rintro e w' ⟨rfl, rfl⟩)
    go_ret
    exact ⟨rfl, rfl⟩
  unfold billOkB
  simp only
  cases h1 : inB o 0 39
  all_goals cases h2 : inB d 0 100000
  all_goals cases h3 : inB a 0 1000000000
  all_goals
    go_enter Tryd.func37, Tryd.ntmps37
    go_wp2_with (first | (go_at_call 62; refine (hown _ _).mono ?_; rintro e w' ⟨rfl, rfl⟩; rw [h1]) | (go_at_call 63; refine (hday _ _).mono ?_; rintro e w' ⟨rfl, rfl⟩; rw [h2]) | (go_at_call 51; refine (specIn _ _ _ _).mono ?_; rintro e w' ⟨rfl, rfl⟩; first | rw [h3] | skip))
    go_ret
    exact ⟨ret_bool (by simp), (Below.refl _ _).alloc (Nat.le_refl _) _⟩
set_option maxRecDepth 100000 in
set_option maxHeartbeats 8000000 in
theorem specReadBill (s : List UInt8) (w : World) (hs : s.length ≤ 1048576) :
    Calls Tryd.prog 17 #[.string ⟨s.toArray⟩] w fun e w' => e = .returned (.tuple #[.agg #[.int .i64 (billF s).1.o, .int .i64 (billF s).1.d, .int .i64 (billF s).1.a, .int .i64 (billF s).1.p], .bool (billF s).2]) ∧ Below w.heap.size w w' := by
  have HB0 := hid ((Below.refl w.heap.size w).alloc (Nat.le_refl _) (.cells #[.int .i64 0, .int .i64 0, .int .i64 0, .int .i64 0] 34))
  have Z : Hid (∀ w', Below (w.alloc (.cells #[.int .i64 0, .int .i64 0, .int .i64 0, .int .i64 0] 34)).heap.size (w.alloc (.cells #[.int .i64 0, .int .i64 0, .int .i64 0, .int .i64 0] 34)) w' →
      (w'.cell? ⟨w.heap.size, 0, none⟩ = some (.int .i64 0) ∧ w'.cell? ⟨w.heap.size, 1, none⟩ = some (.int .i64 0) ∧ w'.cell? ⟨w.heap.size, 2, none⟩ = some (.int .i64 0) ∧ w'.cell? ⟨w.heap.size, 3, none⟩ = some (.int .i64 0)) ∧
      (w'.frozen? ⟨w.heap.size, 0, none⟩ = false ∧ w'.frozen? ⟨w.heap.size, 1, none⟩ = false ∧ w'.frozen? ⟨w.heap.size, 2, none⟩ = false ∧ w'.frozen? ⟨w.heap.size, 3, none⟩ = false)) := fun w' hb => by
    refine ⟨⟨box_cell hb ?_, box_cell hb ?_, box_cell hb ?_, box_cell hb ?_⟩, box_free hb ?_ ?_, box_free hb ?_ ?_, box_free hb ?_ ?_, box_free hb ?_ ?_⟩ <;> simp [go_sem]
  obtain ⟨R, hR⟩ : ∃ R, billF s = R := ⟨_, rfl⟩
  rw [hR]
  have hF : (match wordsBill (splitB 32 s) with | some b => (b, true) | none => ((⟨0, 0, 0, 0⟩ : Bill), false)) = R := hR
  have HCS := hid (fun x => specSplit s 32 x hs)
  have hwl : ∀ x ∈ splitB 32 s, x.length ≤ 1048576 := fun x hx => Nat.le_trans (split_len 32 s x hx) hs
  unfold wordsOf at HCS
  generalize splitB 32 s = ws at hF HCS hwl
  have HWL := hid hwl
  clear hR hwl
  by_cases h8 : ws.length = 8
  · obtain ⟨w0, w1, w2, w3, w4, w5, w6, w7, rfl⟩ := list8 h8
    clear h8
    have hF2 : (match (if w0 = tOwner ∧ w2 = tDay ∧ w4 = tAmount ∧ w6 = tPaid then numsB w1 w3 w5 w7 else none) with | some b => (b, true) | none => ((⟨0, 0, 0, 0⟩ : Bill), false)) = R := hF
    clear hF
    by_cases g0 : w0 = tOwner
    · have x0 : (w0 == [111, 119, 110, 101, 114]) = true := by rw [g0]; rfl
      by_cases g1 : w2 = tDay
      · have x1 : (w2 == [100, 97, 121]) = true := by rw [g1]; rfl
        by_cases g2 : w4 = tAmount
        · have x2 : (w4 == [97, 109, 111, 117, 110, 116]) = true := by rw [g2]; rfl
          by_cases g3 : w6 = tPaid
          · have x3 : (w6 == [112, 97, 105, 100]) = true := by rw [g3]; rfl
            rw [if_pos ⟨g0, g1, g2, g3⟩] at hF2
            clear g0 g1 g2 g3
            have m1 := HWL.out w1 (by simp)
            have m3 := HWL.out w3 (by simp)
            have m5 := HWL.out w5 (by simp)
            have m7 := HWL.out w7 (by simp)
            have N1 := hid (fun x => specNumber w1 x m1)
            have N3 := hid (fun x => specNumber w3 x m3)
            have N5 := hid (fun x => specNumber w5 x m5)
            have N7 := hid (fun x => specNumber w7 x m7)
            have L1 : Hid ((numR w1).2 = false → numO w1 = none) := fun h => by rcases numR_cases w1 with ⟨h1, _⟩ | ⟨n, _, h2⟩; exact h1; rw [h2] at h; cases h
            have L3 : Hid ((numR w3).2 = false → numO w3 = none) := fun h => by rcases numR_cases w3 with ⟨h1, _⟩ | ⟨n, _, h2⟩; exact h1; rw [h2] at h; cases h
            have L5 : Hid ((numR w5).2 = false → numO w5 = none) := fun h => by rcases numR_cases w5 with ⟨h1, _⟩ | ⟨n, _, h2⟩; exact h1; rw [h2] at h; cases h
            have L7 : Hid ((numR w7).2 = false → numO w7 = none) := fun h => by rcases numR_cases w7 with ⟨h1, _⟩ | ⟨n, _, h2⟩; exact h1; rw [h2] at h; cases h
            have K1 : Hid ((numR w1).2 = true → numO w1 = some (numR w1).1) := fun h => by rcases numR_cases w1 with ⟨_, h2⟩ | ⟨n, h1, h2⟩; rw [h2] at h; cases h; rw [h1, h2]
            have K3 : Hid ((numR w3).2 = true → numO w3 = some (numR w3).1) := fun h => by rcases numR_cases w3 with ⟨_, h2⟩ | ⟨n, h1, h2⟩; rw [h2] at h; cases h; rw [h1, h2]
            have K5 : Hid ((numR w5).2 = true → numO w5 = some (numR w5).1) := fun h => by rcases numR_cases w5 with ⟨_, h2⟩ | ⟨n, h1, h2⟩; rw [h2] at h; cases h; rw [h1, h2]
            have K7 : Hid ((numR w7).2 = true → numO w7 = some (numR w7).1) := fun h => by rcases numR_cases w7 with ⟨_, h2⟩ | ⟨n, h1, h2⟩; rw [h2] at h; cases h; rw [h1, h2]
            generalize (numR w1).1 = o at N1 K1
            generalize (numR w1).2 = b1 at N1 K1 L1
            generalize (numR w3).1 = d at N3 K3
            generalize (numR w3).2 = b3 at N3 K3 L3
            generalize (numR w5).1 = a at N5 K5
            generalize (numR w5).2 = b5 at N5 K5 L5
            generalize (numR w7).1 = p at N7 K7
            generalize (numR w7).2 = b7 at N7 K7 L7
            have HF2 := hid hF2
            clear hF2 m1 m3 m5 m7 HWL
            go_enter Tryd.func17, Tryd.ntmps17
            go_wp2_with (go_at_call 34; refine (HCS.out _).mono ?_; rintro e wa ⟨A, q, rfl, ho, hb⟩; refine keep_ ?_)
            have hr := ho.rd (by simp)
            obtain ⟨b, off, rfl, c0'⟩ := hr.str (k := 0) (by simp)
            have c0 : wa.cell? ⟨b, off, none⟩ = some (.string ⟨w0.toArray⟩) := c0'
            have c1 : wa.cell? ⟨b, off + 1, none⟩ = some (.string ⟨w1.toArray⟩) := strAt hr (k := 1) (by simp)
            have c2 : wa.cell? ⟨b, off + 2, none⟩ = some (.string ⟨w2.toArray⟩) := strAt hr (k := 2) (by simp)
            have c3 : wa.cell? ⟨b, off + 3, none⟩ = some (.string ⟨w3.toArray⟩) := strAt hr (k := 3) (by simp)
            have c4 : wa.cell? ⟨b, off + 4, none⟩ = some (.string ⟨w4.toArray⟩) := strAt hr (k := 4) (by simp)
            have c5 : wa.cell? ⟨b, off + 5, none⟩ = some (.string ⟨w5.toArray⟩) := strAt hr (k := 5) (by simp)
            have c6 : wa.cell? ⟨b, off + 6, none⟩ = some (.string ⟨w6.toArray⟩) := strAt hr (k := 6) (by simp)
            have c7 : wa.cell? ⟨b, off + 7, none⟩ = some (.string ⟨w7.toArray⟩) := strAt hr (k := 7) (by simp)
            have HBA := hid hb
            clear ho hb hr c0'
            refine go_ ?_
            go_wp2_with fail
            refine (N1.out _).mono ?_
            rintro e wb ⟨rfl, hb⟩
            have c3b := box_cell hb c3
            have c5b := box_cell hb c5
            have c7b := box_cell hb c7
            have HBB := hid (HBA.out.trans (hb.mono HBA.out.size))
            clear hb c0 c1 c2 c3 c4 c5 c6 c7 HBA
            go_wp2_with fail
            refine (N3.out _).mono ?_
            rintro e wc ⟨rfl, hb⟩
            have c5c := box_cell hb c5b
            have c7c := box_cell hb c7b
            have HBC := hid (HBB.out.trans (hb.mono HBB.out.size))
            clear hb c3b c5b c7b HBB
            go_wp2_with fail
            refine (N5.out _).mono ?_
            rintro e wd ⟨rfl, hb⟩
            have c7d := box_cell hb c7c
            have HBD := hid (HBC.out.trans (hb.mono HBC.out.size))
            clear hb c5c c7c HBC
            go_wp2_with fail
            refine (N7.out _).mono ?_
            rintro e we ⟨rfl, hb⟩
            have HBE := hid (HBD.out.trans (hb.mono HBD.out.size))
            clear hb c7d HBD
            obtain ⟨⟨z0, z1, z2, z3⟩, f0, f1, f2, f3⟩ := Z.out _ HBE.out
            have HB1 := hid (HB0.out.trans (HBE.out.mono HB0.out.size))
            have HB2 := hid (HB1.out.alloc HB1.out.size (.cells #[.int .i64 o, .int .i64 d, .int .i64 a, .int .i64 p] 34))
            go_upto_region 9 with fail
            cases b1
            · have HR0 : Hid (((⟨0, 0, 0, 0⟩ : Bill), false) = R) := by
                show _ = R
                rw [← HF2.out]
                unfold numsB
                rw [L1.out rfl]
                all_goals rfl
              go_wp2_with fail
              (try simp only [Exit.inBlock, Exit.then])
              refine bodyPost_ret (v := .tuple #[.agg #[.int .i64 0, .int .i64 0, .int .i64 0, .int .i64 0], .bool false]) ?_ rfl ?_
              · simp [results, go_sem, z0, z1, z2, z3]
              · exact ⟨ret_bill HR0.out.symm, (((HB2.out.setCell (Nat.le_refl _) _).setCell (Nat.le_refl _) _).setCell (Nat.le_refl _) _).setCell (Nat.le_refl _) _⟩
            · cases b3
              · have HR0 : Hid (((⟨0, 0, 0, 0⟩ : Bill), false) = R) := by
                  show _ = R
                  rw [← HF2.out]
                  unfold numsB
                  rw [L3.out rfl]
                  cases numO w1 <;> rfl
                go_wp2_with fail
                (try simp only [Exit.inBlock, Exit.then])
                refine bodyPost_ret (v := .tuple #[.agg #[.int .i64 0, .int .i64 0, .int .i64 0, .int .i64 0], .bool false]) ?_ rfl ?_
                · simp [results, go_sem, z0, z1, z2, z3]
                · exact ⟨ret_bill HR0.out.symm, (((HB2.out.setCell (Nat.le_refl _) _).setCell (Nat.le_refl _) _).setCell (Nat.le_refl _) _).setCell (Nat.le_refl _) _⟩
              · cases b5
                · have HR0 : Hid (((⟨0, 0, 0, 0⟩ : Bill), false) = R) := by
                    show _ = R
                    rw [← HF2.out]
                    unfold numsB
                    rw [L5.out rfl]
                    cases numO w1 <;> cases numO w3 <;> rfl
                  go_wp2_with fail
                  (try simp only [Exit.inBlock, Exit.then])
                  refine bodyPost_ret (v := .tuple #[.agg #[.int .i64 0, .int .i64 0, .int .i64 0, .int .i64 0], .bool false]) ?_ rfl ?_
                  · simp [results, go_sem, z0, z1, z2, z3]
                  · exact ⟨ret_bill HR0.out.symm, (((HB2.out.setCell (Nat.le_refl _) _).setCell (Nat.le_refl _) _).setCell (Nat.le_refl _) _).setCell (Nat.le_refl _) _⟩
                · cases b7
                  · have HR0 : Hid (((⟨0, 0, 0, 0⟩ : Bill), false) = R) := by
                      show _ = R
                      rw [← HF2.out]
                      unfold numsB
                      rw [L7.out rfl]
                      cases numO w1 <;> cases numO w3 <;> cases numO w5 <;> rfl
                    go_wp2_with fail
                    (try simp only [Exit.inBlock, Exit.then])
                    refine bodyPost_ret (v := .tuple #[.agg #[.int .i64 0, .int .i64 0, .int .i64 0, .int .i64 0], .bool false]) ?_ rfl ?_
                    · simp [results, go_sem, z0, z1, z2, z3]
                    · exact ⟨ret_bill HR0.out.symm, (((HB2.out.setCell (Nat.le_refl _) _).setCell (Nat.le_refl _) _).setCell (Nat.le_refl _) _).setCell (Nat.le_refl _) _⟩
                  · have HFN : Hid ((match (if billOkB ⟨o, d, a, p⟩ = true then some (⟨o, d, a, p⟩ : Bill) else none) with | some b => (b, true) | none => ((⟨0, 0, 0, 0⟩ : Bill), false)) = R) := by
                      have := HF2.out
                      unfold numsB at this
                      rw [K1.out rfl, K3.out rfl, K5.out rfl, K7.out rfl] at this
                      exact this
                    have y0 : (we.alloc (.cells #[.int .i64 o, .int .i64 d, .int .i64 a, .int .i64 p] 34)).cell? ⟨w.heap.size, 0, none⟩ = some (.int .i64 0) := by simp [go_sem, z0]
                    have e0 : (we.alloc (.cells #[.int .i64 o, .int .i64 d, .int .i64 a, .int .i64 p] 34)).frozen? ⟨w.heap.size, 0, none⟩ = false := by simpa [go_sem, z0] using f0
                    have q0 : (we.alloc (.cells #[.int .i64 o, .int .i64 d, .int .i64 a, .int .i64 p] 34)).cell? ⟨we.heap.size, 0, none⟩ = some (.int .i64 o) := by simp [go_sem]
                    have y1 : (we.alloc (.cells #[.int .i64 o, .int .i64 d, .int .i64 a, .int .i64 p] 34)).cell? ⟨w.heap.size, 1, none⟩ = some (.int .i64 0) := by simp [go_sem, z1]
                    have e1 : (we.alloc (.cells #[.int .i64 o, .int .i64 d, .int .i64 a, .int .i64 p] 34)).frozen? ⟨w.heap.size, 1, none⟩ = false := by simpa [go_sem, z1] using f1
                    have q1 : (we.alloc (.cells #[.int .i64 o, .int .i64 d, .int .i64 a, .int .i64 p] 34)).cell? ⟨we.heap.size, 1, none⟩ = some (.int .i64 d) := by simp [go_sem]
                    have y2 : (we.alloc (.cells #[.int .i64 o, .int .i64 d, .int .i64 a, .int .i64 p] 34)).cell? ⟨w.heap.size, 2, none⟩ = some (.int .i64 0) := by simp [go_sem, z2]
                    have e2 : (we.alloc (.cells #[.int .i64 o, .int .i64 d, .int .i64 a, .int .i64 p] 34)).frozen? ⟨w.heap.size, 2, none⟩ = false := by simpa [go_sem, z2] using f2
                    have q2 : (we.alloc (.cells #[.int .i64 o, .int .i64 d, .int .i64 a, .int .i64 p] 34)).cell? ⟨we.heap.size, 2, none⟩ = some (.int .i64 a) := by simp [go_sem]
                    have y3 : (we.alloc (.cells #[.int .i64 o, .int .i64 d, .int .i64 a, .int .i64 p] 34)).cell? ⟨w.heap.size, 3, none⟩ = some (.int .i64 0) := by simp [go_sem, z3]
                    have e3 : (we.alloc (.cells #[.int .i64 o, .int .i64 d, .int .i64 a, .int .i64 p] 34)).frozen? ⟨w.heap.size, 3, none⟩ = false := by simpa [go_sem, z3] using f3
                    have q3 : (we.alloc (.cells #[.int .i64 o, .int .i64 d, .int .i64 a, .int .i64 p] 34)).cell? ⟨we.heap.size, 3, none⟩ = some (.int .i64 p) := by simp [go_sem]
                    have Y0 := hid y0
                    have E0 := hid e0
                    have Q0 := hid q0
                    have Y1 := hid y1
                    have E1 := hid e1
                    have Q1 := hid q1
                    have Y2 := hid y2
                    have E2 := hid e2
                    have Q2 := hid q2
                    have Y3 := hid y3
                    have E3 := hid e3
                    have Q3 := hid q3
                    clear y0 y1 y2 y3 e0 e1 e2 e3 q0 q1 q2 q3
                    cases hk : billOkB ⟨o, d, a, p⟩
                    · have HR0 : Hid (((⟨0, 0, 0, 0⟩ : Bill), false) = R) := by
                        have := HFN.out
                        rw [hk, if_neg (by decide)] at this
                        exact this
                      go_wp2_with (go_at_call 37; refine (specBillOk o d a p _).mono ?_; rintro e wf ⟨rfl, hb⟩; rw [hk]; refine keep_ ?_)
                      have u0 := box_cell hb Y0.out
                      have v0 := box_free hb (by rw [Y0.out]; rfl) E0.out
                      have r0 := box_cell hb Q0.out
                      have u1 := box_cell hb Y1.out
                      have v1 := box_free hb (by rw [Y1.out]; rfl) E1.out
                      have r1 := box_cell hb Q1.out
                      have u2 := box_cell hb Y2.out
                      have v2 := box_free hb (by rw [Y2.out]; rfl) E2.out
                      have r2 := box_cell hb Q2.out
                      have u3 := box_cell hb Y3.out
                      have v3 := box_free hb (by rw [Y3.out]; rfl) E3.out
                      have r3 := box_cell hb Q3.out
                      have HB3 := hid (HB2.out.trans (hb.mono HB2.out.size))
                      clear hb z0 z1 z2 z3 f0 f1 f2 f3
                      refine go_ ?_
                      go_wp2_with fail
                      (try simp only [Exit.inBlock, Exit.then])
                      refine bodyPost_ret (v := .tuple #[.agg #[.int .i64 0, .int .i64 0, .int .i64 0, .int .i64 0], .bool false]) ?_ rfl ?_
                      · simp [results, go_sem, u0, u1, u2, u3]
                      · exact ⟨ret_bill HR0.out.symm, (((HB3.out.setCell (Nat.le_refl _) _).setCell (Nat.le_refl _) _).setCell (Nat.le_refl _) _).setCell (Nat.le_refl _) _⟩
                    · have HR0 : Hid (((⟨o, d, a, p⟩ : Bill), true) = R) := by
                        have := HFN.out
                        rw [hk, if_pos rfl] at this
                        exact this
                      go_wp2_with (go_at_call 37; refine (specBillOk o d a p _).mono ?_; rintro e wf ⟨rfl, hb⟩; rw [hk]; refine keep_ ?_)
                      have u0 := box_cell hb Y0.out
                      have v0 := box_free hb (by rw [Y0.out]; rfl) E0.out
                      have r0 := box_cell hb Q0.out
                      have u1 := box_cell hb Y1.out
                      have v1 := box_free hb (by rw [Y1.out]; rfl) E1.out
                      have r1 := box_cell hb Q1.out
                      have u2 := box_cell hb Y2.out
                      have v2 := box_free hb (by rw [Y2.out]; rfl) E2.out
                      have r2 := box_cell hb Q2.out
                      have u3 := box_cell hb Y3.out
                      have v3 := box_free hb (by rw [Y3.out]; rfl) E3.out
                      have r3 := box_cell hb Q3.out
                      have HB3 := hid (HB2.out.trans (hb.mono HB2.out.size))
                      clear hb z0 z1 z2 z3 f0 f1 f2 f3
                      refine go_ ?_
                      go_wp2_with fail
                      (try simp only [Exit.inBlock, Exit.then])
                      refine bodyPost_ret (v := .tuple #[.agg #[.int .i64 o, .int .i64 d, .int .i64 a, .int .i64 p], .bool true]) ?_ rfl ?_
                      · simp [results, go_sem, u0, u1, u2, u3]
                      · exact ⟨ret_bill HR0.out.symm, (((HB3.out.setCell (Nat.le_refl _) _).setCell (Nat.le_refl _) _).setCell (Nat.le_refl _) _).setCell (Nat.le_refl _) _⟩
          · have HR0 : Hid (((⟨0, 0, 0, 0⟩ : Bill), false) = R) := by
              show _ = R
              rw [← hF2, if_neg (fun h => g3 h.2.2.2)]
            have x3 : (w6 == [112, 97, 105, 100]) = false := by rw [beq_eq_false_iff_ne]; exact g3
            clear hF2
            go_enter Tryd.func17, Tryd.ntmps17
            go_wp2_with (go_at_call 34; refine (HCS.out _).mono ?_; rintro e wa ⟨A, q, rfl, ho, hb⟩; refine keep_ ?_)
            have hr := ho.rd (by simp)
            obtain ⟨b, off, rfl, c0'⟩ := hr.str (k := 0) (by simp)
            have c0 : wa.cell? ⟨b, off, none⟩ = some (.string ⟨w0.toArray⟩) := c0'
            have c1 : wa.cell? ⟨b, off + 1, none⟩ = some (.string ⟨w1.toArray⟩) := strAt hr (k := 1) (by simp)
            have c2 : wa.cell? ⟨b, off + 2, none⟩ = some (.string ⟨w2.toArray⟩) := strAt hr (k := 2) (by simp)
            have c3 : wa.cell? ⟨b, off + 3, none⟩ = some (.string ⟨w3.toArray⟩) := strAt hr (k := 3) (by simp)
            have c4 : wa.cell? ⟨b, off + 4, none⟩ = some (.string ⟨w4.toArray⟩) := strAt hr (k := 4) (by simp)
            have c5 : wa.cell? ⟨b, off + 5, none⟩ = some (.string ⟨w5.toArray⟩) := strAt hr (k := 5) (by simp)
            have c6 : wa.cell? ⟨b, off + 6, none⟩ = some (.string ⟨w6.toArray⟩) := strAt hr (k := 6) (by simp)
            have c7 : wa.cell? ⟨b, off + 7, none⟩ = some (.string ⟨w7.toArray⟩) := strAt hr (k := 7) (by simp)
            have HBA := hid hb
            clear ho hb hr c0'
            obtain ⟨⟨z0, z1, z2, z3⟩, f0, f1, f2, f3⟩ := Z.out _ HBA.out
            have HB1 := hid (HB0.out.trans (HBA.out.mono HB0.out.size))
            refine go_ ?_
            go_wp2_with fail
            (try simp only [Exit.inBlock, Exit.then])
            refine bodyPost_ret (v := .tuple #[.agg #[.int .i64 0, .int .i64 0, .int .i64 0, .int .i64 0], .bool false]) ?_ rfl ?_
            · simp [results, go_sem, z0, z1, z2, z3]
            · exact ⟨ret_bill HR0.out.symm, (((HB1.out.setCell (Nat.le_refl _) _).setCell (Nat.le_refl _) _).setCell (Nat.le_refl _) _).setCell (Nat.le_refl _) _⟩
        · have HR0 : Hid (((⟨0, 0, 0, 0⟩ : Bill), false) = R) := by
            show _ = R
            rw [← hF2, if_neg (fun h => g2 h.2.2.1)]
          have x2 : (w4 == [97, 109, 111, 117, 110, 116]) = false := by rw [beq_eq_false_iff_ne]; exact g2
          clear hF2
          go_enter Tryd.func17, Tryd.ntmps17
          go_wp2_with (go_at_call 34; refine (HCS.out _).mono ?_; rintro e wa ⟨A, q, rfl, ho, hb⟩; refine keep_ ?_)
          have hr := ho.rd (by simp)
          obtain ⟨b, off, rfl, c0'⟩ := hr.str (k := 0) (by simp)
          have c0 : wa.cell? ⟨b, off, none⟩ = some (.string ⟨w0.toArray⟩) := c0'
          have c1 : wa.cell? ⟨b, off + 1, none⟩ = some (.string ⟨w1.toArray⟩) := strAt hr (k := 1) (by simp)
          have c2 : wa.cell? ⟨b, off + 2, none⟩ = some (.string ⟨w2.toArray⟩) := strAt hr (k := 2) (by simp)
          have c3 : wa.cell? ⟨b, off + 3, none⟩ = some (.string ⟨w3.toArray⟩) := strAt hr (k := 3) (by simp)
          have c4 : wa.cell? ⟨b, off + 4, none⟩ = some (.string ⟨w4.toArray⟩) := strAt hr (k := 4) (by simp)
          have c5 : wa.cell? ⟨b, off + 5, none⟩ = some (.string ⟨w5.toArray⟩) := strAt hr (k := 5) (by simp)
          have c6 : wa.cell? ⟨b, off + 6, none⟩ = some (.string ⟨w6.toArray⟩) := strAt hr (k := 6) (by simp)
          have c7 : wa.cell? ⟨b, off + 7, none⟩ = some (.string ⟨w7.toArray⟩) := strAt hr (k := 7) (by simp)
          have HBA := hid hb
          clear ho hb hr c0'
          obtain ⟨⟨z0, z1, z2, z3⟩, f0, f1, f2, f3⟩ := Z.out _ HBA.out
          have HB1 := hid (HB0.out.trans (HBA.out.mono HB0.out.size))
          refine go_ ?_
          go_wp2_with fail
          (try simp only [Exit.inBlock, Exit.then])
          refine bodyPost_ret (v := .tuple #[.agg #[.int .i64 0, .int .i64 0, .int .i64 0, .int .i64 0], .bool false]) ?_ rfl ?_
          · simp [results, go_sem, z0, z1, z2, z3]
          · exact ⟨ret_bill HR0.out.symm, (((HB1.out.setCell (Nat.le_refl _) _).setCell (Nat.le_refl _) _).setCell (Nat.le_refl _) _).setCell (Nat.le_refl _) _⟩
      · have HR0 : Hid (((⟨0, 0, 0, 0⟩ : Bill), false) = R) := by
          show _ = R
          rw [← hF2, if_neg (fun h => g1 h.2.1)]
        have x1 : (w2 == [100, 97, 121]) = false := by rw [beq_eq_false_iff_ne]; exact g1
        clear hF2
        go_enter Tryd.func17, Tryd.ntmps17
        go_wp2_with (go_at_call 34; refine (HCS.out _).mono ?_; rintro e wa ⟨A, q, rfl, ho, hb⟩; refine keep_ ?_)
        have hr := ho.rd (by simp)
        obtain ⟨b, off, rfl, c0'⟩ := hr.str (k := 0) (by simp)
        have c0 : wa.cell? ⟨b, off, none⟩ = some (.string ⟨w0.toArray⟩) := c0'
        have c1 : wa.cell? ⟨b, off + 1, none⟩ = some (.string ⟨w1.toArray⟩) := strAt hr (k := 1) (by simp)
        have c2 : wa.cell? ⟨b, off + 2, none⟩ = some (.string ⟨w2.toArray⟩) := strAt hr (k := 2) (by simp)
        have c3 : wa.cell? ⟨b, off + 3, none⟩ = some (.string ⟨w3.toArray⟩) := strAt hr (k := 3) (by simp)
        have c4 : wa.cell? ⟨b, off + 4, none⟩ = some (.string ⟨w4.toArray⟩) := strAt hr (k := 4) (by simp)
        have c5 : wa.cell? ⟨b, off + 5, none⟩ = some (.string ⟨w5.toArray⟩) := strAt hr (k := 5) (by simp)
        have c6 : wa.cell? ⟨b, off + 6, none⟩ = some (.string ⟨w6.toArray⟩) := strAt hr (k := 6) (by simp)
        have c7 : wa.cell? ⟨b, off + 7, none⟩ = some (.string ⟨w7.toArray⟩) := strAt hr (k := 7) (by simp)
        have HBA := hid hb
        clear ho hb hr c0'
        obtain ⟨⟨z0, z1, z2, z3⟩, f0, f1, f2, f3⟩ := Z.out _ HBA.out
        have HB1 := hid (HB0.out.trans (HBA.out.mono HB0.out.size))
        refine go_ ?_
        go_wp2_with fail
        (try simp only [Exit.inBlock, Exit.then])
        refine bodyPost_ret (v := .tuple #[.agg #[.int .i64 0, .int .i64 0, .int .i64 0, .int .i64 0], .bool false]) ?_ rfl ?_
        · simp [results, go_sem, z0, z1, z2, z3]
        · exact ⟨ret_bill HR0.out.symm, (((HB1.out.setCell (Nat.le_refl _) _).setCell (Nat.le_refl _) _).setCell (Nat.le_refl _) _).setCell (Nat.le_refl _) _⟩
    · have HR0 : Hid (((⟨0, 0, 0, 0⟩ : Bill), false) = R) := by
        show _ = R
        rw [← hF2, if_neg (fun h => g0 h.1)]
      have x0 : (w0 == [111, 119, 110, 101, 114]) = false := by rw [beq_eq_false_iff_ne]; exact g0
      clear hF2
      go_enter Tryd.func17, Tryd.ntmps17
      go_wp2_with (go_at_call 34; refine (HCS.out _).mono ?_; rintro e wa ⟨A, q, rfl, ho, hb⟩; refine keep_ ?_)
      have hr := ho.rd (by simp)
      obtain ⟨b, off, rfl, c0'⟩ := hr.str (k := 0) (by simp)
      have c0 : wa.cell? ⟨b, off, none⟩ = some (.string ⟨w0.toArray⟩) := c0'
      have c1 : wa.cell? ⟨b, off + 1, none⟩ = some (.string ⟨w1.toArray⟩) := strAt hr (k := 1) (by simp)
      have c2 : wa.cell? ⟨b, off + 2, none⟩ = some (.string ⟨w2.toArray⟩) := strAt hr (k := 2) (by simp)
      have c3 : wa.cell? ⟨b, off + 3, none⟩ = some (.string ⟨w3.toArray⟩) := strAt hr (k := 3) (by simp)
      have c4 : wa.cell? ⟨b, off + 4, none⟩ = some (.string ⟨w4.toArray⟩) := strAt hr (k := 4) (by simp)
      have c5 : wa.cell? ⟨b, off + 5, none⟩ = some (.string ⟨w5.toArray⟩) := strAt hr (k := 5) (by simp)
      have c6 : wa.cell? ⟨b, off + 6, none⟩ = some (.string ⟨w6.toArray⟩) := strAt hr (k := 6) (by simp)
      have c7 : wa.cell? ⟨b, off + 7, none⟩ = some (.string ⟨w7.toArray⟩) := strAt hr (k := 7) (by simp)
      have HBA := hid hb
      clear ho hb hr c0'
      obtain ⟨⟨z0, z1, z2, z3⟩, f0, f1, f2, f3⟩ := Z.out _ HBA.out
      have HB1 := hid (HB0.out.trans (HBA.out.mono HB0.out.size))
      refine go_ ?_
      go_wp2_with fail
      (try simp only [Exit.inBlock, Exit.then])
      refine bodyPost_ret (v := .tuple #[.agg #[.int .i64 0, .int .i64 0, .int .i64 0, .int .i64 0], .bool false]) ?_ rfl ?_
      · simp [results, go_sem, z0, z1, z2, z3]
      · exact ⟨ret_bill HR0.out.symm, (((HB1.out.setCell (Nat.le_refl _) _).setCell (Nat.le_refl _) _).setCell (Nat.le_refl _) _).setCell (Nat.le_refl _) _⟩
  · have hR0 : ((⟨0, 0, 0, 0⟩ : Bill), false) = R := by
      have hn : wordsBill ws = none := by
        unfold wordsBill
        split
        · exact absurd rfl h8
        · rfl
      rw [hn] at hF
      exact hF
    have l8 : ((((ws.map toB).length : Nat) : Int) != 8) = true := by rw [bne_iff_ne, List.length_map]; omega
    have HR0 := hid hR0
    clear hF hR0 h8
    generalize ws.map toB = W at HCS l8
    go_enter Tryd.func17, Tryd.ntmps17
    go_wp2_with (go_at_call 34; refine (HCS.out _).mono ?_; rintro e wa ⟨A, q, rfl, ho, hb⟩; have hz := Z.out _ hb; have HB1 := hid (HB0.out.trans (hb.mono HB0.out.size)); clear ho hb; refine keep_ ?_)
    obtain ⟨⟨z0, z1, z2, z3⟩, f0, f1, f2, f3⟩ := hz
    refine go_ ?_
    go_wp2_with fail
    (try simp only [Exit.inBlock, Exit.then])
    refine bodyPost_ret (v := .tuple #[.agg #[.int .i64 0, .int .i64 0, .int .i64 0, .int .i64 0], .bool false]) ?_ rfl ?_
    · simp [results, go_sem, z0, z1, z2, z3]
    · exact ⟨ret_bill HR0.out.symm, (((HB1.out.setCell (Nat.le_refl _) _).setCell (Nat.le_refl _) _).setCell (Nat.le_refl _) _).setCell (Nat.le_refl _) _⟩
end Go.Proofs.YtampbbknhbhcbaaDoor
