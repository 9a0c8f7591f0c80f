/- FnMillSets: MillRate, a2Parts, FewestMills walked. -/
import Derived.Test.YteobejgkjjhfkaaSplitP
import Derived.Test.YteobejgkjjhfkaaMillDraw
import Derived.Test.YteobejgkjjhfkaaThrough
import Derived.Test.YteobejgkjjhfkaaHas
import Derived.Deep.CutBlock
namespace Go.Proofs.Yteobejgkjjhfkaa
open Go.RowKit
set_option linter.unusedVariables false
set_option linter.unusedSimpArgs false
set_option maxHeartbeats 1000000 in
theorem specMillOk (m : Mill) (h : MillOk m) (w : World) : Calls Try.prog 102 #[.agg #[.int .i64 m.l, .int .i64 m.r, .int .i64 m.a, .int .i64 m.b]] w fun e w' => e = .returned (.bool true) ∧ Below w.heap.size w w' := by
  obtain ⟨h1, h2, h3, h4, h5⟩ := h
  have H1 : Hid (inB m.l 1 500 = true) := inB_lit h1
  have H2 : Hid (inB m.r 1 10000 = true) := inB_lit (by omega)
  have H3 : Hid (inB m.b 1 12 = true) := inB_lit (by omega)
  have H4 : Hid (inB m.a 1 m.b = true) := inB_lit (by omega)
  obtain ⟨l, r, a, b⟩ := m
  simp only at *
  go_enter Try.func102, Try.ntmps102
  go_wp2_with (go_at_call 136; refine (specIn _ _ _ _).mono ?_; rintro e w' ⟨rfl, rfl⟩; first | rw [H1.out] | rw [H2.out] | rw [H3.out] | rw [H4.out])
  go_ret
  exact ⟨by first | rfl | exact ret_bool (by simp; omega), (Below.refl _ _).alloc (Nat.le_refl _) _⟩
set_option maxHeartbeats 1000000 in
theorem specForce (n : Int) (w : World) : Calls Try.prog 103 #[.int .i64 n] w fun e w' => e = .returned (.bool (inB n 0 12)) ∧ w = w' := by
  go_enter Try.func103, Try.ntmps103
  go_wp2_with (go_at_call 136; refine (specIn _ _ _ _).mono ?_; rintro e w' ⟨rfl, rfl⟩)
  go_ret
  exact ⟨rfl, rfl⟩
set_option maxHeartbeats 1000000 in
theorem specRate (m : Mill) (f : Int) (h : MillOk m) (hf : 0 ≤ f ∧ f ≤ 12) (w : World) : Calls Try.prog 104 #[.agg #[.int .i64 m.l, .int .i64 m.r, .int .i64 m.a, .int .i64 m.b], .int .i64 f] w fun e w' => e = .returned (.int .i64 (rateM f m)) ∧ Below w.heap.size w w' := by
  obtain ⟨h1, h2, h3, h4, h5⟩ := h
  obtain ⟨R, hR⟩ : ∃ R, rateM f m = R := ⟨_, rfl⟩
  rw [hR]
  unfold rateM at hR
  obtain ⟨l, r, a, b⟩ := m
  simp only at *
  by_cases hc : a ≤ f ∧ f ≤ b
  · have H1 : Hid (inB f a b = true) := inB_lit hc
    have e1 : 0 ≤ r * (f - a + 1) := Int.mul_nonneg (by omega) (by omega)
    have e2 : r * (f - a + 1) ≤ 1000 * 12 := Int.mul_le_mul (by omega) (by omega) (by omega) (by omega)
    rw [if_pos hc] at hR
    have e3 : 0 ≤ r * (f - a + 1) / (b - a + 1) := Int.ediv_nonneg e1 (by omega)
    have e4 : r * (f - a + 1) / (b - a + 1) ≤ r * (f - a + 1) := Int.ediv_le_self _ e1
    have HR := hid hR
    clear hR
    go_enter Try.func104, Try.ntmps104
    go_wp2_with (go_at_call 136; refine (specIn _ _ _ _).mono ?_; rintro e w' ⟨rfl, rfl⟩; rw [H1.out])
    go_ret
    exact ⟨ret_int (by first | exact HR.out | (rw [← HR.out]; exact Int.tdiv_eq_ediv_of_nonneg e1) | (rw [← HR.out]; rfl)), (Below.refl _ _).alloc (Nat.le_refl _) _⟩
  · have H1 : Hid (inB f a b = false) := by show inB f a b = false; rw [inB_false]; omega
    rw [if_neg hc] at hR
    have HR := hid hR
    clear hR
    go_enter Try.func104, Try.ntmps104
    go_wp2_with (go_at_call 136; refine (specIn _ _ _ _).mono ?_; rintro e w' ⟨rfl, rfl⟩; rw [H1.out])
    go_ret
    exact ⟨ret_int HR.out, (Below.refl _ _).alloc (Nat.le_refl _) _⟩
set_option maxHeartbeats 1000000 in
theorem specMillRate (m : Mill) (f : Int) (h : MillOk m) (hf : 0 ≤ f ∧ f ≤ 12) (w : World) : Calls Try.prog 51 #[.agg #[.int .i64 m.l, .int .i64 m.r, .int .i64 m.a, .int .i64 m.b], .int .i64 f] w fun e w' => e = .returned (.tuple #[.int .i64 (rateM f m), .int .i64 0]) ∧ Below w.heap.size w w' := by
  have HK := hid h
  have H1 : Hid (inB f 0 12 = true) := inB_lit hf
  have hb0 : Below w.heap.size w (w.alloc (.cells #[.int .i64 m.l, .int .i64 m.r, .int .i64 m.a, .int .i64 m.b] 84)) := (Below.refl _ _).alloc (Nat.le_refl _) _
  have HB0 := hid hb0
  have d0 : (w.alloc (.cells #[.int .i64 m.l, .int .i64 m.r, .int .i64 m.a, .int .i64 m.b] 84)).cell? ⟨w.heap.size, 0, none⟩ = some (.int .i64 m.l) := by simp [go_sem]
  have d1 : (w.alloc (.cells #[.int .i64 m.l, .int .i64 m.r, .int .i64 m.a, .int .i64 m.b] 84)).cell? ⟨w.heap.size, 1, none⟩ = some (.int .i64 m.r) := by simp [go_sem]
  have d2 : (w.alloc (.cells #[.int .i64 m.l, .int .i64 m.r, .int .i64 m.a, .int .i64 m.b] 84)).cell? ⟨w.heap.size, 2, none⟩ = some (.int .i64 m.a) := by simp [go_sem]
  have d3 : (w.alloc (.cells #[.int .i64 m.l, .int .i64 m.r, .int .i64 m.a, .int .i64 m.b] 84)).cell? ⟨w.heap.size, 3, none⟩ = some (.int .i64 m.b) := by simp [go_sem]
  have D0 := hid d0
  have D1 := hid d1
  have D2 := hid d2
  have D3 := hid d3
  clear hb0 d0 d1 d2 d3 h
  go_enter Try.func51, Try.ntmps51
  go_wp2_with fail
  refine (specMillOk m HK.out _).mono ?_
  rintro e w1 ⟨rfl, hb⟩
  have HB1 := hid (HB0.out.trans (hb.mono HB0.out.size))
  have k0 := box_cell hb D0.out
  have k1 := box_cell hb D1.out
  have k2 := box_cell hb D2.out
  have k3 := box_cell hb D3.out
  clear hb D0 D1 D2 D3 HB0
  go_wp2_with (go_at_call 103; refine (specForce _ _).mono ?_; rintro e w' ⟨rfl, rfl⟩; rw [H1.out])
  refine (specRate m f HK.out hf _).mono ?_
  rintro e w2 ⟨rfl, hb⟩
  have HB2 := hid (HB1.out.trans (hb.mono HB1.out.size))
  clear hb k0 k1 k2 k3
  go_wp2_with fail
  go_ret2
  exact ⟨rfl, HB2.out⟩
set_option maxHeartbeats 1000000 in
theorem a2Parts_ (A B : Option Addr) (rs xs : List Int) (c d : Nat) (w : World) (hr : Rd w A rs) (hx : Rd w B xs) (hu : UpTo (rs.length : Int) xs) (hrr : ∀ r ∈ rs, 0 ≤ r ∧ r ≤ 1000) (hxl : xs.length ≤ 1000) (hrl : rs.length ≤ 1000) :
    Calls Try.prog 52 #[.slice A rs.length c, .slice B xs.length d] w fun e w' => e = .returned (.int .i64 (partsOf rs xs)) ∧ w = w' := by
  have HR := hid hr
  have HX := hid hx
  have HU := hid hu
  have HRR := hid hrr
  clear hr hx hu hrr
  go_enter Try.func52, Try.ntmps52
  go_wp2
  go_loop [5, 6] (fun s i => ∃ k : Nat, k ≤ xs.length ∧ i = .int .i64 k ∧ s = .int .i64 (partsOf rs (xs.take k))) (fun _ i => xs.length - (intOf i).toNat)
  case atStart => exact ⟨0, Nat.zero_le _, rfl, rfl⟩
  case round =>
    obtain ⟨k, hk, rfl, rfl⟩ := hrel
    by_cases hlt : k < xs.length
    · obtain ⟨b, off, hA, c1⟩ := HX.out.int hlt
      subst hA
      have hmem := HU.out.1 _ (List.getElem_mem hlt)
      have hp := partsOf_range HRR.out (xs.take k)
      rw [List.length_take, Nat.min_eq_left hk] at hp
      have hs := partsOf_snoc rs (xs.take k) xs[k]
      rw [← take_next hlt] at hs
      obtain ⟨a, ha⟩ : ∃ a : Nat, xs[k] = (a : Int) := ⟨xs[k].toNat, by omega⟩
      rw [ha] at c1 hmem hs
      have har : a < rs.length := by omega
      obtain ⟨b2, off2, hA, c2⟩ := HR.out.int har
      subst hA
      have hra := HRR.out _ (List.getElem_mem har)
      have e2 : rs.getD ((a : Int).toNat) 0 = rs[a] := by rw [Int.toNat_natCast]; simp [har]
      rw [e2] at hs
      have HS := hid hs
      generalize partsOf rs (xs.take k) = p at hp HS
      generalize rs[a] = ra at c2 hra HS
      clear hs e2 ha
      go_wp2
      go_round
      case rel => exact ⟨k + 1, by omega, by go_num, by rw [HS.out]⟩
      case measure => simp [intOf]; omega
    · rw [List.take_of_length_le (by omega)]
      go_wp2
      go_ret
      exact ⟨rfl, rfl⟩
theorem Rws.rowO {w : World} {base : Nat} {A : Option Addr} {n c : Nat} {cs : List RowC} {L : List (List Int)} (h : Rws w base (.slice A n c) cs L) (hl : L.length ≤ 1048576) {k : Nat} (hk : k < L.length) :
    ∃ b off P q, A = some ⟨b, off, none⟩ ∧ w.cell? ⟨b, off + k, none⟩ = some (.slice P L[k].length q) ∧ Own w base 2 (.slice P L[k].length q) L[k] := by
  have hk' : k < cs.length := by rw [h.len]; exact hk
  obtain ⟨e1, e2, _⟩ := h.all k hk' hk
  obtain ⟨b, off, hA, hc⟩ := (h.own.rd (by rw [h.len]; exact hl)).2 k hk'
  refine ⟨b, off, cs[k].A, cs[k].q, hA, ?_, by rw [← e1]; exact e2⟩
  rw [← e1]
  simpa [Enc.size] using hc 0 _ rfl
theorem rates_range {ms : List Mill} (h : MillsOk ms) (f : Int) : ∀ r ∈ ms.map (rateM f), 0 ≤ r ∧ r ≤ 1000 := fun r hr => by
  obtain ⟨m, hm, rfl⟩ := List.mem_map.1 hr
  exact rateM_range (h.2 m hm) f
set_option maxRecDepth 100000 in
set_option maxHeartbeats 8000000 in
theorem implFewest (A : Option Addr) (ms : List Mill) (c : Nat) (f rate : Int) (w : World) (hx : Rd w A ms) (hok : MillsOk ms) (hf : 0 ≤ f ∧ f ≤ 12) (hrt : 1 ≤ rate ∧ rate ≤ 80000) :
    Calls Try.prog 50 #[.slice A ms.length c, .int .i64 f, .int .i64 rate] w fun e w' => ∃ u few one, e = .returned (.tuple #[u, .int .i64 one]) ∧ FewOk (ms.map (rateM f)) rate few one ∧ Own w' w.heap.size 2 u few ∧ Below w.heap.size w w' := by
  have hm5 := hok.1
  have HX := hid hx
  have HOK := hid hok
  have H1 : Hid (inB f 0 12 = true) := inB_lit hf
  have H2 : Hid (inB rate 1 80000 = true) := inB_lit hrt
  have HRR := hid (rates_range hok f)
  have hrl : (ms.map (rateM f)).length = ms.length := List.length_map _
  obtain ⟨rs, hrs⟩ : ∃ rs, ms.map (rateM f) = rs := ⟨_, rfl⟩
  rw [hrs] at HRR hrl ⊢
  have HRS := hid hrs
  have HRL := hid hrl
  clear hx hok hrs hrl
  go_enter Try.func50, Try.ntmps50
  go_wp2_with fail
  refine (areMills_ _ _ _ _ HX.out HOK.out).mono ?_
  rintro e w1 ⟨rfl, hb⟩
  have HX1 := hid (HX.out.below hb)
  have HB1 := hid hb
  clear hb HX
  go_wp2_with (first | (go_at_call 76; refine (isForce_ _ _).mono ?_; rintro e w' ⟨rfl, rfl⟩; rw [H1.out]) | (go_at_call 59; refine (implIn _ _ _ _).mono ?_; rintro e w' ⟨rfl, rfl⟩; rw [H2.out]))
  refine (millRates_ A ms c f _ HX1.out HOK.out hf).mono ?_
  rintro e w2 ⟨u, rfl, ho, hb⟩
  have HB2 := hid (HB1.out.trans (hb.mono HB1.out.size))
  rw [HRS.out] at ho
  obtain ⟨R, rq, rfl⟩ := ho.form
  have HR := hid (ho.rd (by rw [HRL.out]; omega))
  rw [HRL.out]
  clear hb ho HX1 HB1
  go_wp2_with (go_at_call 101; refine (sizeMills _ _ _ _ (by omega)).mono ?_; rintro e w' ⟨rfl, rfl⟩)
  refine (implSubsets ms.length _ (by omega)).mono ?_
  rintro e w3 ⟨u, cs, L, rfl, hR, hS, hb⟩
  have HB3 := hid (HB2.out.trans (hb.mono HB2.out.size))
  have HR3 := hid (HR.out.below hb)
  have HL3 := hid (hR.mono HB2.out.size)
  have hp : (2 : Nat) ^ ms.length ≤ 32 := Nat.pow_le_pow_right (n := 2) (by decide) hm5.2
  have hLl : L.length ≤ 32 := Nat.le_trans hS.len hp
  have HS : Hid (SubAll rs.length L) := by rw [HRL.out]; exact hS
  obtain ⟨LA, LQ, rfl⟩ := hR.form
  clear hb hR hS hp HR HB2
  go_wp2_with fail
  go_loop [36] (fun i => ∃ j : Nat, j ≤ L.length ∧ i = .int .i64 j ∧ ∀ k, k < j → (h : k < L.length) → partsOf rs L[k] < rate) (fun i => L.length - (intOf i).toNat)
  case atStart => exact ⟨0, Nat.zero_le _, rfl, fun k hk => absurd hk (by omega)⟩
  case round =>
    obtain ⟨j, hj, rfl, hno⟩ := hrel
    have HNO := hid hno
    clear hno
    by_cases hlt : j < L.length
    · have hup := HS.out.up _ (List.getElem_mem hlt)
      have hsl : L[j].length ≤ 5 := by have := upTo_len hup; have := HRL.out; omega
      obtain ⟨b, off, P, sq, hA, c1, hso⟩ := HL3.out.rowO (by omega) hlt
      subst hA
      have HSO := hid hso
      have HSR := hid (hso.rd (by omega))
      have HUP := hid hup
      have HLT := hid hlt
      have HHIT := hid (fun h => few_hit HS.out hlt HNO.out h)
      have HNX : Hid (partsOf rs L[j] < rate → ∀ k, k < j + 1 → (h : k < L.length) → partsOf rs L[k] < rate) := fun h k hk hkl => by
        by_cases hkj : k = j
        · subst hkj; exact h
        · exact HNO.out k (by omega) hkl
      clear hso hup
      generalize L[j] = s at c1 HSO HSR HUP hsl HHIT HNX
      go_wp2_with fail
      go_loop [11, 42] (fun a i => ∃ m : Nat, m ≤ s.length ∧ i = .int .i64 m ∧ a = .int .i64 (partsOf rs (s.take m))) (fun _ i => s.length - (intOf i).toNat)
      case atStart => exact ⟨0, Nat.zero_le _, rfl, rfl⟩
      case round =>
        obtain ⟨m, hm, rfl, rfl⟩ := hrel
        have hpp := partsOf_range HRR.out (s.take m)
        rw [List.length_take, Nat.min_eq_left hm] at hpp
        by_cases hlm : m < s.length
        · obtain ⟨sb, so, hA, s1⟩ := HSR.out.int hlm
          subst hA
          have hmem := HUP.out.1 _ (List.getElem_mem hlm)
          have hs := partsOf_snoc rs (s.take m) s[m]
          rw [← take_next hlm] at hs
          obtain ⟨a, ha⟩ : ∃ a : Nat, s[m] = (a : Int) := ⟨s[m].toNat, by omega⟩
          rw [ha] at s1 hmem hs
          have har : a < rs.length := by omega
          obtain ⟨b2, off2, hA, c2⟩ := HR3.out.int har
          subst hA
          have hra := HRR.out _ (List.getElem_mem har)
          have e2 : rs.getD ((a : Int).toNat) 0 = rs[a] := by rw [Int.toNat_natCast]; simp [har]
          have hal : a < ms.length := by rw [← HRL.out]; exact har
          rw [e2] at hs
          have HSS := hid hs
          generalize partsOf rs (s.take m) = p at hpp HSS
          generalize rs[a] = ra at c2 hra HSS
          clear hs e2 ha
          go_wp2_with fail
          go_round
          case rel => exact ⟨m + 1, by omega, by go_num, by rw [HSS.out]⟩
          case measure => simp [intOf]; omega
        · have hst : s.take m = s := List.take_of_length_le (by omega)
          rw [hst] at hpp ⊢
          clear hst
          by_cases hge : rate ≤ partsOf rs s
          · have HF := hid (HHIT.out hge)
            generalize partsOf rs s = p at hpp hge
            go_wp2_with fail
            go_ret2
            exact ⟨_, s, 0, rfl, HF.out, HSO.out, HB3.out⟩
          · have HN := hid (HNX.out (by omega))
            generalize partsOf rs s = p at hpp hge
            go_wp2_with fail
            go_round
            case rel => exact ⟨j + 1, by have := HLT.out; omega, by go_num, HN.out⟩
            case measure => have := HLT.out; simp [intOf]; omega
    · have hjl : j = L.length := by omega
      have HF := hid (few_none HS.out (rate := rate) (by have := HNO.out; rw [hjl] at this; exact this))
      clear hjl
      go_wp2_with fail
      go_ret2
      exact ⟨_, [], 3, rfl, HF.out, Own.empty HB3.out.size, HB3.out.alloc HB3.out.size _⟩
end Go.Proofs.Yteobejgkjjhfkaa
