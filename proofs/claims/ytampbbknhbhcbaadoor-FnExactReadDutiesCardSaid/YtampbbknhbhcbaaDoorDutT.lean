/- DutiesText. -/
import Derived.Test.YtampbbknhbhcbaaDoorStr
import Derived.Test.YtampbbknhbhcbaaDoorDutyOk
namespace Go.Proofs.YtampbbknhbhcbaaDoor
open Go.RowKit
set_option linter.unusedVariables false
def dutyT (d : Duty) : List UInt8 := (Lib.itoa d.o ++ [58]) ++ Lib.itoa d.t
def sepT (L : List UInt8) (k : Nat) : List UInt8 := if 0 < k then L ++ [32] else L
def textTo (xs : List Duty) : Nat → List UInt8
  | 0 => []
  | k + 1 => sepT (textTo xs k) k ++ (match xs[k]? with | some d => dutyT d | none => [])
def dutText (xs : List Duty) (len : Int) : List UInt8 := if validB xs len = true then textTo xs xs.length else []
theorem textTo_next {xs : List Duty} {k : Nat} (h : k < xs.length) : textTo xs (k + 1) = sepT (textTo xs k) k ++ dutyT xs[k] := by
  simp [textTo, List.getElem?_eq_getElem h]
theorem vdB_at : ∀ (xs : List Duty) (a : Int), vdB a xs = true → a ≤ endB a xs ∧ ∀ d ∈ xs, (0 ≤ d.o ∧ d.o ≤ 39) ∧ a < d.t ∧ d.t ≤ endB a xs
  | [], a, _ => ⟨Int.le_refl _, fun d hd => absurd hd (by simp)⟩
  | x :: xs, a, h => by
    simp only [vdB, Bool.and_eq_true, inB_true, beq_iff_eq, decide_eq_true_eq] at h
    obtain ⟨⟨⟨h1, h2⟩, h3⟩, h4⟩ := h
    obtain ⟨i1, i2⟩ := vdB_at xs x.t h4
    refine ⟨by show a ≤ endB x.t xs; omega, fun d hd => ?_⟩
    show _ ∧ _ ∧ d.t ≤ endB x.t xs
    rcases List.mem_cons.1 hd with rfl | hd
    · exact ⟨h1, by omega, i1⟩
    · have := i2 d hd
      exact ⟨this.1, by omega, this.2.2⟩
/-- What valid duties give the text's walk. -/
def DutsOk (xs : List Duty) : Prop := xs.length ≤ 40 ∧ ∀ k, (h : k < xs.length) → (0 ≤ xs[k].o ∧ xs[k].o ≤ 39) ∧ 0 < xs[k].t ∧ xs[k].t ≤ 300000
theorem duts_ok {xs : List Duty} {len : Int} (h : validB xs len = true) : DutsOk xs := by
  unfold validB at h
  simp only [Bool.and_eq_true, inB_true, decide_eq_true_eq, beq_iff_eq] at h
  obtain ⟨⟨⟨⟨h1, h2⟩, h3⟩, h4⟩, h5⟩ := h
  obtain ⟨i1, i2⟩ := vdB_at xs 0 h5
  refine ⟨h3, fun k hk => ?_⟩
  have := i2 _ (List.getElem_mem hk)
  rw [h4] at this
  exact ⟨this.1, this.2.1, by omega⟩
theorem dutyT_len {d : Duty} (h : (0 ≤ d.o ∧ d.o ≤ 39) ∧ 0 < d.t ∧ d.t ≤ 300000) : (dutyT d).length ≤ 43 := by
  have l1 := itoa_len (n := d.o) (by omega) (by omega)
  have l2 := itoa_len (n := d.t) (by omega) (by omega)
  unfold dutyT
  rw [List.length_append, List.length_append]
  simp only [List.length_cons, List.length_nil]
  omega
theorem sepT_len (L : List UInt8) (k : Nat) : (sepT L k).length ≤ L.length + 1 := by
  unfold sepT
  split
  · simp
  · omega
theorem textTo_len {xs : List Duty} (h : DutsOk xs) : ∀ k, k ≤ xs.length → (textTo xs k).length ≤ 44 * k
  | 0, _ => by simp [textTo]
  | k + 1, hk => by
    have i1 := textTo_len h k (by omega)
    have i2 := sepT_len (textTo xs k) k
    have i3 := dutyT_len (h.2 k (by omega))
    rw [textTo_next (by omega), List.length_append]
    omega
set_option maxRecDepth 100000 in
set_option maxHeartbeats 4000000 in
theorem specText (A : Option Addr) (xs : List Duty) (c : Nat) (w : World) (hx : Rd w A xs) (hv : DutsOk xs) :
    Calls Tryd.prog 29 #[.slice A xs.length c] w fun e w' => e = .returned (.string ⟨(textTo xs xs.length).toArray⟩) ∧ Below w.heap.size w w' := by
  have hn := hx.len
  go_enter Tryd.func29, Tryd.ntmps29
  go_wp2_with fail
  go_loopw [3, 4] (fun a i wr => ∃ (k : Nat) (L : List UInt8), k ≤ xs.length ∧ i = .int .i64 k ∧ a = .string ⟨L.toArray⟩ ∧ L = textTo xs k ∧ ∃ m, wr = w.more m) (fun _ i _ => xs.length - (intOf i).toNat)
  case atStart => exact ⟨0, [], Nat.zero_le _, rfl, rfl, rfl, more_self⟩
  case round =>
    obtain ⟨k, L, hk, rfl, rfl, hL, m, rfl⟩ := hrel
    have hl : L.length ≤ 2000 := by rw [hL]; have := textTo_len hv k hk; have := hv.1; omega
    have HL := hid hL
    clear hL
    by_cases hlt : k < xs.length
    · obtain ⟨b, off, rfl, c1, c2, c3⟩ := hx.duty hlt
      have hd := hv.2 k hlt
      obtain ⟨S, hS⟩ : ∃ S, sepT L k = S := ⟨_, rfl⟩
      have hsl : S.length ≤ 3000 := by rw [← hS]; have := sepT_len L k; omega
      have l1 := itoa_len (n := xs[k].o) (by omega) (by omega)
      have l2 := itoa_len (n := xs[k].t) (by omega) (by omega)
      obtain ⟨O, hO⟩ : ∃ O, Lib.itoa xs[k].o = O := ⟨_, rfl⟩
      obtain ⟨T, hT⟩ : ∃ T, Lib.itoa xs[k].t = T := ⟨_, rfl⟩
      rw [hO] at l1
      rw [hT] at l2
      obtain ⟨P, hP⟩ : ∃ P, O ++ [58] = P := ⟨_, rfl⟩
      obtain ⟨D, hD⟩ : ∃ D, P ++ T = D := ⟨_, rfl⟩
      obtain ⟨Z, hZ⟩ : ∃ Z, S ++ D = Z := ⟨_, rfl⟩
      have lP : P.length ≤ 100 := by rw [← hP, List.length_append]; simp; omega
      have lD : D.length ≤ 200 := by rw [← hD, List.length_append]; omega
      have HN : Hid (Z = textTo xs (k + 1)) := by show Z = _; rw [textTo_next hlt, ← hZ, ← hD, ← hP, ← hO, ← hT, ← hS, HL.out]; rfl
      have k1 := cat hP (by omega) (by simp)
      have k2 := cat hD (by omega) (by omega)
      have k3 := cat hZ (by omega) (by omega)
      have DO := specDecE xs[k].o O (by omega) (by omega) (hid hO)
      have DT := specDecE xs[k].t T (by omega) (by omega) (hid hT)
      clear hO hT hP hD hZ hx
      by_cases h0 : 0 < k
      · have k0 := cat (show L ++ [32] = S by rw [← hS]; unfold sepT; rw [if_pos h0]) (by omega) (by simp)
        have h0' : decide ((0 : Int) < (k : Int)) = true := decide_eq_true (by omega)
        clear hS
        go_wp2_with fail
        refine wp_region_more (by kernel_rfl) (by kernel_rfl) ?_
        repeat (go_big_quiet_step ((go_at_call 41; first | with_reducible exact quiet_below (DO _) | with_reducible exact quiet_below (DT _))))
        refine wpQuiet_nil ?_
        rintro _ ⟨nq, rfl⟩
        go_wp2_with fail
        go_roundw
        case rel => exact ⟨k + 1, Z, by omega, by go_num, rfl, HN.out, more_trans⟩
        case measure => simp [intOf]; omega
      · have hSL : S = L := by rw [← hS]; unfold sepT; rw [if_neg h0]
        subst hSL
        have h0' : decide ((0 : Int) < (k : Int)) = false := decide_eq_false (by omega)
        clear hS
        go_wp2_with fail
        refine wp_region_more (by kernel_rfl) (by kernel_rfl) ?_
        repeat (go_big_quiet_step ((go_at_call 41; first | with_reducible exact quiet_below (DO _) | with_reducible exact quiet_below (DT _))))
        refine wpQuiet_nil ?_
        rintro _ ⟨nq, rfl⟩
        go_wp2_with fail
        go_roundw
        case rel => exact ⟨k + 1, Z, by omega, by go_num, rfl, HN.out, more_trans⟩
        case measure => simp [intOf]; omega
    · have hkl : k = xs.length := by omega
      subst hkl
      go_wp2_with fail
      go_ret
      exact ⟨by rw [← HL.out]; rfl, more_below⟩
set_option maxHeartbeats 1000000 in
theorem specDutText (A : Option Addr) (xs : List Duty) (c : Nat) (len : Int) (w : World) (hx : Rd w A xs) :
    Calls Tryd.prog 9 #[.slice A xs.length c, .int .i64 len] w fun e w' => e = .returned (.string ⟨(dutText xs len).toArray⟩) ∧ Below w.heap.size w w' := by
  obtain ⟨T, hT⟩ : ∃ T, dutText xs len = T := ⟨_, rfl⟩
  rw [hT]
  by_cases hv : validB xs len = true
  · have HC := hid (specText A xs c w hx (duts_ok hv))
    unfold dutText at hT
    rw [if_pos hv] at hT
    rw [hT] at HC
    clear hT
    go_enter Tryd.func9, Tryd.ntmps9
    go_wp2_with (go_at_call 28; refine (specOk A xs c len _ hx).mono ?_; rintro e w' ⟨rfl, rfl⟩; rw [hv])
    refine HC.out.mono ?_
    rintro e w1 ⟨rfl, b1⟩
    obtain ⟨y1, rfl⟩ := below_ex b1
    clear HC
    go_wp2_with fail
    go_ret
    exact ⟨rfl, b1⟩
  · have hv : validB xs len = false := by simpa using hv
    have hE : T = [] := by rw [← hT]; unfold dutText; rw [hv]; rfl
    subst hE
    clear hT
    go_enter Tryd.func9, Tryd.ntmps9
    go_wp2_with (go_at_call 28; refine (specOk A xs c len _ hx).mono ?_; rintro e w' ⟨rfl, rfl⟩; rw [hv])
    go_ret
    exact ⟨rfl, Below.refl _ _⟩
set_option maxRecDepth 100000 in
set_option maxHeartbeats 4000000 in
theorem implDutText (A : Option Addr) (xs : List Duty) (c : Nat) (len : Int) (w : World) (hx : Rd w A xs) (ht : Tab w) :
    Calls Tryd.prog 11 #[.slice A xs.length c, .int .i64 len] w fun e w' => e = .returned (.string ⟨(dutText xs len).toArray⟩) ∧ Below w.heap.size w w' := by
  obtain ⟨R, hR⟩ : ∃ R, dutText xs len = R := ⟨_, rfl⟩
  rw [hR]
  have hn := hx.len
  by_cases hv' : validB xs len = true
  · have hv := duts_ok hv'
    unfold dutText at hR
    rw [if_pos hv'] at hR
    have HR := hid hR
    clear hR
    go_enter Tryd.func11, Tryd.ntmps11
    go_wp2_with (go_at_call 31; refine (implValid A xs c len _ hx).mono ?_; rintro e w' ⟨rfl, hb⟩; rw [hv']; obtain ⟨y0, rfl⟩ := below_ex hb; clear hb; refine keep_ ?_)
    refine go_ ?_
    go_wp2_with fail
    go_loopw [5, 14] (fun a i wr => ∃ (k : Nat) (L : List UInt8), k ≤ xs.length ∧ i = .int .i64 k ∧ a = .string ⟨L.toArray⟩ ∧ L = textTo xs k ∧ ∃ m, wr = w.more m) (fun _ i _ => xs.length - (intOf i).toNat)
    case atStart => exact ⟨0, [], Nat.zero_le _, rfl, rfl, rfl, _, rfl⟩
    case round =>
      obtain ⟨k, L, hk, rfl, rfl, hL, m, rfl⟩ := hrel
      have hl : L.length ≤ 2000 := by rw [hL]; have := textTo_len hv k hk; have := hv.1; omega
      have HL := hid hL
      clear hL
      by_cases hlt : k < xs.length
      · obtain ⟨b, off, rfl, c1, c2, c3⟩ := hx.duty hlt
        have hd := hv.2 k hlt
        obtain ⟨S, hS⟩ : ∃ S, sepT L k = S := ⟨_, rfl⟩
        have hsl : S.length ≤ 3000 := by rw [← hS]; have := sepT_len L k; omega
        have l1 := itoa_len (n := xs[k].o) (by omega) (by omega)
        have l2 := itoa_len (n := xs[k].t) (by omega) (by omega)
        obtain ⟨O, hO⟩ : ∃ O, Lib.itoa xs[k].o = O := ⟨_, rfl⟩
        obtain ⟨T, hT⟩ : ∃ T, Lib.itoa xs[k].t = T := ⟨_, rfl⟩
        rw [hO] at l1
        rw [hT] at l2
        obtain ⟨P, hP⟩ : ∃ P, O ++ [58] = P := ⟨_, rfl⟩
        obtain ⟨D, hD⟩ : ∃ D, P ++ T = D := ⟨_, rfl⟩
        obtain ⟨Z, hZ⟩ : ∃ Z, S ++ D = Z := ⟨_, rfl⟩
        have lP : P.length ≤ 100 := by rw [← hP, List.length_append]; simp; omega
        have lD : D.length ≤ 200 := by rw [← hD, List.length_append]; omega
        have HN : Hid (Z = textTo xs (k + 1)) := by show Z = _; rw [textTo_next hlt, ← hZ, ← hD, ← hP, ← hO, ← hT, ← hS, HL.out]; rfl
        have k1 := cat hP (by omega) (by simp)
        have k2 := cat hD (by omega) (by omega)
        have k3 := cat hZ (by omega) (by omega)
        have DO := implDecE xs[k].o O (by omega) (by omega) (hid hO)
        have DT := implDecE xs[k].t T (by omega) (by omega) (hid hT)
        have HB := hid ((more_below (w := w) (x := m)).alloc more_size (.cells #[.int .i64 xs[k].o, .int .i64 xs[k].f, .int .i64 xs[k].t] 57))
        have HT := hid (ht.below HB.out)
        clear hO hT hP hD hZ hx
        by_cases h0 : 0 < k
        · have k0 := cat (show L ++ [32] = S by rw [← hS]; unfold sepT; rw [if_pos h0]) (by omega) (by simp)
          have h0' : decide ((0 : Int) < (k : Int)) = true := decide_eq_true (by omega)
          clear hS
          go_wp2_with fail
          refine wp_region_more (by kernel_rfl) (by kernel_rfl) ?_
          repeat (go_big_quiet_step ((go_at_call 32; first | with_reducible exact quiet_below (DO _ HT.out.more) | with_reducible exact quiet_below (DT _ HT.out.more))))
          refine wpQuiet_nil ?_
          rintro _ ⟨nq, rfl⟩
          go_wp2_with fail
          go_roundw
          case rel => exact ⟨k + 1, Z, by omega, by go_num, rfl, HN.out, below_ex (below_go HB.out HB.out.size)⟩
          case measure => simp [intOf]; omega
        · have hSL : S = L := by rw [← hS]; unfold sepT; rw [if_neg h0]
          subst hSL
          have h0' : decide ((0 : Int) < (k : Int)) = false := decide_eq_false (by omega)
          clear hS
          go_wp2_with fail
          refine wp_region_more (by kernel_rfl) (by kernel_rfl) ?_
          repeat (go_big_quiet_step ((go_at_call 32; first | with_reducible exact quiet_below (DO _ HT.out.more) | with_reducible exact quiet_below (DT _ HT.out.more))))
          refine wpQuiet_nil ?_
          rintro _ ⟨nq, rfl⟩
          go_wp2_with fail
          go_roundw
          case rel => exact ⟨k + 1, Z, by omega, by go_num, rfl, HN.out, below_ex (below_go HB.out HB.out.size)⟩
          case measure => simp [intOf]; omega
      · have hkl : k = xs.length := by omega
        subst hkl
        go_wp2_with fail
        go_ret
        exact ⟨by rw [← HR.out, ← HL.out]; rfl, more_below⟩
  · have hv : validB xs len = false := by simpa using hv'
    have hE : R = [] := by rw [← hR]; unfold dutText; rw [hv]; rfl
    subst hE
    clear hR
    go_enter Tryd.func11, Tryd.ntmps11
    go_wp2_with (go_at_call 31; refine (implValid A xs c len _ hx).mono ?_; rintro e w' ⟨rfl, hb⟩; rw [hv]; obtain ⟨y0, rfl⟩ := below_ex hb; clear hb; refine keep_ ?_)
    refine go_ ?_
    go_wp2_with fail
    go_ret
    exact ⟨rfl, more_below⟩
end Go.Proofs.YtampbbknhbhcbaaDoor
