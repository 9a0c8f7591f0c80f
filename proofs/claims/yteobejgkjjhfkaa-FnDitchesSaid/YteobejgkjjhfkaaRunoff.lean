/- Rain: the room for it and what runs off, walked. -/
import Derived.Test.YteobejgkjjhfkaaRain
import Derived.OwnWalk
namespace Go.Proofs.Yteobejgkjjhfkaa
open Go.RowKit
set_option linter.unusedVariables false
set_option maxHeartbeats 400000 in
theorem isRain_ (n : Int) (w : World) : Calls Try.prog 57 #[.int .i64 n] w fun e w' => e = .returned (.bool (inB n 0 3000)) ∧ w = w' := by
  go_enter Try.func57, Try.ntmps57
  go_wp2_with (go_at_call 59; refine (implIn _ _ _ _).mono ?_; rintro e w' ⟨rfl, rfl⟩)
  go_ret
  exact ⟨rfl, rfl⟩
set_option maxHeartbeats 400000 in
theorem isHeld_ (n : Int) (w : World) : Calls Try.prog 58 #[.int .i64 n] w fun e w' => e = .returned (.bool (inB n 0 100000)) ∧ w = w' := by
  go_enter Try.func58, Try.ntmps58
  go_wp2_with (go_at_call 59; refine (implIn _ _ _ _).mono ?_; rintro e w' ⟨rfl, rfl⟩)
  go_ret
  exact ⟨rfl, rfl⟩
set_option maxHeartbeats 400000 in
theorem sizeInts (A : Option Addr) (n c : Nat) (w : World) (hn : n ≤ 1048576) : Calls Try.prog 63 #[.slice A n c] w fun e w' => e = .returned (.int .i64 n) ∧ w = w' := by
  go_enter Try.func63, Try.ntmps63
  go_wp2
  go_ret
  exact ⟨rfl, rfl⟩
set_option maxHeartbeats 1000000 in
theorem implAll_Rain (A : Option Addr) (xs : List Int) (c : Nat) (p : Int → Bool) (w : World) (hx : Rd w A xs)
    (hcl : ∀ x ∈ xs, ∀ w', Below w.heap.size w w' → Calls Try.prog 57 #[.int .i64 x] w' fun e w'' => e = .returned (.bool (p x)) ∧ Below w'.heap.size w' w'') :
    Calls Try.prog 75 #[.slice A xs.length c, .func (.func 57) #[] #[]] w fun e w' => e = .returned (.bool (xs.all p)) ∧ Below w.heap.size w w' := by
  have hn := hx.len
  go_enter Try.func75, Try.ntmps75
  go_wp2
  go_loopw [9] (fun i wr => ∃ k : Nat, k ≤ xs.length ∧ i = .int .i64 k ∧ (xs.take k).all p = true ∧ ∃ q, wr = w.more q) (fun i _ => xs.length - (intOf i).toNat)
  case atStart => exact ⟨0, Nat.zero_le _, rfl, rfl, more_self⟩
  case round =>
    obtain ⟨k, hk, rfl, ht, q, rfl⟩ := hrel
    have Ht := hid ht
    clear ht
    by_cases hlt : k < xs.length
    · obtain ⟨b, off, rfl, c1⟩ := hx.int hlt
      have hc := hcl _ (List.getElem_mem hlt) (w.more q) more_below
      have hmem := List.getElem_mem hlt
      have HT : Hid ((xs.take (k + 1)).all p = p xs[k]) := by
        show (xs.take (k + 1)).all p = p xs[k]
        rw [take_next hlt, List.all_append, Ht.out]; simp
      have HF : Hid (p xs[k] = false → xs.all p = false) := fun h => by
        rw [List.all_eq_false]
        exact ⟨xs[k], hmem, by simp [h]⟩
      generalize xs[k] = x at c1 hc HT HF
      clear hx hcl hmem
      by_cases h1 : p x = true
      · go_wp2_with (go_at_call 57; refine hc.mono ?_; rintro e w' ⟨rfl, hb⟩; rw [h1])
        go_roundw
        case rel => exact ⟨k + 1, by omega, by go_num, by rw [HT.out]; exact h1, below_ex (more_below.trans (hb.mono more_size))⟩
        case measure => simp [intOf]; omega
      · rw [Bool.not_eq_true] at h1
        go_wp2_with (go_at_call 57; refine hc.mono ?_; rintro e w' ⟨rfl, hb⟩; rw [h1])
        go_ret
        exact ⟨ret_bool (HF.out h1).symm, more_below.trans (hb.mono more_size)⟩
    · have HE : Hid (xs.all p = true) := by
        have := Ht.out
        rw [List.take_of_length_le (by omega)] at this
        exact this
      clear hx hcl
      go_wp2
      go_ret
      exact ⟨ret_bool HE.out.symm, more_below⟩

theorem inB_lit {n lo hi : Int} (h : lo ≤ n ∧ n ≤ hi) : inB n lo hi = true := inB_true.2 h
theorem rain_all {xs : List Int} (h : RainOk xs) : xs.all (fun n => inB n 0 3000) = true := by
  rw [List.all_eq_true]
  intro x hx
  have := h.2.2 x hx
  exact inB_lit (by omega)
set_option maxHeartbeats 1000000 in
theorem validRain_ (A : Option Addr) (xs : List Int) (c : Nat) (w : World) (hx : Rd w A xs) (h : RainOk xs) :
    Calls Try.prog 56 #[.slice A xs.length c] w fun e w' => e = .returned (.bool true) ∧ Below w.heap.size w w' := by
  have hn := hx.len
  have HX := hid hx
  have HA := hid (rain_all h)
  have h1 : inB (xs.length : Int) 1 120 = true := inB_lit (by have := h.1; have := h.2.1; omega)
  have H1 := hid h1
  clear hx h1
  go_enter Try.func56, Try.ntmps56
  go_wp2_with (first | (go_at_call 63; refine (sizeInts _ _ _ _ hn).mono ?_; rintro e w' ⟨rfl, rfl⟩) | (go_at_call 59; refine (implIn _ _ _ _).mono ?_; rintro e w' ⟨rfl, rfl⟩; rw [H1.out]))
  refine (implAll_Rain _ _ _ (fun n => inB n 0 3000) _ HX.out (fun x _ w' _ => (isRain_ x w').mono ?_)).mono ?_
  · rintro e w2 ⟨rfl, rfl⟩
    exact ⟨rfl, Below.refl _ _⟩
  · rintro e w2 ⟨rfl, hb⟩
    rw [HA.out]
    have HB := hid hb
    clear hb
    go_wp2_with fail
    go_ret
    exact ⟨rfl, HB.out⟩
set_option maxHeartbeats 4000000 in
theorem roomFor_ (A : Option Addr) (xs : List Int) (c : Nat) (loss held : Int) (w : World) (hx : Rd w A xs) (h : RainOk xs) (hl : 0 ≤ loss ∧ loss ≤ 59) (hh : 0 ≤ held ∧ held ≤ 99) :
    Calls Try.prog 15 #[.slice A xs.length c, .int .i64 loss, .int .i64 held] w fun e w' => e = .returned (.tuple #[.int .i64 (roomL loss xs held held), .int .i64 0]) ∧ Below w.heap.size w w' := by
  have hn := hx.len
  have HX := hid hx
  have HO := hid h
  have h1 : inB loss 0 3000 = true := inB_lit (by omega)
  have h2 : inB held 0 100000 = true := inB_lit (by omega)
  have H1 := hid h1
  have H2 := hid h2
  obtain ⟨R, hR⟩ : ∃ R, roomL loss xs held held = R := ⟨_, rfl⟩
  rw [hR]
  have HR : Hid (roomL loss (xs.drop 0) held held = R) := by rw [List.drop_zero]; exact hR
  have hxl : xs.length ≤ 16 := h.2.1
  clear hx h1 h2 h hR
  go_enter Try.func15, Try.ntmps15
  go_wp2_with fail
  refine (validRain_ _ _ _ _ HX.out HO.out).mono ?_
  rintro e w1 ⟨rfl, hb⟩
  have HB := hid hb
  have HX1 := hid (HX.out.below hb)
  clear hb
  go_wp2_with (first | (go_at_call 57; refine (isRain_ _ _).mono ?_; rintro e w' ⟨rfl, rfl⟩; rw [H1.out]) | (go_at_call 58; refine (isHeld_ _ _).mono ?_; rintro e w' ⟨rfl, rfl⟩; rw [H2.out]))
  go_loop [2, 8, 27] (fun hv rv i => ∃ (k : Nat) (a b : Int), k ≤ xs.length ∧ i = .int .i64 k ∧ hv = .int .i64 a ∧ rv = .int .i64 b ∧ roomL loss (xs.drop k) a b = R ∧ 0 ≤ a ∧ a ≤ 99 + 199 * k ∧ 0 ≤ b ∧ b ≤ 99 + 199 * k) (fun _ _ i => xs.length - (intOf i).toNat)
  case atStart => exact ⟨0, held, held, Nat.zero_le _, rfl, rfl, rfl, HR.out, by omega, by omega, by omega, by omega⟩
  case round =>
    obtain ⟨k, a, b, hk, rfl, rfl, rfl, hrl, ha0, ha1, hb0, hb1⟩ := hrel
    by_cases hlt : k < xs.length
    · obtain ⟨g, off, rfl, c1⟩ := HX1.out.int hlt
      have hxr := HO.out.2.2 _ (List.getElem_mem hlt)
      rw [drop_cons hlt] at hrl
      simp only [roomL] at hrl
      generalize xs[k] = x at c1 hxr hrl
      have HRL := hid hrl
      clear hrl
      go_wp2_with fail
      go_round
      case rel =>
        refine ⟨k + 1, max 0 (a - loss) + x, max b (max 0 (a - loss) + x), by omega, by go_num, ?_, ?_, HRL.out, by omega, by omega, by omega, by omega⟩
        · exact val_int (by split <;> omega)
        · exact val_int (by split <;> split <;> omega)
      case measure => simp [intOf]; omega
    · rw [drop_end hlt] at hrl
      have hrb : b = R := hrl
      subst hrb
      go_wp2_with fail
      go_ret2
      exact ⟨rfl, HB.out⟩
set_option maxHeartbeats 4000000 in
theorem runoffOf_ (A : Option Addr) (xs : List Int) (c : Nat) (room loss held : Int) (w : World) (hx : Rd w A xs) (h : RainOk xs) (hl : 0 ≤ loss ∧ loss ≤ 59) (hr : 0 ≤ room ∧ room ≤ 50000) (hh : 0 ≤ held ∧ held ≤ room) :
    Calls Try.prog 16 #[.slice A xs.length c, .int .i64 room, .int .i64 loss, .int .i64 held] w fun e w' => ∃ u, e = .returned (.tuple #[u, .int .i64 (runL loss room xs held).2, .int .i64 0]) ∧ Own w' w.heap.size 2 u (runL loss room xs held).1 ∧ Below w.heap.size w w' := by
  have hn := hx.len
  have HX := hid hx
  have HO := hid h
  have h1 : inB loss 0 3000 = true := inB_lit (by omega)
  have h2 : inB room 0 100000 = true := inB_lit (by omega)
  have h3 : inB held 0 room = true := inB_lit (by omega)
  have H1 := hid h1
  have H2 := hid h2
  have H3 := hid h3
  obtain ⟨F, hF⟩ : ∃ F, runL loss room xs held = F := ⟨_, rfl⟩
  rw [hF]
  have HF : Hid ([] ++ (runL loss room (xs.drop 0) held).1 = F.1 ∧ (runL loss room (xs.drop 0) held).2 = F.2) := by rw [List.drop_zero, hF]; exact ⟨rfl, rfl⟩
  have hxl : xs.length ≤ 16 := h.2.1
  clear hx h1 h2 h3 h hF
  go_enter Try.func16, Try.ntmps16
  go_wp2_with fail
  refine (validRain_ _ _ _ _ HX.out HO.out).mono ?_
  rintro e w1 ⟨rfl, hb⟩
  have HB := hid hb
  have HX1 := hid (HX.out.below hb)
  clear hb
  go_wp2_with (first | (go_at_call 57; refine (isRain_ _ _).mono ?_; rintro e w' ⟨rfl, rfl⟩; rw [H1.out]) | (go_at_call 58; refine (isHeld_ _ _).mono ?_; rintro e w' ⟨rfl, rfl⟩; rw [H2.out]) | (go_at_call 59; refine (implIn _ _ _ _).mono ?_; rintro e w' ⟨rfl, rfl⟩; rw [H3.out]))
  go_loopw [3, 11, 38] (fun hv ov i wr => ∃ (k : Nat) (a : Int) (os : List Int), k ≤ xs.length ∧ i = .int .i64 k ∧ hv = .int .i64 a ∧ os.length = k ∧ (os ++ (runL loss room (xs.drop k) a).1 = F.1 ∧ (runL loss room (xs.drop k) a).2 = F.2) ∧ 0 ≤ a ∧ a ≤ room ∧ Own wr w1.heap.size 2 ov os ∧ Below w1.heap.size w1 wr) (fun _ _ i _ => xs.length - (intOf i).toNat)
  case atStart => exact ⟨0, held, [], Nat.zero_le _, rfl, rfl, rfl, HF.out, by omega, by omega, Own.empty (Nat.le_refl _), (Below.refl _ _).alloc (Nat.le_refl _) _⟩
  case round =>
    obtain ⟨k, a, os, hk, rfl, rfl, hol, hrl, ha0, ha1, ho, hq⟩ := hrel
    obtain ⟨wo, rfl⟩ : ∃ wo : World, wo = wr := ⟨_, rfl⟩
    have HQ := hid hq
    have HOO := hid ho
    obtain ⟨V, vq, rfl⟩ := ho.form
    have hos : os.length ≤ 1048576 := by omega
    have HOL := hid hol
    by_cases hlt : k < xs.length
    · obtain ⟨g, off, rfl, c1⟩ := (HX1.out.below hq).int hlt
      have hxr := HO.out.2.2 _ (List.getElem_mem hlt)
      rw [drop_cons hlt] at hrl
      simp only [runL] at hrl
      generalize xs[k] = x at c1 hxr hrl
      have HRL := hid hrl
      clear hrl ho hq hol
      obtain ⟨y, hy⟩ : ∃ y, max 0 (max 0 (a - loss) + x - room) = y := ⟨_, rfl⟩
      have HY := hid hy
      clear hy
      go_wp2_with (first | fail | (at_builtin; refine wpList_push elInt _ rfl (.tmp 48) (.tmp 53) rfl w1.heap.size _ os y rfl (HOO.out.alloc _) _ rfl (by rw [heap_alloc_new]; exact congrArg (fun z => some (Obj.cells #[Value.int IntKind.i64 z] 2 (0, 0))) (by rw [← HY.out]; omega)) hos (le_alloc HQ.out.size) ?_; intro v' w' hown' hg' hat'; refine keep_ ?_))
      all_goals
        have hbn := below_own (HQ.out.alloc HQ.out.size _) (HOO.out.alloc _) hg' (Nat.le_refl _) (le_alloc HQ.out.size)
        have Z1 := hid hbn
        have Z2 := hid hown'
        clear hbn hown' hg' hat'
        refine go_ ?_
        go_wp2_with fail
        all_goals
          go_roundw
          case rel => exact ⟨k + 1, min (max 0 (a - loss) + x) room, os ++ [y], by omega, by go_num, val_int (by omega), by rw [List.length_append, HOL.out]; rfl, ⟨by rw [List.append_assoc, ← HY.out]; exact HRL.out.1, HRL.out.2⟩, by omega, by omega, Z2.out, Z1.out⟩
          case measure => simp [intOf]; omega
    · rw [drop_end hlt] at hrl
      obtain ⟨e1, e2⟩ := hrl
      simp only [runL, List.append_nil] at e1 e2
      have E1 := hid e1
      have E2 := hid e2
      clear e1 e2 ho hq hol
      go_wp2_with fail
      go_ret3
      exact ⟨_, by rw [E2.out]; rfl, by rw [← E1.out]; exact HOO.out.mono HB.out.size, HB.out.trans (HQ.out.mono HB.out.size)⟩
set_option maxHeartbeats 1000000 in
theorem a2Sum_ (A : Option Addr) (xs : List Int) (c : Nat) (w : World) (hx : Rd w A xs) (hs : xs.length ≤ 1000) (hr : ∀ x ∈ xs, 0 ≤ x ∧ x ≤ 100000) :
    Calls Try.prog 17 #[.slice A xs.length c] w fun e w' => e = .returned (.int .i64 xs.sum) ∧ w = w' := by
  have HR := hid hr
  obtain ⟨S, hS⟩ : ∃ S, xs.sum = S := ⟨_, rfl⟩
  rw [hS]
  have HS : Hid (0 + (xs.drop 0).sum = S) := by rw [List.drop_zero, Int.zero_add]; exact hS
  clear hr hS
  go_enter Try.func17, Try.ntmps17
  go_wp2
  go_loop [3, 4] (fun s i => ∃ (k : Nat) (a : Int), k ≤ xs.length ∧ i = .int .i64 k ∧ s = .int .i64 a ∧ a + (xs.drop k).sum = S ∧ 0 ≤ a ∧ a ≤ 100000 * k) (fun _ i => xs.length - (intOf i).toNat)
  case atStart => exact ⟨0, 0, Nat.zero_le _, rfl, rfl, HS.out, by omega, by omega⟩
  case round =>
    obtain ⟨k, a, hk, rfl, rfl, hrl, ha0, ha1⟩ := hrel
    by_cases hlt : k < xs.length
    · obtain ⟨g, off, rfl, c1⟩ := hx.int hlt
      have hxr := HR.out _ (List.getElem_mem hlt)
      rw [drop_cons hlt, List.sum_cons] at hrl
      generalize xs[k] = x at c1 hxr hrl
      clear hx
      go_wp2
      go_round
      case rel => exact ⟨k + 1, a + x, by omega, by go_num, rfl, by omega, by omega, by omega⟩
      case measure => simp [intOf]; omega
    · rw [drop_end hlt] at hrl
      have hrb : a = S := by simpa using hrl
      subst hrb
      clear hx
      go_wp2
      go_ret
      exact ⟨rfl, rfl⟩
set_option maxHeartbeats 1000000 in
theorem a2Long_ (A B : Option Addr) (n m c d : Nat) (w : World) :
    Calls Try.prog 12 #[.slice A n c, .slice B m d] w fun e w' => e = .returned (.bool (decide (3000 < n) || decide (3000 < m))) ∧ w = w' := by
  by_cases h1 : 3000 < n
  · go_enter Try.func12, Try.ntmps12
    go_wp2
    go_ret
    exact ⟨ret_bool (by simp <;> omega), rfl⟩
  · by_cases h2 : 3000 < m
    all_goals
      go_enter Try.func12, Try.ntmps12
      go_wp2
      go_ret
      exact ⟨ret_bool (by first | (rw [Bool.eq_iff_iff]; simp; omega) | (simp [h1, h2]; done) | (simp; omega)), rfl⟩
set_option maxHeartbeats 1000000 in
theorem a2At_ (A : Option Addr) (bs : List Byt) (c : Nat) (i n : Int) (w : World) (hx : Rd w A bs) (hb : BytOk bs) (hi : 0 ≤ i) (hn : 1 ≤ n ∧ n ≤ 100000) :
    Calls Try.prog 14 #[.slice A bs.length c, .int .i64 i, .int .i64 n] w fun e w' => ∃ r, e = .returned (.int .i64 r) ∧ (0 ≤ r ∧ r ≤ n - 1) ∧ w = w' := by
  have hl := hx.len
  by_cases h1 : i < bs.length
  · have hk : i.toNat < bs.length := by omega
    obtain ⟨b, off, rfl, c1⟩ := hx.byt hk
    have hbb := hb _ (List.getElem_mem hk)
    generalize bs[i.toNat].n = bv at c1 hbb
    clear hx
    go_enter Try.func14, Try.ntmps14
    go_wp2
    go_ret
    exact ⟨bv % n, rfl, ⟨Int.emod_nonneg _ (by omega), by have := Int.emod_lt_of_pos bv (show 0 < n by omega); omega⟩, rfl⟩
  · clear hx
    go_enter Try.func14, Try.ntmps14
    go_wp2
    go_ret
    exact ⟨0, rfl, by omega, rfl⟩
end Go.Proofs.Yteobejgkjjhfkaa
