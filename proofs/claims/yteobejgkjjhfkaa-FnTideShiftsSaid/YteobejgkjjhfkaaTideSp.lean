/- SpellsBelow, MinutesBelow, NextBelow: walked. -/
import Derived.Test.YteobejgkjjhfkaaTideLow
namespace Go.Proofs.Yteobejgkjjhfkaa
open Go.RowKit
set_option linter.unusedVariables false
/-- A table as the laws draw it. -/
structure TT (xs : List Tide) : Prop where
  ok : TideOk xs
  tb : TB xs
theorem first_last {xs : List Tide} (h : TT xs) : firstT xs < lastT xs ∧ 0 ≤ firstT xs ∧ lastT xs ≤ 1000 := by
  have hl := h.ok.len
  have e0 := h.tb.each _ (List.getElem_mem (show 0 < xs.length by omega))
  have el := h.tb.each _ (List.getElem_mem (show xs.length - 1 < xs.length by omega))
  have hmono : ∀ i (hi : i < xs.length), 0 < i → xs[0].m < xs[i].m := by
    intro i
    induction i with
    | zero => intro _ h0; omega
    | succ i ih =>
      intro hi _
      have hs := (h.ok.step i hi).1
      rcases Nat.eq_zero_or_pos i with h0 | h0
      · subst h0; exact hs
      · exact Int.lt_trans (ih (by omega) h0) hs
  have := hmono (xs.length - 1) (by omega) (by omega)
  unfold firstT lastT
  rw [getD_tide (show 0 < xs.length by omega), getD_tide (show xs.length - 1 < xs.length by omega)]
  omega
set_option maxHeartbeats 1000000 in
theorem tidesCode_ (A : Option Addr) (xs : List Tide) (c : Nat) (lv : Int) (w : World) (hx : Rd w A xs) (hok : TT xs) (hlv : -2000 ≤ lv ∧ lv ≤ 2000) :
    Calls Try.prog 65 #[.slice A xs.length c, .int .i64 lv] w fun e w' => e = .returned (.int .i64 0) ∧ Below w.heap.size w w' := by
  have HX := hid hx
  have HOK := hid hok
  have H1 : Hid (inB lv (-2000) 2000 = true) := inB_lit hlv
  clear hx hok
  go_enter Try.func65, Try.ntmps65
  go_wp2_with fail
  refine (validTides_ _ _ _ _ HX.out HOK.out.ok).mono ?_
  rintro e w1 ⟨rfl, hb⟩
  have HB := hid hb
  clear hb
  go_wp2_with (go_at_call 93; refine (validLevel_ _ _).mono ?_; rintro e w' ⟨rfl, rfl⟩; rw [H1.out])
  go_ret
  exact ⟨rfl, HB.out⟩
def spAll (xs : List Tide) (lv : Int) : List (Int × Int) := spT (lowB xs lv) (firstT xs) (lastT xs - firstT xs + 1).toNat
set_option maxHeartbeats 1000000 in
theorem spellsBelowI_ (A : Option Addr) (xs : List Tide) (c : Nat) (lv : Int) (w : World) (hx : Rd w A xs) (hok : TT xs) (hlv : -2000 ≤ lv ∧ lv ≤ 2000) :
    Calls Try.prog 23 #[.slice A xs.length c, .int .i64 lv] w fun e w' => ∃ V q, e = .returned (.tuple #[.slice V (spAll xs lv).length q, .int .i64 0]) ∧ Rd w' V (spAll xs lv) ∧ Below w.heap.size w w' := by
  have HX := hid hx
  have HOK := hid hok
  have hfl := (first_last hok).1
  have hsp : ∀ w1, Below w.heap.size w w1 → Calls Try.prog 66 #[.slice A xs.length c, .int .i64 lv] w1 fun e w' => ∃ V q, e = .returned (.slice V (spAll xs lv).length q) ∧ Rd w' V (spAll xs lv) ∧ Below w1.heap.size w1 w' := fun w1 hb => spellsBelow_ A xs c lv w1 (hx.below hb) hok.tb hlv (by omega)
  have HSP := hid hsp
  generalize spAll xs lv = L at HSP ⊢
  clear hx hok hsp
  go_enter Try.func23, Try.ntmps23
  go_wp2_with fail
  refine (tidesCode_ _ _ _ _ _ HX.out HOK.out hlv).mono ?_
  rintro e w1 ⟨rfl, hb⟩
  have HB := hid hb
  clear hb
  go_wp2_with fail
  refine (HSP.out _ HB.out).mono ?_
  rintro e w2 ⟨V, q, rfl, hr, hb⟩
  have HR := hid hr
  have HB2 := hid (HB.out.trans (hb.mono HB.out.size))
  clear hr hb
  go_wp2_with fail
  go_ret2
  exact ⟨V, q, rfl, HR.out, HB2.out⟩
set_option maxHeartbeats 4000000 in
theorem minutesBelow_ (A : Option Addr) (xs : List Tide) (c : Nat) (lv : Int) (w : World) (hx : Rd w A xs) (hok : TT xs) (hlv : -2000 ≤ lv ∧ lv ≤ 2000) :
    Calls Try.prog 24 #[.slice A xs.length c, .int .i64 lv] w fun e w' => e = .returned (.tuple #[.int .i64 (sumT (spAll xs lv)), .int .i64 0]) ∧ Below w.heap.size w w' := by
  have HX := hid hx
  have HOK := hid hok
  obtain ⟨hfl, hf0, hl0⟩ := first_last hok
  have hsp : ∀ w1, Below w.heap.size w w1 → Calls Try.prog 66 #[.slice A xs.length c, .int .i64 lv] w1 fun e w' => ∃ V q, e = .returned (.slice V (spAll xs lv).length q) ∧ Rd w' V (spAll xs lv) ∧ Below w1.heap.size w1 w' := fun w1 hb => spellsBelow_ A xs c lv w1 (hx.below hb) hok.tb hlv (by omega)
  have hok2 := spT_ok (lowB xs lv) (firstT xs) (lastT xs - firstT xs + 1).toNat
  have HEA : Hid (∀ p ∈ spAll xs lv, 0 ≤ p.1 ∧ p.1 ≤ p.2 ∧ p.2 ≤ 1000) := fun p hp => by have := (hok2.each p hp).pos; omega
  have hln : (spAll xs lv).length ≤ 1001 := by have := hok2.len; unfold spAll; omega
  have HSP := hid hsp
  obtain ⟨M, hM⟩ : ∃ M, sumT (spAll xs lv) = M := ⟨_, rfl⟩
  rw [hM]
  have HM := hid hM
  generalize spAll xs lv = L at HSP HEA hln HM
  have HM : Hid (0 + sumT (L.drop 0) = M) := by rw [List.drop_zero, Int.zero_add]; exact HM.out
  clear hx hok hsp hok2 hM
  go_enter Try.func24, Try.ntmps24
  go_wp2_with fail
  refine (tidesCode_ _ _ _ _ _ HX.out HOK.out hlv).mono ?_
  rintro e w1 ⟨rfl, hb⟩
  have HB := hid hb
  clear hb
  go_wp2_with fail
  refine (HSP.out _ HB.out).mono ?_
  rintro e w2 ⟨V, q, rfl, hr, hb⟩
  have HR := hid hr
  have HB2 := hid (HB.out.trans (hb.mono HB.out.size))
  clear hr hb
  go_wp2_with fail
  go_loopw [7, 20] (fun m j wr => ∃ (k : Nat) (a : Int), k ≤ L.length ∧ j = .int .i64 k ∧ m = .int .i64 a ∧ a + sumT (L.drop k) = M ∧ 0 ≤ a ∧ a ≤ 1001 * k ∧ Below w.heap.size w wr ∧ Below w2.heap.size w2 wr) (fun _ j _ => L.length - (intOf j).toNat)
  case atStart => exact ⟨0, 0, Nat.zero_le _, rfl, rfl, HM.out, by omega, by omega, HB2.out, Below.refl _ _⟩
  case round =>
    obtain ⟨k, a, hk, rfl, rfl, ha, h0, h1, hq, hq2⟩ := hrel
    obtain ⟨wo, rfl⟩ : ∃ wo : World, wo = wr := ⟨_, rfl⟩
    have HQ := hid hq
    have HQ2 := hid hq2
    have HR2 := hid (HR.out.below hq2)
    clear hq hq2
    by_cases hlt : k < L.length
    · obtain ⟨b, off, rfl, c1, c2⟩ := HR2.out.pair hlt
      have hea := HEA.out _ (List.getElem_mem hlt)
      rw [List.drop_eq_getElem_cons hlt] at ha
      simp only [sumT] at ha
      generalize L[k] = p at c1 c2 hea ha
      obtain ⟨p1, p2⟩ := p
      simp only at c1 c2 hea ha
      go_wp2_with fail
      go_roundw
      case rel => exact ⟨k + 1, a + (p2 - p1 + 1), by omega, by go_num, rfl, by omega, by omega, by omega, HQ.out.alloc HQ.out.size _, HQ2.out.alloc HQ2.out.size _⟩
      case measure => simp [intOf]; omega
    · rw [List.drop_eq_nil_of_le (by omega)] at ha
      simp only [sumT, Int.add_zero] at ha
      subst ha
      go_wp2_with fail
      go_ret2
      exact ⟨rfl, HQ.out⟩
def nextT (low : Int → Bool) (s : Int) : Nat → Int × Int
  | 0 => (0, 3)
  | n + 1 => if low s = true then (s, 0) else nextT low (s + 1) n
set_option maxHeartbeats 1000000 in
theorem isMinuteOf_ (A : Option Addr) (xs : List Tide) (c : Nat) (m : Int) (w : World) (hx : Rd w A xs) (hok : TT xs) :
    Calls Try.prog 70 #[.slice A xs.length c, .int .i64 m] w fun e w' => e = .returned (.bool (inB m (firstT xs) (lastT xs))) ∧ Below w.heap.size w w' := by
  have hlen := hok.ok.len
  obtain ⟨b, off, rfl, hc⟩ := hx.tides (by omega)
  have hc0 := (hc 0 (by omega)).1
  have hcl := (hc (xs.length - 1) (by omega)).1
  rw [← getD_tide (show 0 < xs.length by omega)] at hc0
  rw [← getD_tide (show xs.length - 1 < xs.length by omega)] at hcl
  have hc0 : w.cell? ⟨b, off, none⟩ = some (.int .i64 (firstT xs)) := by rw [Nat.zero_mul, Nat.add_zero] at hc0; exact hc0
  obtain ⟨n, hn⟩ : ∃ n, xs.length = n + 1 := ⟨xs.length - 1, by omega⟩
  have hcl : w.cell? ⟨b, off + n * 2, none⟩ = some (.int .i64 (lastT xs)) := by rw [show n = xs.length - 1 by omega]; exact hcl
  have hn40 : n ≤ 39 := by omega
  rw [hn]
  generalize firstT xs = a at *
  generalize lastT xs = z at *
  clear hx hok hc hn hlen
  have i0 : (0 : Int) < (n : Int) + 1 := by omega
  go_enter Try.func70, Try.ntmps70
  go_upto_region 1 with fail
  refine wp_region_more (by kernel_rfl) (by kernel_rfl) ?_
  repeat (go_big_quiet_step ((go_at_call 59; exact quiet_same (implIn _ _ _ _))))
  refine wpQuiet_nil ?_
  rintro _ ⟨nq, rfl⟩
  go_wp2_with fail
  go_ret
  exact ⟨rfl, more_below⟩
end Go.Proofs.Yteobejgkjjhfkaa
