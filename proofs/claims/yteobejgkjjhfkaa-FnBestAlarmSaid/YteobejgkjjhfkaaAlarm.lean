/- The best alarm: walked. -/
import Derived.Test.YteobejgkjjhfkaaPast
namespace Go.Proofs.Yteobejgkjjhfkaa
open Go.RowKit
set_option linter.unusedVariables false
theorem levelOf_ (l : Int) (f : Bool) (hl : -2000 ≤ l ∧ l ≤ 2000) (w : World) : Calls Try.prog 131 #[.agg #[.int .i64 l, .bool f]] w fun e w' => e = .returned (.bool true) ∧ Below w.heap.size w w' := by
  have H1 : Hid (inB l (-2000) 2000 = true) := inB_lit hl
  go_enter Try.func131, Try.ntmps131
  go_wp2_with (go_at_call 93; refine (validLevel_ _ _).mono ?_; rintro e w' ⟨rfl, rfl⟩; rw [H1.out])
  go_ret
  exact ⟨rfl, (Below.refl _ _).alloc (Nat.le_refl _) _⟩
set_option maxHeartbeats 1000000 in
theorem allPast_ (A : Option Addr) (xs : List Past) (c : Nat) (w : World) (hx : Rd w A xs) (hok : PastOk xs) :
    Calls Try.prog 130 #[.slice A xs.length c, .func (.func 131) #[] #[]] w fun e w' => e = .returned (.bool true) ∧ Below w.heap.size w w' := by
  have hn := hx.len
  have HX := hid hx
  have HOK := hid hok.2
  clear hx hok
  go_enter Try.func130, Try.ntmps130
  go_wp2_with fail
  go_loopw [9] (fun i wr => ∃ k : Nat, k ≤ xs.length ∧ i = .int .i64 k ∧ Below w.heap.size w wr) (fun i _ => xs.length - (intOf i).toNat)
  case atStart => exact ⟨0, Nat.zero_le _, rfl, Below.refl _ _⟩
  case round =>
    obtain ⟨k, hk, rfl, hq⟩ := hrel
    obtain ⟨wo, rfl⟩ : ∃ wo : World, wo = wr := ⟨_, rfl⟩
    have HQ := hid hq
    have HX2 := hid (HX.out.below hq)
    clear hq
    by_cases hlt : k < xs.length
    · obtain ⟨b, off, rfl, c1, c2⟩ := HX2.out.past hlt
      have hm := HOK.out _ (List.getElem_mem hlt)
      generalize xs[k] = m at c1 c2 hm
      go_wp2_with (go_at_call 131; refine (levelOf_ m.l m.f hm _).mono ?_; rintro e w' ⟨rfl, hb⟩; have HB := hid hb; clear hb)
      go_roundw
      case rel => exact ⟨k + 1, by omega, by go_num, (HQ.out.alloc HQ.out.size _).trans (HB.out.mono (le_alloc HQ.out.size))⟩
      case measure => simp [intOf]; omega
    · go_wp2_with fail
      go_ret
      exact ⟨rfl, HQ.out⟩
set_option maxHeartbeats 1000000 in
theorem areCases_ (A : Option Addr) (xs : List Past) (c : Nat) (w : World) (hx : Rd w A xs) (hok : PastOk xs) :
    Calls Try.prog 91 #[.slice A xs.length c] w fun e w' => e = .returned (.bool true) ∧ Below w.heap.size w w' := by
  have h11 := hok.1
  have HX := hid hx
  have HOK := hid hok
  clear hx hok
  go_enter Try.func91, Try.ntmps91
  go_wp2_with fail
  refine (allPast_ _ _ _ _ HX.out HOK.out).mono ?_
  rintro e w2 ⟨rfl, hb⟩
  have HB := hid hb
  clear hb
  go_wp2_with fail
  go_ret
  exact ⟨rfl, HB.out⟩
set_option maxHeartbeats 2000000 in
theorem missed_ (A : Option Addr) (xs : List Past) (c : Nat) (a : Int) (w : World) (hx : Rd w A xs) (hl : xs.length ≤ 11) :
    Calls Try.prog 92 #[.slice A xs.length c, .int .i64 a] w fun e w' => e = .returned (.tuple #[.int .i64 (missM a xs), .int .i64 (wrongM a xs)]) ∧ Below w.heap.size w w' := by
  have HX := hid hx
  obtain ⟨M, hM⟩ : ∃ M, missM a xs = M := ⟨_, rfl⟩
  obtain ⟨N, hN⟩ : ∃ N, wrongM a xs = N := ⟨_, rfl⟩
  rw [hM, hN]
  have HM : Hid (0 + missM a (xs.drop 0) = M) := by rw [List.drop_zero, Int.zero_add]; exact hM
  have HN : Hid (0 + wrongM a (xs.drop 0) = N) := by rw [List.drop_zero, Int.zero_add]; exact hN
  clear hx hM hN
  go_enter Try.func92, Try.ntmps92
  go_wp2_with fail
  go_loopw [6, 7, 12] (fun u v i wr => ∃ (k : Nat) (p q : Int), k ≤ xs.length ∧ i = .int .i64 k ∧ u = .int .i64 p ∧ v = .int .i64 q ∧ p + missM a (xs.drop k) = M ∧ q + wrongM a (xs.drop k) = N ∧ 0 ≤ p ∧ p ≤ k ∧ 0 ≤ q ∧ q ≤ k ∧ Below w.heap.size w wr) (fun _ _ i _ => xs.length - (intOf i).toNat)
  case atStart => exact ⟨0, 0, 0, Nat.zero_le _, rfl, rfl, rfl, HM.out, HN.out, by omega, by omega, by omega, by omega, Below.refl _ _⟩
  case round =>
    obtain ⟨k, p, q, hk, rfl, rfl, rfl, hp, hqq, hp0, hp1, hq0, hq1, hq⟩ := hrel
    obtain ⟨wo, rfl⟩ : ∃ wo : World, wo = wr := ⟨_, rfl⟩
    have HQ := hid hq
    have HX2 := hid (HX.out.below hq)
    clear hq
    by_cases hlt : k < xs.length
    · obtain ⟨b, off, rfl, c1, c2⟩ := HX2.out.past hlt
      rw [List.drop_eq_getElem_cons hlt] at hp hqq
      simp only [missM, wrongM] at hp hqq
      generalize xs[k] = m at c1 c2 hp hqq
      obtain ⟨l, f⟩ := m
      simp only at c1 c2 hp hqq
      cases f with
      | true =>
        by_cases hc : l < a
        · rw [if_pos ⟨rfl, hc⟩] at hp
          rw [if_neg (by simp)] at hqq
          go_wp2_with fail
          go_roundw
          case rel => exact ⟨k + 1, p + 1, q, by omega, by go_num, rfl, rfl, by omega, by omega, by omega, by omega, by omega, by omega, HQ.out.alloc HQ.out.size _⟩
          case measure => simp [intOf]; omega
        · rw [if_neg (fun h => hc h.2)] at hp
          rw [if_neg (by simp)] at hqq
          go_wp2_with fail
          go_roundw
          case rel => exact ⟨k + 1, p, q, by omega, by go_num, rfl, rfl, by omega, by omega, by omega, by omega, by omega, by omega, HQ.out.alloc HQ.out.size _⟩
          case measure => simp [intOf]; omega
      | false =>
        by_cases hc : a ≤ l
        · rw [if_pos ⟨rfl, hc⟩] at hqq
          rw [if_neg (by simp)] at hp
          go_wp2_with fail
          go_roundw
          case rel => exact ⟨k + 1, p, q + 1, by omega, by go_num, rfl, rfl, by omega, by omega, by omega, by omega, by omega, by omega, HQ.out.alloc HQ.out.size _⟩
          case measure => simp [intOf]; omega
        · rw [if_neg (fun h => hc h.2)] at hqq
          rw [if_neg (by simp)] at hp
          go_wp2_with fail
          go_roundw
          case rel => exact ⟨k + 1, p, q, by omega, by go_num, rfl, rfl, by omega, by omega, by omega, by omega, by omega, by omega, HQ.out.alloc HQ.out.size _⟩
          case measure => simp [intOf]; omega
    · rw [List.drop_eq_nil_of_le (by omega)] at hp hqq
      simp only [missM, wrongM, Int.add_zero] at hp hqq
      subst hp hqq
      go_wp2_with fail
      go_ret2
      exact ⟨rfl, HQ.out⟩
set_option maxHeartbeats 2000000 in
theorem missedAndFalse_ (A : Option Addr) (xs : List Past) (c : Nat) (a : Int) (w : World) (hx : Rd w A xs) (hok : PastOk xs) (ha : -2000 ≤ a ∧ a ≤ 2000) :
    Calls Try.prog 44 #[.slice A xs.length c, .int .i64 a] w fun e w' => e = .returned (.tuple #[.int .i64 (missM a xs), .int .i64 (wrongM a xs), .int .i64 0]) ∧ Below w.heap.size w w' := by
  have HX := hid hx
  have HOK := hid hok
  have H1 : Hid (inB a (-2000) 2000 = true) := inB_lit ha
  clear hx hok
  go_enter Try.func44, Try.ntmps44
  go_wp2_with fail
  refine (areCases_ _ _ _ _ HX.out HOK.out).mono ?_
  rintro e w1 ⟨rfl, hb⟩
  have HB := hid hb
  have HX1 := hid (HX.out.below hb)
  clear hb
  go_wp2_with (go_at_call 93; refine (validLevel_ _ _).mono ?_; rintro e w' ⟨rfl, rfl⟩; rw [H1.out])
  refine (missed_ _ _ _ a _ HX1.out HOK.out.1).mono ?_
  rintro e w2 ⟨rfl, hb⟩
  have HB2 := hid (HB.out.trans (hb.mono HB.out.size))
  clear hb
  go_wp2_with fail
  go_ret3
  exact ⟨rfl, HB2.out⟩
set_option maxHeartbeats 4000000 in
theorem bestAlarm_ (A : Option Addr) (xs : List Past) (c : Nat) (pr : Int) (w : World) (hx : Rd w A xs) (hok : PastOk xs) (hp : 0 ≤ pr ∧ pr ≤ 5) :
    Calls Try.prog 43 #[.slice A xs.length c, .int .i64 pr] w fun e w' => ∃ best, e = .returned (.tuple #[.int .i64 best, .int .i64 (costA pr xs best), .int .i64 0]) ∧ (-2000 ≤ best ∧ best ≤ 2000) ∧ (∀ x, -2000 ≤ x ∧ x ≤ 2000 → costA pr xs best ≤ costA pr xs x ∧ (costA pr xs x = costA pr xs best → x ≤ best)) ∧ Below w.heap.size w w' := by
  have HX := hid hx
  have HOK := hid hok
  have H1 : Hid (inB pr 0 1000 = true) := inB_lit (by omega)
  clear hx hok
  go_enter Try.func43, Try.ntmps43
  go_wp2_with fail
  refine (areCases_ _ _ _ _ HX.out HOK.out).mono ?_
  rintro e w1 ⟨rfl, hb⟩
  have HB := hid hb
  have HX1 := hid (HX.out.below hb)
  clear hb
  go_wp2_with (go_at_call 59; refine (implIn _ _ _ _).mono ?_; rintro e w' ⟨rfl, rfl⟩; rw [H1.out])
  go_loopw [7, 8, 9] (fun u v i wr => ∃ (k best low : Int), i = .int .i64 k ∧ u = .int .i64 best ∧ v = .int .i64 low ∧ -2001 ≤ k ∧ k ≤ 2000 ∧ (low = -1 ∧ k = 2000 ∨ low = costA pr xs best ∧ k < best ∧ best ≤ 2000 ∧ ∀ x, k < x ∧ x ≤ 2000 → costA pr xs best ≤ costA pr xs x ∧ (costA pr xs x = costA pr xs best → x ≤ best)) ∧ Below w.heap.size w wr ∧ Below w1.heap.size w1 wr) (fun _ _ i _ => (intOf i + 2001).toNat)
  case atStart => exact ⟨2000, 0, -1, rfl, rfl, rfl, by omega, by omega, .inl ⟨rfl, rfl⟩, HB.out, Below.refl _ _⟩
  case round =>
    obtain ⟨k, best, low, rfl, rfl, rfl, hk0, hk1, hor, hq, hq2⟩ := hrel
    obtain ⟨wo, rfl⟩ : ∃ wo : World, wo = wr := ⟨_, rfl⟩
    have HQ := hid hq
    have HQ2 := hid hq2
    have HX2 := hid (HX1.out.below hq2)
    have HOR := hid hor
    clear hq hq2 hor
    by_cases hk : -2000 ≤ k
    · obtain ⟨r1, r2, r3, r4⟩ := cost_range (pr := pr) (by omega) HOK.out.1 k
      obtain ⟨q1, q2, q3, q4⟩ := cost_range (pr := pr) (by omega) HOK.out.1 best
      obtain ⟨m1, m2, m3⟩ := miss_range k xs
      have h11 := HOK.out.1
      have hcd : pr * missM k xs + wrongM k xs = costA pr xs k := rfl
      have HLOW : Hid (low < 0 ∧ k = 2000 ∨ 0 ≤ low ∧ low ≤ 121) := by
        rcases HOR.out with ⟨h1, h2⟩ | ⟨h1, _⟩
        · exact .inl ⟨by omega, h2⟩
        · exact .inr (by omega)
      have HNEW : Hid ((low < 0 ∨ costA pr xs k < low) → ∀ x, k - 1 < x ∧ x ≤ 2000 → costA pr xs k ≤ costA pr xs x ∧ (costA pr xs x = costA pr xs k → x ≤ k)) := by
        intro h x hx
        by_cases hxk : x = k
        · subst hxk; exact ⟨Int.le_refl _, fun _ => Int.le_refl _⟩
        · rcases HOR.out with ⟨h1, h2⟩ | ⟨h1, h2, h3, h4⟩
          · omega
          · have := h4 x (by omega)
            rw [← h1] at this
            omega
      have HOLD : Hid (¬ (low < 0 ∨ costA pr xs k < low) → low = costA pr xs best ∧ k - 1 < best ∧ best ≤ 2000 ∧ ∀ x, k - 1 < x ∧ x ≤ 2000 → costA pr xs best ≤ costA pr xs x ∧ (costA pr xs x = costA pr xs best → x ≤ best)) := by
        intro h
        rcases HOR.out with ⟨h1, h2⟩ | ⟨h1, h2, h3, h4⟩
        · omega
        · refine ⟨h1, by omega, h3, fun x hx => ?_⟩
          by_cases hxk : x = k
          · subst hxk; rw [h1] at h; omega
          · exact h4 x (by omega)
      obtain ⟨ck, hck⟩ : ∃ c, costA pr xs k = c := ⟨_, rfl⟩
      rw [hck] at hcd HNEW HOLD r3 r4
      have HCK := hid hck
      clear hck
      go_wp2_with fail
      refine (missed_ _ _ _ k _ HX2.out h11).mono ?_
      rintro e w2 ⟨rfl, hb⟩
      have HQ3 := hid (HQ.out.trans (hb.mono HQ.out.size))
      have HQ4 := hid (HQ2.out.trans (hb.mono HQ2.out.size))
      clear hb
      generalize missM k xs = mk at hcd r1 r2 m1 m2 m3
      generalize wrongM k xs = wk at hcd m1 m2 m3
      have hlow := HLOW.out
      go_upto_region 9 with fail
      by_cases hnew : low < 0 ∨ ck < low
      · have hN := hid (HNEW.out hnew)
        by_cases hl0 : low < 0
        · go_wp2_with fail
          go_roundw
          case rel => exact ⟨k - 1, k, ck, by first | rfl | exact val_int (by omega), rfl, rfl, by omega, by omega, .inr ⟨HCK.out.symm, by omega, by omega, fun x hx => by rw [HCK.out]; exact hN.out x hx⟩, HQ3.out, HQ4.out⟩
          case measure => simp [intOf]; omega
        · have hcl : ck < low := by omega
          go_wp2_with fail
          go_roundw
          case rel => exact ⟨k - 1, k, ck, by first | rfl | exact val_int (by omega), rfl, rfl, by omega, by omega, .inr ⟨HCK.out.symm, by omega, by omega, fun x hx => by rw [HCK.out]; exact hN.out x hx⟩, HQ3.out, HQ4.out⟩
          case measure => simp [intOf]; omega
      · have hN := hid (HOLD.out hnew)
        have hl0 : ¬ low < 0 := by omega
        have hcl : ¬ ck < low := by omega
        go_wp2_with fail
        go_roundw
        case rel => exact ⟨k - 1, best, low, by first | rfl | exact val_int (by omega), rfl, rfl, by omega, by omega, .inr hN.out, HQ3.out, HQ4.out⟩
        case measure => simp [intOf]; omega
    · have hke : k = -2001 := by omega
      subst hke
      have hfin : low = costA pr xs best ∧ -2001 < best ∧ best ≤ 2000 ∧ ∀ x, -2001 < x ∧ x ≤ 2000 → costA pr xs best ≤ costA pr xs x ∧ (costA pr xs x = costA pr xs best → x ≤ best) := by
        rcases HOR.out with ⟨h1, h2⟩ | h
        · omega
        · exact h
      obtain ⟨rfl, hb1, hb2, hall⟩ := hfin
      have HALL := hid hall
      clear hall
      go_wp2_with fail
      go_ret3
      exact ⟨best, rfl, ⟨by omega, hb2⟩, by first | exact fun x h1 h2 => HALL.out x ⟨by omega, h2⟩ | exact fun x h => HALL.out x ⟨by omega, h.2⟩, HQ.out⟩
end Go.Proofs.Yteobejgkjjhfkaa
