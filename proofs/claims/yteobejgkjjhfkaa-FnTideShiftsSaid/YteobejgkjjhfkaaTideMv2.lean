/- ShiftTides; a table that may not be valid; CutTides: walked. -/
import Derived.Test.YteobejgkjjhfkaaTideMv
namespace Go.Proofs.Yteobejgkjjhfkaa
open Go.RowKit
set_option linter.unusedVariables false
set_option maxRecDepth 100000 in
set_option maxHeartbeats 4000000 in
theorem shiftTides_ (A : Option Addr) (xs : List Tide) (c : Nat) (mi lv : Int) (w : World) (hx : Rd w A xs) (hok : TideOk xs) (hok2 : TideOk (shX mi lv xs)) (hmi : -100000 ≤ mi ∧ mi ≤ 100000) (hlv : -4000 ≤ lv ∧ lv ≤ 4000) :
    Calls Try.prog 38 #[.slice A xs.length c, .int .i64 mi, .int .i64 lv] w fun e w' => ∃ V q, e = .returned (.tuple #[.slice V xs.length q, .int .i64 0]) ∧ Rd w' V (shX mi lv xs) ∧ Below w.heap.size w w' := by
  have hn := hx.len
  have HX := hid hx
  have HOK := hid hok
  have HOK2 := hid hok2
  have hlen := hok.len
  have HEA := hid hok.each
  have H1 : Hid (inB lv (-4000) 4000 = true) := inB_lit hlv
  have H2 : Hid (inB mi (-100000) 100000 = true) := inB_lit hmi
  clear hx hok hok2
  go_enter Try.func38, Try.ntmps38
  go_wp2_with fail
  refine (validTides_ _ _ _ _ HX.out HOK.out).mono ?_
  rintro e w1 ⟨rfl, hb⟩
  have HB := hid hb
  have HX1 := hid (HX.out.below hb)
  clear hb
  go_wp2_with (go_at_call 59; refine (implIn _ _ _ _).mono ?_; rintro e w' ⟨rfl, rfl⟩; (first | rw [H1.out] | rw [H2.out]))
  have HO0 := hid (Own.empty (α := Tide) (w := w1) (base := w1.heap.size) (e := 52) (Nat.le_refl _))
  go_loopw [8, 29] (fun u i wr => ∃ k : Nat, k ≤ xs.length ∧ i = .int .i64 k ∧ Own wr w1.heap.size 52 u (shX mi lv (xs.take k)) ∧ Below w1.heap.size w1 wr) (fun _ i _ => xs.length - (intOf i).toNat)
  case atStart => exact ⟨0, Nat.zero_le _, rfl, HO0.out, (Below.refl _ _).alloc (Nat.le_refl _) _⟩
  case round =>
    obtain ⟨k, hk, rfl, ho, hq⟩ := hrel
    obtain ⟨wo, rfl⟩ : ∃ wo : World, wo = wr := ⟨_, rfl⟩
    have HO := hid ho
    have HQ := hid hq
    have HX2 := hid (HX1.out.below hq)
    have hz := hq.size
    obtain ⟨V, vq, rfl⟩ := ho.form
    have hlk : (shX mi lv (xs.take k)).length = k := by rw [shX_len, List.length_take]; omega
    have HLK := hid hlk
    clear ho hq HO0
    by_cases hlt : k < xs.length
    · rw [HLK.out]
      obtain ⟨b, off, rfl, c1, c2⟩ := HX2.out.tide hlt
      have hea := HEA.out _ (List.getElem_mem hlt)
      have hnx : shX mi lv (xs.take (k + 1)) = shX mi lv (xs.take k) ++ [⟨xs[k].m + mi, xs[k].l + lv⟩] := by
        unfold shX; rw [take_next hlt, List.map_append]; rfl
      generalize xs[k] = x at c1 c2 hea hnx
      obtain ⟨x1, x2⟩ := x
      simp only at c1 c2 hea hnx
      have HNX := hid hnx
      clear hnx hlk
      have HO' : Hid (Own wo w1.heap.size 52 (.slice V k vq) (shX mi lv (xs.take k))) := by have := HO.out; rw [HLK.out] at this; exact this
      clear HO
      generalize shX mi lv (xs.take k) = L at HO' HLK HNX
      have hL : L.length ≤ 1048576 := by have := HLK.out; omega
      go_wp2_with (first | fail | (at_builtin; refine wpList_push elTide _ rfl (.tmp 33) (.tmp 43) rfl w1.heap.size _ L (⟨x1 + mi, x2 + lv⟩ : Tide) rfl ((HO'.out.alloc _).alloc _) _ rfl (alloc_new2 _ _ _) hL (le_alloc (le_alloc hz)) ?_; intro v' w' hown' hg' hat'; refine keep_ ?_))
      have HOW := hid hown'
      have HQ2 := hid (below_own ((HQ.out.alloc hz _).alloc (le_alloc hz) _) ((HO'.out.alloc _).alloc _) hg' (Nat.le_refl _) (le_alloc (le_alloc hz)))
      clear hown' hg' hat'
      refine go_ ?_
      go_wp2_with fail
      go_roundw
      case rel => exact ⟨k + 1, by omega, by go_num, by rw [HNX.out]; exact HOW.out, HQ2.out⟩
      case measure => simp [intOf]; omega
    · have hke : k = xs.length := by omega
      have ht : xs.take k = xs := List.take_of_length_le (by omega)
      rw [ht] at HO HLK
      have hl2 : (shX mi lv xs).length = xs.length := shX_len _ _ _
      rw [ht]
      have HR := hid (HO.out.rd (by rw [hl2]; exact hn))
      have HL2 := hid hl2
      clear ht hl2 hlk
      have hv : Calls Try.prog 88 #[.slice V (shX mi lv xs).length vq] wo fun e w' => e = .returned (.bool true) ∧ Below wo.heap.size wo w' := validTides_ _ _ _ _ HR.out HOK2.out
      rw [HL2.out] at hv ⊢
      have HV := hid hv
      clear hv
      subst hke
      go_wp2_with fail
      refine HV.out.mono ?_
      rintro e w3 ⟨rfl, hb⟩
      have HR3 := hid (HR.out.below hb)
      have HB3 := hid ((HB.out.trans (HQ.out.mono HB.out.size)).trans (hb.mono (Nat.le_trans HB.out.size hz)))
      clear hb
      go_wp2_with fail
      go_ret2
      exact ⟨V, vq, rfl, HR3.out, HB3.out⟩
/-- A table, or not: some answer, 'yes' where it is one. -/
def SomeB (p : Prop) (w : World) (e : Ending) (w' : World) : Prop := ∃ b, e = .returned (.bool b) ∧ (p → b = true) ∧ Below w.heap.size w w'
def tideB (t : Tide) : Prop := (0 ≤ t.m ∧ t.m ≤ 100000) ∧ -2000 ≤ t.l ∧ t.l ≤ 2000
set_option maxHeartbeats 1000000 in
theorem isTideAny_ (t : Tide) (w : World) : Calls Try.prog 128 #[.agg #[.int .i64 t.m, .int .i64 t.l]] w (SomeB (tideB t) w) := by
  obtain ⟨m, l⟩ := t
  cases h1 : inB m 0 100000 with
  | false =>
    have H1 := hid h1
    have HN : Hid (¬ tideB ⟨m, l⟩) := fun h => by rw [inB_false] at h1; have := h.1; simp only at this; omega
    clear h1
    go_enter Try.func128, Try.ntmps128
    go_wp2_with (first | (go_at_call 59; refine (implIn _ _ _ _).mono ?_; rintro e w' ⟨rfl, rfl⟩; rw [H1.out]))
    go_ret
    exact ⟨false, rfl, fun h => absurd h HN.out, (Below.refl _ _).alloc (Nat.le_refl _) _⟩
  | true =>
    have H1 := hid h1
    cases h2 : inB l (-2000) 2000 with
    | false =>
      have H2 := hid h2
      have HN : Hid (¬ tideB ⟨m, l⟩) := fun h => by rw [inB_false] at h2; have := h.2; simp only at this; omega
      clear h1 h2
      go_enter Try.func128, Try.ntmps128
      go_wp2_with (first | (go_at_call 59; refine (implIn _ _ _ _).mono ?_; rintro e w' ⟨rfl, rfl⟩; rw [H1.out]) | (go_at_call 93; refine (validLevel_ _ _).mono ?_; rintro e w' ⟨rfl, rfl⟩; rw [H2.out]))
      go_ret
      exact ⟨false, rfl, fun h => absurd h HN.out, (Below.refl _ _).alloc (Nat.le_refl _) _⟩
    | true =>
      have H2 := hid h2
      clear h1 h2
      go_enter Try.func128, Try.ntmps128
      go_wp2_with (first | (go_at_call 59; refine (implIn _ _ _ _).mono ?_; rintro e w' ⟨rfl, rfl⟩; rw [H1.out]) | (go_at_call 93; refine (validLevel_ _ _).mono ?_; rintro e w' ⟨rfl, rfl⟩; rw [H2.out]))
      go_ret
      exact ⟨true, rfl, fun _ => rfl, (Below.refl _ _).alloc (Nat.le_refl _) _⟩
set_option maxHeartbeats 1000000 in
theorem allTideAny_ (A : Option Addr) (xs : List Tide) (c : Nat) (w : World) (hx : Rd w A xs) :
    Calls Try.prog 127 #[.slice A xs.length c, .func (.func 128) #[] #[]] w (SomeB (∀ x ∈ xs, tideB x) w) := by
  have hn := hx.len
  have HX := hid hx
  clear hx
  go_enter Try.func127, Try.ntmps127
  go_wp2_with fail
  go_loopw [9] (fun i wr => ∃ k : Nat, k ≤ xs.length ∧ i = .int .i64 k ∧ Below w.heap.size w wr) (fun i _ => xs.length - (intOf i).toNat)
  case atStart => exact ⟨0, Nat.zero_le _, rfl, Below.refl _ _⟩
  case round =>
    obtain ⟨k, hk, rfl, hq⟩ := hrel
    obtain ⟨wo, rfl⟩ : ∃ wo : World, wo = wr := ⟨_, rfl⟩
    have HQ := hid hq
    have HX2 := hid (HX.out.below hq)
    clear hq
    by_cases hlt : k < xs.length
    · obtain ⟨b, off, rfl, c1, c2⟩ := HX2.out.tide hlt
      have HM := hid (List.getElem_mem hlt)
      generalize xs[k] = m at c1 c2 HM
      go_wp2_with (go_at_call 128; refine (isTideAny_ m _).mono ?_; rintro e w' ⟨r, rfl, hr, hb⟩; refine keep_ ?_)
      have HB := hid ((HQ.out.alloc HQ.out.size _).trans (hb.mono (le_alloc HQ.out.size)))
      have HR := hid hr
      clear hb hr
      cases r with
      | true =>
        refine go_ ?_
        go_wp2_with fail
        go_roundw
        case rel => exact ⟨k + 1, by omega, by go_num, HB.out⟩
        case measure => simp [intOf]; omega
      | false =>
        refine go_ ?_
        go_wp2_with fail
        go_ret
        exact ⟨false, rfl, fun h => HR.out (h m HM.out), HB.out⟩
    · go_wp2_with fail
      go_ret
      exact ⟨true, rfl, fun _ => rfl, HQ.out⟩
set_option maxRecDepth 100000 in
set_option maxHeartbeats 8000000 in
theorem validAny_ (A : Option Addr) (xs : List Tide) (c : Nat) (w : World) (hx : Rd w A xs) (hlen : 2 ≤ xs.length ∧ xs.length ≤ 100) :
    Calls Try.prog 88 #[.slice A xs.length c] w (SomeB (TideOk xs) w) := by
  have hn := hx.len
  have HX := hid hx
  obtain ⟨b, off, rfl, hc⟩ := hx.tides (by omega)
  have HC := hid hc
  clear hx hc
  go_enter Try.func88, Try.ntmps88
  go_wp2_with fail
  go_loopw [3] (fun i wr => ∃ k : Nat, 1 ≤ k ∧ k ≤ xs.length ∧ i = .int .i64 k ∧ ∃ n, wr = w.drewN n) (fun i _ => xs.length - (intOf i).toNat)
  case atStart => exact ⟨1, Nat.le_refl _, by omega, rfl, 0, rfl⟩
  case round =>
    obtain ⟨k, hk1, hk, rfl, n, rfl⟩ := hrel
    by_cases hlt : k < xs.length
    · obtain ⟨j, rfl⟩ : ∃ j, k = j + 1 := ⟨k - 1, by omega⟩
      have HST : Hid (TideOk xs → xs[j].m < xs[j + 1].m ∧ xs[j].l ≠ xs[j + 1].l) := fun h => h.step j hlt
      have c1 := HC.out j (by omega)
      have c2 := HC.out (j + 1) hlt
      by_cases hj0 : j < 1
      · obtain ⟨c1, d1⟩ := c1
        obtain ⟨c2, d2⟩ := c2
        generalize xs[j] = x at c1 d1 HST
        generalize xs[j + 1] = y at c2 d2 HST
        by_cases h4 : y.m ≤ x.m
        · have s4 : decide (y.m ≤ x.m) = true := decide_eq_true h4
          have HN : Hid (¬ TideOk xs) := fun h => by have := (HST.out h).1; omega
          go_upto_region 4 with fail
          go_quiet (fail)
          go_wp2_with fail
          go_ret
          exact ⟨false, rfl, fun h => absurd h HN.out, by first | exact (Below.refl _ _).drewN _ | exact ((Below.refl _ _).drewN _).drewN _⟩
        have s4 : decide (y.m ≤ x.m) = false := decide_eq_false (by omega)
        by_cases h3 : x.l = y.l
        · have s3 : (x.l == y.l) = true := by rw [h3]; simp
          have HN : Hid (¬ TideOk xs) := fun h => (HST.out h).2 h3
          clear h3
          go_upto_region 4 with fail
          go_quiet (fail)
          go_wp2_with fail
          go_ret
          exact ⟨false, rfl, fun h => absurd h HN.out, by first | exact (Below.refl _ _).drewN _ | exact ((Below.refl _ _).drewN _).drewN _⟩
        have s3 : (x.l == y.l) = false := beq_no h3
        clear h3
        have s6 : decide ((1 : Int) < (j : Int) + 1) = false := decide_eq_false (by omega)
        go_upto_region 4 with fail
        go_quiet (fail)
        go_upto_region 6 with fail
        go_quiet (fail)
        go_wp2_with fail
        go_roundw
        case rel => exact ⟨j + 1 + 1, by omega, by omega, by go_num, by first | exact ⟨_, rfl⟩ | exact ⟨_, World.drewN_drewN⟩⟩
        case measure => simp [intOf]; omega
      · obtain ⟨p, rfl⟩ : ∃ p, j = p + 1 := ⟨j - 1, by omega⟩
        have c0 := HC.out p (by omega)
        have HAL : Hid (TideOk xs → ((xs[p].l < xs[p + 1].l) ↔ ¬ (xs[p + 1].l < xs[p + 2].l))) := fun h => h.alt p (by omega)
        obtain ⟨c0, d0⟩ := c0
        obtain ⟨c1, d1⟩ := c1
        obtain ⟨c2, d2⟩ := c2
        generalize xs[p] = z at c0 d0 HAL
        generalize xs[p + 1] = x at c1 d1 HST HAL
        generalize xs[p + 1 + 1] = y at c2 d2 HST HAL
        have s6 : decide ((1 : Int) < (p : Int) + 1 + 1) = true := decide_eq_true (by omega)
        have s7 : (p : Int) + 1 + 1 - 2 = (p : Int) := by omega
        by_cases h4 : y.m ≤ x.m
        · have s4 : decide (y.m ≤ x.m) = true := decide_eq_true h4
          have HN : Hid (¬ TideOk xs) := fun h => by have := (HST.out h).1; omega
          go_upto_region 4 with fail
          go_quiet (fail)
          go_wp2_with fail
          go_ret
          exact ⟨false, rfl, fun h => absurd h HN.out, by first | exact (Below.refl _ _).drewN _ | exact ((Below.refl _ _).drewN _).drewN _⟩
        have s4 : decide (y.m ≤ x.m) = false := decide_eq_false (by omega)
        by_cases h3 : x.l = y.l
        · have s3 : (x.l == y.l) = true := by rw [h3]; simp
          have HN : Hid (¬ TideOk xs) := fun h => (HST.out h).2 h3
          clear h3
          go_upto_region 4 with fail
          go_quiet (fail)
          go_wp2_with fail
          go_ret
          exact ⟨false, rfl, fun h => absurd h HN.out, by first | exact (Below.refl _ _).drewN _ | exact ((Below.refl _ _).drewN _).drewN _⟩
        have s3 : (x.l == y.l) = false := beq_no h3
        clear h3
        cases s5 : (decide (z.l < x.l) == decide (x.l < y.l)) with
        | true =>
          have HN : Hid (¬ TideOk xs) := fun h => by
            have h9 := HAL.out h
            rw [beq_iff_eq, decide_eq_decide] at s5
            by_cases hy : x.l < y.l
            · exact (h9.1 (s5.2 hy)) hy
            · exact hy (s5.1 (h9.2 hy))
          go_upto_region 4 with fail
          go_quiet (fail)
          go_upto_region 6 with fail
          go_quiet (fail)
          go_wp2_with fail
          go_ret
          exact ⟨false, rfl, fun h => absurd h HN.out, by first | exact (Below.refl _ _).drewN _ | exact ((Below.refl _ _).drewN _).drewN _ | exact (((Below.refl _ _).drewN _).drewN _).drewN _⟩
        | false =>
          go_upto_region 4 with fail
          go_quiet (fail)
          go_upto_region 6 with fail
          go_quiet (fail)
          go_wp2_with fail
          go_roundw
          case rel => exact ⟨p + 1 + 1 + 1, by omega, by omega, by go_num, by first | exact ⟨_, rfl⟩ | exact ⟨_, World.drewN_drewN⟩⟩
          case measure => simp [intOf]; omega
    · have HX2 := hid (HX.out.drewN n)
      cases h1 : inB (xs.length : Int) 2 40 with
      | false =>
        have H1 := hid h1
        have HN : Hid (¬ TideOk xs) := fun h => by rw [inB_false] at h1; have := h.len; omega
        clear h1
        go_wp2_with (first | (go_at_call 126; refine (sizeTides _ _ _ _ hn).mono ?_; rintro e w' ⟨rfl, rfl⟩) | (go_at_call 59; refine (implIn _ _ _ _).mono ?_; rintro e w' ⟨rfl, rfl⟩; rw [H1.out]))
        go_ret
        exact ⟨false, rfl, fun h => absurd h HN.out, (Below.refl _ _).drewN _⟩
      | true =>
        have H1 := hid h1
        clear h1
        go_wp2_with (first | (go_at_call 126; refine (sizeTides _ _ _ _ hn).mono ?_; rintro e w' ⟨rfl, rfl⟩) | (go_at_call 59; refine (implIn _ _ _ _).mono ?_; rintro e w' ⟨rfl, rfl⟩; rw [H1.out]))
        refine (allTideAny_ _ _ _ _ HX2.out).mono ?_
        rintro e w2 ⟨r, rfl, hr, hb⟩
        have HR := hid hr
        have HB := hid (((Below.refl _ w).drewN n).trans hb)
        clear hb hr
        go_wp2_with fail
        go_ret
        exact ⟨r, rfl, fun h => HR.out h.each, HB.out⟩
end Go.Proofs.Yteobejgkjjhfkaa
