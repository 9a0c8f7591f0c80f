/- ExchangeDuties: the walks. -/
import Derived.Test.YtjamkomgdfgmlaaDutyOk
import Derived.BigRegion
namespace Go.Proofs.Ytjamkomgdfgmlaa
open Go.RowKit
set_option linter.unusedVariables false
def exchangeB (xs : List Duty) (a b : Nat) (d e : Duty) : List Duty := (xs.set a { d with o := e.o }).set b { e with o := d.o }
def exchange (xs : List Duty) (len a b : Int) : List Duty × Int :=
  if validB xs len = true then
    if (inB a 0 (xs.length - 1) && inB b 0 (xs.length - 1)) = true then
      if h : a.toNat < xs.length ∧ b.toNat < xs.length then
        if xs[a.toNat].o = xs[b.toNat].o ∨ ¬ xs[a.toNat].t - xs[a.toNat].f = xs[b.toNat].t - xs[b.toNat].f then ([], 6)
        else (exchangeB xs a.toNat b.toNat xs[a.toNat] xs[b.toNat], 0)
      else ([], 6)
    else ([], 2)
  else ([], 1)
theorem exchange_len (xs : List Duty) (len a b : Int) (h : xs.length ≤ 1048576) : (exchange xs len a b).1.length ≤ 1048576 := by
  unfold exchange exchangeB
  repeat' split
  all_goals simp [h]

set_option maxHeartbeats 400000 in
theorem cloneDuty (A : Option Addr) (xs : List Duty) (c : Nat) (w : World) (hx : Rd w A xs) :
    Calls Try.prog 57 #[.slice A xs.length c] w fun e w' => ∃ v, e = .returned v ∧ Own w' w.heap.size 56 v xs ∧ Below w.heap.size w w' := by
  go_enter Try.func57, Try.ntmps57
  go_wp2_with (at_builtin; refine wpList_appendRd elDuty _ rfl (.tmp 3) (.tmp 4) rfl w.heap.size (.slice (some ⟨w.heap.size, 0, none⟩) 0 0) [] xs rfl (Own.empty (Nat.le_refl _)) A c rfl (hx.alloc _) (by simp) (le_alloc (Nat.le_refl _)) ?_; intro v' w' hown' hg' hat')
  go_ret
  exact ⟨_, rfl, hown', below_own ((Below.refl _ _).alloc (Nat.le_refl _) _) (Own.empty (α := Duty) (Nat.le_refl _)) hg' (Nat.le_refl _) (le_alloc (Nat.le_refl _))⟩

set_option maxHeartbeats 2000000 in
theorem implExchange (A : Option Addr) (xs : List Duty) (c : Nat) (len a b : Int) (w : World) (hx : Rd w A xs) :
    Calls Try.prog 31 #[.slice A xs.length c, .int .i64 len, .int .i64 a, .int .i64 b] w fun e w' => ∃ v, e = .returned (.tuple #[v, .int .i64 (exchange xs len a b).2]) ∧ Own w' w.heap.size 56 v (exchange xs len a b).1 ∧ Below w.heap.size w w' := by
  have hn := hx.len
  by_cases hv : validB xs len = true
  · by_cases ha : inB a 0 (xs.length - 1) = true
    · by_cases hb : inB b 0 (xs.length - 1) = true
      · have ha' := inB_true.1 ha
        have hb' := inB_true.1 hb
        have hal : a.toNat < xs.length := by omega
        have hbl : b.toNat < xs.length := by omega
        have hva := valid_at hv hal
        have hvb := valid_at hv hbl
        have a1 : 0 ≤ xs[a.toNat].f := by omega
        have a2 : xs[a.toNat].f < xs[a.toNat].t := by omega
        have a3 : xs[a.toNat].t ≤ 300000 := by omega
        have b1 : 0 ≤ xs[b.toNat].f := by omega
        have b2 : xs[b.toNat].f < xs[b.toNat].t := by omega
        have b3 : xs[b.toNat].t ≤ 300000 := by omega
        by_cases ho : xs[a.toNat].o = xs[b.toNat].o
        · have HF : Hid (exchange xs len a b = ([], 6)) := by
            unfold Hid exchange
            rw [if_pos hv, if_pos (by rw [ha, hb]; rfl), dif_pos ⟨hal, hbl⟩, if_pos (by simp [ho])]
          rw [HF.out]
          have ho' : (xs[a.toNat].o == xs[b.toNat].o) = true := by simp [ho]
          have HO := hid ho
          clear hva hvb ho
          go_enter Try.func31, Try.ntmps31
          go_wp2_with fail
          refine (implValid _ _ _ _ _ hx).mono ?_
          rintro e w1 ⟨rfl, hb1⟩
          obtain ⟨y1, rfl⟩ := below_ex hb1
          go_wp2_with (first | (go_at_call 51; refine (sizeDuty _ _ _ _).mono ?_; rintro e w' ⟨rfl, rfl⟩) | (go_at_call 50; refine (implIn _ _ _ _).mono ?_; rintro e w' ⟨rfl, rfl⟩) | fail)
          have hx2 := hx.more (x := y1)
          obtain ⟨k, off, rfl, c1, c2, c3⟩ := hx2.duty hal
          obtain ⟨k', off', hA, d1, d2, d3⟩ := hx2.duty hbl
          injection hA with hA
          injection hA with h1 h2
          subst h1 h2
          refine wp_region_more (by kernel_rfl) (by kernel_rfl) ?_
          repeat (go_big_quiet_step (fail))
          refine wpQuiet_nil ?_
          rintro _ ⟨nq, rfl⟩
          go_wp2
          go_ret2
          exact ⟨_, rfl, Own.empty (le_more more_size), (below_go hb1 hb1.size).alloc (le_more more_size) _⟩
        · by_cases hl : xs[a.toNat].t - xs[a.toNat].f = xs[b.toNat].t - xs[b.toNat].f
          · have HF : Hid (exchange xs len a b = (exchangeB xs a.toNat b.toNat xs[a.toNat] xs[b.toNat], 0)) := by
              unfold Hid exchange
              rw [if_pos hv, if_pos (by rw [ha, hb]; rfl), dif_pos ⟨hal, hbl⟩, if_neg (by simp [ho, hl])]
            rw [HF.out]
            have hab : ¬ a.toNat = b.toNat := by rintro h; apply ho; congr 2
            have ho' : (xs[a.toNat].o == xs[b.toNat].o) = false := by simp [ho]
            have hl' : (xs[a.toNat].t - xs[a.toNat].f != xs[b.toNat].t - xs[b.toNat].f) = false := by simp [hl]
            clear hva hvb ho hl
            go_enter Try.func31, Try.ntmps31
            go_wp2_with fail
            refine (implValid _ _ _ _ _ hx).mono ?_
            rintro e w1 ⟨rfl, hb1⟩
            obtain ⟨y1, rfl⟩ := below_ex hb1
            go_wp2_with (first | (go_at_call 51; refine (sizeDuty _ _ _ _).mono ?_; rintro e w' ⟨rfl, rfl⟩) | (go_at_call 50; refine (implIn _ _ _ _).mono ?_; rintro e w' ⟨rfl, rfl⟩) | fail)
            have hx2 := hx.more (x := y1)
            obtain ⟨k, off, rfl, c1, c2, c3⟩ := hx2.duty hal
            obtain ⟨k', off', hA, d1, d2, d3⟩ := hx2.duty hbl
            injection hA with hA
            injection hA with h1 h2
            subst h1 h2
            refine wp_region_more (by kernel_rfl) (by kernel_rfl) ?_
            repeat (go_big_quiet_step (fail))
            refine wpQuiet_nil ?_
            rintro _ ⟨nq, rfl⟩
            go_wp2_with fail
            refine (cloneDuty _ xs _ _ hx2.more).mono ?_
            rintro e w3 ⟨v, rfl, ho, hb3⟩
            obtain ⟨A3, q3, rfl⟩ := ho.form
            obtain ⟨g, rfl, hgb, hgs⟩ := ho.addr hal
            have hb4 : Below w.heap.size w w3 := (below_go hb1 hb1.size).trans (hb3.mono (le_more hb1.size))
            have ho4 := ho.mono (le_more (x := nq) hb1.size)
            have hgw : w.heap.size ≤ g := Nat.le_trans (le_more (x := nq) hb1.size) hgb
            obtain ⟨k2, off2, hA2, e1, _, _⟩ := (hx2.more.below hb3).duty hal
            injection hA2 with hA2
            injection hA2 with h1 h2
            subst h1 h2
            obtain ⟨k2, off2, hA2, e2, _, _⟩ := (hx2.more.below hb3).duty hbl
            injection hA2 with hA2
            injection hA2 with h1 h2
            subst h1 h2
            obtain ⟨⟨p1, p2, p3⟩, f1, f2, f3⟩ := ho.duty hal
            obtain ⟨⟨q1, q2, q3'⟩, g1, g2, g3⟩ := ho.duty hbl
            have hkg : k ≠ g := by have := World.block_lt_of_cell? _ _ c1; have := more_size (w := w.more y1) (x := nq); simp at *; omega
            have h5 := ho4.duty_o hal xs[b.toNat].o
            have h6 := h5.duty_o (k := b.toNat) (by simpa using hbl) xs[a.toNat].o
            rw [List.getElem_set_ne hab] at h6
            have HO := hid h6
            clear hx hx2 c1 c2 c3 d1 d2 d3 hb1 hb3 ho ho4 h5 h6 p2 p3 q2 q3' f2 f3 g2 g3
            go_wp2_with fail
            go_region
            all_goals
              go_wp2
              go_ret2
              exact ⟨_, rfl, HO.out, ((hb4.setCell hgw _).setCell hgw _).drew⟩
          · have HF : Hid (exchange xs len a b = ([], 6)) := by
              unfold Hid exchange
              rw [if_pos hv, if_pos (by rw [ha, hb]; rfl), dif_pos ⟨hal, hbl⟩, if_pos (by simp [hl])]
            rw [HF.out]
            have ho' : (xs[a.toNat].o == xs[b.toNat].o) = false := by simp [ho]
            have hl' : (xs[a.toNat].t - xs[a.toNat].f != xs[b.toNat].t - xs[b.toNat].f) = true := by simp [hl]
            clear hva hvb ho hl
            go_enter Try.func31, Try.ntmps31
            go_wp2_with fail
            refine (implValid _ _ _ _ _ hx).mono ?_
            rintro e w1 ⟨rfl, hb1⟩
            obtain ⟨y1, rfl⟩ := below_ex hb1
            go_wp2_with (first | (go_at_call 51; refine (sizeDuty _ _ _ _).mono ?_; rintro e w' ⟨rfl, rfl⟩) | (go_at_call 50; refine (implIn _ _ _ _).mono ?_; rintro e w' ⟨rfl, rfl⟩) | fail)
            have hx2 := hx.more (x := y1)
            obtain ⟨k, off, rfl, c1, c2, c3⟩ := hx2.duty hal
            obtain ⟨k', off', hA, d1, d2, d3⟩ := hx2.duty hbl
            injection hA with hA
            injection hA with h1 h2
            subst h1 h2
            refine wp_region_more (by kernel_rfl) (by kernel_rfl) ?_
            repeat (go_big_quiet_step (fail))
            refine wpQuiet_nil ?_
            rintro _ ⟨nq, rfl⟩
            go_wp2
            go_ret2
            exact ⟨_, rfl, Own.empty (le_more more_size), (below_go hb1 hb1.size).alloc (le_more more_size) _⟩
      · have HF : Hid (exchange xs len a b = ([], 2)) := by
          unfold Hid exchange
          rw [if_pos hv, if_neg (by simp [hb])]
        rw [HF.out]
        go_enter Try.func31, Try.ntmps31
        go_wp2_with fail
        refine (implValid _ _ _ _ _ hx).mono ?_
        rintro e w1 ⟨rfl, hb1⟩
        obtain ⟨y1, rfl⟩ := below_ex hb1
        go_wp2_with (first | (go_at_call 51; refine (sizeDuty _ _ _ _).mono ?_; rintro e w' ⟨rfl, rfl⟩) | (go_at_call 50; refine (implIn _ _ _ _).mono ?_; rintro e w' ⟨rfl, rfl⟩) | fail)
        go_ret2
        exact ⟨_, rfl, Own.empty more_size, hb1.alloc more_size _⟩
    · have HF : Hid (exchange xs len a b = ([], 2)) := by
        unfold Hid exchange
        rw [if_pos hv, if_neg (by simp [ha])]
      rw [HF.out]
      go_enter Try.func31, Try.ntmps31
      go_wp2_with fail
      refine (implValid _ _ _ _ _ hx).mono ?_
      rintro e w1 ⟨rfl, hb1⟩
      obtain ⟨y1, rfl⟩ := below_ex hb1
      go_wp2_with (first | (go_at_call 51; refine (sizeDuty _ _ _ _).mono ?_; rintro e w' ⟨rfl, rfl⟩) | (go_at_call 50; refine (implIn _ _ _ _).mono ?_; rintro e w' ⟨rfl, rfl⟩) | fail)
      go_ret2
      exact ⟨_, rfl, Own.empty more_size, hb1.alloc more_size _⟩
  · have HF : Hid (exchange xs len a b = ([], 1)) := by
      unfold Hid exchange
      rw [if_neg hv]
    rw [HF.out]
    go_enter Try.func31, Try.ntmps31
    go_wp2_with fail
    refine (implValid _ _ _ _ _ hx).mono ?_
    rintro e w1 ⟨rfl, hb1⟩
    go_wp2
    go_ret2
    exact ⟨_, rfl, Own.empty hb1.size, hb1.alloc hb1.size _⟩

set_option maxHeartbeats 2000000 in
theorem specExchange (A : Option Addr) (xs : List Duty) (c : Nat) (len a b : Int) (w : World) (hx : Rd w A xs) :
    Calls Try.prog 30 #[.slice A xs.length c, .int .i64 len, .int .i64 a, .int .i64 b] w fun e w' => ∃ v, e = .returned (.tuple #[v, .int .i64 (exchange xs len a b).2]) ∧ Own w' w.heap.size 56 v (exchange xs len a b).1 ∧ Below w.heap.size w w' := by
  have hn := hx.len
  by_cases hv : validB xs len = true
  · by_cases ha : inB a 0 (xs.length - 1) = true
    · by_cases hb : inB b 0 (xs.length - 1) = true
      · have ha' := inB_true.1 ha
        have hb' := inB_true.1 hb
        have hal : a.toNat < xs.length := by omega
        have hbl : b.toNat < xs.length := by omega
        have hva := valid_at hv hal
        have hvb := valid_at hv hbl
        have a1 : 0 ≤ xs[a.toNat].f := by omega
        have a2 : xs[a.toNat].f < xs[a.toNat].t := by omega
        have a3 : xs[a.toNat].t ≤ 300000 := by omega
        have b1 : 0 ≤ xs[b.toNat].f := by omega
        have b2 : xs[b.toNat].f < xs[b.toNat].t := by omega
        have b3 : xs[b.toNat].t ≤ 300000 := by omega
        by_cases ho : xs[a.toNat].o = xs[b.toNat].o
        · have HF : Hid (exchange xs len a b = ([], 6)) := by
            unfold Hid exchange
            rw [if_pos hv, if_pos (by rw [ha, hb]; rfl), dif_pos ⟨hal, hbl⟩, if_pos (by simp [ho])]
          rw [HF.out]
          have ho' : (xs[a.toNat].o == xs[b.toNat].o) = true := by simp [ho]
          have HO := hid ho
          clear hva hvb ho
          go_enter Try.func30, Try.ntmps30
          go_wp2_with (first | (go_at_call 48; refine (specOk _ _ _ _ _ hx).mono ?_; rintro e w' ⟨rfl, rfl⟩) | (go_at_call 53; refine (specIn _ _ _ _).mono ?_; rintro e w' ⟨rfl, rfl⟩) | fail)
          have hx2 := hx
          obtain ⟨k, off, rfl, c1, c2, c3⟩ := hx2.duty hal
          obtain ⟨k', off', hA, d1, d2, d3⟩ := hx2.duty hbl
          injection hA with hA
          injection hA with h1 h2
          subst h1 h2
          refine wp_region_more (by kernel_rfl) (by kernel_rfl) ?_
          repeat (go_big_quiet_step (fail))
          refine wpQuiet_nil ?_
          rintro _ ⟨nq, rfl⟩
          go_wp2
          go_ret2
          exact ⟨_, rfl, Own.nil _ _ _, more_below⟩
        · by_cases hl : xs[a.toNat].t - xs[a.toNat].f = xs[b.toNat].t - xs[b.toNat].f
          · have HF : Hid (exchange xs len a b = (exchangeB xs a.toNat b.toNat xs[a.toNat] xs[b.toNat], 0)) := by
              unfold Hid exchange
              rw [if_pos hv, if_pos (by rw [ha, hb]; rfl), dif_pos ⟨hal, hbl⟩, if_neg (by simp [ho, hl])]
            rw [HF.out]
            have hab : ¬ a.toNat = b.toNat := by rintro h; apply ho; congr 2
            have ho' : (xs[a.toNat].o == xs[b.toNat].o) = false := by simp [ho]
            have hl' : (xs[a.toNat].t - xs[a.toNat].f != xs[b.toNat].t - xs[b.toNat].f) = false := by simp [hl]
            clear hva hvb ho hl
            go_enter Try.func30, Try.ntmps30
            go_wp2_with (first | (go_at_call 48; refine (specOk _ _ _ _ _ hx).mono ?_; rintro e w' ⟨rfl, rfl⟩) | (go_at_call 53; refine (specIn _ _ _ _).mono ?_; rintro e w' ⟨rfl, rfl⟩) | fail)
            have hx2 := hx
            obtain ⟨k, off, rfl, c1, c2, c3⟩ := hx2.duty hal
            obtain ⟨k', off', hA, d1, d2, d3⟩ := hx2.duty hbl
            injection hA with hA
            injection hA with h1 h2
            subst h1 h2
            refine wp_region_more (by kernel_rfl) (by kernel_rfl) ?_
            repeat (go_big_quiet_step (fail))
            refine wpQuiet_nil ?_
            rintro _ ⟨nq, rfl⟩
            go_wp2_with (at_builtin; refine wpList_appendRd elDuty _ rfl (.tmp 68) (.tmp 69) rfl w.heap.size (.slice (some ⟨(w.more nq).heap.size, 0, none⟩) 0 0) [] xs rfl (Own.empty more_size) (some ⟨k, off, none⟩) c rfl (hx2.more.alloc _) (by simp) (le_alloc more_size) ?_; intro v' w3 ho hg3 hat3; refine keep_ ?_)
            refine go_ ?_
            have hb4 : Below w.heap.size w w3 := below_own (more_below.alloc more_size _) (Own.empty (α := Duty) (base := w.heap.size) more_size) hg3 (Nat.le_refl _) (le_alloc more_size)
            rw [List.nil_append] at ho
            obtain ⟨A3, q3, rfl⟩ := ho.form
            obtain ⟨g, rfl, hgb, hgs⟩ := ho.addr hal
            obtain ⟨k2, off2, hA2, e1, _, _⟩ := (hx2.below hb4).duty hal
            injection hA2 with hA2
            injection hA2 with h1 h2
            subst h1 h2
            obtain ⟨k2, off2, hA2, e2, _, _⟩ := (hx2.below hb4).duty hbl
            injection hA2 with hA2
            injection hA2 with h1 h2
            subst h1 h2
            obtain ⟨⟨p1, p2, p3⟩, f1, f2, f3⟩ := ho.duty hal
            obtain ⟨⟨q1, q2, q3'⟩, g1, g2, g3⟩ := ho.duty hbl
            have hkg : k ≠ g := by have := World.block_lt_of_cell? _ _ c1; simp at *; omega
            clear hx hx2 c1 c2 c3 d1 d2 d3 hg3 hat3
            go_wp2
            go_ret2
            have h5 := ho.dutySet hal { xs[a.toNat] with o := xs[b.toNat].o }
            have h6 := h5.dutySet (k := b.toNat) (by simpa using hbl) { xs[b.toNat] with o := xs[a.toNat].o }
            have hb5 := (((((hb4.setCell (p := ⟨g, a.toNat * 3, none⟩) hgb (.int .i64 xs[b.toNat].o)).setCell (p := ⟨g, a.toNat * 3 + 1, none⟩) hgb (.int .i64 xs[a.toNat].f)).setCell (p := ⟨g, a.toNat * 3 + 2, none⟩) hgb (.int .i64 xs[a.toNat].t)).setCell (p := ⟨g, b.toNat * 3, none⟩) hgb (.int .i64 xs[a.toNat].o)).setCell (p := ⟨g, b.toNat * 3 + 1, none⟩) hgb (.int .i64 xs[b.toNat].f)).setCell (p := ⟨g, b.toNat * 3 + 2, none⟩) hgb (.int .i64 xs[b.toNat].t)
            exact ⟨_, rfl, (h6.alloc _).alloc _, (hb5.alloc hb5.size _).alloc (le_alloc hb5.size) _⟩
          · have HF : Hid (exchange xs len a b = ([], 6)) := by
              unfold Hid exchange
              rw [if_pos hv, if_pos (by rw [ha, hb]; rfl), dif_pos ⟨hal, hbl⟩, if_pos (by simp [hl])]
            rw [HF.out]
            have ho' : (xs[a.toNat].o == xs[b.toNat].o) = false := by simp [ho]
            have hl' : (xs[a.toNat].t - xs[a.toNat].f != xs[b.toNat].t - xs[b.toNat].f) = true := by simp [hl]
            clear hva hvb ho hl
            go_enter Try.func30, Try.ntmps30
            go_wp2_with (first | (go_at_call 48; refine (specOk _ _ _ _ _ hx).mono ?_; rintro e w' ⟨rfl, rfl⟩) | (go_at_call 53; refine (specIn _ _ _ _).mono ?_; rintro e w' ⟨rfl, rfl⟩) | fail)
            have hx2 := hx
            obtain ⟨k, off, rfl, c1, c2, c3⟩ := hx2.duty hal
            obtain ⟨k', off', hA, d1, d2, d3⟩ := hx2.duty hbl
            injection hA with hA
            injection hA with h1 h2
            subst h1 h2
            refine wp_region_more (by kernel_rfl) (by kernel_rfl) ?_
            repeat (go_big_quiet_step (fail))
            refine wpQuiet_nil ?_
            rintro _ ⟨nq, rfl⟩
            go_wp2
            go_ret2
            exact ⟨_, rfl, Own.nil _ _ _, more_below⟩
      · have HF : Hid (exchange xs len a b = ([], 2)) := by
          unfold Hid exchange
          rw [if_pos hv, if_neg (by simp [hb])]
        rw [HF.out]
        go_enter Try.func30, Try.ntmps30
        go_wp2_with (first | (go_at_call 48; refine (specOk _ _ _ _ _ hx).mono ?_; rintro e w' ⟨rfl, rfl⟩) | (go_at_call 53; refine (specIn _ _ _ _).mono ?_; rintro e w' ⟨rfl, rfl⟩) | fail)
        go_ret2
        exact ⟨_, rfl, Own.nil _ _ _, Below.refl _ _⟩
    · have HF : Hid (exchange xs len a b = ([], 2)) := by
        unfold Hid exchange
        rw [if_pos hv, if_neg (by simp [ha])]
      rw [HF.out]
      go_enter Try.func30, Try.ntmps30
      go_wp2_with (first | (go_at_call 48; refine (specOk _ _ _ _ _ hx).mono ?_; rintro e w' ⟨rfl, rfl⟩) | (go_at_call 53; refine (specIn _ _ _ _).mono ?_; rintro e w' ⟨rfl, rfl⟩) | fail)
      go_ret2
      exact ⟨_, rfl, Own.nil _ _ _, Below.refl _ _⟩
  · have HF : Hid (exchange xs len a b = ([], 1)) := by
      unfold Hid exchange
      rw [if_neg hv]
    rw [HF.out]
    go_enter Try.func30, Try.ntmps30
    go_wp2_with (first | (go_at_call 48; refine (specOk _ _ _ _ _ hx).mono ?_; rintro e w' ⟨rfl, rfl⟩) | (go_at_call 53; refine (specIn _ _ _ _).mono ?_; rintro e w' ⟨rfl, rfl⟩) | fail)
    go_ret2
    exact ⟨_, rfl, Own.nil _ _ _, Below.refl _ _⟩
end Go.Proofs.Ytjamkomgdfgmlaa
