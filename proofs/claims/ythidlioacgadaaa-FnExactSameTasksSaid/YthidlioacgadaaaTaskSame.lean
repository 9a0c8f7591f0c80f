/- SameTasks: the walks. -/
import Derived.Test.YthidlioacgadaaaTaskOk
namespace Go.Proofs.Ythidlioacgadaaa
open Go.RowKit
set_option linter.unusedVariables false
set_option maxHeartbeats 400000 in
theorem specSameInts (A B : Option Addr) (xs ys : List Int) (c d : Nat) (w : World) (hx : Rd w A xs) (hy : Rd w B ys) :
    Calls Try.prog 59 #[.slice A xs.length c, .slice B ys.length d] w fun e w' => e = .returned (.bool (xs == ys)) ∧ Below w.heap.size w w' := by
  have hn := hx.len
  have hm := hy.len
  by_cases hl : xs.length = ys.length
  · have Hl := hid hl
    have hl' : ((xs.length : Int) != ys.length) = false := by simp [hl]
    clear hl
    go_enter Try.func59, Try.ntmps59
    go_wp2
    go_loopw [5] (fun i wr => ∃ k : Nat, k ≤ xs.length ∧ i = .int .i64 k ∧ xs.take k = ys.take k ∧ (∃ m, wr = w.more m)) (fun i _ => xs.length - (intOf i).toNat)
    case atStart => exact ⟨0, Nat.zero_le _, rfl, rfl, more_self⟩
    case round =>
      obtain ⟨k, hk, rfl, ht, m, rfl⟩ := hrel
      have Ht := hid ht
      clear ht
      by_cases hlt : k < xs.length
      · have hlt2 : k < ys.length := by rw [← Hl.out]; exact hlt
        obtain ⟨b, off, rfl, c1⟩ := hx.int hlt
        obtain ⟨b', off', rfl, d1⟩ := hy.int hlt2
        clear hx hy
        by_cases he : xs[k] = ys[k]
        · have heb : (xs[k] != ys[k]) = false := by simp [he]
          have He := hid he
          clear he
          go_wp2
          go_quiet (fail)
          go_wp2
          go_roundw
          case rel => exact ⟨k + 1, by omega, by go_num, same_step hlt hlt2 Ht.out He.out, below_ex (more_below.drewN _)⟩
          case measure => simp [intOf]; omega
        · have heb : (xs[k] != ys[k]) = true := by simp [he]
          have He := hid he
          clear he
          go_wp2
          go_quiet (fail)
          go_wp2
          go_ret
          exact ⟨ret_bool (same_no hlt hlt2 He.out), more_below.drewN _⟩
      · go_wp2
        go_ret
        exact ⟨ret_bool (same_all Hl.out hlt Ht.out), more_below⟩
  · have Hl := hid hl
    have hl' : ((xs.length : Int) != ys.length) = true := by rw [bne_iff_ne]; omega
    clear hl
    go_enter Try.func59, Try.ntmps59
    go_wp2
    go_ret
    exact ⟨ret_bool (same_short Hl.out), Below.refl _ _⟩
set_option maxHeartbeats 400000 in
theorem implSameInts (A B : Option Addr) (xs ys : List Int) (c d : Nat) (w : World) (hx : Rd w A xs) (hy : Rd w B ys) :
    Calls Try.prog 60 #[.slice A xs.length c, .slice B ys.length d] w fun e w' => e = .returned (.bool (xs == ys)) ∧ Below w.heap.size w w' := by
  have hn := hx.len
  have hm := hy.len
  by_cases hl : xs.length = ys.length
  · have Hl := hid hl
    have hl' : ((xs.length : Int) != ys.length) = false := by simp [hl]
    clear hl
    go_enter Try.func60, Try.ntmps60
    go_wp2
    go_loopw [14] (fun i wr => ∃ k : Nat, k ≤ xs.length ∧ i = .int .i64 k ∧ xs.take k = ys.take k ∧ (∃ m, wr = w.more m)) (fun i _ => xs.length - (intOf i).toNat)
    case atStart => exact ⟨0, Nat.zero_le _, rfl, rfl, more_self⟩
    case round =>
      obtain ⟨k, hk, rfl, ht, m, rfl⟩ := hrel
      have Ht := hid ht
      clear ht
      by_cases hlt : k < xs.length
      · have hlt2 : k < ys.length := by rw [← Hl.out]; exact hlt
        obtain ⟨b, off, rfl, c1⟩ := hx.int hlt
        obtain ⟨b', off', rfl, d1⟩ := hy.int hlt2
        clear hx hy
        by_cases he : xs[k] = ys[k]
        · have heb : (ys[k] != xs[k]) = false := by simp [he]
          have He := hid he
          clear he
          go_wp2
          go_roundw
          case rel => exact ⟨k + 1, by omega, by go_num, same_step hlt hlt2 Ht.out He.out, m, rfl⟩
          case measure => simp [intOf]; omega
        · have heb : (ys[k] != xs[k]) = true := by rw [bne_iff_ne]; exact fun h => he h.symm
          have He := hid he
          clear he
          go_wp2
          go_ret
          exact ⟨ret_bool (same_no hlt hlt2 He.out), more_below⟩
      · go_wp2
        go_ret
        exact ⟨ret_bool (same_all Hl.out hlt Ht.out), more_below⟩
  · have Hl := hid hl
    have hl' : ((xs.length : Int) != ys.length) = true := by rw [bne_iff_ne]; omega
    clear hl
    go_enter Try.func60, Try.ntmps60
    go_wp2
    go_ret
    exact ⟨ret_bool (same_short Hl.out), Below.refl _ _⟩
theorem task_eq {a b : Task} (h1 : a.days = b.days) (h2 : a.cost = b.cost) (h3 : a.clay = b.clay) (h4 : a.after = b.after) : a = b := by
  cases a; cases b; simp_all
set_option maxHeartbeats 2000000 in
theorem specSameTasks (A B : Option Addr) (xs ys : List Task) (c d : Nat) (w : World) (hx : RdT w A xs) (hy : RdT w B ys) :
    Calls Try.prog 21 #[.slice A xs.length c, .slice B ys.length d] w fun e w' => e = .returned (.bool (xs == ys)) ∧ Below w.heap.size w w' := by
  have hn := hx.len
  have hm := hy.len
  by_cases hl : xs.length = ys.length
  · have Hl := hid hl
    have hl' : ((xs.length : Int) != ys.length) = false := by simp [hl]
    clear hl
    go_enter Try.func21, Try.ntmps21
    go_wp2_with fail
    go_loopw [5] (fun i wr => ∃ k : Nat, k ≤ xs.length ∧ i = .int .i64 k ∧ xs.take k = ys.take k ∧ (∃ m, wr = w.more m)) (fun i _ => xs.length - (intOf i).toNat)
    case atStart => exact ⟨0, Nat.zero_le _, rfl, rfl, more_self⟩
    case round =>
      obtain ⟨k, hk, rfl, ht, m, rfl⟩ := hrel
      have Ht := hid ht
      clear ht
      by_cases hlt : k < xs.length
      · have hlt2 : k < ys.length := by rw [← Hl.out]; exact hlt
        obtain ⟨b, off, P, q, rfl, c1, c2, c3, c4, hP⟩ := (hx.more (x := m)).at_ hlt
        obtain ⟨b', off', P', q', rfl, d1, d2, d3, d4, hP'⟩ := (hy.more (x := m)).at_ hlt2
        clear hx hy
        by_cases e1 : xs[k].days = ys[k].days
        · have e1' : (xs[k].days != ys[k].days) = false := by simp [e1]
          have E1 := hid e1
          clear e1
          by_cases e2 : xs[k].cost = ys[k].cost
          · have e2' : (xs[k].cost != ys[k].cost) = false := by simp [e2]
            have E2 := hid e2
            clear e2
            by_cases e3 : xs[k].clay = ys[k].clay
            · have e3' : (xs[k].clay != ys[k].clay) = false := by simp [e3]
              have E3 := hid e3
              clear e3
              by_cases e4 : xs[k].after = ys[k].after
              · have e4' : (xs[k].after == ys[k].after) = true := by simp [e4]
                have E4 := hid e4
                clear e4
                go_wp2_with fail
                refine wp_region_more (by kernel_rfl) (by kernel_rfl) ?_
                repeat (go_big_quiet_step ((go_at_call 59; exact quiet_below (specSameInts _ _ _ _ _ _ _ hP.more hP'.more))))
                refine wpQuiet_nil ?_
                rintro _ ⟨nq, rfl⟩
                rw [e4']
                go_wp2_with fail
                go_roundw
                case rel => exact ⟨k + 1, by omega, by go_num, same_step hlt hlt2 Ht.out (task_eq E1.out E2.out E3.out E4.out), below_ex (below_go more_below more_size)⟩
                case measure => simp [intOf]; omega
              · have e4' : (xs[k].after == ys[k].after) = false := by simp [e4]
                have E4 := hid e4
                clear e4
                go_wp2_with fail
                refine wp_region_more (by kernel_rfl) (by kernel_rfl) ?_
                repeat (go_big_quiet_step ((go_at_call 59; exact quiet_below (specSameInts _ _ _ _ _ _ _ hP.more hP'.more))))
                refine wpQuiet_nil ?_
                rintro _ ⟨nq, rfl⟩
                rw [e4']
                go_wp2_with fail
                go_ret
                exact ⟨ret_bool (same_no hlt hlt2 fun h => E4.out (by rw [h])), below_go more_below more_size⟩
            · have e3' : (xs[k].clay != ys[k].clay) = true := by simp [e3]
              have E := hid e3
              clear e3
              go_wp2_with fail
              refine wp_region_more (by kernel_rfl) (by kernel_rfl) ?_
              repeat (go_big_quiet_step ((go_at_call 59; exact quiet_below (specSameInts _ _ _ _ _ _ _ hP.more hP'.more))))
              refine wpQuiet_nil ?_
              rintro _ ⟨nq, rfl⟩
              go_wp2_with fail
              go_ret
              exact ⟨ret_bool (same_no hlt hlt2 fun h => E.out (by rw [h])), below_go more_below more_size⟩
          · have e2' : (xs[k].cost != ys[k].cost) = true := by simp [e2]
            have E := hid e2
            clear e2
            go_wp2_with fail
            refine wp_region_more (by kernel_rfl) (by kernel_rfl) ?_
            repeat (go_big_quiet_step ((go_at_call 59; exact quiet_below (specSameInts _ _ _ _ _ _ _ hP.more hP'.more))))
            refine wpQuiet_nil ?_
            rintro _ ⟨nq, rfl⟩
            go_wp2_with fail
            go_ret
            exact ⟨ret_bool (same_no hlt hlt2 fun h => E.out (by rw [h])), below_go more_below more_size⟩
        · have e1' : (xs[k].days != ys[k].days) = true := by simp [e1]
          have E := hid e1
          clear e1
          go_wp2_with fail
          refine wp_region_more (by kernel_rfl) (by kernel_rfl) ?_
          repeat (go_big_quiet_step ((go_at_call 59; exact quiet_below (specSameInts _ _ _ _ _ _ _ hP.more hP'.more))))
          refine wpQuiet_nil ?_
          rintro _ ⟨nq, rfl⟩
          go_wp2_with fail
          go_ret
          exact ⟨ret_bool (same_no hlt hlt2 fun h => E.out (by rw [h])), below_go more_below more_size⟩
      · go_wp2_with fail
        go_ret
        exact ⟨ret_bool (same_all Hl.out hlt Ht.out), more_below⟩
  · have Hl := hid hl
    have hl' : ((xs.length : Int) != ys.length) = true := by rw [bne_iff_ne]; omega
    clear hl
    go_enter Try.func21, Try.ntmps21
    go_wp2_with fail
    go_ret
    exact ⟨ret_bool (same_short Hl.out), Below.refl _ _⟩

set_option maxHeartbeats 2000000 in
theorem implSameTasks (A B : Option Addr) (xs ys : List Task) (c d : Nat) (w : World) (hx : RdT w A xs) (hy : RdT w B ys) :
    Calls Try.prog 22 #[.slice A xs.length c, .slice B ys.length d] w fun e w' => e = .returned (.bool (xs == ys)) ∧ Below w.heap.size w w' := by
  have hn := hx.len
  have hm := hy.len
  by_cases hl : xs.length = ys.length
  · have Hl := hid hl
    have hl' : ((xs.length : Int) != ys.length) = false := by simp [hl]
    clear hl
    go_enter Try.func22, Try.ntmps22
    go_wp2_with fail
    go_loopw [14] (fun i wr => ∃ k : Nat, k ≤ xs.length ∧ i = .int .i64 k ∧ xs.take k = ys.take k ∧ (∃ m, wr = w.more m)) (fun i _ => xs.length - (intOf i).toNat)
    case atStart => exact ⟨0, Nat.zero_le _, rfl, rfl, more_self⟩
    case round =>
      obtain ⟨k, hk, rfl, ht, m, rfl⟩ := hrel
      have Ht := hid ht
      clear ht
      by_cases hlt : k < xs.length
      · have hlt2 : k < ys.length := by rw [← Hl.out]; exact hlt
        obtain ⟨b, off, P, q, rfl, c1, c2, c3, c4, hP⟩ := (hx.more (x := m)).at_ hlt
        obtain ⟨b', off', P', q', rfl, d1, d2, d3, d4, hP'⟩ := (hy.more (x := m)).at_ hlt2
        clear hx hy
        by_cases e1 : xs[k].days = ys[k].days
        · have e1' : (xs[k].days != ys[k].days) = false := by simp [e1]
          have E1 := hid e1
          clear e1
          by_cases e2 : xs[k].cost = ys[k].cost
          · have e2' : (xs[k].cost != ys[k].cost) = false := by simp [e2]
            have E2 := hid e2
            clear e2
            by_cases e3 : xs[k].clay = ys[k].clay
            · have e3' : (xs[k].clay != ys[k].clay) = false := by simp [e3]
              have E3 := hid e3
              clear e3
              by_cases e4 : xs[k].after = ys[k].after
              · have e4' : (xs[k].after == ys[k].after) = true := by simp [e4]
                have E4 := hid e4
                clear e4
                go_wp2_with fail
                refine wp_region_more (by kernel_rfl) (by kernel_rfl) ?_
                repeat (go_big_quiet_step ((go_at_call 60; exact quiet_below (implSameInts _ _ _ _ _ _ _ (hP.alloc _).more (hP'.alloc _).more))))
                refine wpQuiet_nil ?_
                rintro _ ⟨nq, rfl⟩
                rw [e4']
                go_wp2_with fail
                go_roundw
                case rel => exact ⟨k + 1, by omega, by go_num, same_step hlt hlt2 Ht.out (task_eq E1.out E2.out E3.out E4.out), below_ex (below_go (more_below.alloc more_size _) (le_alloc more_size))⟩
                case measure => simp [intOf]; omega
              · have e4' : (xs[k].after == ys[k].after) = false := by simp [e4]
                have E4 := hid e4
                clear e4
                go_wp2_with fail
                refine wp_region_more (by kernel_rfl) (by kernel_rfl) ?_
                repeat (go_big_quiet_step ((go_at_call 60; exact quiet_below (implSameInts _ _ _ _ _ _ _ (hP.alloc _).more (hP'.alloc _).more))))
                refine wpQuiet_nil ?_
                rintro _ ⟨nq, rfl⟩
                rw [e4']
                go_wp2_with fail
                go_ret
                exact ⟨ret_bool (same_no hlt hlt2 fun h => E4.out (by rw [h])), below_go (more_below.alloc more_size _) (le_alloc more_size)⟩
            · have e3' : (xs[k].clay != ys[k].clay) = true := by simp [e3]
              have E := hid e3
              clear e3
              go_wp2_with fail
              refine wp_region_more (by kernel_rfl) (by kernel_rfl) ?_
              repeat (go_big_quiet_step ((go_at_call 60; exact quiet_below (implSameInts _ _ _ _ _ _ _ (hP.alloc _).more (hP'.alloc _).more))))
              refine wpQuiet_nil ?_
              rintro _ ⟨nq, rfl⟩
              go_wp2_with fail
              go_ret
              exact ⟨ret_bool (same_no hlt hlt2 fun h => E.out (by rw [h])), below_go (more_below.alloc more_size _) (le_alloc more_size)⟩
          · have e2' : (xs[k].cost != ys[k].cost) = true := by simp [e2]
            have E := hid e2
            clear e2
            go_wp2_with fail
            refine wp_region_more (by kernel_rfl) (by kernel_rfl) ?_
            repeat (go_big_quiet_step ((go_at_call 60; exact quiet_below (implSameInts _ _ _ _ _ _ _ (hP.alloc _).more (hP'.alloc _).more))))
            refine wpQuiet_nil ?_
            rintro _ ⟨nq, rfl⟩
            go_wp2_with fail
            go_ret
            exact ⟨ret_bool (same_no hlt hlt2 fun h => E.out (by rw [h])), below_go (more_below.alloc more_size _) (le_alloc more_size)⟩
        · have e1' : (xs[k].days != ys[k].days) = true := by simp [e1]
          have E := hid e1
          clear e1
          go_wp2_with fail
          refine wp_region_more (by kernel_rfl) (by kernel_rfl) ?_
          repeat (go_big_quiet_step ((go_at_call 60; exact quiet_below (implSameInts _ _ _ _ _ _ _ (hP.alloc _).more (hP'.alloc _).more))))
          refine wpQuiet_nil ?_
          rintro _ ⟨nq, rfl⟩
          go_wp2_with fail
          go_ret
          exact ⟨ret_bool (same_no hlt hlt2 fun h => E.out (by rw [h])), below_go (more_below.alloc more_size _) (le_alloc more_size)⟩
      · go_wp2_with fail
        go_ret
        exact ⟨ret_bool (same_all Hl.out hlt Ht.out), more_below⟩
  · have Hl := hid hl
    have hl' : ((xs.length : Int) != ys.length) = true := by rw [bne_iff_ne]; omega
    clear hl
    go_enter Try.func22, Try.ntmps22
    go_wp2_with fail
    go_ret
    exact ⟨ret_bool (same_short Hl.out), Below.refl _ _⟩
theorem specSameTasks2 (A : Option Addr) (xs : List Task) (c : Nat) (B : Option Addr) (ys : List Task) (d : Nat) (w : World) (hx : RdT w A xs) (hy : RdT w B ys) :
    Calls Try.prog 21 #[.slice A xs.length c, .slice B ys.length d] w fun e w' => e = .returned (.bool (xs == ys)) ∧ Below w.heap.size w w' := specSameTasks A B xs ys c d w hx hy
theorem implSameTasks2 (A : Option Addr) (xs : List Task) (c : Nat) (B : Option Addr) (ys : List Task) (d : Nat) (w : World) (hx : RdT w A xs) (hy : RdT w B ys) :
    Calls Try.prog 22 #[.slice A xs.length c, .slice B ys.length d] w fun e w' => e = .returned (.bool (xs == ys)) ∧ Below w.heap.size w w' := implSameTasks A B xs ys c d w hx hy
end Go.Proofs.Ythidlioacgadaaa
