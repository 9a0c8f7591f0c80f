/- SameDuties, of the program and of the reference. -/
import Derived.Test.YtjamkomgdfgmlaaDuty
namespace Go.Proofs.Ytjamkomgdfgmlaa
open Go.RowKit
set_option maxHeartbeats 400000 in
theorem specSameDuties (A B : Option Addr) (xs ys : List Duty) (c d : Nat) (w : World) (hx : Rd w A xs) (hy : Rd w B ys) :
    Calls Try.prog 14 #[.slice A xs.length c, .slice B ys.length d] w fun e w' => e = .returned (.bool (xs == ys)) ∧ Below w.heap.size w w' := by
  have hn := hx.len
  have hm := hy.len
  by_cases hl : xs.length = ys.length
  · have Hl := hid hl
    have hl' : ((xs.length : Int) != ys.length) = false := by simp [hl]
    clear hl
    go_enter Try.func14, Try.ntmps14
    go_wp2
    go_loopw [5] (fun i wr => ∃ k : Nat, k ≤ xs.length ∧ i = .int .i64 k ∧ xs.take k = ys.take k ∧ (∃ m, wr = w.more m)) (fun i _ => xs.length - (intOf i).toNat)
    case atStart => exact ⟨0, Nat.zero_le _, rfl, rfl, more_self⟩
    case round =>
      obtain ⟨k, hk, rfl, ht, m, rfl⟩ := hrel
      have Ht := hid ht
      clear ht
      by_cases hlt : k < xs.length
      · have hlt2 : k < ys.length := by rw [← Hl.out]; exact hlt
        obtain ⟨b, off, rfl, c1, c2, c3⟩ := hx.duty hlt
        obtain ⟨b', off', rfl, d1, d2, d3⟩ := hy.duty hlt2
        clear hx hy
        by_cases he : xs[k] = ys[k]
        · have heb : ((⟨xs[k].o, xs[k].f, xs[k].t⟩ : Duty) == ⟨ys[k].o, ys[k].f, ys[k].t⟩) = true := by rw [he]; simp
          have He := hid he
          clear he
          go_wp2
          go_quiet (fail)
          go_wp2
          go_roundw
          case rel => exact ⟨k + 1, by omega, by go_num, same_step hlt hlt2 Ht.out He.out, below_ex (more_below.drewN _)⟩
          case measure => simp [intOf]; omega
        · have heb : ((⟨xs[k].o, xs[k].f, xs[k].t⟩ : Duty) == ⟨ys[k].o, ys[k].f, ys[k].t⟩) = false := beq_no he
          have He := hid he
          clear he
          go_wp2
          go_quiet (fail)
          go_wp2
          go_ret
          exact ⟨ret_bool (same_no hlt hlt2 He.out), more_below.drewN _⟩
      · go_wp2
        go_ret
        exact ⟨ret_bool (same_all Hl.out hlt Ht.out), more_below⟩
  · have Hl := hid hl
    have hl' : ((xs.length : Int) != ys.length) = true := by rw [bne_iff_ne]; omega
    clear hl
    go_enter Try.func14, Try.ntmps14
    go_wp2
    go_ret
    exact ⟨ret_bool (same_short Hl.out), Below.refl _ _⟩

set_option maxHeartbeats 400000 in
theorem sameDuty (A B : Option Addr) (xs ys : List Duty) (c d : Nat) (w : World) (hx : Rd w A xs) (hy : Rd w B ys) :
    Calls Try.prog 46 #[.slice A xs.length c, .slice B ys.length d] w fun e w' => e = .returned (.bool (xs == ys)) ∧ Below w.heap.size w w' := by
  have hn := hx.len
  have hm := hy.len
  by_cases hl : xs.length = ys.length
  · have Hl := hid hl
    have hl' : ((xs.length : Int) != ys.length) = false := by simp [hl]
    clear hl
    go_enter Try.func46, Try.ntmps46
    go_wp2
    go_loopw [14] (fun i wr => ∃ k : Nat, k ≤ xs.length ∧ i = .int .i64 k ∧ xs.take k = ys.take k ∧ (∃ m, wr = w.more m)) (fun i _ => xs.length - (intOf i).toNat)
    case atStart => exact ⟨0, Nat.zero_le _, rfl, rfl, more_self⟩
    case round =>
      obtain ⟨k, hk, rfl, ht, m, rfl⟩ := hrel
      have Ht := hid ht
      clear ht
      by_cases hlt : k < xs.length
      · have hlt2 : k < ys.length := by rw [← Hl.out]; exact hlt
        obtain ⟨b, off, rfl, c1, c2, c3⟩ := hx.duty hlt
        obtain ⟨b', off', rfl, d1, d2, d3⟩ := hy.duty hlt2
        clear hx hy
        by_cases he : xs[k] = ys[k]
        · have heb : ((⟨ys[k].o, ys[k].f, ys[k].t⟩ : Duty) == ⟨xs[k].o, xs[k].f, xs[k].t⟩) = true := by rw [he]; simp
          have He := hid he
          clear he
          go_wp2
          go_quiet (fail)
          go_wp2
          go_roundw
          case rel => exact ⟨k + 1, by omega, by go_num, same_step hlt hlt2 Ht.out He.out, below_ex ((more_below.alloc more_size _).drewN _)⟩
          case measure => simp [intOf]; omega
        · have heb : ((⟨ys[k].o, ys[k].f, ys[k].t⟩ : Duty) == ⟨xs[k].o, xs[k].f, xs[k].t⟩) = false := beq_no fun h => he h.symm
          have He := hid he
          clear he
          go_wp2
          go_quiet (fail)
          go_wp2
          go_ret
          exact ⟨ret_bool (same_no hlt hlt2 He.out), (more_below.alloc more_size _).drewN _⟩
      · go_wp2
        go_ret
        exact ⟨ret_bool (same_all Hl.out hlt Ht.out), more_below⟩
  · have Hl := hid hl
    have hl' : ((xs.length : Int) != ys.length) = true := by rw [bne_iff_ne]; omega
    clear hl
    go_enter Try.func46, Try.ntmps46
    go_wp2
    go_ret
    exact ⟨ret_bool (same_short Hl.out), Below.refl _ _⟩

set_option maxHeartbeats 400000 in
theorem implSameDuties (A B : Option Addr) (xs ys : List Duty) (c d : Nat) (w : World) (hx : Rd w A xs) (hy : Rd w B ys) :
    Calls Try.prog 16 #[.slice A xs.length c, .slice B ys.length d] w fun e w' => e = .returned (.bool (xs == ys)) ∧ Below w.heap.size w w' := by
  go_enter Try.func16, Try.ntmps16
  go_wp2_with fail
  refine (sameDuty A B xs ys c d w hx hy).mono ?_
  rintro e w' ⟨rfl, hb⟩
  go_wp2_with fail
  go_ret
  exact ⟨rfl, hb⟩

end Go.Proofs.Ytjamkomgdfgmlaa
