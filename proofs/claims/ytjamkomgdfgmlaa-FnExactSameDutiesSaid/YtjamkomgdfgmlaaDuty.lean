/- Duties: what a slice of them is in cells, and what the law's own helpers make of it. -/
import Derived.Test.YtjamkomgdfgmlaaBase
namespace Go.Proofs.Ytjamkomgdfgmlaa
open Go.RowKit
structure Duty where
  o : Int
  f : Int
  t : Int
  deriving DecidableEq
def Duty.val (d : Duty) : Value := .agg #[.int .i64 d.o, .int .i64 d.f, .int .i64 d.t]
instance : Enc Duty := ⟨3, fun d => [.int .i64 d.o, .int .i64 d.f, .int .i64 d.t], fun _ => rfl, fun _ u h => by simp at h; rcases h with rfl | rfl | rfl <;> rfl⟩
theorem Rd.duty {w : World} {A : Option Addr} {xs : List Duty} (h : Rd w A xs) {k : Nat} (hk : k < xs.length) : ∃ b off, A = some ⟨b, off, none⟩ ∧
    w.cell? ⟨b, off + k * 3, none⟩ = some (.int .i64 xs[k].o) ∧ w.cell? ⟨b, off + k * 3 + 1, none⟩ = some (.int .i64 xs[k].f) ∧ w.cell? ⟨b, off + k * 3 + 2, none⟩ = some (.int .i64 xs[k].t) := by
  obtain ⟨b, off, hA, hc⟩ := h.2 k hk
  exact ⟨b, off, hA, hc 0 _ rfl, hc 1 _ rfl, hc 2 _ rfl⟩

theorem guardDuty : Try.prog.eqGuardType Try.prog.depth 56 = false := by kernel_rfl
theorem stoodDuty : Try.prog.stoodInHeld 56 = false := by kernel_rfl
theorem fieldsDuty : Try.prog.underlying 56 = some (.struct (Try.prog.fieldsOf 56)) := by kernel_rfl
attribute [go_sem] guardDuty
theorem duty_beq (d e : Duty) : (d == e) = (d.o == e.o && d.f == e.f && d.t == e.t) := by
  rw [Bool.eq_iff_iff]
  cases d; cases e; simp [and_assoc]
@[go_sem ↓] theorem neqDuty (a b c a' b' c' : Int) (w : World) : (binOp .neq 56 (.agg #[.int .i64 a, .int .i64 b, .int .i64 c]) (.agg #[.int .i64 a', .int .i64 b', .int .i64 c'])).run Try.prog w = .ok (.bool (!((⟨a, b, c⟩ : Duty) == ⟨a', b', c'⟩))) w := by
  rw [run_neq_struct, run_equalIn_struct _ _ _ _ _ fieldsDuty stoodDuty]
  simp [go_sem, Try.underlying56]
  by_cases h1 : a = a' <;> by_cases h2 : b = b' <;> by_cases h3 : c = c' <;> simp [h1, h2, h3]

set_option maxHeartbeats 400000 in
theorem szDutyS (A : Option Addr) (n c : Nat) (left : Int) (w : World) (hn : n ≤ maxLen) (hl : 0 ≤ left) (hl2 : left ≤ 1048576) :
    Calls Try.prog 13 #[.slice A n c, .int .i64 left] w fun e w' => e = .returned (.int .i64 (if left < n then -1 else left - n)) ∧ w = w' := by
  unfold maxLen at hn
  go_enter Try.func13, Try.ntmps13
  go_wp2
  · go_ret
    exact ⟨rfl, rfl⟩
  · go_ret
    exact ⟨rfl, rfl⟩

set_option maxHeartbeats 400000 in
theorem toDuty (a b c : Int) (w : World) :
    Calls Try.prog 45 #[.agg #[.int .i64 a, .int .i64 b, .int .i64 c]] w fun e w' => e = .returned (.agg #[.int .i64 a, .int .i64 b, .int .i64 c]) ∧ Below w.heap.size w w' := by
  go_enter Try.func45, Try.ntmps45
  go_wp2
  exact bodyPost_ret (v := .agg #[.int .i64 a, .int .i64 b, .int .i64 c]) (by simp [results, Try.results45, go_sem]) rfl ⟨rfl, (((Below.refl _ _).alloc (Nat.le_refl _) _).alloc (by simp) _).alloc (by simp; omega) _⟩

set_option maxHeartbeats 400000 in
theorem eqDuty (a b c a' b' c' : Int) (w : World) :
    Calls Try.prog 47 #[.agg #[.int .i64 a, .int .i64 b, .int .i64 c], .agg #[.int .i64 a', .int .i64 b', .int .i64 c']] w fun e w' => e = .returned (.bool ((⟨a, b, c⟩ : Duty) == ⟨a', b', c'⟩)) ∧ Below w.heap.size w w' := by
  have hb : ∀ o1 o2, Below w.heap.size w ((w.alloc o1).alloc o2) := fun _ _ => ((Below.refl _ _).alloc (Nat.le_refl _) _).alloc (by simp) _
  have HB := hid hb
  clear hb
  rw [duty_beq]
  go_enter Try.func47, Try.ntmps47
  go_wp2
  all_goals
    go_ret
    exact ⟨ret_bool (by simp_all), HB.out _ _⟩

set_option maxHeartbeats 400000 in
theorem specSameDuties (A B : Option Addr) (xs ys : List Duty) (c d : Nat) (w : World) (hx : Rd w A xs) (hy : Rd w B ys) :
    Calls Try.prog 14 #[.slice A xs.length c, .slice B ys.length d] w fun e w' => e = .returned (.bool (xs == ys)) ∧ Below w.heap.size w w' := by
  have hn := hx.len
  have hm := hy.len
  by_cases hl : xs.length = ys.length
  · have Hl := hid hl
    have hl' : ((xs.length : Int) != ys.length) = false := by simp [hl]
    clear hl
    go_enter Try.func14, Try.ntmps14
    go_wp2
    go_loopw [5] (fun i wr => ∃ k : Nat, k ≤ xs.length ∧ i = .int .i64 k ∧ xs.take k = ys.take k ∧ (∃ m, wr = w.more m)) (fun i _ => xs.length - (intOf i).toNat)
    case atStart => exact ⟨0, Nat.zero_le _, rfl, rfl, more_self⟩
    case round =>
      obtain ⟨k, hk, rfl, ht, m, rfl⟩ := hrel
      have Ht := hid ht
      clear ht
      by_cases hlt : k < xs.length
      · have hlt2 : k < ys.length := by rw [← Hl.out]; exact hlt
        obtain ⟨b, off, rfl, c1, c2, c3⟩ := hx.duty hlt
        obtain ⟨b', off', rfl, d1, d2, d3⟩ := hy.duty hlt2
        clear hx hy
        by_cases he : xs[k] = ys[k]
        · have heb : ((⟨xs[k].o, xs[k].f, xs[k].t⟩ : Duty) == ⟨ys[k].o, ys[k].f, ys[k].t⟩) = true := by rw [he]; simp
          have He := hid he
          clear he
          go_wp2
          go_quiet (fail)
          go_wp2
          go_roundw
          case rel => exact ⟨k + 1, by omega, by go_num, same_step hlt hlt2 Ht.out He.out, below_ex (more_below.drewN _)⟩
          case measure => simp [intOf]; omega
        · have heb : ((⟨xs[k].o, xs[k].f, xs[k].t⟩ : Duty) == ⟨ys[k].o, ys[k].f, ys[k].t⟩) = false := beq_no he
          have He := hid he
          clear he
          go_wp2
          go_quiet (fail)
          go_wp2
          go_ret
          exact ⟨ret_bool (same_no hlt hlt2 He.out), more_below.drewN _⟩
      · go_wp2
        go_ret
        exact ⟨ret_bool (same_all Hl.out hlt Ht.out), more_below⟩
  · have Hl := hid hl
    have hl' : ((xs.length : Int) != ys.length) = true := by rw [bne_iff_ne]; omega
    clear hl
    go_enter Try.func14, Try.ntmps14
    go_wp2
    go_ret
    exact ⟨ret_bool (same_short Hl.out), Below.refl _ _⟩

set_option maxHeartbeats 400000 in
theorem sameDuty (A B : Option Addr) (xs ys : List Duty) (c d : Nat) (w : World) (hx : Rd w A xs) (hy : Rd w B ys) :
    Calls Try.prog 46 #[.slice A xs.length c, .slice B ys.length d] w fun e w' => e = .returned (.bool (xs == ys)) ∧ Below w.heap.size w w' := by
  have hn := hx.len
  have hm := hy.len
  by_cases hl : xs.length = ys.length
  · have Hl := hid hl
    have hl' : ((xs.length : Int) != ys.length) = false := by simp [hl]
    clear hl
    go_enter Try.func46, Try.ntmps46
    go_wp2
    go_loopw [14] (fun i wr => ∃ k : Nat, k ≤ xs.length ∧ i = .int .i64 k ∧ xs.take k = ys.take k ∧ (∃ m, wr = w.more m)) (fun i _ => xs.length - (intOf i).toNat)
    case atStart => exact ⟨0, Nat.zero_le _, rfl, rfl, more_self⟩
    case round =>
      obtain ⟨k, hk, rfl, ht, m, rfl⟩ := hrel
      have Ht := hid ht
      clear ht
      by_cases hlt : k < xs.length
      · have hlt2 : k < ys.length := by rw [← Hl.out]; exact hlt
        obtain ⟨b, off, rfl, c1, c2, c3⟩ := hx.duty hlt
        obtain ⟨b', off', rfl, d1, d2, d3⟩ := hy.duty hlt2
        clear hx hy
        by_cases he : xs[k] = ys[k]
        · have heb : ((⟨ys[k].o, ys[k].f, ys[k].t⟩ : Duty) == ⟨xs[k].o, xs[k].f, xs[k].t⟩) = true := by rw [he]; simp
          have He := hid he
          clear he
          go_wp2
          go_quiet (fail)
          go_wp2
          go_roundw
          case rel => exact ⟨k + 1, by omega, by go_num, same_step hlt hlt2 Ht.out He.out, below_ex ((more_below.alloc more_size _).drewN _)⟩
          case measure => simp [intOf]; omega
        · have heb : ((⟨ys[k].o, ys[k].f, ys[k].t⟩ : Duty) == ⟨xs[k].o, xs[k].f, xs[k].t⟩) = false := beq_no fun h => he h.symm
          have He := hid he
          clear he
          go_wp2
          go_quiet (fail)
          go_wp2
          go_ret
          exact ⟨ret_bool (same_no hlt hlt2 He.out), (more_below.alloc more_size _).drewN _⟩
      · go_wp2
        go_ret
        exact ⟨ret_bool (same_all Hl.out hlt Ht.out), more_below⟩
  · have Hl := hid hl
    have hl' : ((xs.length : Int) != ys.length) = true := by rw [bne_iff_ne]; omega
    clear hl
    go_enter Try.func46, Try.ntmps46
    go_wp2
    go_ret
    exact ⟨ret_bool (same_short Hl.out), Below.refl _ _⟩

set_option maxHeartbeats 400000 in
theorem implSameDuties (A B : Option Addr) (xs ys : List Duty) (c d : Nat) (w : World) (hx : Rd w A xs) (hy : Rd w B ys) :
    Calls Try.prog 16 #[.slice A xs.length c, .slice B ys.length d] w fun e w' => e = .returned (.bool (xs == ys)) ∧ Below w.heap.size w w' := by
  go_enter Try.func16, Try.ntmps16
  go_wp2_with fail
  refine (sameDuty A B xs ys c d w hx hy).mono ?_
  rintro e w' ⟨rfl, hb⟩
  go_wp2_with fail
  go_ret
  exact ⟨rfl, hb⟩

set_option maxHeartbeats 400000 in
theorem eqDutyS (A B : Option Addr) (xs ys : List Duty) (c d : Nat) (w : World) (hx : Rd w A xs) (hy : Rd w B ys) :
    Calls Try.prog 17 #[.slice A xs.length c, .slice B ys.length d] w fun e w' => e = .returned (.bool (xs == ys)) ∧ Below w.heap.size w w' := by
  have hn := hx.len
  have hm := hy.len
  by_cases hl : xs.length = ys.length
  · have Hl := hid hl
    have hl' : ((xs.length : Int) != ys.length) = false := by simp [hl]
    clear hl
    go_enter Try.func17, Try.ntmps17
    go_wp2
    go_loopw [5] (fun i wr => ∃ k : Nat, k ≤ xs.length ∧ i = .int .i64 k ∧ xs.take k = ys.take k ∧ (∃ m, wr = w.more m)) (fun i _ => xs.length - (intOf i).toNat)
    case atStart => exact ⟨0, Nat.zero_le _, rfl, rfl, more_self⟩
    case round =>
      obtain ⟨k, hk, rfl, ht, m, rfl⟩ := hrel
      have Ht := hid ht
      clear ht
      by_cases hlt : k < xs.length
      · have hlt2 : k < ys.length := by rw [← Hl.out]; exact hlt
        obtain ⟨b, off, rfl, c1, c2, c3⟩ := hx.duty hlt
        obtain ⟨b', off', rfl, d1, d2, d3⟩ := hy.duty hlt2
        clear hx hy
        by_cases he : xs[k] = ys[k]
        · have heb : ((⟨xs[k].o, xs[k].f, xs[k].t⟩ : Duty) == ⟨ys[k].o, ys[k].f, ys[k].t⟩) = true := by rw [he]; simp
          have He := hid he
          clear he
          go_wp2
          refine wp_region_more (by kernel_rfl) (by kernel_rfl) ?_
          repeat (go_big_quiet_step ((go_at_call 47; exact quiet_below (eqDuty _ _ _ _ _ _ _))))
          refine wpQuiet_nil ?_
          rintro _ ⟨nq, rfl⟩
          go_wp2
          go_roundw
          case rel => exact ⟨k + 1, by omega, by go_num, same_step hlt hlt2 Ht.out He.out, more_trans⟩
          case measure => simp [intOf]; omega
        · have heb : ((⟨xs[k].o, xs[k].f, xs[k].t⟩ : Duty) == ⟨ys[k].o, ys[k].f, ys[k].t⟩) = false := beq_no he
          have He := hid he
          clear he
          go_wp2
          refine wp_region_more (by kernel_rfl) (by kernel_rfl) ?_
          repeat (go_big_quiet_step ((go_at_call 47; exact quiet_below (eqDuty _ _ _ _ _ _ _))))
          refine wpQuiet_nil ?_
          rintro _ ⟨nq, rfl⟩
          go_wp2
          go_ret
          exact ⟨ret_bool (same_no hlt hlt2 He.out), below_go more_below more_size⟩
      · go_wp2
        go_ret
        exact ⟨ret_bool (same_all Hl.out hlt Ht.out), more_below⟩
  · have Hl := hid hl
    have hl' : ((xs.length : Int) != ys.length) = true := by rw [bne_iff_ne]; omega
    clear hl
    go_enter Try.func17, Try.ntmps17
    go_wp2
    go_ret
    exact ⟨ret_bool (same_short Hl.out), Below.refl _ _⟩
end Go.Proofs.Ytjamkomgdfgmlaa
