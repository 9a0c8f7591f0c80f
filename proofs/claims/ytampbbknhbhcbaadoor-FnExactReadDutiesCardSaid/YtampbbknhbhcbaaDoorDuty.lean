/- Duty: what a slice of them is in cells, and what the law's own helpers make of it. Written by a program (genstruct.py). -/
import Derived.Test.YtampbbknhbhcbaaDoorLaw
import Derived.Test.YtampbbknhbhcbaaDoorMarkInt
namespace Go.Proofs.YtampbbknhbhcbaaDoor
open Go.RowKit
structure Duty where
  o : Int
  f : Int
  t : Int
  deriving DecidableEq
instance : Enc Duty := ⟨3, fun d => [.int .i64 d.o, .int .i64 d.f, .int .i64 d.t], fun _ => rfl, fun _ u h => by simp at h; rcases h with rfl | rfl | rfl <;> rfl⟩
theorem Rd.duty {w : World} {A : Option Addr} {xs : List Duty} (h : Rd w A xs) {k : Nat} (hk : k < xs.length) : ∃ b off, A = some ⟨b, off, none⟩ ∧
    w.cell? ⟨b, off + k * 3, none⟩ = some (.int .i64 xs[k].o) ∧ w.cell? ⟨b, off + k * 3 + 1, none⟩ = some (.int .i64 xs[k].f) ∧ w.cell? ⟨b, off + k * 3 + 2, none⟩ = some (.int .i64 xs[k].t) := by
  obtain ⟨b, off, hA, hc⟩ := h.2 k hk
  exact ⟨b, off, hA, hc 0 _ rfl, hc 1 _ rfl, hc 2 _ rfl⟩
theorem guardDuty : Tryd.prog.eqGuardType Tryd.prog.depth 57 = false := by kernel_rfl
theorem stoodDuty : Tryd.prog.stoodInHeld 57 = false := by kernel_rfl
theorem fieldsDuty : Tryd.prog.underlying 57 = some (.struct (Tryd.prog.fieldsOf 57)) := by kernel_rfl
attribute [go_sem] guardDuty
theorem duty_beq (d e : Duty) : (d == e) = (d.o == e.o && d.f == e.f && d.t == e.t) := by
  rw [Bool.eq_iff_iff]
  cases d; cases e; simp [and_assoc]
@[go_sem ↓] theorem neqDuty (a0 b0 c0 a1 b1 c1 : Int) (w : World) : (binOp .neq 57 (.agg #[.int .i64 a0, .int .i64 b0, .int .i64 c0]) (.agg #[.int .i64 a1, .int .i64 b1, .int .i64 c1])).run Tryd.prog w = .ok (.bool (!((⟨a0, b0, c0⟩ : Duty) == ⟨a1, b1, c1⟩))) w := by
  rw [run_neq_struct, run_equalIn_struct _ _ _ _ _ fieldsDuty stoodDuty]
  simp [go_sem, Tryd.underlying57]
  by_cases h0 : a0 = a1 <;> by_cases h1 : b0 = b1 <;> by_cases h2 : c0 = c1 <;> simp [h0, h1, h2]
theorem elDuty : El Tryd.prog 25 57 (⟨0, 0, 0⟩ : Duty) :=
  El.mk' (z := .agg #[.int .i64 0, .int .i64 0, .int .i64 0]) (bytes := 24) Tryd.underlying25 (by kernel_rfl) (by decide) rfl (by decide)
instance : OfInts Duty := ⟨fun g => ⟨⟨g 0, g 1, g 2⟩, fun j hj => by
  have : j = 0 ∨ j = 1 ∨ j = 2 := by have : j < 3 := hj; omega
  rcases this with rfl | rfl | rfl <;> rfl⟩⟩
theorem Own.duty {w : World} {base : Nat} {e : TypeId} {g n c : Nat} {xs : List Duty} (h : Own w base e (.slice (some ⟨g, 0, none⟩) n c) xs) {k : Nat} (hk : k < xs.length) :
    (w.cell? ⟨g, k * 3, none⟩ = some (.int .i64 xs[k].o) ∧ w.cell? ⟨g, k * 3 + 1, none⟩ = some (.int .i64 xs[k].f) ∧ w.cell? ⟨g, k * 3 + 2, none⟩ = some (.int .i64 xs[k].t)) ∧
    (w.frozen? ⟨g, k * 3, none⟩ = false ∧ w.frozen? ⟨g, k * 3 + 1, none⟩ = false ∧ w.frozen? ⟨g, k * 3 + 2, none⟩ = false) :=
  ⟨⟨h.cell (j := 0) hk rfl, h.cell (j := 1) hk rfl, h.cell (j := 2) hk rfl⟩, h.free _, h.free _, h.free _⟩
theorem Own.dutySet {w : World} {base : Nat} {e : TypeId} {g n c : Nat} {xs : List Duty} (h : Own w base e (.slice (some ⟨g, 0, none⟩) n c) xs) {k : Nat} (hk : k < xs.length) (d : Duty) :
    Own (((w.setCell ⟨g, k * 3, none⟩ (.int .i64 d.o)).setCell ⟨g, k * 3 + 1, none⟩ (.int .i64 d.f)).setCell ⟨g, k * 3 + 2, none⟩ (.int .i64 d.t)) base e (.slice (some ⟨g, 0, none⟩) n c) (xs.set k d) := by
  have h1 := h.set (j := 0) (u := .int .i64 d.o) (y := ⟨d.o, xs[k].f, xs[k].t⟩) (k := k) (by simpa using hk) (by decide) (by simp [Enc.enc])
  have h2 := h1.set (j := 1) (u := .int .i64 d.f) (y := ⟨d.o, d.f, xs[k].t⟩) (k := k) (by simpa using hk) (by decide) (by simp [Enc.enc])
  have h3 := h2.set (j := 2) (u := .int .i64 d.t) (y := d) (k := k) (by simpa using hk) (by decide) (by simp [Enc.enc])
  simp only [List.set_set] at h3
  exact h3
theorem Own.duty_o {w : World} {base : Nat} {e : TypeId} {g n c : Nat} {xs : List Duty} (h : Own w base e (.slice (some ⟨g, 0, none⟩) n c) xs) {k : Nat} (hk : k < xs.length) (z : Int) :
    Own (w.setCell ⟨g, k * 3, none⟩ (.int .i64 z)) base e (.slice (some ⟨g, 0, none⟩) n c) (xs.set k { xs[k] with o := z }) :=
  h.set (j := 0) hk (by decide) rfl
theorem Own.duty_f {w : World} {base : Nat} {e : TypeId} {g n c : Nat} {xs : List Duty} (h : Own w base e (.slice (some ⟨g, 0, none⟩) n c) xs) {k : Nat} (hk : k < xs.length) (z : Int) :
    Own (w.setCell ⟨g, k * 3 + 1, none⟩ (.int .i64 z)) base e (.slice (some ⟨g, 0, none⟩) n c) (xs.set k { xs[k] with f := z }) :=
  h.set (j := 1) hk (by decide) rfl
theorem Own.duty_t {w : World} {base : Nat} {e : TypeId} {g n c : Nat} {xs : List Duty} (h : Own w base e (.slice (some ⟨g, 0, none⟩) n c) xs) {k : Nat} (hk : k < xs.length) (z : Int) :
    Own (w.setCell ⟨g, k * 3 + 2, none⟩ (.int .i64 z)) base e (.slice (some ⟨g, 0, none⟩) n c) (xs.set k { xs[k] with t := z }) :=
  h.set (j := 2) hk (by decide) rfl

set_option maxHeartbeats 400000 in
theorem szDutyS (A : Option Addr) (n c : Nat) (left : Int) (w : World) (hn : n ≤ maxLen) (hl : 0 ≤ left) (hl2 : left ≤ 1048576) :
    Calls Tryd.prog 8 #[.slice A n c, .int .i64 left] w fun e w' => e = .returned (.int .i64 (if left < n then -1 else left - n)) ∧ w = w' := by
  unfold maxLen at hn
  go_enter Tryd.func8, Tryd.ntmps8
  go_wp2
  · go_ret
    exact ⟨rfl, rfl⟩
  · go_ret
    exact ⟨rfl, rfl⟩
set_option maxHeartbeats 400000 in
theorem toDuty (a0 b0 c0 : Int) (w : World) :
    Calls Tryd.prog 30 #[.agg #[.int .i64 a0, .int .i64 b0, .int .i64 c0]] w fun e w' => e = .returned (.agg #[.int .i64 a0, .int .i64 b0, .int .i64 c0]) ∧ Below w.heap.size w w' := by
  go_enter Tryd.func30, Tryd.ntmps30
  go_wp2
  exact bodyPost_ret (v := .agg #[.int .i64 a0, .int .i64 b0, .int .i64 c0]) (by simp [results, Tryd.results30, go_sem]) rfl ⟨rfl, (((Below.refl _ _).alloc (Nat.le_refl _) _).alloc (by simp) _).alloc (by simp; omega) _⟩
set_option maxHeartbeats 400000 in
theorem eqDuty (a0 b0 c0 a1 b1 c1 : Int) (w : World) :
    Calls Tryd.prog 33 #[.agg #[.int .i64 a0, .int .i64 b0, .int .i64 c0], .agg #[.int .i64 a1, .int .i64 b1, .int .i64 c1]] w fun e w' => e = .returned (.bool ((⟨a0, b0, c0⟩ : Duty) == ⟨a1, b1, c1⟩)) ∧ Below w.heap.size w w' := by
  have hb : ∀ o1 o2, Below w.heap.size w ((w.alloc o1).alloc o2) := fun _ _ => ((Below.refl _ _).alloc (Nat.le_refl _) _).alloc (by simp) _
  have HB := hid hb
  clear hb
  rw [duty_beq]
  go_enter Tryd.func33, Tryd.ntmps33
  go_wp2
  all_goals
    go_ret
    exact ⟨ret_bool (by simp_all), HB.out _ _⟩
set_option maxHeartbeats 400000 in
theorem eqDutyS (A B : Option Addr) (xs ys : List Duty) (c d : Nat) (w : World) (hx : Rd w A xs) (hy : Rd w B ys) :
    Calls Tryd.prog 12 #[.slice A xs.length c, .slice B ys.length d] w fun e w' => e = .returned (.bool (xs == ys)) ∧ Below w.heap.size w w' := by
  have hn := hx.len
  have hm := hy.len
  by_cases hl : xs.length = ys.length
  · have Hl := hid hl
    have hl' : ((xs.length : Int) != ys.length) = false := by simp [hl]
    clear hl
    go_enter Tryd.func12, Tryd.ntmps12
    go_wp2
    go_loopw [5] (fun i wr => ∃ k : Nat, k ≤ xs.length ∧ i = .int .i64 k ∧ xs.take k = ys.take k ∧ (∃ m, wr = w.more m)) (fun i _ => xs.length - (intOf i).toNat)
    case atStart => exact ⟨0, Nat.zero_le _, rfl, rfl, more_self⟩
    case round =>
      obtain ⟨k, hk, rfl, ht, m, rfl⟩ := hrel
      have Ht := hid ht
      clear ht
      by_cases hlt : k < xs.length
      · have hlt2 : k < ys.length := by rw [← Hl.out]; exact hlt
        obtain ⟨b, off, rfl, c0, c1, c2⟩ := hx.duty hlt
        obtain ⟨b', off', rfl, d0, d1, d2⟩ := hy.duty hlt2
        clear hx hy
        by_cases he : xs[k] = ys[k]
        · have heb : ((⟨xs[k].o, xs[k].f, xs[k].t⟩ : Duty) == ⟨ys[k].o, ys[k].f, ys[k].t⟩) = true := by rw [he]; simp
          have He := hid he
          clear he
          go_wp2
          refine wp_region_more (by kernel_rfl) (by kernel_rfl) ?_
          repeat (go_big_quiet_step ((go_at_call 33; exact quiet_below (eqDuty _ _ _ _ _ _ _))))
          refine wpQuiet_nil ?_
          rintro _ ⟨nq, rfl⟩
          go_wp2
          go_roundw
          case rel => exact ⟨k + 1, by omega, by go_num, same_step hlt hlt2 Ht.out He.out, more_trans⟩
          case measure => simp [intOf]; omega
        · have heb : ((⟨xs[k].o, xs[k].f, xs[k].t⟩ : Duty) == ⟨ys[k].o, ys[k].f, ys[k].t⟩) = false := beq_no he
          have He := hid he
          clear he
          go_wp2
          refine wp_region_more (by kernel_rfl) (by kernel_rfl) ?_
          repeat (go_big_quiet_step ((go_at_call 33; exact quiet_below (eqDuty _ _ _ _ _ _ _))))
          refine wpQuiet_nil ?_
          rintro _ ⟨nq, rfl⟩
          go_wp2
          go_ret
          exact ⟨ret_bool (same_no hlt hlt2 He.out), below_go more_below more_size⟩
      · go_wp2
        go_ret
        exact ⟨ret_bool (same_all Hl.out hlt Ht.out), more_below⟩
  · have Hl := hid hl
    have hl' : ((xs.length : Int) != ys.length) = true := by rw [bne_iff_ne]; omega
    clear hl
    go_enter Tryd.func12, Tryd.ntmps12
    go_wp2
    go_ret
    exact ⟨ret_bool (same_short Hl.out), Below.refl _ _⟩
set_option maxHeartbeats 400000 in
theorem toDutyS (A : Option Addr) (xs : List Duty) (c : Nat) (w : World) (hx : Rd w A xs) :
    Calls Tryd.prog 10 #[.slice A xs.length c] w fun e w' => ∃ v, e = .returned v ∧ Own w' w.heap.size 57 v xs ∧ Below w.heap.size w w' := by
  have hn := hx.len
  go_enter Tryd.func10, Tryd.ntmps10
  go_wp2_with (at_make; refine wpList_make' elDuty _ rfl _ _ rfl w.heap.size .i64 .i64 _ _ xs.length rfl rfl rfl rfl hn (Nat.le_refl _) ?_; intro w1 hown hb1)
  go_loopw [4] (fun i wr => ∃ k : Nat, k ≤ xs.length ∧ i = .int .i64 k ∧ Own wr w.heap.size 57 (.slice (some ⟨w.heap.size, 0, none⟩) xs.length xs.length) (xs.take k ++ List.replicate (xs.length - k) ⟨0, 0, 0⟩) ∧ Below w.heap.size w wr) (fun i _ => xs.length - (intOf i).toNat)
  case atStart => exact ⟨0, Nat.zero_le _, rfl, by simpa using hown, hb1⟩
  case round =>
    obtain ⟨k, hk, rfl, hown, hb⟩ := hrel
    clear hb1
    by_cases hlt : k < xs.length
    · obtain ⟨b, off, rfl, c0, c1, c2⟩ := (hx.below hb).duty hlt
      have hk' : k < (xs.take k ++ List.replicate (xs.length - k) (⟨0, 0, 0⟩ : Duty)).length := by simp; omega
      clear hx
      go_wp2_with fail
      refine (toDuty _ _ _ _).mono ?_
      rintro e w2 ⟨rfl, hb2⟩
      obtain ⟨y, rfl⟩ := below_ex hb2
      have hown2 := hown.more (x := y)
      obtain ⟨⟨d0, d1, d2⟩, f0, f1, f2⟩ := hown2.duty hk'
      have hown3 := hown2.dutySet hk' xs[k]
      rw [set_step rfl hlt] at hown3
      have HO := hid hown3
      clear hown hown2 hown3
      go_wp2
      go_roundw
      case rel => exact ⟨k + 1, by omega, by go_num, HO.out, (((below_go hb hb.size).setCell (Nat.le_refl _) _).setCell (Nat.le_refl _) _).setCell (Nat.le_refl _) _⟩
      case measure => simp [intOf]; omega
    · go_wp2
      go_ret
      refine ⟨_, rfl, ?_, hb⟩
      rw [List.take_of_length_le (by omega), Nat.sub_eq_zero_of_le (by omega)] at hown
      simpa using hown
def markDuty (q : Int) (i : Nat) : Duty := ⟨q + 3 * (i : Int), q + 3 * (i : Int) + 1, q + 3 * (i : Int) + 1 + 1⟩
def marksDuty (q : Int) (n : Nat) : List Duty := (List.range n).map (markDuty q)
theorem marksDuty_len (k : Int) (n : Nat) : (marksDuty k n).length = n := by simp [marksDuty]
theorem marksDuty_get (k : Int) (n i : Nat) (h : i < (marksDuty k n).length) : (marksDuty k n)[i] = markDuty k i := by simp [marksDuty]
set_option maxHeartbeats 800000 in
theorem markDutyS (v : Value) (xs : List Duty) (q : Int) (base : Nat) (w : World) (h : Own w base 57 v xs) (hl : xs.length ≤ 1048576) (h0 : 0 ≤ q) (h1 : q ≤ 100000000) :
    Calls Tryd.prog 15 #[v, .int .i64 q] w fun e w' => e = .returned (.int .i64 (q + 3 * xs.length)) ∧ Own w' base 57 v (marksDuty q xs.length) ∧ w.grownBy w' v.ownBlock := by
  obtain ⟨A, c, rfl⟩ := h.form
  go_enter Tryd.func15, Tryd.ntmps15
  go_wp2
  go_loopw [1, 5] (fun y i wr => ∃ k : Nat, k ≤ xs.length ∧ i = .int .i64 k ∧ y = .int .i64 (q + 3 * k) ∧ Own wr base 57 (.slice A xs.length c) ((List.range k).map (markDuty q) ++ xs.drop k) ∧ w.grownBy wr (Value.slice A xs.length c).ownBlock) (fun _ i _ => xs.length - (intOf i).toNat)
  case atStart => exact ⟨0, Nat.zero_le _, rfl, by go_num, by simpa using h, World.grownBy.refl _ _⟩
  case round =>
    obtain ⟨k, hk, rfl, rfl, ho, hg⟩ := hrel
    by_cases hlt : k < xs.length
    · have hk' : k < ((List.range k).map (markDuty q) ++ xs.drop k).length := by simp; omega
      obtain ⟨g, rfl, hb, hgs⟩ := ho.addr hk'
      obtain ⟨⟨d0, d1, d2⟩, f0, f1, f2⟩ := ho.duty hk'
      have h3 := ho.dutySet hk' (markDuty q k)
      rw [mark_step hlt] at h3
      simp only [markDuty] at h3
      have HO := hid h3
      clear h3 ho h
      generalize ((List.range k).map (markDuty q) ++ xs.drop k)[k] = z at d0 d1 d2
      clear hk'
      go_wp2
      go_roundw
      case rel => exact ⟨k + 1, by omega, by go_num, by go_num, HO.out, grown_set (grown_set (grown_set hg))⟩
      case measure => simp [intOf]; omega
    · rw [mark_end hlt hk] at ho
      have HO := hid ho
      clear ho
      go_wp2
      go_ret
      exact ⟨ret_int (by omega), HO.out, hg⟩
set_option maxHeartbeats 400000 in
theorem heldDutyS (A : Option Addr) (n c : Nat) (q : Int) (w : World) (h : Rd w A (marksDuty q n)) (h0 : 0 ≤ q) (h1 : q ≤ 100000000) :
    Calls Tryd.prog 16 #[.slice A n c, .int .i64 q] w fun e w' => e = .returned (.int .i64 (q + 3 * n)) ∧ Below w.heap.size w w' := by
  have hn := h.len
  rw [marksDuty_len] at hn
  go_enter Tryd.func16, Tryd.ntmps16
  go_wp2
  go_loop [1, 5] (fun y i => ∃ k : Nat, k ≤ n ∧ i = .int .i64 k ∧ y = .int .i64 (q + 3 * k)) (fun _ i => n - (intOf i).toNat)
  case atStart => exact ⟨0, Nat.zero_le _, rfl, by go_num⟩
  case round =>
    obtain ⟨k, hk, rfl, rfl⟩ := hrel
    by_cases hlt : k < n
    · obtain ⟨b, off, rfl, c0, c1, c2⟩ := h.duty (k := k) (by rw [marksDuty_len]; exact hlt)
      rw [marksDuty_get] at c0 c1 c2
      simp only [markDuty] at c0 c1 c2
      clear h
      go_wp2
      go_round
      case rel => exact ⟨k + 1, by omega, by go_num, by go_num⟩
      case measure => simp [intOf]; omega
    · go_wp2
      go_ret
      exact ⟨ret_int (by omega), Below.refl _ _⟩
end Go.Proofs.YtampbbknhbhcbaaDoor
