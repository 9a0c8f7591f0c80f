/- Bill: what a slice of them is in cells, and what the law's own helpers make of it. Written by a program (genstruct.py). -/
import Derived.Test.YtampbbknhbhcbaaLaw
import Derived.Test.YtampbbknhbhcbaaMarkInt
namespace Go.Proofs.Ytampbbknhbhcbaa
open Go.RowKit
structure Bill where
  o : Int
  d : Int
  a : Int
  p : Int
  deriving DecidableEq
instance : Enc Bill := ⟨4, fun d => [.int .i64 d.o, .int .i64 d.d, .int .i64 d.a, .int .i64 d.p], fun _ => rfl, fun _ u h => by simp at h; rcases h with rfl | rfl | rfl | rfl <;> rfl⟩
theorem Rd.bill {w : World} {A : Option Addr} {xs : List Bill} (h : Rd w A xs) {k : Nat} (hk : k < xs.length) : ∃ b off, A = some ⟨b, off, none⟩ ∧
    w.cell? ⟨b, off + k * 4, none⟩ = some (.int .i64 xs[k].o) ∧ w.cell? ⟨b, off + k * 4 + 1, none⟩ = some (.int .i64 xs[k].d) ∧ w.cell? ⟨b, off + k * 4 + 2, none⟩ = some (.int .i64 xs[k].a) ∧ w.cell? ⟨b, off + k * 4 + 3, none⟩ = some (.int .i64 xs[k].p) := by
  obtain ⟨b, off, hA, hc⟩ := h.2 k hk
  exact ⟨b, off, hA, hc 0 _ rfl, hc 1 _ rfl, hc 2 _ rfl, hc 3 _ rfl⟩
theorem guardBill : Try.prog.eqGuardType Try.prog.depth 72 = false := by kernel_rfl
theorem stoodBill : Try.prog.stoodInHeld 72 = false := by kernel_rfl
theorem fieldsBill : Try.prog.underlying 72 = some (.struct (Try.prog.fieldsOf 72)) := by kernel_rfl
attribute [go_sem] guardBill
theorem bill_beq (d e : Bill) : (d == e) = (d.o == e.o && d.d == e.d && d.a == e.a && d.p == e.p) := by
  rw [Bool.eq_iff_iff]
  cases d; cases e; simp [and_assoc]
@[go_sem ↓] theorem neqBill (a0 b0 c0 d0 a1 b1 c1 d1 : Int) (w : World) : (binOp .neq 72 (.agg #[.int .i64 a0, .int .i64 b0, .int .i64 c0, .int .i64 d0]) (.agg #[.int .i64 a1, .int .i64 b1, .int .i64 c1, .int .i64 d1])).run Try.prog w = .ok (.bool (!((⟨a0, b0, c0, d0⟩ : Bill) == ⟨a1, b1, c1, d1⟩))) w := by
  rw [run_neq_struct, run_equalIn_struct _ _ _ _ _ fieldsBill stoodBill]
  simp [go_sem, Try.underlying72]
  by_cases h0 : a0 = a1 <;> by_cases h1 : b0 = b1 <;> by_cases h2 : c0 = c1 <;> by_cases h3 : d0 = d1 <;> simp [h0, h1, h2, h3]
theorem elBill : El Try.prog 46 72 (⟨0, 0, 0, 0⟩ : Bill) :=
  El.mk' (z := .agg #[.int .i64 0, .int .i64 0, .int .i64 0, .int .i64 0]) (bytes := 32) Try.underlying46 (by kernel_rfl) (by decide) rfl (by decide)
instance : OfInts Bill := ⟨fun g => ⟨⟨g 0, g 1, g 2, g 3⟩, fun j hj => by
  have : j = 0 ∨ j = 1 ∨ j = 2 ∨ j = 3 := by have : j < 4 := hj; omega
  rcases this with rfl | rfl | rfl | rfl <;> rfl⟩⟩
theorem Own.bill {w : World} {base : Nat} {e : TypeId} {g n c : Nat} {xs : List Bill} (h : Own w base e (.slice (some ⟨g, 0, none⟩) n c) xs) {k : Nat} (hk : k < xs.length) :
    (w.cell? ⟨g, k * 4, none⟩ = some (.int .i64 xs[k].o) ∧ w.cell? ⟨g, k * 4 + 1, none⟩ = some (.int .i64 xs[k].d) ∧ w.cell? ⟨g, k * 4 + 2, none⟩ = some (.int .i64 xs[k].a) ∧ w.cell? ⟨g, k * 4 + 3, none⟩ = some (.int .i64 xs[k].p)) ∧
    (w.frozen? ⟨g, k * 4, none⟩ = false ∧ w.frozen? ⟨g, k * 4 + 1, none⟩ = false ∧ w.frozen? ⟨g, k * 4 + 2, none⟩ = false ∧ w.frozen? ⟨g, k * 4 + 3, none⟩ = false) :=
  ⟨⟨h.cell (j := 0) hk rfl, h.cell (j := 1) hk rfl, h.cell (j := 2) hk rfl, h.cell (j := 3) hk rfl⟩, h.free _, h.free _, h.free _, h.free _⟩
theorem Own.billSet {w : World} {base : Nat} {e : TypeId} {g n c : Nat} {xs : List Bill} (h : Own w base e (.slice (some ⟨g, 0, none⟩) n c) xs) {k : Nat} (hk : k < xs.length) (d : Bill) :
    Own ((((w.setCell ⟨g, k * 4, none⟩ (.int .i64 d.o)).setCell ⟨g, k * 4 + 1, none⟩ (.int .i64 d.d)).setCell ⟨g, k * 4 + 2, none⟩ (.int .i64 d.a)).setCell ⟨g, k * 4 + 3, none⟩ (.int .i64 d.p)) base e (.slice (some ⟨g, 0, none⟩) n c) (xs.set k d) := by
  have h1 := h.set (j := 0) (u := .int .i64 d.o) (y := ⟨d.o, xs[k].d, xs[k].a, xs[k].p⟩) (k := k) (by simpa using hk) (by decide) (by simp [Enc.enc])
  have h2 := h1.set (j := 1) (u := .int .i64 d.d) (y := ⟨d.o, d.d, xs[k].a, xs[k].p⟩) (k := k) (by simpa using hk) (by decide) (by simp [Enc.enc])
  have h3 := h2.set (j := 2) (u := .int .i64 d.a) (y := ⟨d.o, d.d, d.a, xs[k].p⟩) (k := k) (by simpa using hk) (by decide) (by simp [Enc.enc])
  have h4 := h3.set (j := 3) (u := .int .i64 d.p) (y := d) (k := k) (by simpa using hk) (by decide) (by simp [Enc.enc])
  simp only [List.set_set] at h4
  exact h4
theorem Own.bill_o {w : World} {base : Nat} {e : TypeId} {g n c : Nat} {xs : List Bill} (h : Own w base e (.slice (some ⟨g, 0, none⟩) n c) xs) {k : Nat} (hk : k < xs.length) (z : Int) :
    Own (w.setCell ⟨g, k * 4, none⟩ (.int .i64 z)) base e (.slice (some ⟨g, 0, none⟩) n c) (xs.set k { xs[k] with o := z }) :=
  h.set (j := 0) hk (by decide) rfl
theorem Own.bill_d {w : World} {base : Nat} {e : TypeId} {g n c : Nat} {xs : List Bill} (h : Own w base e (.slice (some ⟨g, 0, none⟩) n c) xs) {k : Nat} (hk : k < xs.length) (z : Int) :
    Own (w.setCell ⟨g, k * 4 + 1, none⟩ (.int .i64 z)) base e (.slice (some ⟨g, 0, none⟩) n c) (xs.set k { xs[k] with d := z }) :=
  h.set (j := 1) hk (by decide) rfl
theorem Own.bill_a {w : World} {base : Nat} {e : TypeId} {g n c : Nat} {xs : List Bill} (h : Own w base e (.slice (some ⟨g, 0, none⟩) n c) xs) {k : Nat} (hk : k < xs.length) (z : Int) :
    Own (w.setCell ⟨g, k * 4 + 2, none⟩ (.int .i64 z)) base e (.slice (some ⟨g, 0, none⟩) n c) (xs.set k { xs[k] with a := z }) :=
  h.set (j := 2) hk (by decide) rfl
theorem Own.bill_p {w : World} {base : Nat} {e : TypeId} {g n c : Nat} {xs : List Bill} (h : Own w base e (.slice (some ⟨g, 0, none⟩) n c) xs) {k : Nat} (hk : k < xs.length) (z : Int) :
    Own (w.setCell ⟨g, k * 4 + 3, none⟩ (.int .i64 z)) base e (.slice (some ⟨g, 0, none⟩) n c) (xs.set k { xs[k] with p := z }) :=
  h.set (j := 3) hk (by decide) rfl

set_option maxHeartbeats 400000 in
theorem eqBill (a0 b0 c0 d0 a1 b1 c1 d1 : Int) (w : World) :
    Calls Try.prog 50 #[.agg #[.int .i64 a0, .int .i64 b0, .int .i64 c0, .int .i64 d0], .agg #[.int .i64 a1, .int .i64 b1, .int .i64 c1, .int .i64 d1]] w fun e w' => e = .returned (.bool ((⟨a0, b0, c0, d0⟩ : Bill) == ⟨a1, b1, c1, d1⟩)) ∧ Below w.heap.size w w' := by
  have hb : ∀ o1 o2, Below w.heap.size w ((w.alloc o1).alloc o2) := fun _ _ => ((Below.refl _ _).alloc (Nat.le_refl _) _).alloc (by simp) _
  have HB := hid hb
  clear hb
  rw [bill_beq]
  go_enter Try.func50, Try.ntmps50
  go_wp2
  all_goals
    go_ret
    exact ⟨ret_bool (by simp_all), HB.out _ _⟩
set_option maxHeartbeats 400000 in
theorem eqBillS (A B : Option Addr) (xs ys : List Bill) (c d : Nat) (w : World) (hx : Rd w A xs) (hy : Rd w B ys) :
    Calls Try.prog 28 #[.slice A xs.length c, .slice B ys.length d] w fun e w' => e = .returned (.bool (xs == ys)) ∧ Below w.heap.size w w' := by
  have hn := hx.len
  have hm := hy.len
  by_cases hl : xs.length = ys.length
  · have Hl := hid hl
    have hl' : ((xs.length : Int) != ys.length) = false := by simp [hl]
    clear hl
    go_enter Try.func28, Try.ntmps28
    go_wp2
    go_loopw [5] (fun i wr => ∃ k : Nat, k ≤ xs.length ∧ i = .int .i64 k ∧ xs.take k = ys.take k ∧ (∃ m, wr = w.more m)) (fun i _ => xs.length - (intOf i).toNat)
    case atStart => exact ⟨0, Nat.zero_le _, rfl, rfl, more_self⟩
    case round =>
      obtain ⟨k, hk, rfl, ht, m, rfl⟩ := hrel
      have Ht := hid ht
      clear ht
      by_cases hlt : k < xs.length
      · have hlt2 : k < ys.length := by rw [← Hl.out]; exact hlt
        obtain ⟨b, off, rfl, c0, c1, c2, c3⟩ := hx.bill hlt
        obtain ⟨b', off', rfl, d0, d1, d2, d3⟩ := hy.bill hlt2
        clear hx hy
        by_cases he : xs[k] = ys[k]
        · have heb : ((⟨xs[k].o, xs[k].d, xs[k].a, xs[k].p⟩ : Bill) == ⟨ys[k].o, ys[k].d, ys[k].a, ys[k].p⟩) = true := by rw [he]; simp
          have He := hid he
          clear he
          go_wp2
          refine wp_region_more (by kernel_rfl) (by kernel_rfl) ?_
          repeat (go_big_quiet_step ((go_at_call 50; exact quiet_below (eqBill _ _ _ _ _ _ _ _ _))))
          refine wpQuiet_nil ?_
          rintro _ ⟨nq, rfl⟩
          go_wp2
          go_roundw
          case rel => exact ⟨k + 1, by omega, by go_num, same_step hlt hlt2 Ht.out He.out, more_trans⟩
          case measure => simp [intOf]; omega
        · have heb : ((⟨xs[k].o, xs[k].d, xs[k].a, xs[k].p⟩ : Bill) == ⟨ys[k].o, ys[k].d, ys[k].a, ys[k].p⟩) = false := beq_no he
          have He := hid he
          clear he
          go_wp2
          refine wp_region_more (by kernel_rfl) (by kernel_rfl) ?_
          repeat (go_big_quiet_step ((go_at_call 50; exact quiet_below (eqBill _ _ _ _ _ _ _ _ _))))
          refine wpQuiet_nil ?_
          rintro _ ⟨nq, rfl⟩
          go_wp2
          go_ret
          exact ⟨ret_bool (same_no hlt hlt2 He.out), below_go more_below more_size⟩
      · go_wp2
        go_ret
        exact ⟨ret_bool (same_all Hl.out hlt Ht.out), more_below⟩
  · have Hl := hid hl
    have hl' : ((xs.length : Int) != ys.length) = true := by rw [bne_iff_ne]; omega
    clear hl
    go_enter Try.func28, Try.ntmps28
    go_wp2
    go_ret
    exact ⟨ret_bool (same_short Hl.out), Below.refl _ _⟩
def markBill (q : Int) (i : Nat) : Bill := ⟨q + 4 * (i : Int), q + 4 * (i : Int) + 1, q + 4 * (i : Int) + 1 + 1, q + 4 * (i : Int) + 1 + 1 + 1⟩
def marksBill (q : Int) (n : Nat) : List Bill := (List.range n).map (markBill q)
theorem marksBill_len (k : Int) (n : Nat) : (marksBill k n).length = n := by simp [marksBill]
theorem marksBill_get (k : Int) (n i : Nat) (h : i < (marksBill k n).length) : (marksBill k n)[i] = markBill k i := by simp [marksBill]
set_option maxHeartbeats 800000 in
theorem markBillS (v : Value) (xs : List Bill) (q : Int) (base : Nat) (w : World) (h : Own w base 72 v xs) (hl : xs.length ≤ 1048576) (h0 : 0 ≤ q) (h1 : q ≤ 100000000) :
    Calls Try.prog 29 #[v, .int .i64 q] w fun e w' => e = .returned (.int .i64 (q + 4 * xs.length)) ∧ Own w' base 72 v (marksBill q xs.length) ∧ w.grownBy w' v.ownBlock := by
  obtain ⟨A, c, rfl⟩ := h.form
  go_enter Try.func29, Try.ntmps29
  go_wp2
  go_loopw [1, 5] (fun y i wr => ∃ k : Nat, k ≤ xs.length ∧ i = .int .i64 k ∧ y = .int .i64 (q + 4 * k) ∧ Own wr base 72 (.slice A xs.length c) ((List.range k).map (markBill q) ++ xs.drop k) ∧ w.grownBy wr (Value.slice A xs.length c).ownBlock) (fun _ i _ => xs.length - (intOf i).toNat)
  case atStart => exact ⟨0, Nat.zero_le _, rfl, by go_num, by simpa using h, World.grownBy.refl _ _⟩
  case round =>
    obtain ⟨k, hk, rfl, rfl, ho, hg⟩ := hrel
    by_cases hlt : k < xs.length
    · have hk' : k < ((List.range k).map (markBill q) ++ xs.drop k).length := by simp; omega
      obtain ⟨g, rfl, hb, hgs⟩ := ho.addr hk'
      obtain ⟨⟨d0, d1, d2, d3⟩, f0, f1, f2, f3⟩ := ho.bill hk'
      have h3 := ho.billSet hk' (markBill q k)
      rw [mark_step hlt] at h3
      simp only [markBill] at h3
      have HO := hid h3
      clear h3 ho h
      generalize ((List.range k).map (markBill q) ++ xs.drop k)[k] = z at d0 d1 d2 d3
      clear hk'
      go_wp2
      go_roundw
      case rel => exact ⟨k + 1, by omega, by go_num, by go_num, HO.out, grown_set (grown_set (grown_set (grown_set hg)))⟩
      case measure => simp [intOf]; omega
    · rw [mark_end hlt hk] at ho
      have HO := hid ho
      clear ho
      go_wp2
      go_ret
      exact ⟨ret_int (by omega), HO.out, hg⟩
set_option maxHeartbeats 400000 in
theorem heldBillS (A : Option Addr) (n c : Nat) (q : Int) (w : World) (h : Rd w A (marksBill q n)) (h0 : 0 ≤ q) (h1 : q ≤ 100000000) :
    Calls Try.prog 30 #[.slice A n c, .int .i64 q] w fun e w' => e = .returned (.int .i64 (q + 4 * n)) ∧ Below w.heap.size w w' := by
  have hn := h.len
  rw [marksBill_len] at hn
  go_enter Try.func30, Try.ntmps30
  go_wp2
  go_loop [1, 5] (fun y i => ∃ k : Nat, k ≤ n ∧ i = .int .i64 k ∧ y = .int .i64 (q + 4 * k)) (fun _ i => n - (intOf i).toNat)
  case atStart => exact ⟨0, Nat.zero_le _, rfl, by go_num⟩
  case round =>
    obtain ⟨k, hk, rfl, rfl⟩ := hrel
    by_cases hlt : k < n
    · obtain ⟨b, off, rfl, c0, c1, c2, c3⟩ := h.bill (k := k) (by rw [marksBill_len]; exact hlt)
      rw [marksBill_get] at c0 c1 c2 c3
      simp only [markBill] at c0 c1 c2 c3
      clear h
      go_wp2
      go_round
      case rel => exact ⟨k + 1, by omega, by go_num, by go_num⟩
      case measure => simp [intOf]; omega
    · go_wp2
      go_ret
      exact ⟨ret_int (by omega), Below.refl _ _⟩
end Go.Proofs.Ytampbbknhbhcbaa
