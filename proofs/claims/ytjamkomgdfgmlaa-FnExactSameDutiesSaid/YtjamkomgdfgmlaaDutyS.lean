/- Slices of duties that the law makes: toDutyS. -/
import Derived.Test.YtjamkomgdfgmlaaLaw
import Derived.Test.YtjamkomgdfgmlaaDuty
namespace Go.Proofs.Ytjamkomgdfgmlaa
open Go.RowKit
theorem elDuty : El Try.prog 25 56 (⟨0, 0, 0⟩ : Duty) :=
  El.mk' (z := .agg #[.int .i64 0, .int .i64 0, .int .i64 0]) (bytes := 24) Try.underlying25 (by kernel_rfl) (by decide) rfl (by decide)

instance : OfInts Duty := ⟨fun g => ⟨⟨g 0, g 1, g 2⟩, fun j hj => by
  have : j = 0 ∨ j = 1 ∨ j = 2 := by have : j < 3 := hj; omega
  rcases this with rfl | rfl | rfl <;> rfl⟩⟩
theorem Own.duty {w : World} {base : Nat} {e : TypeId} {g n c : Nat} {xs : List Duty} (h : Own w base e (.slice (some ⟨g, 0, none⟩) n c) xs) {k : Nat} (hk : k < xs.length) :
    (w.cell? ⟨g, k * 3, none⟩ = some (.int .i64 xs[k].o) ∧ w.cell? ⟨g, k * 3 + 1, none⟩ = some (.int .i64 xs[k].f) ∧ w.cell? ⟨g, k * 3 + 2, none⟩ = some (.int .i64 xs[k].t)) ∧
    (w.frozen? ⟨g, k * 3, none⟩ = false ∧ w.frozen? ⟨g, k * 3 + 1, none⟩ = false ∧ w.frozen? ⟨g, k * 3 + 2, none⟩ = false) :=
  ⟨⟨h.cell (j := 0) hk rfl, h.cell (j := 1) hk rfl, h.cell (j := 2) hk rfl⟩, h.free _, h.free _, h.free _⟩
theorem Own.dutySet {w : World} {base : Nat} {e : TypeId} {g n c : Nat} {xs : List Duty} (h : Own w base e (.slice (some ⟨g, 0, none⟩) n c) xs) {k : Nat} (hk : k < xs.length) (d : Duty) :
    Own (((w.setCell ⟨g, k * 3, none⟩ (.int .i64 d.o)).setCell ⟨g, k * 3 + 1, none⟩ (.int .i64 d.f)).setCell ⟨g, k * 3 + 2, none⟩ (.int .i64 d.t)) base e (.slice (some ⟨g, 0, none⟩) n c) (xs.set k d) := by
  have h1 := h.set (j := 0) (u := .int .i64 d.o) (y := ⟨d.o, xs[k].f, xs[k].t⟩) hk (by decide) rfl
  have h2 := h1.set (j := 1) (u := .int .i64 d.f) (y := ⟨d.o, d.f, xs[k].t⟩) (k := k) (by simpa using hk) (by decide) (by simp [Enc.enc])
  have h3 := h2.set (j := 2) (u := .int .i64 d.t) (y := d) (k := k) (by simpa using hk) (by decide) (by simp [Enc.enc])
  simp only [List.set_set] at h3
  exact h3

theorem set_step {α : Type} {xs : List α} {n k : Nat} {z : α} (hn : n = xs.length) (hk : k < xs.length) : (xs.take k ++ List.replicate (n - k) z).set k xs[k] = xs.take (k + 1) ++ List.replicate (n - (k + 1)) z := by
  have hl : (xs.take k).length = k := by rw [List.length_take]; omega
  rw [List.set_append_right _ _ (by omega), hl, Nat.sub_self, List.take_succ_eq_append_getElem hk, List.append_assoc]
  have : n - k = (n - (k + 1)) + 1 := by omega
  rw [this, List.replicate_succ]
  simp

set_option maxHeartbeats 400000 in
theorem toDutyS (A : Option Addr) (xs : List Duty) (c : Nat) (w : World) (hx : Rd w A xs) :
    Calls Try.prog 15 #[.slice A xs.length c] w fun e w' => ∃ v, e = .returned v ∧ Own w' w.heap.size 56 v xs ∧ Below w.heap.size w w' := by
  have hn := hx.len
  go_enter Try.func15, Try.ntmps15
  go_wp2_with (at_make; refine wpList_make' elDuty _ rfl _ _ rfl w.heap.size .i64 .i64 _ _ xs.length rfl rfl rfl rfl hn (Nat.le_refl _) ?_; intro w1 hown hb1)
  go_loopw [4] (fun i wr => ∃ k : Nat, k ≤ xs.length ∧ i = .int .i64 k ∧ Own wr w.heap.size 56 (.slice (some ⟨w.heap.size, 0, none⟩) xs.length xs.length) (xs.take k ++ List.replicate (xs.length - k) ⟨0, 0, 0⟩) ∧ Below w.heap.size w wr) (fun i _ => xs.length - (intOf i).toNat)
  case atStart => exact ⟨0, Nat.zero_le _, rfl, by simpa using hown, hb1⟩
  case round =>
    obtain ⟨k, hk, rfl, hown, hb⟩ := hrel
    clear hb1
    by_cases hlt : k < xs.length
    · obtain ⟨b, off, rfl, c1, c2, c3⟩ := (hx.below hb).duty hlt
      have hk' : k < (xs.take k ++ List.replicate (xs.length - k) (⟨0, 0, 0⟩ : Duty)).length := by simp; omega
      clear hx
      go_wp2_with fail
      refine (toDuty _ _ _ _).mono ?_
      rintro e w2 ⟨rfl, hb2⟩
      obtain ⟨y, rfl⟩ := below_ex hb2
      have hown2 := hown.more (x := y)
      obtain ⟨⟨d1, d2, d3⟩, f1, f2, f3⟩ := hown2.duty hk'
      have hown3 := hown2.dutySet hk' xs[k]
      rw [set_step rfl hlt] at hown3
      have HO := hid hown3
      clear hown hown2 hown3
      go_wp2
      go_roundw
      case rel => exact ⟨k + 1, by omega, by go_num, HO.out, (((below_go hb hb.size).setCell (Nat.le_refl _) _).setCell (Nat.le_refl _) _).setCell (Nat.le_refl _) _⟩
      case measure => simp [intOf]; omega
    · go_wp2
      go_ret
      refine ⟨_, rfl, ?_, hb⟩
      rw [List.take_of_length_le (by omega), Nat.sub_eq_zero_of_le (by omega)] at hown
      simpa using hown
end Go.Proofs.Ytjamkomgdfgmlaa
