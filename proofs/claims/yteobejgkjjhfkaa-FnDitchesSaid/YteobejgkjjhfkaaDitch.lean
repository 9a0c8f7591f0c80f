/- Ditch: what a slice of them is in cells, and what the law's own helpers make of it. Written by a program (genstruct.py). -/
import Derived.Test.YteobejgkjjhfkaaLaw
import Derived.Test.YteobejgkjjhfkaaMarkInt
namespace Go.Proofs.Yteobejgkjjhfkaa
open Go.RowKit
structure Ditch where
  a : Int
  b : Int
  c : Int
  deriving DecidableEq
instance : Enc Ditch := ⟨3, fun d => [.int .i64 d.a, .int .i64 d.b, .int .i64 d.c], fun _ => rfl, fun _ u h => by simp at h; rcases h with rfl | rfl | rfl <;> rfl⟩
theorem Rd.ditch {w : World} {A : Option Addr} {xs : List Ditch} (h : Rd w A xs) {k : Nat} (hk : k < xs.length) : ∃ b off, A = some ⟨b, off, none⟩ ∧
    w.cell? ⟨b, off + k * 3, none⟩ = some (.int .i64 xs[k].a) ∧ w.cell? ⟨b, off + k * 3 + 1, none⟩ = some (.int .i64 xs[k].b) ∧ w.cell? ⟨b, off + k * 3 + 2, none⟩ = some (.int .i64 xs[k].c) := by
  obtain ⟨b, off, hA, hc⟩ := h.2 k hk
  exact ⟨b, off, hA, hc 0 _ rfl, hc 1 _ rfl, hc 2 _ rfl⟩
theorem guardDitch : Try.prog.eqGuardType Try.prog.depth 139 = false := by kernel_rfl
theorem stoodDitch : Try.prog.stoodInHeld 139 = false := by kernel_rfl
theorem fieldsDitch : Try.prog.underlying 139 = some (.struct (Try.prog.fieldsOf 139)) := by kernel_rfl
attribute [go_sem] guardDitch
theorem ditch_beq (d e : Ditch) : (d == e) = (d.a == e.a && d.b == e.b && d.c == e.c) := by
  rw [Bool.eq_iff_iff]
  cases d; cases e; simp [and_assoc]
@[go_sem ↓] theorem neqDitch (a0 b0 c0 a1 b1 c1 : Int) (w : World) : (binOp .neq 139 (.agg #[.int .i64 a0, .int .i64 b0, .int .i64 c0]) (.agg #[.int .i64 a1, .int .i64 b1, .int .i64 c1])).run Try.prog w = .ok (.bool (!((⟨a0, b0, c0⟩ : Ditch) == ⟨a1, b1, c1⟩))) w := by
  rw [run_neq_struct, run_equalIn_struct _ _ _ _ _ fieldsDitch stoodDitch]
  simp [go_sem, Try.underlying139]
  by_cases h0 : a0 = a1 <;> by_cases h1 : b0 = b1 <;> by_cases h2 : c0 = c1 <;> simp [h0, h1, h2]
theorem elDitch : El Try.prog 59 139 (⟨0, 0, 0⟩ : Ditch) :=
  El.mk' (z := .agg #[.int .i64 0, .int .i64 0, .int .i64 0]) (bytes := 24) Try.underlying59 (by kernel_rfl) (by decide) rfl (by decide)
instance : OfInts Ditch := ⟨fun g => ⟨⟨g 0, g 1, g 2⟩, fun j hj => by
  have : j = 0 ∨ j = 1 ∨ j = 2 := by have : j < 3 := hj; omega
  rcases this with rfl | rfl | rfl <;> rfl⟩⟩
theorem Own.ditch {w : World} {base : Nat} {e : TypeId} {g n c : Nat} {xs : List Ditch} (h : Own w base e (.slice (some ⟨g, 0, none⟩) n c) xs) {k : Nat} (hk : k < xs.length) :
    (w.cell? ⟨g, k * 3, none⟩ = some (.int .i64 xs[k].a) ∧ w.cell? ⟨g, k * 3 + 1, none⟩ = some (.int .i64 xs[k].b) ∧ w.cell? ⟨g, k * 3 + 2, none⟩ = some (.int .i64 xs[k].c)) ∧
    (w.frozen? ⟨g, k * 3, none⟩ = false ∧ w.frozen? ⟨g, k * 3 + 1, none⟩ = false ∧ w.frozen? ⟨g, k * 3 + 2, none⟩ = false) :=
  ⟨⟨h.cell (j := 0) hk rfl, h.cell (j := 1) hk rfl, h.cell (j := 2) hk rfl⟩, h.free _, h.free _, h.free _⟩
theorem Own.ditchSet {w : World} {base : Nat} {e : TypeId} {g n c : Nat} {xs : List Ditch} (h : Own w base e (.slice (some ⟨g, 0, none⟩) n c) xs) {k : Nat} (hk : k < xs.length) (d : Ditch) :
    Own (((w.setCell ⟨g, k * 3, none⟩ (.int .i64 d.a)).setCell ⟨g, k * 3 + 1, none⟩ (.int .i64 d.b)).setCell ⟨g, k * 3 + 2, none⟩ (.int .i64 d.c)) base e (.slice (some ⟨g, 0, none⟩) n c) (xs.set k d) := by
  have h1 := h.set (j := 0) (u := .int .i64 d.a) (y := ⟨d.a, xs[k].b, xs[k].c⟩) (k := k) (by simpa using hk) (by decide) (by simp [Enc.enc])
  have h2 := h1.set (j := 1) (u := .int .i64 d.b) (y := ⟨d.a, d.b, xs[k].c⟩) (k := k) (by simpa using hk) (by decide) (by simp [Enc.enc])
  have h3 := h2.set (j := 2) (u := .int .i64 d.c) (y := d) (k := k) (by simpa using hk) (by decide) (by simp [Enc.enc])
  simp only [List.set_set] at h3
  exact h3
theorem Own.ditch_a {w : World} {base : Nat} {e : TypeId} {g n c : Nat} {xs : List Ditch} (h : Own w base e (.slice (some ⟨g, 0, none⟩) n c) xs) {k : Nat} (hk : k < xs.length) (z : Int) :
    Own (w.setCell ⟨g, k * 3, none⟩ (.int .i64 z)) base e (.slice (some ⟨g, 0, none⟩) n c) (xs.set k { xs[k] with a := z }) :=
  h.set (j := 0) hk (by decide) rfl
theorem Own.ditch_b {w : World} {base : Nat} {e : TypeId} {g n c : Nat} {xs : List Ditch} (h : Own w base e (.slice (some ⟨g, 0, none⟩) n c) xs) {k : Nat} (hk : k < xs.length) (z : Int) :
    Own (w.setCell ⟨g, k * 3 + 1, none⟩ (.int .i64 z)) base e (.slice (some ⟨g, 0, none⟩) n c) (xs.set k { xs[k] with b := z }) :=
  h.set (j := 1) hk (by decide) rfl
theorem Own.ditch_c {w : World} {base : Nat} {e : TypeId} {g n c : Nat} {xs : List Ditch} (h : Own w base e (.slice (some ⟨g, 0, none⟩) n c) xs) {k : Nat} (hk : k < xs.length) (z : Int) :
    Own (w.setCell ⟨g, k * 3 + 2, none⟩ (.int .i64 z)) base e (.slice (some ⟨g, 0, none⟩) n c) (xs.set k { xs[k] with c := z }) :=
  h.set (j := 2) hk (by decide) rfl

end Go.Proofs.Yteobejgkjjhfkaa
