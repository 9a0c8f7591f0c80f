/- Bill: its cells, and the law's own comparison. -/
import Derived.Test.YtampbbknhbhcbaaDoorLaw
import Derived.Test.YtampbbknhbhcbaaDoorMarkInt
namespace Go.Proofs.YtampbbknhbhcbaaDoor
open Go.RowKit
structure Bill where
  o : Int
  d : Int
  a : Int
  p : Int
  deriving DecidableEq
instance : Enc Bill := ⟨4, fun d => [.int .i64 d.o, .int .i64 d.d, .int .i64 d.a, .int .i64 d.p], fun _ => rfl, fun _ u h => by simp at h; rcases h with rfl | rfl | rfl | rfl <;> rfl⟩
theorem Rd.bill {w : World} {A : Option Addr} {xs : List Bill} (h : Rd w A xs) {k : Nat} (hk : k < xs.length) : ∃ b off, A = some ⟨b, off, none⟩ ∧
    w.cell? ⟨b, off + k * 4, none⟩ = some (.int .i64 xs[k].o) ∧ w.cell? ⟨b, off + k * 4 + 1, none⟩ = some (.int .i64 xs[k].d) ∧ w.cell? ⟨b, off + k * 4 + 2, none⟩ = some (.int .i64 xs[k].a) ∧ w.cell? ⟨b, off + k * 4 + 3, none⟩ = some (.int .i64 xs[k].p) := by
  obtain ⟨b, off, hA, hc⟩ := h.2 k hk
  exact ⟨b, off, hA, hc 0 _ rfl, hc 1 _ rfl, hc 2 _ rfl, hc 3 _ rfl⟩
theorem guardBill : Tryd.prog.eqGuardType Tryd.prog.depth 34 = false := by kernel_rfl
theorem stoodBill : Tryd.prog.stoodInHeld 34 = false := by kernel_rfl
theorem fieldsBill : Tryd.prog.underlying 34 = some (.struct (Tryd.prog.fieldsOf 34)) := by kernel_rfl
attribute [go_sem] guardBill
theorem bill_beq (d e : Bill) : (d == e) = (d.o == e.o && d.d == e.d && d.a == e.a && d.p == e.p) := by
  rw [Bool.eq_iff_iff]
  cases d; cases e; simp [and_assoc]
@[go_sem ↓] theorem neqBill (a0 b0 c0 d0 a1 b1 c1 d1 : Int) (w : World) : (binOp .neq 34 (.agg #[.int .i64 a0, .int .i64 b0, .int .i64 c0, .int .i64 d0]) (.agg #[.int .i64 a1, .int .i64 b1, .int .i64 c1, .int .i64 d1])).run Tryd.prog w = .ok (.bool (!((⟨a0, b0, c0, d0⟩ : Bill) == ⟨a1, b1, c1, d1⟩))) w := by
  rw [run_neq_struct, run_equalIn_struct _ _ _ _ _ fieldsBill stoodBill]
  simp [go_sem, Tryd.underlying34]
  by_cases h0 : a0 = a1 <;> by_cases h1 : b0 = b1 <;> by_cases h2 : c0 = c1 <;> by_cases h3 : d0 = d1 <;> simp [h0, h1, h2, h3]
set_option maxHeartbeats 400000 in
theorem eqBill (a0 b0 c0 d0 a1 b1 c1 d1 : Int) (w : World) :
    Calls Tryd.prog 19 #[.agg #[.int .i64 a0, .int .i64 b0, .int .i64 c0, .int .i64 d0], .agg #[.int .i64 a1, .int .i64 b1, .int .i64 c1, .int .i64 d1]] w fun e w' => e = .returned (.bool ((⟨a0, b0, c0, d0⟩ : Bill) == ⟨a1, b1, c1, d1⟩)) ∧ Below w.heap.size w w' := by
  have hb : ∀ o1 o2, Below w.heap.size w ((w.alloc o1).alloc o2) := fun _ _ => ((Below.refl _ _).alloc (Nat.le_refl _) _).alloc (by simp) _
  have HB := hid hb
  clear hb
  rw [bill_beq]
  go_enter Tryd.func19, Tryd.ntmps19
  go_wp2
  all_goals
    go_ret
    exact ⟨ret_bool (by simp_all), HB.out _ _⟩
end Go.Proofs.YtampbbknhbhcbaaDoor
