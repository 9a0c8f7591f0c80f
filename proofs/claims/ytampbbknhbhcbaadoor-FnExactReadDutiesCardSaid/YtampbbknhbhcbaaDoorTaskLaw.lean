/- An argument that is a slice of tasks, opened. -/
import Derived.Test.YtampbbknhbhcbaaDoorTask
import Derived.Test.YtampbbknhbhcbaaDoorLaw
namespace Go.Proofs.YtampbbknhbhcbaaDoor
open Go.ChangeShapes Go.WideShapes Go.ChangeAt Go.RowKit Go.Deep
set_option linter.unusedVariables false
structure ArgT (W : World) (A : Option Addr) (n : Nat) : Prop where
  max : n ≤ maxLen
  rd : n ≤ 1048576 → ∃ ts : List TaskC, ts.length = n ∧ Rd W A ts ∧ ∀ t ∈ ts, (Arg Int W t.A t.n ∧ (-9223372036854775808 ≤ t.d ∧ t.d ≤ 9223372036854775807) ∧ (-9223372036854775808 ≤ t.c ∧ t.c ≤ 9223372036854775807) ∧ (-9223372036854775808 ≤ t.y ∧ t.y ≤ 9223372036854775807))
/-- The numbers of a task fit their kind; its inner slice is not too long. -/
def FitT (x : Task) : Prop := (-9223372036854775808 ≤ x.days ∧ x.days ≤ 9223372036854775807) ∧ (-9223372036854775808 ≤ x.cost ∧ x.cost ≤ 9223372036854775807) ∧ (-9223372036854775808 ≤ x.clay ∧ x.clay ≤ 9223372036854775807) ∧ x.after.length ≤ 1048576 ∧ Fits x.after
theorem tasks_of {W : World} {A : Option Addr} {ts : List TaskC} (h : Rd W A ts) (hi : ∀ t ∈ ts, (Arg Int W t.A t.n ∧ (-9223372036854775808 ≤ t.d ∧ t.d ≤ 9223372036854775807) ∧ (-9223372036854775808 ≤ t.c ∧ t.c ≤ 9223372036854775807) ∧ (-9223372036854775808 ≤ t.y ∧ t.y ≤ 9223372036854775807))) (hl : ∀ t ∈ ts, t.n ≤ 1048576) :
    ∃ xs : List Task, xs.length = ts.length ∧ RdT W A xs ∧ ∀ x ∈ xs, FitT x := by
  obtain ⟨xs, hx, hp⟩ := list_of (n := ts.length) (p := fun i (x : Task) => ∀ h : i < ts.length, (ts[i].d = x.days ∧ ts[i].c = x.cost ∧ ts[i].y = x.clay ∧ ts[i].n = x.after.length ∧ Rd W ts[i].A x.after) ∧ FitT x) fun i hi' => by
    obtain ⟨a1, a2, a3, a4⟩ := hi ts[i] (List.getElem_mem hi')
    obtain ⟨l, hl1, hl2, hl3⟩ := a1.rd (hl ts[i] (List.getElem_mem hi'))
    exact ⟨⟨ts[i].d, ts[i].c, ts[i].y, l⟩, fun _ => ⟨⟨rfl, rfl, rfl, hl1.symm, hl2⟩, a2, a3, a4, by have := hl ts[i] (List.getElem_mem hi'); simp only; omega, hl3⟩⟩
  refine ⟨xs, hx, ⟨ts, h, hx.symm, fun k h1 h2 => (hp k h2 h1).1⟩, fun x hmem => ?_⟩
  obtain ⟨k, hk, rfl⟩ := List.getElem_of_mem hmem
  exact (hp k hk (by omega)).2
section
variable {H : Type} {enc : TypeId × Value → H} {W : World} {base b0 : Nat} {spare : Nat → Bool} {held : Bool} {r : Reach}
end
end Go.Proofs.YtampbbknhbhcbaaDoor
