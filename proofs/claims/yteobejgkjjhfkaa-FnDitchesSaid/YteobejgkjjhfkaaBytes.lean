/- An argument that is a slice of bytes, opened. -/
import Derived.Test.YteobejgkjjhfkaaSrc
import Derived.Test.YteobejgkjjhfkaaLaw
namespace Go.Proofs.Yteobejgkjjhfkaa
open Go.ChangeShapes Go.WideShapes Go.ChangeAt Go.RowKit Go.Deep
set_option linter.unusedVariables false
structure ArgB (W : World) (A : Option Addr) (n : Nat) : Prop where
  rd : n ≤ 1048576 → ∃ bs : List Byt, bs.length = n ∧ Rd W A bs ∧ BytOk bs
theorem byt_range {n : Int} (h : (Lit.int .u8 n).wf = true) : 0 ≤ n ∧ n ≤ 255 := by
  simpa [Lit.wf, IntKind.min, IntKind.max, IntKind.signed, IntKind.bits] using h
theorem argB_of_cells {W : World} {a : Addr} {len : Nat}
    (hc : ∀ i, i < len → ∃ z : Int, W.cell? (a.add i) = some (.int .u8 z) ∧ (Lit.int .u8 z).wf = true) : ArgB W (some a) len := by
  refine ⟨fun hl => arg_elems (p := fun b : Byt => 0 ≤ b.n ∧ b.n ≤ 255) (by decide) hl fun i hi => ?_⟩
  obtain ⟨z, hz, hw⟩ := hc i hi
  refine ⟨⟨z⟩, byt_range hw, fun j v hv => ?_⟩
  have hj : j = 0 := by
    have := (List.getElem?_eq_some_iff.1 hv).1
    rw [Enc.len] at this
    simpa [Enc.size] using this
  subst hj
  have hv2 : some (Value.int .u8 z) = some v := hv
  injection hv2 with hv2
  subst hv2
  simpa [Enc.size] using hz
theorem argB_nil {W : World} : ArgB W none 0 := ⟨fun _ => ⟨[], rfl, Rd.nil, fun x hx => absurd hx (by simp)⟩⟩
section
variable {H : Type} {enc : TypeId × Value → H} {P : Program} {W : World} {base b0 : Nat} {spare : Nat → Bool} {held : Bool} {r : Reach}
theorem open_bytes {t e : TypeId} {v : Value} {d : DataW H} {p : List MemPlace} (ht : P.underlying t = some (.slice e)) (he : P.underlying e = some (.int .u8)) (hC : P.cellsOf e = 1)
    (hv : Value.okWide P W r b0 t v) (h : DataW.Trod enc P W base spare held t v d p) : ∃ A n c, v = .slice A n c ∧ ArgB W A n := by
  obtain ⟨A, n, c, rfl⟩ := okWide_slice ht hv
  obtain ⟨fuel, h⟩ := h
  refine ⟨A, n, c, rfl, ?_⟩
  rcases open_slice ht h with ⟨h0, _⟩ | ⟨a, len, cap, m, n', D, Pl, hcs, hb, hl, hm, hmm, hx, hi⟩
  · simp [Value.cells] at h0
    obtain ⟨rfl, rfl, rfl⟩ := h0
    exact argB_nil
  · simp [Value.cells] at hcs
    obtain ⟨rfl, rfl, rfl⟩ := hcs
    refine argB_of_cells fun i hil => ?_
    obtain ⟨cs', hc, ht'⟩ := hi i (by rw [hmm]; split <;> omega)
    obtain ⟨_, hcl, hat⟩ := World.cells?_some hc
    obtain ⟨z, rfl, _, hz3⟩ := DataW.trod_int he ht'
    refine ⟨z, ?_, hz3⟩
    have := hat 0 (by omega)
    rw [add_add, hC] at this
    simpa using this
end
end Go.Proofs.Yteobejgkjjhfkaa
