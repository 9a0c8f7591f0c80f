/- An argument that is a slice of tasks, opened. -/
import Derived.Test.YtdlddlgpaokgiaaTask
import Derived.Test.YtdlddlgpaokgiaaLaw
namespace Go.Proofs.Ytdlddlgpaokgiaa
open Go.ChangeShapes Go.WideShapes Go.ChangeAt Go.RowKit Go.Deep
set_option linter.unusedVariables false
structure ArgT (W : World) (A : Option Addr) (n : Nat) : Prop where
  max : n ≤ maxLen
  rd : n ≤ 1048576 → ∃ ts : List TaskC, ts.length = n ∧ Rd W A ts ∧ ∀ t ∈ ts, (Arg Int W t.A t.n ∧ (-9223372036854775808 ≤ t.d ∧ t.d ≤ 9223372036854775807) ∧ (-9223372036854775808 ≤ t.c ∧ t.c ≤ 9223372036854775807) ∧ (-9223372036854775808 ≤ t.y ∧ t.y ≤ 9223372036854775807))
/-- The numbers of a task fit their kind; its inner slice is not too long. -/
def FitT (x : Task) : Prop := (-9223372036854775808 ≤ x.days ∧ x.days ≤ 9223372036854775807) ∧ (-9223372036854775808 ≤ x.cost ∧ x.cost ≤ 9223372036854775807) ∧ (-9223372036854775808 ≤ x.clay ∧ x.clay ≤ 9223372036854775807) ∧ x.after.length ≤ 1048576 ∧ Fits x.after
theorem tasks_of {W : World} {A : Option Addr} {ts : List TaskC} (h : Rd W A ts) (hi : ∀ t ∈ ts, (Arg Int W t.A t.n ∧ (-9223372036854775808 ≤ t.d ∧ t.d ≤ 9223372036854775807) ∧ (-9223372036854775808 ≤ t.c ∧ t.c ≤ 9223372036854775807) ∧ (-9223372036854775808 ≤ t.y ∧ t.y ≤ 9223372036854775807))) (hl : ∀ t ∈ ts, t.n ≤ 1048576) :
    ∃ xs : List Task, xs.length = ts.length ∧ RdT W A xs ∧ ∀ x ∈ xs, FitT x := by
  obtain ⟨xs, hx, hp⟩ := list_of (n := ts.length) (p := fun i (x : Task) => ∀ h : i < ts.length, (ts[i].d = x.days ∧ ts[i].c = x.cost ∧ ts[i].y = x.clay ∧ ts[i].n = x.after.length ∧ Rd W ts[i].A x.after) ∧ FitT x) fun i hi' => by
    obtain ⟨a1, a2, a3, a4⟩ := hi ts[i] (List.getElem_mem hi')
    obtain ⟨l, hl1, hl2, hl3⟩ := a1.rd (hl ts[i] (List.getElem_mem hi'))
    exact ⟨⟨ts[i].d, ts[i].c, ts[i].y, l⟩, fun _ => ⟨⟨rfl, rfl, rfl, hl1.symm, hl2⟩, a2, a3, a4, by have := hl ts[i] (List.getElem_mem hi'); simp only; omega, hl3⟩⟩
  refine ⟨xs, hx, ⟨ts, h, hx.symm, fun k h1 h2 => (hp k h2 h1).1⟩, fun x hmem => ?_⟩
  obtain ⟨k, hk, rfl⟩ := List.getElem_of_mem hmem
  exact (hp k hk (by omega)).2
section
variable {H : Type} {enc : TypeId × Value → H} {W : World} {base b0 : Nat} {spare : Nat → Bool} {held : Bool} {r : Reach}
theorem open_tasks {v : Value} {d : DataW H} {p : List MemPlace} (hv : Value.okWide Try.prog W r b0 22 v) (h : DataW.Trod enc Try.prog W base spare held 22 v d p) :
    ∃ A n c, v = .slice A n c ∧ ArgT W A n := by
  obtain ⟨A, n, c, rfl⟩ := okWide_slice Try.underlying22 hv
  obtain ⟨fuel, h⟩ := h
  refine ⟨A, n, c, rfl, ?_⟩
  rcases open_slice Try.underlying22 h with ⟨h0, _⟩ | ⟨a, len, cap, m, n', D, Pl, hcs, hb, hl, hm, hmm, hx, hi⟩
  · simp [Value.cells] at h0
    obtain ⟨rfl, rfl, rfl⟩ := h0
    exact ⟨by simp [maxLen], fun _ => ⟨[], rfl, Rd.nil, fun t ht => absurd ht (by simp)⟩⟩
  · simp [Value.cells] at hcs
    obtain ⟨rfl, rfl, rfl⟩ := hcs
    refine ⟨by omega, fun hn => arg_elems (by decide) hn fun i hil => ?_⟩
    obtain ⟨cs', hc, ht'⟩ := hi i (by rw [hmm]; split <;> omega)
    obtain ⟨fs, hfs, hone, hsz, t0, t1, t2, t3⟩ : ∃ fs : Array Field, Try.prog.underlying 49 = some (.struct fs) ∧ oneCellFields Try.prog fs = true ∧ fs.size = 4 ∧ (fs[0]?.map (·.type)) = some 2 ∧ (fs[1]?.map (·.type)) = some 2 ∧ (fs[2]?.map (·.type)) = some 2 ∧ (fs[3]?.map (·.type)) = some 23 :=
      ⟨_, Try.underlying49, by kernel_rfl, rfl, rfl, rfl, rfl, rfl⟩
    obtain ⟨ys, n2, _, _, _, hyl, hfd⟩ := DataW.trod_struct hfs ht'
    obtain ⟨_, hcl, hat⟩ := World.cells?_some hc
    have hC : Try.prog.cellsOf 49 = 4 := by kernel_rfl
    have hI : Try.prog.cellsOf 2 = 1 := by kernel_rfl
    rw [hC] at hcl hat
    have key : ∀ j t, (fs[j]?.map (·.type)) = some t → DataW.trod enc Try.prog W base spare held n2 t ((cs'.drop j).take 1) = ys[j]? := by
      intro j t ht
      obtain ⟨f, hf, rfl⟩ := Option.map_eq_some_iff.1 ht
      obtain ⟨ho, hk⟩ := hone_of hone j f hf
      have := hfd j f hf
      rw [ho, hk] at this
      exact this
    have e0 := key 0 _ t0
    have e1 := key 1 _ t1
    have e2 := key 2 _ t2
    have e3 := key 3 _ t3
    rw [hsz] at hyl
    obtain ⟨c0, c1, c2, c3, rfl⟩ : ∃ c0 c1 c2 c3, cs' = [c0, c1, c2, c3] := by
      match cs', hcl with
      | [a, b, c, d], _ => exact ⟨a, b, c, d, rfl⟩
    simp at e0 e1 e2 e3
    have y0 : ∃ y, ys[0]? = some y := ⟨_, List.getElem?_eq_getElem (by omega)⟩
    have y1 : ∃ y, ys[1]? = some y := ⟨_, List.getElem?_eq_getElem (by omega)⟩
    have y2 : ∃ y, ys[2]? = some y := ⟨_, List.getElem?_eq_getElem (by omega)⟩
    have y3 : ∃ y, ys[3]? = some y := ⟨_, List.getElem?_eq_getElem (by omega)⟩
    obtain ⟨y0, hy0⟩ := y0
    obtain ⟨y1, hy1⟩ := y1
    obtain ⟨y2, hy2⟩ := y2
    obtain ⟨y3, hy3⟩ := y3
    obtain ⟨z0, hz0, _, w0⟩ := DataW.trod_int Try.underlying2 (e0.trans hy0)
    obtain ⟨z1, hz1, _, w1⟩ := DataW.trod_int Try.underlying2 (e1.trans hy1)
    obtain ⟨z2, hz2, _, w2⟩ := DataW.trod_int Try.underlying2 (e2.trans hy2)
    obtain ⟨P, k, q, rfl, ha⟩ := open_nums_cell Try.underlying23 Try.underlying2 hI (e3.trans hy3)
    simp at hz0 hz1 hz2
    subst hz0 hz1 hz2
    refine ⟨⟨z0, z1, z2, P, k, q⟩, ⟨ha, wf_range w0, wf_range w1, wf_range w2⟩, fun j v hv => ?_⟩
    have hj : j < 4 := by have := (List.getElem?_eq_some_iff.1 hv).1; simpa [Enc.enc] using this
    have := hat j hj
    rw [add_add] at this
    refine this.trans ?_
    rw [← hv]
    rfl
end
end Go.Proofs.Ytdlddlgpaokgiaa
