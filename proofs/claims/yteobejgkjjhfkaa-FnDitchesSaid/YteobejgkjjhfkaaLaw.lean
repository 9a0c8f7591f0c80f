/- How a law's row is closed: arguments opened, the run's end shut again. -/
import Derived.Test.YteobejgkjjhfkaaOwn
import Derived.ProofKit
import Derived.OpenShut
import Derived.Deep.Slices
import Derived.Deep.Fields
namespace Go.Proofs.Yteobejgkjjhfkaa
open Go.ChangeShapes Go.WideShapes Go.ChangeAt Go.RowKit Go.Deep

theorem ownLaw : ownKnob Try.prog.godebug = none := by kernel_rfl
theorem laidLaw : laidOutB Try.prog = true := by kernel_rfl

section
variable {H : Type} {enc : TypeId × Value → H} {P : Program} {W W' : World}
theorem trodAll_below (hl : laidOutB P = true) (hb : Below W.heap.size W W') : ∀ (ts : List TypeId) (vs : List Value) (ds : List (DataW H)) (p : List MemPlace), (ts.all fun t => P.readableRec t && decide (t < P.types.size)) = true →
    DataW.TrodAll enc P W 0 (fun _ => true) true ts vs ds p → (∀ x ∈ p, x.block < W.heap.size) → DataW.TrodAll enc P W' 0 (fun b => decide (b < W.heap.size)) true ts vs ds p
  | [], vs, ds, p, _, h, _ => by
    obtain ⟨rfl, rfl, rfl⟩ := trodAll_nil h
    exact trodAll_mk0
  | t :: ts, vs, ds, p, ht, h, hlt => by
    obtain ⟨v, vs', d, ds', q, r, rfl, rfl, rfl, h0, h1⟩ := trodAll_cons h
    simp only [List.all_cons, Bool.and_eq_true, decide_eq_true_eq] at ht
    exact trodAll_cons_mk (Below.trod hl ht.1.1 ht.1.2 h0 hb fun x hx => hlt x (by simp [hx])) (trodAll_below hl hb ts vs' ds' r ht.2 h1 fun x hx => hlt x (by simp [hx]))

theorem law_close {F : Func} {s : ChangeSpec} {args : Array Value} {ds gs : List (DataW H)} {before : List MemPlace} {B : TypeId} (hl : laidOutB P = true) (hts : (F.params.toList.all fun t => P.readableRec t && decide (t < P.types.size)) = true)
    (hvars : s.vars = []) (hres : F.resultTypes = #[B]) (hB : P.underlying B = some .bool) (hW : DataW.Whole enc P F.params.toList s.vars false W args.toList ds gs before)
    (h1 : (s.fn H (ds ++ gs)).results = [.lit (.bool true)]) (h2 : (s.fn H (ds ++ gs)).args = ds) (h3 : (s.fn H (ds ++ gs)).vars = []) (hb : Below W.heap.size W W') :
    s.post enc P F false true false false W args (.bool true) W' := by
  have hlt := hW.lt
  obtain ⟨p, q, hA, hV, rfl, _, _⟩ := id hW
  rw [hvars] at hV
  obtain ⟨rfl, rfl⟩ := trodVars_none hV
  refine ⟨_, _, _, [], p, [], hW, ?_, ?_, ?_, hb.frame _, fun h => by cases h⟩
  · rw [h1, hres]
    exact trodAll_mk1 (shut_bool hB true)
  · rw [h2]
    exact trodAll_below hl hb _ _ _ _ hts hA fun x hx => hlt x (by simp [hx])
  · rw [h3, hvars]
    rfl
end

theorem list_of {α : Type} {n : Nat} {p : Nat → α → Prop} (h : ∀ i, i < n → ∃ x, p i x) : ∃ xs : List α, xs.length = n ∧ ∀ i, (hi : i < xs.length) → p i xs[i] := by
  induction n with
  | zero => exact ⟨[], rfl, fun i hi => absurd hi (by simp)⟩
  | succ n ih =>
    obtain ⟨xs, hl, hx⟩ := ih fun i hi => h i (by omega)
    obtain ⟨x, hp⟩ := h n (by omega)
    refine ⟨xs ++ [x], by simp [hl], fun i hi => ?_⟩
    by_cases hi' : i < xs.length
    · rw [List.getElem_append_left hi']; exact hx i hi'
    · have : i = n := by simp at hi; omega
      subst this
      rw [List.getElem_append_right (by omega)]
      simpa [hl] using hp

/-- The numbers of the elements fit their kind. -/
def Fits {α : Type} [Enc α] (xs : List α) : Prop := ∀ x ∈ xs, ∀ u, Value.int .i64 u ∈ Enc.enc x → -9223372036854775808 ≤ u ∧ u ≤ 9223372036854775807
/-- An element is made of whole numbers alone, whichever. -/
class OfInts (α : Type) [Enc α] : Prop where
  dec : ∀ g : Nat → Int, ∃ x : α, ∀ j, j < Enc.size α → (Enc.enc x)[j]? = some (.int .i64 (g j))
instance : OfInts Int := ⟨fun g => ⟨g 0, fun j hj => by have : j = 0 := by simpa [Enc.size] using hj
                                                        subst this; rfl⟩⟩
theorem wf_range {n : Int} (h : (Lit.int .i64 n).wf = true) : -9223372036854775808 ≤ n ∧ n ≤ 9223372036854775807 := by
  simpa [Lit.wf, IntKind.min, IntKind.max, IntKind.signed, IntKind.bits] using h

section
variable {H : Type} {enc : TypeId × Value → H} {P : Program} {W : World} {base b0 : Nat} {spare : Nat → Bool} {held : Bool} {r : Reach} {α : Type} [Enc α] [OfInts α]
/-- What is known of an argument that is a slice. -/
structure Arg (α : Type) [Enc α] (W : World) (A : Option Addr) (n : Nat) : Prop where
  max : n ≤ maxLen
  rd : n ≤ 1048576 → ∃ xs : List α, xs.length = n ∧ Rd W A xs ∧ Fits xs
theorem arg_of_cells {a : Addr} {len : Nat} (hm : len ≤ maxLen) (hpos : 0 < Enc.size α)
    (hc : ∀ i, i < len → ∃ g : Nat → Int, ∀ j, j < Enc.size α → W.cell? (a.add (i * Enc.size α + j)) = some (.int .i64 (g j)) ∧ (Lit.int .i64 (g j)).wf = true) : Arg α W (some a) len := by
  refine ⟨hm, fun hl => ?_⟩
  obtain ⟨xs, hxl, hx⟩ := list_of (α := α) (p := fun i x => ∀ j v, (Enc.enc x)[j]? = some v → W.cell? (a.add (i * Enc.size α + j)) = some v ∧ ∃ n, v = .int .i64 n ∧ (Lit.int .i64 n).wf = true) fun i hi => by
    obtain ⟨g, hg⟩ := hc i hi
    obtain ⟨x, hx⟩ := OfInts.dec (α := α) g
    refine ⟨x, fun j v hv => ?_⟩
    have hj : j < Enc.size α := by
      have := (List.getElem?_eq_some_iff.1 hv).1
      rwa [Enc.len] at this
    rw [hx j hj] at hv
    injection hv with hv
    subst hv
    exact ⟨(hg j hj).1, g j, rfl, (hg j hj).2⟩
  refine ⟨xs, hxl, ⟨by omega, fun k hk => ?_⟩, fun x hmem u hu => ?_⟩
  · have hspot : a.spot = none := by
      obtain ⟨g, hg⟩ := hc 0 (by omega)
      have h0 := (hg 0 hpos).1
      rw [Nat.zero_mul, Nat.zero_add] at h0
      have : a.add 0 = a := by simp [Addr.add]
      rw [this] at h0
      cases hs : a.spot with
      | none => rfl
      | some s =>
        exfalso
        unfold World.cell? at h0
        rw [hs] at h0
        split at h0 <;> simp at h0
    obtain ⟨b, off, sp⟩ := a
    simp only at hspot
    subst hspot
    refine ⟨b, off, rfl, fun j v hv => ?_⟩
    have := (hx k hk j v hv).1
    rw [← this]
    congr 1
    unfold Addr.add
    split <;> simp_all
  · obtain ⟨i, hi, rfl⟩ := List.getElem_of_mem hmem
    obtain ⟨j, hj, hje⟩ := List.getElem_of_mem hu
    obtain ⟨_, n, hn, hwf⟩ := hx i hi j (.int .i64 u) (by rw [List.getElem?_eq_getElem hj, hje])
    injection hn with _ hn
    subst hn
    exact wf_range hwf
omit [OfInts α] in
theorem arg_nil : Arg α W none 0 := ⟨by simp [maxLen], fun _ => ⟨[], rfl, Rd.nil, fun x hx => absurd hx (by simp)⟩⟩

/-- []T, T a struct of whole numbers. -/
theorem open_structs {t e : TypeId} {fs : Array Field} {v : Value} {d : DataW H} {p : List MemPlace} (ht : P.underlying t = some (.slice e)) (he : P.underlying e = some (.struct fs)) (hone : oneCellFields P fs = true) (hC : P.cellsOf e = fs.size)
    (hsz : fs.size = Enc.size α) (hpos : 0 < Enc.size α) (hf : (fs.all fun f => P.underlying f.type matches some (.int .i64)) = true) (hv : Value.okWide P W r b0 t v) (h : DataW.Trod enc P W base spare held t v d p) :
    ∃ A n c, v = .slice A n c ∧ Arg α W A n := by
  obtain ⟨A, n, c, rfl⟩ := okWide_slice ht hv
  obtain ⟨fuel, h⟩ := h
  refine ⟨A, n, c, rfl, ?_⟩
  rcases open_slice ht h with ⟨h0, _⟩ | ⟨a, len, cap, m, n', D, Pl, hcs, hb, hl, hm, hmm, hx, hi⟩
  · simp [Value.cells] at h0
    obtain ⟨rfl, rfl, rfl⟩ := h0
    exact arg_nil
  · simp [Value.cells] at hcs
    obtain ⟨rfl, rfl, rfl⟩ := hcs
    refine arg_of_cells (by omega) hpos fun i hil => ?_
    obtain ⟨cs', hc, ht'⟩ := hi i (by rw [hmm]; split <;> omega)
    obtain ⟨ys, n2, _, _, _, hyl, hfd⟩ := DataW.trod_struct he ht'
    obtain ⟨_, hcl, hat⟩ := World.cells?_some hc
    have key : ∀ j, j < Enc.size α → ∃ z : Int, W.cell? (a.add (i * Enc.size α + j)) = some (.int .i64 z) ∧ (Lit.int .i64 z).wf = true := fun j hj => by
      have hj' : j < fs.size := by omega
      have h1 := hfd j fs[j] (Array.getElem?_eq_getElem hj')
      obtain ⟨ho, hk⟩ := hone_of hone j fs[j] (Array.getElem?_eq_getElem hj')
      rw [ho, hk] at h1
      have hjc : j < cs'.length := by omega
      have hone' : (cs'.drop j).take 1 = [cs'[j]] := by
        rw [List.drop_eq_getElem_cons hjc]
        rfl
      rw [hone'] at h1
      have hu : P.underlying fs[j].type = some (.int .i64) := by
        have := (Array.all_eq_true.1 hf) j hj'
        revert this
        generalize P.underlying fs[j].type = o
        intro this
        split at this
        · rfl
        · simp at this
      obtain ⟨z, hz1, _, hz3⟩ := DataW.trod_int hu (h1.trans (List.getElem?_eq_getElem (show j < ys.length by omega)))
      refine ⟨z, ?_, hz3⟩
      have := hat j (by omega)
      rw [add_add, hC, hsz] at this
      rw [this, List.getElem?_eq_getElem hjc]
      injection hz1 with hz1
      rw [hz1]
    obtain ⟨g, hg⟩ := choose_lt key
    exact ⟨g, hg⟩
end
section
variable {H : Type} {enc : TypeId × Value → H} {P : Program} {W : World} {base b0 : Nat} {spare : Nat → Bool} {held : Bool} {r : Reach}
/-- []int64. -/
theorem open_nums {t e : TypeId} {v : Value} {d : DataW H} {p : List MemPlace} (ht : P.underlying t = some (.slice e)) (he : P.underlying e = some (.int .i64)) (hC : P.cellsOf e = 1)
    (hv : Value.okWide P W r b0 t v) (h : DataW.Trod enc P W base spare held t v d p) : ∃ A n c, v = .slice A n c ∧ Arg Int W A n := by
  obtain ⟨A, n, c, rfl⟩ := okWide_slice ht hv
  obtain ⟨fuel, h⟩ := h
  refine ⟨A, n, c, rfl, ?_⟩
  rcases open_slice ht h with ⟨h0, _⟩ | ⟨a, len, cap, m, n', D, Pl, hcs, hb, hl, hm, hmm, hx, hi⟩
  · simp [Value.cells] at h0
    obtain ⟨rfl, rfl, rfl⟩ := h0
    exact arg_nil
  · simp [Value.cells] at hcs
    obtain ⟨rfl, rfl, rfl⟩ := hcs
    refine arg_of_cells (by omega) (by decide) fun i hil => ?_
    obtain ⟨cs', hc, ht'⟩ := hi i (by rw [hmm]; split <;> omega)
    obtain ⟨_, hcl, hat⟩ := World.cells?_some hc
    obtain ⟨z, rfl, _, hz3⟩ := DataW.trod_int he ht'
    refine ⟨fun _ => z, fun j hj => ?_⟩
    have hj0 : j = 0 := by simpa [Enc.size] using hj
    subst hj0
    have := hat 0 (by omega)
    rw [add_add, hC] at this
    exact ⟨this, hz3⟩
end
section
variable {H : Type} {enc : TypeId × Value → H} {P : Program} {W : World} {base b0 : Nat} {spare : Nat → Bool} {held : Bool} {r : Reach}
/-- []int64, one cell of something greater. -/
theorem open_nums_cell {t e : TypeId} {fuel : Nat} {v : Value} {x : DataW H × List MemPlace} (ht : P.underlying t = some (.slice e)) (he : P.underlying e = some (.int .i64)) (hC : P.cellsOf e = 1)
    (h : DataW.trod enc P W base spare held fuel t [v] = some x) : ∃ A n c, v = .slice A n c ∧ Arg Int W A n := by
  rcases open_slice ht h with ⟨h0, _⟩ | ⟨a, len, cap, m, n', D, Pl, hcs, hb, hl, hm, hmm, hx, hi⟩
  · simp at h0
    subst h0
    exact ⟨_, _, _, rfl, arg_nil⟩
  · simp at hcs
    subst hcs
    refine ⟨_, _, _, rfl, arg_of_cells (by omega) (by decide) fun i hil => ?_⟩
    obtain ⟨cs', hc, ht'⟩ := hi i (by rw [hmm]; split <;> omega)
    obtain ⟨_, hcl, hat⟩ := World.cells?_some hc
    obtain ⟨z, rfl, _, hz3⟩ := DataW.trod_int he ht'
    refine ⟨fun _ => z, fun j hj => ?_⟩
    have hj0 : j = 0 := by simpa [Enc.size] using hj
    subst hj0
    have := hat 0 (by omega)
    rw [add_add, hC] at this
    exact ⟨this, hz3⟩
/-- The cells of a slice, element by element: 'p' is what is known of an element. -/
theorem arg_elems {α : Type} [Enc α] {a : Addr} {len : Nat} {p : α → Prop} (hpos : 0 < Enc.size α) (hl : len ≤ 1048576)
    (hc : ∀ i, i < len → ∃ x : α, p x ∧ ∀ j v, (Enc.enc x)[j]? = some v → W.cell? (a.add (i * Enc.size α + j)) = some v) : ∃ xs : List α, xs.length = len ∧ Rd W (some a) xs ∧ ∀ x ∈ xs, p x := by
  obtain ⟨xs, hxl, hx⟩ := list_of hc
  refine ⟨xs, hxl, ⟨by omega, fun k hk => ?_⟩, fun x hmem => ?_⟩
  · have hspot : a.spot = none := by
      have h0 := (hx 0 (by omega)).2 0 _ (List.getElem?_eq_getElem (by rw [Enc.len]; exact hpos))
      rw [Nat.zero_mul, Nat.zero_add] at h0
      have : a.add 0 = a := by simp [Addr.add]
      rw [this] at h0
      cases hs : a.spot with
      | none => rfl
      | some s =>
        exfalso
        unfold World.cell? at h0
        rw [hs] at h0
        split at h0 <;> simp at h0
    obtain ⟨b, off, sp⟩ := a
    simp only at hspot
    subst hspot
    refine ⟨b, off, rfl, fun j v hv => ?_⟩
    rw [← (hx k hk).2 j v hv, addr_add]
  · obtain ⟨i, hi, rfl⟩ := List.getElem_of_mem hmem
    exact (hx i hi).1
end
end Go.Proofs.Yteobejgkjjhfkaa
