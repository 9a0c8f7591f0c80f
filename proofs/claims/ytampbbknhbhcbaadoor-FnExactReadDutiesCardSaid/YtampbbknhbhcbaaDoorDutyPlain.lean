/- The plain mathematics of duties: no program in sight. -/
import Derived.Test.YtampbbknhbhcbaaDoorDutySame
import Derived.Test.YtampbbknhbhcbaaDoorIn
namespace Go.Proofs.YtampbbknhbhcbaaDoor
open Go.RowKit
set_option linter.unusedVariables false
/-- What the program asks. -/
def vdB : Int → List Duty → Bool
  | _, [] => true
  | a, d :: r => inB d.o 0 39 && d.f == a && decide (d.f < d.t) && vdB d.t r
/-- Where the duties end. -/
def endB : Int → List Duty → Int
  | a, [] => a
  | _, d :: r => endB d.t r
def validB (xs : List Duty) (len : Int) : Bool := inB len 1 300000 && decide (1 ≤ xs.length) && decide (xs.length ≤ 40) && endB 0 xs == len && vdB 0 xs
/-- What the reference asks. -/
def okB (len : Int) : Int → List Duty → Bool
  | _, [] => true
  | a, d :: r => inB d.o 0 39 && d.f == a && inB d.t (wrap64 (a + 1)) len && okB len d.t r
theorem endB_snoc (a : Int) (xs : List Duty) (d : Duty) : endB a (xs ++ [d]) = d.t := by
  induction xs generalizing a with
  | nil => rfl
  | cons x xs ih => exact ih x.t
theorem endB_last (xs : List Duty) (a : Int) (h : xs.length - 1 < xs.length) : endB a xs = xs[xs.length - 1].t := by
  rcases List.eq_nil_or_concat xs with rfl | ⟨ys, y, rfl⟩
  · simp at h
  · simp [endB_snoc]
theorem vdB_snoc (a : Int) (xs : List Duty) (d : Duty) : vdB a (xs ++ [d]) = (vdB a xs && (inB d.o 0 39 && d.f == endB a xs && decide (d.f < d.t))) := by
  induction xs generalizing a with
  | nil => simp [vdB, endB]
  | cons x xs ih => simp [vdB, endB, ih, Bool.and_assoc]
theorem okB_snoc (len a : Int) (xs : List Duty) (d : Duty) : okB len a (xs ++ [d]) = (okB len a xs && (inB d.o 0 39 && d.f == endB a xs && inB d.t (wrap64 (endB a xs + 1)) len)) := by
  induction xs generalizing a with
  | nil => simp [okB, endB]
  | cons x xs ih => simp [okB, endB, ih, Bool.and_assoc]
theorem vdB_append (a : Int) (xs ys : List Duty) : vdB a (xs ++ ys) = (vdB a xs && vdB (endB a xs) ys) := by
  induction xs generalizing a with
  | nil => simp [vdB, endB]
  | cons x xs ih => simp [vdB, endB, ih, Bool.and_assoc]
theorem okB_append (len a : Int) (xs ys : List Duty) : okB len a (xs ++ ys) = (okB len a xs && okB len (endB a xs) ys) := by
  induction xs generalizing a with
  | nil => simp [okB, endB]
  | cons x xs ih => simp [okB, endB, ih, Bool.and_assoc]
/-- A step that falls. -/
theorem vdB_no {xs : List Duty} {k : Nat} {a : Int} (hk : k < xs.length) (ha : a = endB 0 (xs.take k)) (h : (inB xs[k].o 0 39 && xs[k].f == a && decide (xs[k].f < xs[k].t)) = false) : vdB 0 xs = false := by
  rw [← List.take_append_drop (k + 1) xs, vdB_append, take_next hk, vdB_snoc, ← ha, h]
  simp
theorem okB_no {len : Int} {xs : List Duty} {k : Nat} {a : Int} (hk : k < xs.length) (ha : a = endB 0 (xs.take k)) (h : (inB xs[k].o 0 39 && xs[k].f == a && inB xs[k].t (wrap64 (a + 1)) len) = false) : okB len 0 xs = false := by
  rw [← List.take_append_drop (k + 1) xs, okB_append, take_next hk, okB_snoc, ← ha, h]
  simp
theorem vdB_step {xs : List Duty} {k : Nat} {a : Int} (hk : k < xs.length) (ha : a = endB 0 (xs.take k)) (hv : vdB 0 (xs.take k) = true) (h : (inB xs[k].o 0 39 && xs[k].f == a && decide (xs[k].f < xs[k].t)) = true) :
    vdB 0 (xs.take (k + 1)) = true ∧ xs[k].t = endB 0 (xs.take (k + 1)) := by
  rw [take_next hk, vdB_snoc, endB_snoc, ← ha, h, hv]
  simp
theorem okB_step {len : Int} {xs : List Duty} {k : Nat} {a : Int} (hk : k < xs.length) (ha : a = endB 0 (xs.take k)) (hv : okB len 0 (xs.take k) = true) (h : (inB xs[k].o 0 39 && xs[k].f == a && inB xs[k].t (wrap64 (a + 1)) len) = true) :
    okB len 0 (xs.take (k + 1)) = true ∧ xs[k].t = endB 0 (xs.take (k + 1)) := by
  rw [take_next hk, okB_snoc, endB_snoc, ← ha, h, hv]
  simp
theorem ok_vd {len : Int} (hlen : 1 ≤ len ∧ len ≤ 300000) : ∀ (xs : List Duty) (a : Int), 0 ≤ a → a ≤ len → (okB len a xs = true ↔ vdB a xs = true ∧ endB a xs ≤ len)
  | [], a, h0, h1 => by simp [okB, vdB, endB, h1]
  | d :: r, a, h0, h1 => by
    have hw : wrap64 (a + 1) = a + 1 := IntWalk.wrap64_in _ (by omega)
    simp only [okB, vdB, endB, Bool.and_eq_true, hw, inB_true, beq_iff_eq, decide_eq_true_eq]
    constructor
    · rintro ⟨⟨⟨ho, hf⟩, ht⟩, hr⟩
      have := (ok_vd hlen r d.t (by omega) (by omega)).1 hr
      exact ⟨⟨⟨⟨ho, hf⟩, by omega⟩, this.1⟩, this.2⟩
    · rintro ⟨⟨⟨⟨ho, hf⟩, ht⟩, hr⟩, he⟩
      have hge : ∀ (ys : List Duty) (b : Int), vdB b ys = true → b ≤ endB b ys := by
        intro ys
        induction ys with
        | nil => intro b _; exact Int.le_refl _
        | cons y ys ih =>
          intro b hb
          simp only [vdB, Bool.and_eq_true, beq_iff_eq, decide_eq_true_eq] at hb
          have := ih y.t hb.2
          simp only [endB]
          omega
      have h2 := hge r d.t hr
      exact ⟨⟨⟨ho, hf⟩, by omega⟩, (ok_vd hlen r d.t (by omega) (by omega)).2 ⟨hr, he⟩⟩
theorem ok_valid (xs : List Duty) (len : Int) : (okB len 0 xs && (inB len 1 300000 && endB 0 xs == len && decide (xs.length ≤ 40))) = validB xs len := by
  rw [Bool.eq_iff_iff]
  simp only [validB, Bool.and_eq_true, inB_true, beq_iff_eq, decide_eq_true_eq]
  constructor
  · rintro ⟨h1, ⟨h2, h3⟩, h4⟩
    have := (ok_vd h2 xs 0 (by omega) (by omega)).1 h1
    have hl : 1 ≤ xs.length := by
      cases xs with
      | nil => simp only [endB] at h3; omega
      | cons x xs => simp
    exact ⟨⟨⟨⟨h2, hl⟩, h4⟩, h3⟩, this.1⟩
  · rintro ⟨⟨⟨⟨h2, hl⟩, h4⟩, h3⟩, h5⟩
    exact ⟨(ok_vd h2 xs 0 (by omega) (by omega)).2 ⟨h5, by omega⟩, ⟨h2, h3⟩, h4⟩
theorem endB_ge : ∀ (ys : List Duty) (b : Int), vdB b ys = true → b ≤ endB b ys
  | [], b, _ => Int.le_refl _
  | y :: ys, b, hb => by
    simp only [vdB, Bool.and_eq_true, beq_iff_eq, decide_eq_true_eq] at hb
    have := endB_ge ys y.t hb.2
    simp only [endB]
    omega
theorem valid_at {xs : List Duty} {len : Int} (h : validB xs len = true) {k : Nat} (hk : k < xs.length) :
    (0 ≤ xs[k].o ∧ xs[k].o ≤ 39) ∧ 0 ≤ xs[k].f ∧ xs[k].f < xs[k].t ∧ xs[k].t ≤ 300000 ∧ xs[k].t ≤ len ∧ xs[k].f = endB 0 (xs.take k) := by
  simp only [validB, Bool.and_eq_true, inB_true, beq_iff_eq, decide_eq_true_eq] at h
  obtain ⟨⟨⟨⟨h1, h2⟩, h3⟩, h4⟩, h5⟩ := h
  rw [← List.take_append_drop k xs, vdB_append, List.drop_eq_getElem_cons hk] at h5
  simp only [vdB, Bool.and_eq_true, inB_true, beq_iff_eq, decide_eq_true_eq] at h5
  obtain ⟨h6, ⟨⟨h7, h8⟩, h9⟩, h10⟩ := h5
  have h11 := endB_ge _ _ h6
  have h12 := endB_ge _ _ h10
  have h13 : endB (xs[k].t) (xs.drop (k + 1)) = len := by
    rw [← h4]
    conv => rhs; rw [← List.take_append_drop (k + 1) xs, take_next hk]
    have : ∀ (us bs : List Duty) (a : Int), endB a (us ++ bs) = endB (endB a us) bs := by
      intro us
      induction us with
      | nil => intro bs a; rfl
      | cons x us ih => intro bs a; exact ih bs x.t
    rw [this, endB_snoc]
  exact ⟨h7, by omega, h9, by omega, by omega, h8⟩
theorem valid_len {xs : List Duty} {len : Int} (h : validB xs len = true) : (1 ≤ len ∧ len ≤ 300000) ∧ 1 ≤ xs.length ∧ xs.length ≤ 40 ∧ endB 0 xs = len := by
  simp only [validB, Bool.and_eq_true, inB_true, beq_iff_eq, decide_eq_true_eq] at h
  obtain ⟨⟨⟨⟨h1, h2⟩, h3⟩, h4⟩, h5⟩ := h
  exact ⟨h1, h2, h3, h4⟩
theorem foldl_take {α β : Type} (f : β → α → β) (b : β) {xs : List α} {k : Nat} (hk : k < xs.length) : (xs.take (k + 1)).foldl f b = f ((xs.take k).foldl f b) xs[k] := by
  rw [take_next hk, List.foldl_append]
  rfl
/-! ### DutyAt -/
def atB (m : Int) : List Duty → Int
  | [] => 0
  | d :: r => if d.t ≤ m then atB m r else d.o
def pickB (m : Int) (o : Int) (d : Duty) : Int := if inB m d.f (d.t - 1) = true then d.o else o
theorem atB_drop {m : Int} {xs : List Duty} {k : Nat} (hk : k < xs.length) : atB m (xs.drop k) = if xs[k].t ≤ m then atB m (xs.drop (k + 1)) else xs[k].o := by
  rw [List.drop_eq_getElem_cons hk]
  rfl
theorem pick_at (m : Int) : ∀ (xs : List Duty) (a o : Int), vdB a xs = true → (m < a → xs.foldl (pickB m) o = o) ∧ (a ≤ m → m < endB a xs → xs.foldl (pickB m) o = atB m xs)
  | [], a, o, _ => by
    refine ⟨fun _ => rfl, fun h1 h2 => ?_⟩
    simp only [endB] at h2
    omega
  | d :: r, a, o, h => by
    simp only [vdB, Bool.and_eq_true, inB_true, beq_iff_eq, decide_eq_true_eq] at h
    obtain ⟨⟨⟨h1, h2⟩, h3⟩, h4⟩ := h
    have ih := pick_at m r d.t (pickB m o d) h4
    refine ⟨fun hm => ?_, fun hm he => ?_⟩
    · rw [List.foldl_cons, ih.1 (by omega)]
      unfold pickB
      rw [if_neg (by rw [inB_true]; omega)]
    · rw [List.foldl_cons, atB]
      by_cases ht : d.t ≤ m
      · rw [if_pos ht, ih.2 ht he]
      · rw [if_neg ht, ih.1 (by omega)]
        unfold pickB
        rw [if_pos (by rw [inB_true]; omega)]
def dutyAt (xs : List Duty) (len m : Int) : Int × Int := if validB xs len = true then if inB m 0 (len - 1) = true then (atB m xs, 0) else (0, 2) else (0, 1)
/-! ### DutyOf -/
def sumStep (o : Int) (n : Int) (d : Duty) : Int := if d.o = o then n + (d.t - d.f) else n
def sumOf (o : Int) (xs : List Duty) : Int := xs.foldl (sumStep o) 0
theorem sumOf_bound {o len : Int} {xs : List Duty} (h : validB xs len = true) : ∀ k : Nat, k ≤ xs.length → 0 ≤ sumOf o (xs.take k) ∧ sumOf o (xs.take k) ≤ 300000 * k
  | 0, _ => by simp [sumOf]
  | k + 1, hk => by
    have ih := sumOf_bound (o := o) h k (by omega)
    have hv := valid_at h (k := k) (by omega)
    unfold sumOf at ih ⊢
    rw [foldl_take _ _ (by omega)]
    unfold sumStep at ih ⊢
    split <;> omega
def dutyOfB (xs : List Duty) (len o : Int) : Int × Int := if validB xs len = true then if inB o 0 39 = true then (sumOf o xs, 0) else (0, 2) else (0, 1)
/-! ### CountParts -/
def countStep (c : List Int) (d : Duty) : List Int := c.set d.o.toNat (c.getD d.o.toNat 0 + 1)
def counts (xs : List Duty) : List Int := xs.foldl countStep (List.replicate 40 0)
theorem counts_len (xs : List Duty) (c : List Int) : (xs.foldl countStep c).length = c.length := by
  induction xs generalizing c with
  | nil => rfl
  | cons x xs ih => rw [List.foldl_cons, ih]; simp [countStep]
theorem counts_bound (xs : List Duty) (c : List Int) (b : Nat) (hc : ∀ i : Nat, 0 ≤ c.getD i 0 ∧ c.getD i 0 ≤ (b : Int)) : ∀ i : Nat, 0 ≤ (xs.foldl countStep c).getD i 0 ∧ (xs.foldl countStep c).getD i 0 ≤ ((b + xs.length : Nat) : Int) := by
  induction xs generalizing c b with
  | nil => simpa using hc
  | cons x xs ih =>
    intro i
    have := ih (countStep c x) (b + 1) (fun i => by
      have h1 := hc i
      have h2 := hc x.o.toNat
      unfold countStep
      simp only [List.getD_eq_getElem?_getD] at h1 h2 ⊢
      rw [List.getElem?_set]
      split
      · split
        · simp; omega
        · simp; omega
      · omega) i
    rw [List.foldl_cons, List.length_cons]
    omega
def countParts (xs : List Duty) (len : Int) : List Int × Int := if validB xs len = true then (counts xs, 0) else ([], 1)
/-! ### MergeDuties -/
def mergeStep (out : List Duty) (d : Duty) : List Duty :=
  if h : 0 < out.length then if out[out.length - 1].o = d.o then out.set (out.length - 1) { out[out.length - 1] with t := d.t } else out ++ [d] else out ++ [d]
def mergeB (xs : List Duty) : List Duty := xs.foldl mergeStep []
theorem mergeStep_len (out : List Duty) (d : Duty) : (mergeStep out d).length ≤ out.length + 1 := by
  unfold mergeStep
  split
  · split <;> simp
  · simp
theorem merge_len (xs out : List Duty) : (xs.foldl mergeStep out).length ≤ out.length + xs.length := by
  induction xs generalizing out with
  | nil => simp
  | cons x xs ih => rw [List.foldl_cons, List.length_cons]; have := ih (mergeStep out x); have := mergeStep_len out x; omega
def mergeDuties (xs : List Duty) (len : Int) : List Duty × Int := if validB xs len = true then (mergeB xs, 0) else ([], 1)
end Go.Proofs.YtampbbknhbhcbaaDoor
