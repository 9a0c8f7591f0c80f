/- HandOver: the plain law. -/
import Derived.Test.YtjamkomgdfgmlaaDutyMerge
namespace Go.Proofs.Ytjamkomgdfgmlaa
open Go.RowKit
set_option linter.unusedVariables false
section
variable (fr tt ow : Int)
def hp1 (d : Duty) : List Duty := if d.f < fr then [⟨d.o, d.f, min d.t fr⟩] else []
def hp2 (d : Duty) : List Duty := if d.f < tt ∧ fr < d.t then [⟨ow, max d.f fr, min d.t tt⟩] else []
def hp3 (d : Duty) : List Duty := if tt < d.t then [⟨d.o, max d.f tt, d.t⟩] else []
def hpS (d : Duty) : List Duty := hp1 fr d ++ hp2 fr tt ow d ++ hp3 tt d
def mfold (acc xs : List Duty) : List Duty := xs.foldl mergeStep acc
end
theorem mfold_append (acc xs ys : List Duty) : mfold acc (xs ++ ys) = mfold (mfold acc xs) ys := List.foldl_append ..
theorem merge_last (acc : List Duty) (l d : Duty) : mergeStep (acc ++ [l]) d = if l.o = d.o then acc ++ [⟨l.o, l.f, d.t⟩] else acc ++ [l] ++ [d] := by
  have hn : acc.length < (acc ++ [l]).length := by simp
  have hg : (acc ++ [l])[acc.length] = l := by simp
  by_cases h : l.o = d.o
  · rw [if_pos h, merge_join hn (by simp) (by rw [hg]; exact h), hg]
    simp
  · rw [if_neg h, merge_more hn (by simp) (by rw [hg]; exact h)]
/-- A step ends in a last element that has the step's owner and end. -/
theorem merge_form (acc : List Duty) (o f : Int) : ∃ A x, ∀ z, mergeStep acc ⟨o, f, z⟩ = A ++ [⟨o, x, z⟩] := by
  rcases List.eq_nil_or_concat acc with rfl | ⟨ys, y, rfl⟩
  · exact ⟨[], f, fun z => by rw [merge_first (by simp)]⟩
  · rw [List.concat_eq_append]
    by_cases h : y.o = o
    · refine ⟨ys, y.f, fun z => ?_⟩
      rw [merge_last, if_pos h, h]
    · refine ⟨ys ++ [y], f, fun z => ?_⟩
      rw [merge_last, if_neg h]
theorem vd_cons {a : Int} {d : Duty} {r : List Duty} (h : vdB a (d :: r) = true) : d.f = a ∧ d.f < d.t ∧ vdB d.t r = true := by
  simp only [vdB, Bool.and_eq_true, beq_iff_eq, decide_eq_true_eq] at h
  exact ⟨h.1.1.2, h.1.2, h.2⟩
section
variable {fr tt ow : Int}
theorem hp_past (hft : fr < tt) : ∀ (xs : List Duty) (a : Int), tt ≤ a → vdB a xs = true → xs.flatMap (hpS fr tt ow) = xs.flatMap (hp3 tt)
  | [], _, _, _ => rfl
  | d :: r, a, ha, h => by
    obtain ⟨e1, e2, e3⟩ := vd_cons h
    rw [List.flatMap_cons, List.flatMap_cons, hp_past hft r d.t (by omega) e3]
    unfold hpS hp1 hp2
    rw [if_neg (by omega), if_neg (by omega)]
    simp
theorem hp1_past : ∀ (xs : List Duty) (a : Int), fr ≤ a → vdB a xs = true → xs.flatMap (hp1 fr) = []
  | [], _, _, _ => rfl
  | d :: r, a, ha, h => by
    obtain ⟨e1, e2, e3⟩ := vd_cons h
    rw [List.flatMap_cons, hp1_past r d.t (by omega) e3]
    unfold hp1
    rw [if_neg (by omega)]
    rfl
theorem hp_mid (hft : fr < tt) : ∀ (xs : List Duty) (a x : Int) (acc : List Duty), fr ≤ a → a ≤ tt → tt ≤ endB a xs → vdB a xs = true →
    mfold (acc ++ [⟨ow, x, a⟩]) (xs.flatMap (hpS fr tt ow)) = mfold (acc ++ [⟨ow, x, tt⟩]) (xs.flatMap (hp3 tt))
  | [], a, x, acc, h1, h2, h3, _ => by
    have : a = tt := by simp only [endB] at h3; omega
    rw [this]
    rfl
  | d :: r, a, x, acc, h1, h2, h3, h => by
    obtain ⟨e1, e2, e3⟩ := vd_cons h
    have hend : tt ≤ endB d.t r := h3
    have hge := endB_ge r d.t e3
    rw [List.flatMap_cons, List.flatMap_cons, mfold_append, mfold_append]
    have hS : hpS fr tt ow d = (if a < tt then [⟨ow, a, min d.t tt⟩] else []) ++ hp3 tt d := by
      unfold hpS hp1 hp2
      rw [if_neg (by omega)]
      by_cases hc : a < tt
      · rw [if_pos ⟨by omega, by omega⟩, if_pos hc, show max d.f fr = a from by omega]
        simp
      · rw [if_neg (by omega), if_neg hc]
        simp
    rw [hS, mfold_append]
    by_cases hc : a < tt
    · rw [if_pos hc]
      have hm : mfold (acc ++ [⟨ow, x, a⟩]) [⟨ow, a, min d.t tt⟩] = acc ++ [⟨ow, x, min d.t tt⟩] := by
        simp only [mfold, List.foldl_cons, List.foldl_nil]
        rw [merge_last, if_pos rfl]
      rw [hm]
      by_cases ht : tt < d.t
      · rw [show min d.t tt = tt from by omega, hp_past hft r d.t (by omega) e3]
      · have h3n : hp3 tt d = [] := by unfold hp3; rw [if_neg ht]
        rw [h3n, show min d.t tt = d.t from by omega]
        show mfold (acc ++ [⟨ow, x, d.t⟩]) _ = mfold (acc ++ [⟨ow, x, tt⟩]) _
        exact hp_mid hft r d.t x acc (by omega) (by omega) hend e3
    · rw [if_neg hc, hp_past hft r d.t (by omega) e3, show a = tt from by omega]
      rfl
theorem hp_all (hft : fr < tt) : ∀ (xs : List Duty) (a : Int) (acc : List Duty), a ≤ fr → tt ≤ endB a xs → vdB a xs = true →
    mfold acc (xs.flatMap (hpS fr tt ow)) = mfold acc (xs.flatMap (hp1 fr) ++ [⟨ow, fr, tt⟩] ++ xs.flatMap (hp3 tt))
  | [], a, acc, h1, h2, _ => by simp only [endB] at h2; omega
  | d :: r, a, acc, h1, h2, h => by
    obtain ⟨e1, e2, e3⟩ := vd_cons h
    have hend : tt ≤ endB d.t r := h2
    rw [List.flatMap_cons, List.flatMap_cons, List.flatMap_cons]
    by_cases hc : d.t ≤ fr
    · have hS : hpS fr tt ow d = hp1 fr d := by
        unfold hpS hp2 hp3
        rw [if_neg (by omega), if_neg (by omega)]
        simp
      have h3n : hp3 tt d = [] := by unfold hp3; rw [if_neg (by omega)]
      rw [hS, h3n, List.nil_append, List.append_assoc, List.append_assoc, mfold_append, mfold_append, hp_all hft r d.t _ hc hend e3, List.append_assoc]
    · have h1p := hp1_past (fr := fr) r d.t (by omega) e3
      rw [h1p, List.append_nil]
      by_cases ht : tt < d.t
      · have hS : hpS fr tt ow d = hp1 fr d ++ [⟨ow, fr, tt⟩] ++ hp3 tt d := by
          unfold hpS hp2
          rw [if_pos ⟨by omega, by omega⟩, show max d.f fr = fr from by omega, show min d.t tt = tt from by omega]
        rw [hS, hp_past hft r d.t (by omega) e3]
        simp only [List.append_assoc]
      · have h3n : hp3 tt d = [] := by unfold hp3; rw [if_neg ht]
        have hS : hpS fr tt ow d = hp1 fr d ++ [⟨ow, fr, d.t⟩] := by
          unfold hpS hp2
          rw [if_pos ⟨by omega, by omega⟩, show max d.f fr = fr from by omega, show min d.t tt = d.t from by omega, h3n]
          simp
        rw [hS, h3n, List.nil_append, List.append_assoc, List.append_assoc, mfold_append, mfold_append, mfold_append, mfold_append]
        obtain ⟨A, x, hA⟩ := merge_form (mfold acc (hp1 fr d)) ow fr
        have hz : ∀ z, mfold (mfold acc (hp1 fr d)) [⟨ow, fr, z⟩] = A ++ [⟨ow, x, z⟩] := hA
        rw [hz, hz]
        exact hp_mid hft r d.t x A (by omega) (by omega) hend e3
theorem hp1_len (xs : List Duty) : (xs.flatMap (hp1 fr)).length ≤ xs.length := by
  induction xs with
  | nil => simp
  | cons d r ih =>
    rw [List.flatMap_cons, List.length_append, List.length_cons]
    have : (hp1 fr d).length ≤ 1 := by unfold hp1; split <;> simp
    omega
theorem hp3_len (xs : List Duty) : (xs.flatMap (hp3 tt)).length ≤ xs.length := by
  induction xs with
  | nil => simp
  | cons d r ih =>
    rw [List.flatMap_cons, List.length_append, List.length_cons]
    have : (hp3 tt d).length ≤ 1 := by unfold hp3; split <;> simp
    omega
theorem hpS_len (xs : List Duty) : (xs.flatMap (hpS fr tt ow)).length ≤ 3 * xs.length := by
  induction xs with
  | nil => simp
  | cons d r ih =>
    rw [List.flatMap_cons, List.length_append, List.length_cons]
    have h1 : (hp1 fr d).length ≤ 1 := by unfold hp1; split <;> simp
    have h2 : (hp2 fr tt ow d).length ≤ 1 := by unfold hp2; split <;> simp
    have h3 : (hp3 tt d).length ≤ 1 := by unfold hp3; split <;> simp
    have : (hpS fr tt ow d).length ≤ 3 := by unfold hpS; simp; omega
    omega
end
def handM (xs : List Duty) (fr tt ow : Int) : List Duty := mergeB (xs.flatMap (hp1 fr) ++ [⟨ow, fr, tt⟩] ++ xs.flatMap (hp3 tt))
def handOver (xs : List Duty) (len fr tt ow : Int) : List Duty × Int :=
  if validB xs len = true then
    if (0 ≤ fr ∧ fr < tt ∧ tt ≤ len) ∧ inB ow 0 39 = true then
      if 40 < (handM xs fr tt ow).length then ([], 5) else (handM xs fr tt ow, 0)
    else ([], 2)
  else ([], 1)
theorem hand_spec {xs : List Duty} {len fr tt ow : Int} (hv : validB xs len = true) (h : 0 ≤ fr ∧ fr < tt ∧ tt ≤ len) : mergeB (xs.flatMap (hpS fr tt ow)) = handM xs fr tt ow := by
  obtain ⟨_, _, _, hend⟩ := valid_len hv
  have hvd : vdB 0 xs = true := by
    simp only [validB, Bool.and_eq_true] at hv
    exact hv.2
  exact hp_all h.2.1 xs 0 [] h.1 (by omega) hvd
theorem handOver_len (xs : List Duty) (len fr tt ow : Int) (h : xs.length ≤ 1048576) : (handOver xs len fr tt ow).1.length ≤ 1048576 := by
  unfold handOver
  split
  · split
    · split
      · simp
      · simp only; omega
    · simp
  · simp
end Go.Proofs.Ytjamkomgdfgmlaa
