/- A table that is shifted, a part of a table: plain facts. -/
import Derived.Test.YteobejgkjjhfkaaTideLawP
namespace Go.Proofs.Yteobejgkjjhfkaa
open Go.RowKit
set_option linter.unusedVariables false
def shT (mi lv : Int) (t : Tide) : Tide := ⟨t.m + mi, t.l + lv⟩
def shX (mi lv : Int) (xs : List Tide) : List Tide := xs.map (shT mi lv)
theorem shX_len (mi lv : Int) (xs : List Tide) : (shX mi lv xs).length = xs.length := by simp [shX]
theorem shX_get {mi lv : Int} {xs : List Tide} {i : Nat} (h : i < (shX mi lv xs).length) : (shX mi lv xs)[i] = shT mi lv (xs[i]'(by rw [← shX_len mi lv xs]; exact h)) := by simp [shX]
theorem shX_ok {mi lv : Int} {xs : List Tide} (h : TideOk xs) (he : ∀ x ∈ xs, (0 ≤ x.m + mi ∧ x.m + mi ≤ 100000) ∧ -2000 ≤ x.l + lv ∧ x.l + lv ≤ 2000) : TideOk (shX mi lv xs) := by
  refine ⟨by rw [shX_len]; exact h.len, fun x hx => ?_, fun i hi => ?_, fun i hi => ?_⟩
  · obtain ⟨y, hy, rfl⟩ := List.mem_map.1 hx
    exact he y hy
  · rw [shX_get, shX_get]
    have := h.step i (by rw [shX_len] at hi; exact hi)
    simp only [shT]
    omega
  · rw [shX_get, shX_get, shX_get]
    have := h.alt i (by rw [shX_len] at hi; exact hi)
    simp only [shT]
    omega
theorem shX_back (mi lv : Int) (xs : List Tide) : shX (-mi) (-lv) (shX mi lv xs) = xs := by
  unfold shX
  rw [List.map_map]
  have : (shT (-mi) (-lv) ∘ shT mi lv) = id := by
    funext t
    show (⟨t.m + mi + -mi, t.l + lv + -lv⟩ : Tide) = t
    rw [Int.add_neg_cancel_right, Int.add_neg_cancel_right]
  rw [this, List.map_id]
theorem shX_getD {mi lv : Int} {xs : List Tide} {k : Nat} (h : k < xs.length) : (shX mi lv xs).getD k ⟨0, 0⟩ = shT mi lv (xs.getD k ⟨0, 0⟩) := by
  rw [getD_tide h, getD_tide (show k < (shX mi lv xs).length by rw [shX_len]; exact h), shX_get]
theorem segF_sh (mi lv : Int) (xs : List Tide) (m : Int) : ∀ n i, segF (shX mi lv xs) (m + mi) n i = segF xs m n i
  | 0, i => rfl
  | n + 1, i => by
    unfold segF
    rw [shX_len]
    by_cases h : i + 2 < xs.length
    · have e : ((shX mi lv xs).getD (i + 1) ⟨0, 0⟩).m = (xs.getD (i + 1) ⟨0, 0⟩).m + mi := by rw [shX_getD (show i + 1 < xs.length by omega)]; rfl
      rw [e, segF_sh mi lv xs m n (i + 1)]
      by_cases h2 : (xs.getD (i + 1) ⟨0, 0⟩).m ≤ m
      · rw [if_pos ⟨h, by omega⟩, if_pos ⟨h, h2⟩]
      · rw [if_neg (fun e => h2 (by omega)), if_neg (fun e => h2 e.2)]
    · rw [if_neg (fun e => h e.1), if_neg (fun e => h e.1)]
theorem seg_sh (mi lv : Int) (xs : List Tide) (m : Int) : segOf (shX mi lv xs) (m + mi) = segOf xs m := by
  unfold segOf
  rw [shX_len, segF_sh]
theorem tden_sh (mi lv : Int) {xs : List Tide} (m : Int) (h : 2 ≤ xs.length) : tden (shX mi lv xs) (m + mi) = tden xs m := by
  have h1 : segOf xs m + 1 < xs.length := segF_lt xs m xs.length 0 (by omega)
  unfold tden tA tB
  rw [seg_sh, shX_getD h1, shX_getD (show segOf xs m < xs.length by omega)]
  simp only [shT]
  omega
theorem tnum_sh (mi lv : Int) {xs : List Tide} (m : Int) (h : 2 ≤ xs.length) : tnum (shX mi lv xs) (m + mi) = tnum xs m + lv * tden xs m := by
  have h1 : segOf xs m + 1 < xs.length := segF_lt xs m xs.length 0 (by omega)
  unfold tnum tden tA tB
  rw [seg_sh, shX_getD h1, shX_getD (show segOf xs m < xs.length by omega)]
  simp only [shT]
  generalize xs.getD (segOf xs m) ⟨0, 0⟩ = a
  generalize xs.getD (segOf xs m + 1) ⟨0, 0⟩ = b
  have e1 : b.m + mi - (a.m + mi) = b.m - a.m := by omega
  have e2 : b.l + lv - (a.l + lv) = b.l - a.l := by omega
  have e3 : m + mi - (a.m + mi) = m - a.m := by omega
  rw [e1, e2, e3, Int.add_mul]
  omega
theorem gcd_sh (a b k : Int) : Int.gcd (a + k * b) b = Int.gcd a b := by
  rw [Int.gcd_comm, Int.gcd_comm a b]
  exact Int.gcd_add_mul_right_right b a k
theorem frac_sh {N D N' D' P Q lv : Int} {g : Nat} (hg : 0 < g) (h1 : N * g = P) (h2 : D * g = Q) (h3 : N' * g = P + lv * Q) (h4 : D' * g = Q) : D = D' ∧ N' = N + lv * D := by
  have hg' : (g : Int) ≠ 0 := by omega
  have e1 : D = D' := Int.eq_of_mul_eq_mul_right hg' (h2.trans h4.symm)
  refine ⟨e1, Int.eq_of_mul_eq_mul_right hg' ?_⟩
  rw [h3, Int.add_mul, h1, Int.mul_assoc, h2]
/-! a part -/
def near (P Q : Int) : Int := (2 * P + Q) / (2 * Q)
def nearT (xs : List Tide) (m : Int) : Int := near (tnum xs m) (tden xs m)
def cutX (xs : List Tide) (f t : Int) : List Tide := [⟨f, nearT xs f⟩] ++ xs.filter (fun x => inB x.m (f + 1) (t - 1)) ++ [⟨t, nearT xs t⟩]
theorem near_at {l d : Int} (hd : 1 ≤ d) : near (l * d) d = l := by
  unfold near
  have e : 2 * (l * d) + d = d + l * (2 * d) := by rw [Int.mul_left_comm]; omega
  rw [e, Int.add_mul_ediv_right _ _ (by omega), Int.ediv_eq_zero_of_lt (by omega) (by omega), Int.zero_add]
theorem asc {xs : List Tide} (h : TideOk xs) : ∀ i j (hi : i < j) (hj : j < xs.length), (xs[i]'(by omega)).m < xs[j].m := by
  intro i j hi
  induction j with
  | zero => omega
  | succ j ih =>
    intro hj
    have h1 := (h.step j hj).1
    rcases Nat.lt_or_ge i j with h2 | h2
    · exact Int.lt_trans (ih h2 (by omega)) h1
    · have : i = j := by omega
      subst this
      exact h1
theorem seg_first {xs : List Tide} (h : TideOk xs) : segOf xs (firstT xs) = 0 := by
  have hl := h.len
  unfold segOf
  obtain ⟨n, hn⟩ : ∃ n, xs.length = n + 1 := ⟨xs.length - 1, by omega⟩
  rw [hn]
  unfold segF
  rw [if_neg]
  rintro ⟨h1, h2⟩
  rw [Nat.zero_add, getD_tide (show 1 < xs.length by omega)] at h2
  unfold firstT at h2
  rw [getD_tide (show 0 < xs.length by omega)] at h2
  have := asc h 0 1 (by omega) (by omega)
  omega
theorem segF_last {xs : List Tide} (h : TideOk xs) : ∀ n i, i + 2 ≤ xs.length → xs.length ≤ n + i + 2 → segF xs (lastT xs) n i + 2 = xs.length
  | 0, i, h1, h2 => by unfold segF; omega
  | n + 1, i, h1, h2 => by
    unfold segF
    by_cases h3 : i + 2 < xs.length
    · have h4 : (xs.getD (i + 1) ⟨0, 0⟩).m ≤ lastT xs := by
        unfold lastT
        rw [getD_tide (show i + 1 < xs.length by omega), getD_tide (show xs.length - 1 < xs.length by omega)]
        exact Int.le_of_lt (asc h (i + 1) (xs.length - 1) (by omega) (by omega))
      rw [if_pos ⟨h3, h4⟩]
      exact segF_last h n (i + 1) (by omega) (by omega)
    · rw [if_neg (fun e => h3 e.1)]
      omega
theorem near_first {xs : List Tide} (h : TideOk xs) : nearT xs (firstT xs) = (xs.getD 0 ⟨0, 0⟩).l := by
  have hl := h.len
  have h1 := asc h 0 1 (by omega) (by omega)
  unfold nearT tnum tden tA tB
  rw [seg_first h, Nat.zero_add, getD_tide (show 0 < xs.length by omega), getD_tide (show 1 < xs.length by omega)]
  unfold firstT
  rw [getD_tide (show 0 < xs.length by omega), Int.sub_self, Int.mul_zero, Int.add_zero]
  exact near_at (by omega)
theorem near_last {xs : List Tide} (h : TideOk xs) : nearT xs (lastT xs) = (xs.getD (xs.length - 1) ⟨0, 0⟩).l := by
  have hl := h.len
  have hs : segOf xs (lastT xs) + 2 = xs.length := segF_last h xs.length 0 (by omega) (by omega)
  have e1 : segOf xs (lastT xs) = xs.length - 2 := by omega
  have h1 := asc h (xs.length - 2) (xs.length - 1) (by omega) (by omega)
  unfold nearT tnum tden tA tB
  rw [e1, show xs.length - 2 + 1 = xs.length - 1 by omega, getD_tide (show xs.length - 2 < xs.length by omega), getD_tide (show xs.length - 1 < xs.length by omega)]
  unfold lastT
  rw [getD_tide (show xs.length - 1 < xs.length by omega)]
  generalize xs[xs.length - 2] = a at *
  generalize xs[xs.length - 1] = b at *
  have e : a.l * (b.m - a.m) + (b.l - a.l) * (b.m - a.m) = b.l * (b.m - a.m) := by rw [← Int.add_mul]; congr 1; omega
  rw [e]
  exact near_at (by omega)
theorem cut_whole {xs : List Tide} (h : TideOk xs) : cutX xs (firstT xs) (lastT xs) = xs := by
  have hl := h.len
  have ef : firstT xs = xs[0].m := by unfold firstT; rw [getD_tide (show 0 < xs.length by omega)]
  have el : lastT xs = xs[xs.length - 1].m := by unfold lastT; rw [getD_tide (show xs.length - 1 < xs.length by omega)]
  have n0 := near_first h
  have nl := near_last h
  rw [getD_tide (show 0 < xs.length by omega)] at n0
  rw [getD_tide (show xs.length - 1 < xs.length by omega)] at nl
  have hx : xs = [xs[0]] ++ (xs.drop 1).take (xs.length - 2) ++ [xs[xs.length - 1]] := by
    have a1 : xs = [xs[0]] ++ xs.drop 1 := by
      conv => lhs; rw [← List.drop_zero (l := xs), List.drop_eq_getElem_cons (show 0 < xs.length by omega)]
      rfl
    have a2 : xs.drop 1 = (xs.drop 1).take (xs.length - 2) ++ [xs[xs.length - 1]] := by
      conv => lhs; rw [← List.take_append_drop (xs.length - 2) (xs.drop 1)]
      congr 1
      rw [List.drop_drop, show 1 + (xs.length - 2) = xs.length - 1 by omega, List.drop_eq_getElem_cons (show xs.length - 1 < xs.length by omega), show xs.length - 1 + 1 = xs.length by omega, List.drop_length]
    conv => lhs; rw [a1]
    conv => lhs; rw [a2]
    rw [List.append_assoc]
  unfold cutX
  rw [n0, nl, ef, el]
  have hf : ∀ a b, a = xs[0].m + 1 → b = xs[xs.length - 1].m - 1 → xs.filter (fun x => inB x.m a b) = (xs.drop 1).take (xs.length - 2) := by
    intro a b ha hb
    have h0 : xs.filter (fun x => inB x.m a b) = ([xs[0]] ++ (xs.drop 1).take (xs.length - 2) ++ [xs[xs.length - 1]]).filter (fun x => inB x.m a b) := by rw [← hx]
    rw [h0, List.filter_append, List.filter_append]
    have f1 : [xs[0]].filter (fun x => inB x.m a b) = [] := by
      have : inB xs[0].m a b = false := inB_false.2 (by omega)
      simp [this]
    have f2 : [xs[xs.length - 1]].filter (fun x => inB x.m a b) = [] := by
      have : inB xs[xs.length - 1].m a b = false := inB_false.2 (by omega)
      simp [this]
    rw [f1, f2, List.nil_append, List.append_nil, List.filter_eq_self]
    intro x hm
    obtain ⟨i, hi, rfl⟩ := List.getElem_of_mem hm
    rw [List.length_take, List.length_drop] at hi
    rw [List.getElem_take, List.getElem_drop]
    have g1 := asc h 0 (1 + i) (by omega) (by omega)
    have g2 := asc h (1 + i) (xs.length - 1) (by omega) (by omega)
    rw [inB_true]
    omega
  rw [hf _ _ rfl rfl]
  exact hx.symm
theorem cut_len (xs : List Tide) (f t : Int) : 2 ≤ (cutX xs f t).length ∧ (cutX xs f t).length ≤ xs.length + 2 := by
  have h := List.length_filter_le (fun x : Tide => inB x.m (f + 1) (t - 1)) xs
  unfold cutX
  rw [List.length_append, List.length_append]
  simp only [List.length_cons, List.length_nil]
  omega
theorem cut_first (xs : List Tide) (f t : Int) : (cutX xs f t)[0]'(by have := cut_len xs f t; omega) = ⟨f, nearT xs f⟩ := rfl
theorem cut_last (xs : List Tide) (f t : Int) : (cutX xs f t)[(cutX xs f t).length - 1]'(by have := cut_len xs f t; omega) = ⟨t, nearT xs t⟩ := by
  have h : (cutX xs f t).getLast? = some ⟨t, nearT xs t⟩ := by unfold cutX; rw [List.getLast?_append]; rfl
  rw [List.getLast?_eq_getElem?, List.getElem?_eq_getElem (by have := cut_len xs f t; omega)] at h
  injection h
end Go.Proofs.Yteobejgkjjhfkaa
