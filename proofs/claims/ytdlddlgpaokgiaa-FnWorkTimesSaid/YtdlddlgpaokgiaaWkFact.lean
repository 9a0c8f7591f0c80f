/- FnWorkTimes: facts of drawn tasks. -/
import Derived.Test.YtdlddlgpaokgiaaWkLawP
import Derived.Test.YtdlddlgpaokgiaaWkDraw
import Derived.Test.YtdlddlgpaokgiaaAid
import Derived.Test.YtdlddlgpaokgiaaLateF
namespace Go.Proofs.Ytdlddlgpaokgiaa
open Go.RowKit
set_option linter.unusedVariables false
set_option linter.unusedSimpArgs false
theorem drawn_valid {t : List Task} (h : DrawnTs t) : validT t = true := by
  unfold validT
  rw [decide_eq_true_eq]
  refine ⟨by have := h.1; omega, fun k hk => ?_⟩
  have hd := h.2 k hk
  unfold oneB aloneB
  simp only [Bool.and_eq_true, inB_true]
  have h1 := hd.d
  have h2 := hd.c
  have h3 := hd.y
  refine ⟨⟨⟨by omega, by omega⟩, by omega⟩, ?_⟩
  unfold risesB
  rw [decide_eq_true_eq]
  refine fun j hj => ⟨by have := hd.a _ (List.getElem_mem hj); omega, fun h' h0 => List.pairwise_iff_getElem.1 hd.s (j - 1) j h' hj (by omega)⟩
theorem drawn_e {t : List Task} (h : DrawnTs t) (hE : EOk t) : ∀ m j, j < m → (hj : j < t.length) → eAt t j ≤ 20 * (j : Int)
  | 0, j, hm, _ => by omega
  | m + 1, j, hm, hj => by
    refine (e_char hE hj).2.2 _ (by omega) fun a ha => ?_
    have ha2 := (h.2 j hj).a a ha
    have hlt : a.toNat < t.length := by omega
    have i1 := drawn_e h hE m a.toNat (by omega) hlt
    have i2 := (h.2 a.toNat hlt).d
    rw [daysAt_eq hlt]
    omega
theorem drawn_tot {t : List Task} (h : DrawnTs t) (hE : EOk t) : totOf t ≤ 140 := by
  refine (tot_char hE).2.2 _ (by omega) fun j hj => ?_
  have i1 := drawn_e h hE _ j (Nat.lt_succ_self _) hj
  have i2 := (h.2 j hj).d
  have i3 := h.1
  rw [daysAt_eq (a := (j : Int)) (by simpa using hj)]
  simp only [Int.toNat_natCast]
  omega
theorem days_k {t : List Task} {j : Nat} (hj : j < t.length) : daysAt t (j : Int) = t[j].days := by
  rw [daysAt_eq (a := (j : Int)) (by simpa using hj)]
  simp only [Int.toNat_natCast]
theorem earlyF_eq {t : List Task} (h : validT t = true) : earlyF t = (early t t.length).1 := by unfold earlyF; rw [if_pos h]
theorem lateF_eq {t : List Task} (h : validT t = true) : lateF t = late t (totOf t) := by unfold lateF; rw [if_pos h]; rfl
theorem earlyF_n {t : List Task} (h : validT t = true) : (earlyF t).length = t.length := by rw [earlyF_eq h, early_len (Nat.le_refl _)]
theorem lateF_n {t : List Task} (h : validT t = true) : (lateF t).length = t.length := by rw [lateF_eq h, late_len]
theorem earlyF_at {t : List Task} (h : validT t = true) {k : Nat} (hk : k < (earlyF t).length) : (earlyF t)[k] = eAt t k := by
  have : (earlyF t).getD k 0 = eAt t k := by rw [earlyF_eq h]; rfl
  rw [← this]
  simp [List.getD_eq_getElem?_getD, hk]
theorem lateF_at {t : List Task} (h : validT t = true) {k : Nat} (hk : k < (lateF t).length) : (lateF t)[k] = lAt t k := by
  have : (lateF t).getD k 0 = lAt t k := by rw [lateF_eq h]; rfl
  rw [← this]
  simp [List.getD_eq_getElem?_getD, hk]
theorem mem_where {p : Nat → Bool} {n : Nat} {x : Int} : x ∈ whereTo p n ↔ ∃ k : Nat, k < n ∧ p k = true ∧ x = (k : Int) := by
  unfold whereTo
  simp only [List.mem_map, List.mem_filter, List.mem_range]
  constructor
  · rintro ⟨a, ⟨h1, h2⟩, rfl⟩; exact ⟨a, h1, h2, rfl⟩
  · rintro ⟨a, h1, h2, rfl⟩; exact ⟨a, ⟨h1, h2⟩, rfl⟩
theorem crit_has {t : List Task} (h : validT t = true) {k : Nat} (hk : k < t.length) : hasB (critF t) k = (eAt t k == lAt t k) := by
  unfold hasB critF
  rw [if_pos h]
  have hp : critP t k = (eAt t k == lAt t k) := rfl
  rw [← hp]
  cases hc : critP t k with
  | true => rw [decide_eq_true_eq]; exact mem_where.2 ⟨k, hk, hc, rfl⟩
  | false =>
    rw [decide_eq_false_iff_not]
    intro hm
    obtain ⟨j, _, h2, h3⟩ := mem_where.1 hm
    have : j = k := by omega
    rw [this, hc] at h2
    cases h2
theorem where_upTo (p : Nat → Bool) (n : Nat) : UpTo (n : Int) (whereTo p n) := by
  refine ⟨fun a ha => ?_, ?_⟩
  · obtain ⟨k, h1, _, rfl⟩ := mem_where.1 ha
    omega
  · unfold whereTo
    rw [List.pairwise_map]
    exact (List.pairwise_lt_range (n := n)).filter _ |>.imp fun h => by omega
theorem crit_upTo {t : List Task} (h : validT t = true) : UpTo (t.length : Int) (critF t) := by
  unfold critF
  rw [if_pos h]
  exact where_upTo _ _
theorem crit_ne {t : List Task} (h : validT t = true) (h1 : 1 ≤ t.length) : 1 ≤ (critF t).length := by
  have hE := eok_valid h
  rcases Nat.eq_zero_or_pos (critF t).length with h0 | h0
  · exfalso
    have hno : ∀ j, j < t.length → eAt t j < lAt t j := fun j hj => by
      have e1 := crit_has h hj
      rw [List.eq_nil_of_length_eq_zero h0] at e1
      have e2 := el hE hj
      have e3 : (eAt t j == lAt t j) = false := by rw [← e1]; rfl
      rw [beq_eq_false_iff_ne] at e3
      omega
    have hd0 := (valid_at h (show 0 < t.length by omega)).1.1
    have t0 := (tot_char hE).2.1 0 (by omega)
    have q0 := (e_char hE (show 0 < t.length by omega)).1
    rw [show ((0 : Nat) : Int) = 0 from rfl] at t0
    have dk := days_k (t := t) (j := 0) (by omega)
    rw [show ((0 : Nat) : Int) = 0 from rfl] at dk
    have := (tot_char hE).2.2 (totOf t - 1) (by omega) fun j hj => by
      have := hno j hj
      have := (l_char hE hj).1
      omega
    omega
  · exact h0
theorem codeV_ok {t : List Task} (h : validT t = true) : codeV t = 0 := by unfold codeV; rw [if_pos h]
theorem projF_ok {t : List Task} (h : validT t = true) : projF t = (totOf t, 0) := by unfold projF; rw [if_pos h]; rfl
theorem delay_code {t : List Task} (h : validT t = true) {k : Nat} (hk : k < t.length) {d : Int} (h0 : 0 ≤ d) (h1 : d ≤ 1000) : delayF t (k : Int) d = (totOf (delayL t k d), 0) := by
  have hc : codeL t (k : Int) d = 0 := by
    unfold codeL
    rw [if_pos h, if_pos ⟨inB_true.2 ⟨by omega, by omega⟩, inB_true.2 ⟨h0, h1⟩⟩]
  unfold delayF
  rw [if_pos hc]
  unfold totOf
  rw [delayL_len]
  simp only [Int.toNat_natCast]
theorem delay_a {t : List Task} (h : DrawnTs t) {k : Nat} (hk : k < t.length) : delayF t (k : Int) (lAt t k - eAt t k) = (totOf t, 0) := by
  have hv := drawn_valid h
  have hE := eok_valid hv
  have h1 := el hE hk
  have h2 := (l_char hE hk).1
  have h3 := (e_char hE hk).1
  have h4 := drawn_tot h hE
  have h5 := (valid_at hv hk).1
  rw [days_k hk] at h2
  rw [delay_code hv hk (by omega) (by omega), delay_same hE hk (delay_ok hv hk (by omega) (by omega))]
theorem delay_b {t : List Task} (h : DrawnTs t) {k : Nat} (hk : k < t.length) : delayF t (k : Int) (lAt t k - eAt t k + 1) = (totOf t + 1, 0) := by
  have hv := drawn_valid h
  have hE := eok_valid hv
  have h1 := el hE hk
  have h2 := (l_char hE hk).1
  have h3 := (e_char hE hk).1
  have h4 := drawn_tot h hE
  have h5 := (valid_at hv hk).1
  rw [days_k hk] at h2
  rw [delay_code hv hk (by omega) (by omega), delay_more hE hk (delay_ok hv hk (by omega) (by omega))]
def costTo (t : List Task) (n : Nat) : Int := costSum t (early t t.length).1 (totOf t) n
theorem cost_a {t : List Task} (h : DrawnTs t) : costF t (totOf t) = (costTo t t.length, 0) := by
  have hv := drawn_valid h
  have h4 := drawn_tot h (eok_valid hv)
  have h5 := (tot_char (eok_valid hv)).1
  have hc : codeD t (totOf t) = 0 := by
    unfold codeD
    rw [if_pos hv, if_pos (inB_true.2 ⟨h5, by omega⟩)]
  unfold costF
  rw [if_pos hc]
  rfl
theorem costTo_next {t : List Task} (h : validT t = true) {k : Nat} (hk : k < t.length) : costTo t (k + 1) = costTo t k + t[k].cost := by
  have h1 := (tot_char (eok_valid h)).2.1 k hk
  have h2 : (early t t.length).1.getD k 0 = eAt t k := rfl
  unfold costTo
  rw [costSum_next]
  unfold costStep
  rw [h2, if_pos h1, costAt_eq hk]
theorem costTo_bound {t : List Task} (h : validT t = true) {k : Nat} (hk : k ≤ t.length) : 0 ≤ costTo t k ∧ costTo t k ≤ 1000000 * (k : Int) := costSum_bound h _ _ hk
def totTo (t : List Task) (n : Nat) : Int := (early t n).2
theorem totTo_next {t : List Task} {k : Nat} (hk : k < t.length) : totTo t (k + 1) = max (totTo t k) (eAt t k + t[k].days) := by
  have hek : eAt t k = startOf t (early t k).1 t[k].after := early_get (Nat.le_refl _) (by omega)
  unfold totTo
  rw [early_next hk]
  simp only [estep]
  rw [hek]
/-- What the law asks of a task. -/
theorem ask {t : List Task} (h : DrawnTs t) {k : Nat} (hk : k < t.length) : (0 ≤ eAt t k ∧ eAt t k ≤ lAt t k ∧ lAt t k + t[k].days ≤ totOf t) ∧ (1 ≤ t[k].days ∧ t[k].days ≤ 20) ∧ (0 ≤ t[k].cost ∧ t[k].cost ≤ 2900) ∧ totOf t ≤ 140 := by
  have hv := drawn_valid h
  have hE := eok_valid hv
  have h2 := (l_char hE hk).1
  rw [days_k hk] at h2
  exact ⟨⟨(e_char hE hk).1, el hE hk, h2⟩, (h.2 k hk).d, (h.2 k hk).c, drawn_tot h hE⟩
theorem ask2 {t : List Task} (h : DrawnTs t) {k : Nat} (hk : k < t.length) {j : Nat} (hj : j < t[k].after.length) : ∃ a : Nat, ∃ ha : a < t.length, a < k ∧ t[k].after[j] = (a : Int) ∧ eAt t a + t[a].days ≤ eAt t k ∧ lAt t a + t[a].days ≤ lAt t k := by
  have hv := drawn_valid h
  have hE := eok_valid hv
  have hm := List.getElem_mem hj
  have hb := (h.2 k hk).a _ hm
  have e1 := (e_char hE hk).2.1 _ hm
  have e2 := (l_char hE (j := t[k].after[j].toNat) (by omega)).2.1 k (behind_after hE hk hm)
  have hlt : t[k].after[j].toNat < t.length := by omega
  rw [daysAt_eq hlt] at e1
  rw [days_k hlt] at e2
  exact ⟨t[k].after[j].toNat, hlt, by omega, by omega, e1, e2⟩
end Go.Proofs.Ytdlddlgpaokgiaa
