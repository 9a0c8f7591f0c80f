/- FnWorkTimes: the plain law. -/
import Derived.Test.YtdlddlgpaokgiaaDelay
import Derived.Test.YtdlddlgpaokgiaaCrit
namespace Go.Proofs.Ytdlddlgpaokgiaa
open Go.RowKit
set_option linter.unusedVariables false
set_option linter.unusedSimpArgs false
def eAt (xs : List Task) (j : Nat) : Int := (early xs xs.length).1.getD j 0
def totOf (xs : List Task) : Int := (early xs xs.length).2
def lAt (xs : List Task) (j : Nat) : Int := (late xs (totOf xs)).getD j 0
theorem fold_char (xs : List Task) (out : List Int) : ∀ (l : List Int) (s : Int), s ≤ l.foldl (startStep xs out) s ∧ (∀ a ∈ l, out.getD a.toNat 0 + daysAt xs a ≤ l.foldl (startStep xs out) s) ∧
    ∀ b, s ≤ b → (∀ a ∈ l, out.getD a.toNat 0 + daysAt xs a ≤ b) → l.foldl (startStep xs out) s ≤ b
  | [], s => ⟨Int.le_refl _, fun a ha => absurd ha (by simp), fun b hb _ => hb⟩
  | x :: l, s => by
    obtain ⟨h1, h2, h3⟩ := fold_char xs out l (startStep xs out s x)
    have hs : s ≤ startStep xs out s x ∧ out.getD x.toNat 0 + daysAt xs x ≤ startStep xs out s x := by unfold startStep; omega
    refine ⟨by rw [List.foldl_cons]; omega, fun a ha => ?_, fun b hb hl => ?_⟩
    · rw [List.foldl_cons]
      rcases List.mem_cons.1 ha with rfl | ha
      · omega
      · exact h2 a ha
    · rw [List.foldl_cons]
      refine h3 b ?_ fun a ha => hl a (List.mem_cons_of_mem _ ha)
      have := hl x (by simp)
      unfold startStep; omega
theorem early_get {xs : List Task} {k : Nat} (hk : k ≤ xs.length) {j : Nat} (hj : j < k) : (early xs k).1.getD j 0 = startOf xs (early xs j).1 (xs[j]'(by omega)).after := by
  induction k with
  | zero => omega
  | succ k ih =>
    rw [early_next (by omega)]
    simp only [estep]
    rw [List.getD_eq_getElem?_getD, List.getElem?_append]
    have hl := early_len (xs := xs) (k := k) (by omega)
    by_cases hjk : j < k
    · rw [if_pos (by omega), ← List.getD_eq_getElem?_getD]
      exact ih (by omega) hjk
    · have : j = k := by omega
      subst this
      rw [if_neg (by omega), hl]
      simp
theorem early_same {xs : List Task} {k j a : Nat} (hk : k ≤ xs.length) (hj : j ≤ xs.length) (h1 : a < k) (h2 : a < j) : (early xs k).1.getD a 0 = (early xs j).1.getD a 0 := by
  rw [early_get hk h1, early_get hj h2]
theorem e_char {xs : List Task} (h : EOk xs) {j : Nat} (hj : j < xs.length) : 0 ≤ eAt xs j ∧ (∀ a ∈ xs[j].after, eAt xs a.toNat + daysAt xs a ≤ eAt xs j) ∧ ∀ b, 0 ≤ b → (∀ a ∈ xs[j].after, eAt xs a.toNat + daysAt xs a ≤ b) → eAt xs j ≤ b := by
  have he : eAt xs j = startOf xs (early xs j).1 xs[j].after := early_get (Nat.le_refl _) hj
  have hs : ∀ a ∈ xs[j].after, (early xs j).1.getD a.toNat 0 = eAt xs a.toNat := fun a ha => by
    have := (h.2 j hj).2 a ha
    exact early_same (by omega) (Nat.le_refl _) (by omega) (by omega)
  obtain ⟨h1, h2, h3⟩ := fold_char xs (early xs j).1 xs[j].after 0
  rw [he]
  unfold startOf
  refine ⟨h1, fun a ha => ?_, fun b hb hl => h3 b hb fun a ha => ?_⟩
  · rw [← hs a ha]; exact h2 a ha
  · rw [hs a ha]; exact hl a ha
theorem tot_to {xs : List Task} (h : EOk xs) {k : Nat} (hk : k ≤ xs.length) : 0 ≤ (early xs k).2 ∧ (∀ j, (hj : j < k) → eAt xs j + daysAt xs j ≤ (early xs k).2) ∧ ∀ b, 0 ≤ b → (∀ j, j < k → eAt xs j + daysAt xs j ≤ b) → (early xs k).2 ≤ b := by
  induction k with
  | zero => exact ⟨by simp [early], fun j hj => absurd hj (by omega), fun b hb _ => by simpa [early] using hb⟩
  | succ k ih =>
    obtain ⟨h1, h2, h3⟩ := ih (by omega)
    have hek : eAt xs k = startOf xs (early xs k).1 (xs[k]'(by omega)).after := early_get (Nat.le_refl _) (by omega)
    have hdk : daysAt xs (k : Nat) = (xs[k]'(by omega)).days := daysAt_eq (a := ((k : Nat) : Int)) (by simp only [Int.toNat_natCast]; omega)
    rw [early_next (by omega)]
    simp only [estep]
    rw [← hek, ← hdk]
    refine ⟨by omega, fun j hj => ?_, fun b hb hl => ?_⟩
    · by_cases hjk : j < k
      · have := h2 j hjk; omega
      · have : j = k := by omega
        subst this; omega
    · have := h3 b hb fun j hj => hl j (by omega)
      have := hl k (by omega)
      omega
theorem tot_char {xs : List Task} (h : EOk xs) : 0 ≤ totOf xs ∧ (∀ j, (hj : j < xs.length) → eAt xs j + daysAt xs j ≤ totOf xs) ∧ ∀ b, 0 ≤ b → (∀ j, j < xs.length → eAt xs j + daysAt xs j ≤ b) → totOf xs ≤ b :=
  tot_to h (Nat.le_refl _)
theorem late_keep (xs : List Task) (tot : Int) {m m' : Nat} (hm : m ≤ m') (hm' : m' ≤ xs.length) {j : Nat} (hj : xs.length - m ≤ j) : (lateL xs tot m').getD j 0 = (lateL xs tot m).getD j 0 := by
  induction m' with
  | zero => have : m = 0 := by omega
            subst this; rfl
  | succ m' ih =>
    by_cases h : m = m' + 1
    · rw [h]
    · rw [← ih (by omega) (by omega)]
      simp only [lateL]
      rw [getD_set]
      by_cases hb : xs.length - 1 - m' = j ∧ j < (lateL xs tot m').length
      · have hl := hb.2
        rw [lateL_len] at hl
        omega
      · rw [if_neg hb]
theorem l_char {xs : List Task} (h : EOk xs) {j : Nat} (hj : j < xs.length) : lAt xs j + daysAt xs j ≤ totOf xs ∧ (∀ k, behind xs (j : Int) k = true → lAt xs j + daysAt xs j ≤ lAt xs k) ∧
    (lAt xs j + daysAt xs j = totOf xs ∨ ∃ k, j < k ∧ k < xs.length ∧ behind xs (j : Int) k = true ∧ lAt xs j + daysAt xs j = lAt xs k) := by
  obtain ⟨m, hm, hmj⟩ : ∃ m, m < xs.length ∧ xs.length - 1 - m = j := ⟨xs.length - 1 - j, by omega, by omega⟩
  have h1 : lAt xs j = endTo xs (totOf xs) (lateL xs (totOf xs) m) (j : Int) xs.length - daysAt xs j := by
    unfold lAt late
    rw [late_keep xs (totOf xs) (m := m + 1) (m' := xs.length) (by omega) (Nat.le_refl _) (by omega)]
    simp only [lateL]
    rw [getD_set, if_pos ⟨hmj, by rw [lateL_len]; exact hj⟩, hmj]
  have hL : ∀ k, j < k → (lateL xs (totOf xs) m).getD k 0 = lAt xs k := fun k hk => by
    unfold lAt late
    rw [late_keep xs (totOf xs) (m := m) (m' := xs.length) (by omega) (Nat.le_refl _) (by omega)]
  obtain ⟨c1, c2, c3⟩ := endTo_char xs (totOf xs) (lateL xs (totOf xs) m) (j : Int) xs.length
  generalize endTo xs (totOf xs) (lateL xs (totOf xs) m) (j : Int) xs.length = e at *
  refine ⟨by omega, fun k hb => ?_, ?_⟩
  · have hl := behind_lt h hb
    have := c2 k hl.2.2 hb
    rw [hL k (by omega)] at this
    omega
  · rcases c3 with c3 | ⟨k, hk, hb, c3⟩
    · exact .inl (by omega)
    · have hl := behind_lt h hb
      rw [hL k (by omega)] at c3
      exact .inr ⟨k, by omega, hk, hb, by omega⟩
theorem behind_after {xs : List Task} (h : EOk xs) {j : Nat} (hj : j < xs.length) {a : Int} (ha : a ∈ xs[j].after) : behind xs ((a.toNat : Nat) : Int) j = true := by
  have := (h.2 j hj).2 a ha
  rw [behind_eq hj, decide_eq_true_eq, Int.toNat_of_nonneg this.1]
  exact ha
theorem after_behind {xs : List Task} {j k : Nat} (hk : k < xs.length) (h : behind xs (j : Int) k = true) : (j : Int) ∈ xs[k].after := by
  rwa [behind_eq hk, decide_eq_true_eq] at h
theorem e_behind {xs : List Task} (h : EOk xs) {j k : Nat} (hb : behind xs (j : Int) k = true) : eAt xs j + daysAt xs j ≤ eAt xs k := by
  have hl := behind_lt h hb
  have := (e_char h hl.2.2).2.1 _ (after_behind hl.2.2 hb)
  simpa using this
theorem e_le_l {xs : List Task} (h : EOk xs) : ∀ m j, j < xs.length → xs.length - j ≤ m → eAt xs j ≤ lAt xs j
  | 0, j, hj, hm => by omega
  | m + 1, j, hj, hm => by
    obtain ⟨c1, c2, c3⟩ := l_char h hj
    rcases c3 with c3 | ⟨k, h1, h2, hb, c3⟩
    · have := (tot_char h).2.1 j hj; omega
    · have i1 := e_le_l h m k h2 (by omega)
      have i2 := e_behind h hb
      omega
theorem el {xs : List Task} (h : EOk xs) {j : Nat} (hj : j < xs.length) : eAt xs j ≤ lAt xs j := e_le_l h _ j hj (Nat.le_refl _)
theorem delay_days {t : List Task} {k : Nat} (hk : k < t.length) (d : Int) (j : Nat) : daysAt (delayL t k d) j = if j = k then daysAt t j + d else daysAt t j := by
  rw [delayL_eq hk]
  unfold daysAt
  simp only [Int.toNat_natCast, List.getElem?_set]
  by_cases h : k = j
  · subst h
    simp [hk]
  · rw [if_neg h, if_neg (fun e => h e.symm)]
theorem delay_after {t : List Task} {k : Nat} (hk : k < t.length) (d : Int) {j : Nat} (hj : j < t.length) (hj' : j < (delayL t k d).length) : (delayL t k d)[j].after = t[j].after := by
  simp only [delayL_eq hk]
  by_cases h : k = j
  · subst h
    rw [List.getElem_set_self]
  · rw [List.getElem_set_ne h]
theorem delay_behind {t : List Task} {k : Nat} (hk : k < t.length) (d : Int) (i : Int) (j : Nat) : behind (delayL t k d) i j = behind t i j := by
  by_cases hj : j < t.length
  · rw [behind_eq hj, behind_eq (show j < (delayL t k d).length by rw [delayL_len]; exact hj), delay_after hk d hj]
  · unfold behind
    rw [List.getElem?_eq_none (by rw [delayL_len]; omega), List.getElem?_eq_none (by omega)]
section
variable {t : List Task} {k : Nat} {d : Int}
theorem delay_low (h : EOk t) (h' : EOk (delayL t k d)) (hk : k < t.length) : ∀ m j, j < m → j < t.length → j ≤ k → eAt (delayL t k d) j ≤ eAt t j
  | 0, j, hm, _, _ => by omega
  | m + 1, j, hm, hj, hjk => by
    have hj' : j < (delayL t k d).length := by rw [delayL_len]; exact hj
    refine (e_char h' hj').2.2 _ (e_char h hj).1 fun a ha => ?_
    rw [delay_after hk d hj] at ha
    have hb := (h.2 j hj).2 a ha
    have i1 := delay_low h h' hk m a.toNat (by omega) (by omega) (by omega)
    have i2 := (e_char h hj).2.1 a ha
    have i3 := delay_days hk d a.toNat
    rw [if_neg (by omega), Int.toNat_of_nonneg hb.1] at i3
    omega
theorem delay_up (h : EOk t) (h' : EOk (delayL t k d)) (hk : k < t.length) {x : Int} (hx : 0 ≤ x) (hd : d ≤ lAt t k - eAt t k + x) : ∀ m j, j < m → j < t.length → eAt (delayL t k d) j ≤ lAt t j + x
  | 0, j, hm, _ => by omega
  | m + 1, j, hm, hj => by
    have hj' : j < (delayL t k d).length := by rw [delayL_len]; exact hj
    have h0 := (e_char h hj).1
    have h1 := el h hj
    refine (e_char h' hj').2.2 _ (by omega) fun a ha => ?_
    rw [delay_after hk d hj] at ha
    have hb := (h.2 j hj).2 a ha
    have i1 := delay_up h h' hk hx hd m a.toNat (by omega) (by omega)
    have i2 := (l_char h (j := a.toNat) (by omega)).2.1 j (behind_after h hj ha)
    have i3 := delay_days hk d a.toNat
    have ea : ((a.toNat : Nat) : Int) = a := Int.toNat_of_nonneg hb.1
    rw [ea] at i2 i3
    by_cases hak : a.toNat = k
    · have i4 := delay_low h h' hk (k + 1) k (by omega) hk (Nat.le_refl _)
      rw [if_pos hak] at i3
      rw [hak] at i2 ⊢
      omega
    · rw [if_neg hak] at i3
      omega
theorem delay_tot_up (h : EOk t) (h' : EOk (delayL t k d)) (hk : k < t.length) {x : Int} (hx : 0 ≤ x) (hd : d ≤ lAt t k - eAt t k + x) : totOf (delayL t k d) ≤ totOf t + x := by
  refine (tot_char h').2.2 _ (by have := (tot_char h).1; omega) fun j hj => ?_
  rw [delayL_len] at hj
  have i1 := delay_up h h' hk hx hd (j + 1) j (by omega) hj
  have i2 := (l_char h hj).1
  have i3 := delay_days hk d j
  by_cases hjk : j = k
  · subst hjk
    have i4 := delay_low h h' hk (j + 1) j (by omega) hk (Nat.le_refl _)
    rw [if_pos rfl] at i3
    omega
  · rw [if_neg hjk] at i3
    omega
theorem delay_mono (h : EOk t) (h' : EOk (delayL t k d)) (hk : k < t.length) (hd : 0 ≤ d) : ∀ m j, j < m → j < t.length → eAt t j ≤ eAt (delayL t k d) j
  | 0, j, hm, _ => by omega
  | m + 1, j, hm, hj => by
    have hj' : j < (delayL t k d).length := by rw [delayL_len]; exact hj
    refine (e_char h hj).2.2 _ (e_char h' hj').1 fun a ha => ?_
    have hb := (h.2 j hj).2 a ha
    have i1 := delay_mono h h' hk hd m a.toNat (by omega) (by omega)
    have i2 := (e_char h' hj').2.1 a (by rw [delay_after hk d hj]; exact ha)
    have i3 := delay_days hk d a.toNat
    rw [Int.toNat_of_nonneg hb.1] at i3
    split at i3 <;> omega
theorem delay_tot_mono (h : EOk t) (h' : EOk (delayL t k d)) (hk : k < t.length) (hd : 0 ≤ d) : totOf t ≤ totOf (delayL t k d) := by
  refine (tot_char h).2.2 _ (tot_char h').1 fun j hj => ?_
  have i1 := delay_mono h h' hk hd (j + 1) j (by omega) hj
  have i2 := (tot_char h').2.1 j (by rw [delayL_len]; exact hj)
  have i3 := delay_days hk d j
  split at i3 <;> omega
theorem delay_push (h : EOk t) (h' : EOk (delayL t k d)) (hk : k < t.length) (hd : 0 ≤ d) : ∀ m j, j < t.length → t.length - j ≤ m → lAt t j + daysAt t j + 1 ≤ eAt (delayL t k d) j + daysAt (delayL t k d) j → totOf t + 1 ≤ totOf (delayL t k d)
  | 0, j, hj, hm, _ => by omega
  | m + 1, j, hj, hm, hp => by
    obtain ⟨c1, c2, c3⟩ := l_char h hj
    rcases c3 with c3 | ⟨i, h1, h2, hb, c3⟩
    · have := (tot_char h').2.1 j (by rw [delayL_len]; exact hj)
      omega
    · have i2 := e_behind h' (j := j) (k := i) (by rw [delay_behind hk]; exact hb)
      have i3 := delay_days hk d i
      refine delay_push h h' hk hd m i h2 (by omega) ?_
      split at i3 <;> omega
end
theorem delay_same {t : List Task} (h : EOk t) {k : Nat} (hk : k < t.length) (h' : EOk (delayL t k (lAt t k - eAt t k))) : totOf (delayL t k (lAt t k - eAt t k)) = totOf t := by
  have i1 := delay_tot_up h h' hk (Int.le_refl 0) (by omega)
  have i2 := delay_tot_mono h h' hk (by have := el h hk; omega)
  omega
theorem delay_more {t : List Task} (h : EOk t) {k : Nat} (hk : k < t.length) (h' : EOk (delayL t k (lAt t k - eAt t k + 1))) : totOf (delayL t k (lAt t k - eAt t k + 1)) = totOf t + 1 := by
  have hs := el h hk
  have i1 := delay_tot_up h h' hk (x := 1) (by omega) (by omega)
  have i2 := delay_push h h' hk (by omega) _ k hk (Nat.le_refl _) (by
    have i3 := delay_days hk (lAt t k - eAt t k + 1) k
    rw [if_pos rfl] at i3
    have i4 := delay_mono h h' hk (by omega) (k + 1) k (by omega) hk
    omega)
  omega
end Go.Proofs.Ytdlddlgpaokgiaa
