/- Numbers and words read out of a text: plain. -/
import Derived.Test.YtampbbknhbhcbaaDoorStr
namespace Go.Proofs.YtampbbknhbhcbaaDoor
open Go.RowKit
set_option linter.unusedVariables false
set_option linter.unusedSimpArgs false
def digB (c : UInt8) : Bool := decide (48 ≤ c.toNat) && decide (c.toNat ≤ 57)
theorem digB_iff {c : UInt8} : digB c = true ↔ 48 ≤ c.toNat ∧ c.toNat ≤ 57 := by simp [digB]
def stripM : List UInt8 → List UInt8
  | [] => []
  | c :: r => if c = 45 then r else c :: r
def accD (n : Nat) : List UInt8 → Option Nat
  | [] => some n
  | c :: r => if digB c = true then accD (10 * n + (c.toNat - 48)) r else none
def signed (neg : Bool) (m : Nat) : Int := if neg = true then -(m : Int) else m
/-- What the digits say, with the sign. -/
def numV (s : List UInt8) : Option Int :=
  if 1 ≤ (stripM s).length ∧ (stripM s).length ≤ 18 then (accD 0 (stripM s)).map (signed (decide ((stripM s).length < s.length))) else none
/-- The number whose decimal form the text is, of at most 18 digits. -/
def numO (s : List UInt8) : Option Int := match numV s with
  | some n => if Lib.itoa n = s then some n else none
  | none => none
theorem accD_lt : ∀ (l : List UInt8) (n m : Nat), accD n l = some m → n * 10 ^ l.length ≤ m ∧ m < (n + 1) * 10 ^ l.length
  | [], n, m, h => by
    simp only [accD, Option.some.injEq] at h
    simp
    omega
  | c :: l, n, m, h => by
    simp only [accD] at h
    split at h
    · rename_i hd
      have hd := digB_iff.1 hd
      obtain ⟨h1, h2⟩ := accD_lt l _ m h
      rw [List.length_cons, Nat.pow_succ]
      generalize 10 ^ l.length = p at h1 h2 ⊢
      constructor
      · refine Nat.le_trans ?_ h1
        rw [show n * (p * 10) = (10 * n) * p by rw [Nat.mul_comm p 10, ← Nat.mul_assoc, Nat.mul_comm n 10]]
        exact Nat.mul_le_mul_right _ (by omega)
      · refine Nat.lt_of_lt_of_le h2 ?_
        rw [show (n + 1) * (p * 10) = (10 * (n + 1)) * p by rw [Nat.mul_comm p 10, ← Nat.mul_assoc, Nat.mul_comm (n + 1) 10]]
        exact Nat.mul_le_mul_right _ (by omega)
    · cases h
theorem accD_app : ∀ (l r : List UInt8) (n : Nat), accD n (l ++ r) = (accD n l).bind fun m => accD m r
  | [], r, n => by simp [accD]
  | c :: l, r, n => by
    simp only [List.cons_append, accD]
    split
    · exact accD_app l r _
    · rfl
theorem dig_char (d : Nat) (h : d < 10) : (UInt8.ofNat (48 + d)).toNat = 48 + d := by
  rw [UInt8.toNat_ofNat', Nat.mod_eq_of_lt (by omega)]
theorem accD_dec (m : Nat) : accD 0 (Lib.decDigits m) = some m := by
  induction m using Nat.strongRecOn with
  | ind m ih =>
    rw [Lib.decDigits]
    split
    · rename_i h
      simp only [accD]
      rw [if_pos (digB_iff.2 (by rw [dig_char m h]; omega)), dig_char m h]
      congr 1
      omega
    · rename_i h
      rw [accD_app, ih (m / 10) (by omega)]
      simp only [Option.bind_some, accD]
      have hd := dig_char (m % 10) (by omega)
      rw [if_pos (digB_iff.2 (by rw [hd]; omega)), hd]
      congr 1
      omega
theorem dec_dig (m : Nat) : ∀ c ∈ Lib.decDigits m, digB c = true := by
  induction m using Nat.strongRecOn with
  | ind m ih =>
    intro c hc
    rw [Lib.decDigits] at hc
    split at hc
    · rename_i h
      rw [List.mem_singleton.1 hc]
      exact digB_iff.2 (by rw [dig_char m h]; omega)
    · rename_i h
      rcases List.mem_append.1 hc with hc | hc
      · exact ih (m / 10) (by omega) c hc
      · rw [List.mem_singleton.1 hc]
        exact digB_iff.2 (by rw [dig_char (m % 10) (by omega)]; omega)
theorem dec_len18 {m : Nat} (h : m < 1000000000000000000) : 1 ≤ (Lib.decDigits m).length ∧ (Lib.decDigits m).length ≤ 18 :=
  ⟨decDigits_pos m, decDigits_len 17 m (by omega)⟩
theorem dec_len_lt {m : Nat} (h : (Lib.decDigits m).length ≤ 18) : m < 1000000000000000000 := by
  have h1 := (accD_lt _ _ _ (accD_dec m)).2
  have h2 : (10 : Nat) ^ (Lib.decDigits m).length ≤ 10 ^ 18 := Nat.pow_le_pow_right (by decide) h
  omega
theorem strip_dec (m : Nat) : stripM (Lib.decDigits m) = Lib.decDigits m := by
  have h := dec_dig m
  have hp := decDigits_pos m
  cases hd : Lib.decDigits m with
  | nil => rw [hd] at hp; simp at hp
  | cons c r =>
    have hc := digB_iff.1 (h c (by rw [hd]; simp))
    have hne : ¬ c = 45 := fun e => by subst e; exact absurd hc.1 (by decide)
    show (if c = 45 then r else c :: r) = c :: r
    rw [if_neg hne]
theorem strip_itoa (n : Int) : stripM (Lib.itoa n) = Lib.decDigits n.natAbs := by
  unfold Lib.itoa
  split
  · simp [stripM]
  · rename_i h
    rw [strip_dec]
    congr 1
    omega
theorem itoa_neg (n : Int) : decide ((stripM (Lib.itoa n)).length < (Lib.itoa n).length) = decide (n < 0) := by
  rw [strip_itoa, Bool.eq_iff_iff]
  simp only [decide_eq_true_eq]
  unfold Lib.itoa
  split
  · rename_i h; simp [h]
  · rename_i h
    rw [show n.natAbs = n.toNat by omega]
    omega
def Small (n : Int) : Prop := -1000000000000000000 < n ∧ n < 1000000000000000000
theorem numV_itoa {n : Int} (h : Small n) : numV (Lib.itoa n) = some n := by
  unfold Small at h
  unfold numV
  rw [itoa_neg, strip_itoa, if_pos (dec_len18 (by omega)), accD_dec]
  simp only [Option.map_some, signed, Option.some.injEq, decide_eq_true_eq]
  split <;> omega
theorem numO_itoa {n : Int} (h : Small n) : numO (Lib.itoa n) = some n := by
  unfold numO
  rw [numV_itoa h]
  simp
theorem numO_some {s : List UInt8} {n : Int} (h : numO s = some n) : Lib.itoa n = s ∧ Small n := by
  unfold numO at h
  split at h
  · rename_i m hm
    split at h
    · rename_i he
      injection h with h
      subst h
      refine ⟨he, ?_⟩
      unfold numV at hm
      split at hm
      · rename_i hl
        rw [← he, strip_itoa] at hl
        have := dec_len_lt hl.2
        unfold Small
        omega
      · cases hm
    · cases h
  · cases h
theorem numO_range {s : List UInt8} {n : Int} (h : numO s = some n) : -9223372036854775808 ≤ n ∧ n ≤ 9223372036854775807 := by
  have := (numO_some h).2
  unfold Small at this
  omega
/-! the library's ParseInt -/
theorem parseUintM_acc (M : Nat) (hM : 1000000000000000000 ≤ M) : ∀ (l : List UInt8) (n m : Nat), accD n l = some m → m < 1000000000000000000 → Lib.parseUintM M n l = .ok m
  | [], n, m, h, _ => by
    simp only [accD, Option.some.injEq] at h
    subst h
    rfl
  | c :: l, n, m, h, hm => by
    simp only [accD] at h
    split at h
    · rename_i hd
      have hd := digB_iff.1 hd
      have h1 := (accD_lt l _ m h).1
      have h2 : 10 * n + (c.toNat - 48) ≤ m := Nat.le_trans (Nat.le_mul_of_pos_right _ (Nat.pow_pos (by decide))) h1
      simp only [Lib.parseUintM]
      rw [if_pos hd, if_neg (by omega), if_neg (by omega), show n * 10 + (c.toNat - 48) = 10 * n + (c.toNat - 48) by omega]
      exact parseUintM_acc M hM l _ m h hm
    · cases h
theorem parse_itoa {n : Int} (h : Small n) : Lib.parseIntB 64 (Lib.itoa n) = .ok n := by
  unfold Small at h
  have hne := decDigits_pos n.natAbs
  have hu : Lib.parseUintB 64 (Lib.decDigits n.natAbs) = .ok n.natAbs := by
    unfold Lib.parseUintB
    rw [if_neg (fun e => by rw [e] at hne; simp at hne)]
    exact parseUintM_acc _ (by decide) _ _ _ (accD_dec _) (by omega)
  unfold Lib.itoa
  by_cases hn : n < 0
  · rw [if_pos hn]
    simp only [Lib.parseIntB]
    rw [if_pos (.inr (by decide)), hu]
    simp only [show ((45 : UInt8).toNat = 45) = True by simp, not_true_eq_false, false_and, true_and, if_false, if_true]
    rw [if_neg (by omega)]
    congr 1
    omega
  · rw [if_neg hn, show n.toNat = n.natAbs by omega]
    cases hd : Lib.decDigits n.natAbs with
    | nil => rw [hd] at hne; simp at hne
    | cons c r =>
      have hc := digB_iff.1 (dec_dig n.natAbs c (by rw [hd]; simp))
      simp only [Lib.parseIntB]
      rw [if_neg (by omega), ← hd, hu]
      simp only
      rw [if_neg (by omega), if_neg (by omega), if_neg (by omega)]
      congr 1
      omega
/-- What ReadDecimal makes of ParseInt's answer. -/
theorem numO_of_parse {s : List UInt8} {v : Int} (h1 : Lib.itoa v = s) (h2 : (stripM s).length ≤ 18) : numO s = some v := by
  rw [← h1, strip_itoa] at h2
  have := dec_len_lt h2
  rw [← h1]
  exact numO_itoa (by unfold Small; omega)
theorem trim_strip (s : List UInt8) : Lib.trimPrefix s [45] = stripM s := by
  cases s with
  | nil => simp [Lib.trimPrefix, Lib.hasPrefix, stripM]
  | cons c r =>
    by_cases h : c = 45
    · subst h; simp [Lib.trimPrefix, Lib.hasPrefix, stripM]
    · simp [Lib.trimPrefix, Lib.hasPrefix, stripM, h, show ¬ (45 : UInt8) = c from fun e => h e.symm]
/-! words between bytes -/
def splitB (c : UInt8) : List UInt8 → List (List UInt8)
  | [] => [[]]
  | x :: s => if x = c then [] :: splitB c s else match splitB c s with
    | h :: t => (x :: h) :: t
    | [] => [[x]]
theorem splitB_ne (c : UInt8) : ∀ s, splitB c s ≠ []
  | [] => by simp [splitB]
  | x :: s => by
    simp only [splitB]
    split
    · simp
    · split <;> simp
theorem splitB_last {c : UInt8} : ∀ {x : List UInt8}, c ∉ x → splitB c x = [x]
  | [], _ => rfl
  | a :: x, h => by
    simp only [List.mem_cons, not_or] at h
    simp only [splitB]
    rw [if_neg (fun e => h.1 e.symm), splitB_last h.2]
theorem splitB_more {c : UInt8} : ∀ {x : List UInt8}, c ∉ x → ∀ y, splitB c (x ++ c :: y) = x :: splitB c y
  | [], _, y => by simp [splitB]
  | a :: x, h, y => by
    simp only [List.mem_cons, not_or] at h
    simp only [List.cons_append, splitB]
    rw [if_neg (fun e => h.1 e.symm), splitB_more h.2 y]
def joinB (c : UInt8) : List (List UInt8) → List UInt8
  | [] => []
  | [x] => x
  | x :: y :: r => x ++ c :: joinB c (y :: r)
theorem joinB_cons (c : UInt8) (x : List UInt8) {l : List (List UInt8)} (h : l ≠ []) : joinB c (x :: l) = x ++ c :: joinB c l := by
  cases l with
  | nil => exact absurd rfl h
  | cons y r => rfl
theorem join_split (c : UInt8) : ∀ s, joinB c (splitB c s) = s
  | [] => rfl
  | x :: s => by
    have ih := join_split c s
    have hne := splitB_ne c s
    simp only [splitB]
    split
    · rename_i h
      rw [joinB_cons c [] hne, ih, h]
      rfl
    · split
      · rename_i a t he
        rw [he] at ih
        cases t with
        | nil => simp only [joinB] at ih ⊢; rw [ih]
        | cons b t => simp only [joinB] at ih ⊢; rw [← ih]; rfl
      · rename_i he
        exact absurd he hne
theorem dig_not (m : Nat) {c : UInt8} (h : digB c = false) : c ∉ Lib.decDigits m := fun hc => by
  rw [dec_dig m c hc] at h; cases h
theorem itoa_not (n : Int) {c : UInt8} (h : digB c = false) (h2 : c ≠ 45) : c ∉ Lib.itoa n := fun hc => by
  unfold Lib.itoa at hc
  split at hc
  · rcases List.mem_cons.1 hc with hc | hc
    · exact h2 hc
    · exact dig_not _ h hc
  · exact dig_not _ h hc
/-! the words of numbers in a text -/
/-- May a byte stand in a number's word? -/
def wordB (c : UInt8) : Bool := decide (c = 45) || digB c
def fieldL : List UInt8 → List UInt8 → List (List UInt8)
  | cur, [] => if cur = [] then [] else [cur]
  | cur, b :: t => if wordB b = true then fieldL (cur ++ [b]) t else if cur = [] then fieldL [] t else cur :: fieldL [] t
theorem fieldL_word : ∀ (x cur r : List UInt8), (∀ c ∈ x, wordB c = true) → fieldL cur (x ++ r) = fieldL (cur ++ x) r
  | [], cur, r, _ => by simp
  | b :: x, cur, r, h => by
    simp only [List.cons_append, fieldL]
    rw [if_pos (h b (by simp)), fieldL_word x _ r fun c hc => h c (by simp [hc])]
    simp
theorem fieldL_skip : ∀ (x r : List UInt8), (∀ c ∈ x, wordB c = false) → fieldL [] (x ++ r) = fieldL [] r
  | [], r, _ => by simp
  | b :: x, r, h => by
    simp only [List.cons_append, fieldL]
    rw [h b (by simp)]
    simp only [Bool.false_eq_true, if_false, if_true]
    exact fieldL_skip x r fun c hc => h c (by simp [hc])
theorem fieldL_next {x : List UInt8} (hx : x ≠ []) (hw : ∀ c ∈ x, wordB c = true) {b : UInt8} (hb : wordB b = false) (r : List UInt8) : fieldL [] (x ++ b :: r) = x :: fieldL [] r := by
  rw [fieldL_word x [] _ hw, List.nil_append]
  simp only [fieldL]
  rw [hb]
  simp [hx]
theorem fieldL_end {x : List UInt8} (hx : x ≠ []) (hw : ∀ c ∈ x, wordB c = true) : fieldL [] x = [x] := by
  have := fieldL_word x [] [] hw
  rw [List.append_nil, List.nil_append] at this
  rw [this]
  simp [fieldL, hx]
theorem itoa_word (n : Int) : Lib.itoa n ≠ [] ∧ ∀ c ∈ Lib.itoa n, wordB c = true := by
  have hp := decDigits_pos n.natAbs
  have hp2 := decDigits_pos n.toNat
  unfold Lib.itoa
  split
  · refine ⟨by simp, fun c hc => ?_⟩
    unfold wordB
    rcases List.mem_cons.1 hc with hc | hc
    · rw [hc]; simp
    · rw [dec_dig _ c hc]; simp
  · refine ⟨fun e => by rw [e] at hp2; simp at hp2, fun c hc => ?_⟩
    unfold wordB
    rw [dec_dig _ c hc]; simp
/-- The numbers of words; none where one is no number. -/
def numsO : List (List UInt8) → Option (List Int)
  | [] => some []
  | x :: r => match numO x with
    | some n => (numsO r).map (n :: ·)
    | none => none
def numsL (ws : List (List UInt8)) : List Int := (numsO ws).getD []
end Go.Proofs.YtampbbknhbhcbaaDoor
