/- BestTasks: the plain law. -/
import Derived.Test.YtdlddlgpaokgiaaSubW
import Derived.Test.YtdlddlgpaokgiaaWorksClay
import Derived.Test.YtdlddlgpaokgiaaClosed
import Derived.Test.YtdlddlgpaokgiaaCrit
namespace Go.Proofs.Ytdlddlgpaokgiaa
open Go.RowKit
set_option linter.unusedVariables false
set_option linter.unusedSimpArgs false
def lexB : List Int → List Int → Bool
  | a :: ar, b :: br => if a = b then lexB ar br else decide (a < b)
  | _, _ => false
theorem lexB_iff : ∀ a b : List Int, lexB a b = true ↔ lexLt a b
  | a :: ar, b :: br => by
    simp only [lexB, lexLt]
    by_cases h : a = b
    · rw [if_pos h, lexB_iff ar br]
      subst h
      constructor
      · intro h; exact .inr ⟨rfl, h⟩
      · rintro (h | ⟨_, h⟩)
        · omega
        · exact h
    · rw [if_neg h, decide_eq_true_eq]
      constructor
      · intro h; exact .inl h
      · rintro (h' | ⟨h', _⟩)
        · exact h'
        · exact absurd h' h
  | [], _ => by simp [lexB, lexLt]
  | _ :: _, [] => by simp [lexB, lexLt]
def worthOf (ws l : List Int) : Int := (l.map fun i => ws.getD i.toNat 0).sum
def costOf (t : List Task) (l : List Int) : Int := (l.map fun i => costAt t i.toNat).sum
theorem worthOf_snoc (ws l : List Int) (x : Int) : worthOf ws (l ++ [x]) = worthOf ws l + ws.getD x.toNat 0 := by simp [worthOf]
theorem costOf_snoc (t : List Task) (l : List Int) (x : Int) : costOf t (l ++ [x]) = costOf t l + costAt t x.toNat := by simp [costOf]
def FitB (t : List Task) (money : Int) (l : List Int) : Prop := costOf t l ≤ money ∧ closedB t l = true
/-- The best among the lists of which p holds. -/
structure IsBest (t : List Task) (ws : List Int) (money : Int) (p : List Int → Prop) (b : List Int × Int) : Prop where
  mem : p b.1
  fit : FitB t money b.1
  worth : b.2 = worthOf ws b.1
  best : ∀ l, p l → FitB t money l → worthOf ws l < b.2 ∨ (worthOf ws l = b.2 ∧ (l = b.1 ∨ lt2 b.1 l))
theorem IsBest.unique {t : List Task} {ws : List Int} {money : Int} {p q : List Int → Prop} {b c : List Int × Int} (hb : IsBest t ws money p b) (hc : IsBest t ws money q c) (hpq : ∀ l, p l ↔ q l) : b = c := by
  have h1 := hb.best c.1 ((hpq _).2 hc.mem) hc.fit
  have h2 := hc.best b.1 ((hpq _).1 hb.mem) hb.fit
  rw [← hc.worth] at h1
  rw [← hb.worth] at h2
  have h3 : b.2 = c.2 := by omega
  have h4 : b.1 = c.1 := by
    rcases h1 with h1 | ⟨_, h1 | h1⟩
    · omega
    · exact h1.symm
    · rcases h2 with h2 | ⟨_, h2 | h2⟩
      · omega
      · exact h2
      · exact absurd (lt2_trans h1 h2) (lt2_irrefl _)
  exact Prod.ext h4 h3
def maskL (n b : Nat) : List Int := whereTo (fun i => b.testBit i) n
theorem maskL_zero (n : Nat) : maskL n 0 = [] := by
  induction n with
  | zero => rfl
  | succ n ih => unfold maskL at ih ⊢; rw [whereTo_next, ih]; simp
theorem whereTo_congr {p q : Nat → Bool} {n : Nat} (h : ∀ i, i < n → p i = q i) : whereTo p n = whereTo q n := by
  induction n with
  | zero => rfl
  | succ n ih => rw [whereTo_next, whereTo_next, ih fun i hi => h i (by omega), h n (by omega)]
theorem mask_all {n : Nat} : ∀ {l : List Int}, UpTo (n : Int) l → ∃ b, b < 2 ^ n ∧ maskL n b = l := by
  induction n with
  | zero =>
    intro l h
    have hl0 : l = [] := List.eq_nil_of_length_eq_zero (by have := upTo_len h; omega)
    subst hl0
    exact ⟨0, by simp, rfl⟩
  | succ n ih =>
    intro l h
    have step : ∀ l' : List Int, UpTo (n : Int) l' → ∃ b, b < 2 ^ n ∧ maskL (n + 1) b = l' := fun l' h' => by
      obtain ⟨b, hb, he⟩ := ih h'
      refine ⟨b, hb, ?_⟩
      unfold maskL at he ⊢
      rw [whereTo_next, he, Nat.testBit_lt_two_pow hb]
      simp
    rcases List.eq_nil_or_concat l with rfl | ⟨l', y, rfl⟩
    · obtain ⟨b, hb, he⟩ := step [] ⟨by simp, by simp⟩
      exact ⟨b, by rw [Nat.pow_succ]; omega, he⟩
    · rw [List.concat_eq_append] at h ⊢
      obtain ⟨h1, h2, h3, h4⟩ := upTo_init h
      have hlow : UpTo (n : Int) l' := ⟨fun a ha => by
        have := (List.pairwise_append.mp h.2).2.2 a ha y (by simp)
        have := h1.1 a ha
        omega, h1.2⟩
      by_cases hy : y = n
      · subst hy
        obtain ⟨b, hb, he⟩ := ih hlow
        refine ⟨2 ^ n + b, by rw [Nat.pow_succ]; omega, ?_⟩
        unfold maskL at he ⊢
        rw [whereTo_next, Nat.testBit_two_pow_add_eq, Nat.testBit_lt_two_pow hb]
        rw [whereTo_congr (q := fun i => b.testBit i) fun i hi => Nat.testBit_two_pow_add_gt hi b, he]
        simp
      · obtain ⟨b, hb, he⟩ := step (l' ++ [y]) ⟨fun a ha => by
          rcases List.mem_append.1 ha with ha | ha
          · have := hlow.1 a ha; omega
          · simp only [List.mem_singleton] at ha; omega, h.2⟩
        exact ⟨b, by rw [Nat.pow_succ]; omega, he⟩
theorem mask_upTo (n b : Nat) : UpTo (n : Int) (maskL n b) := by
  refine ⟨fun a ha => ?_, ?_⟩
  · unfold maskL whereTo at ha
    simp only [List.mem_map, List.mem_filter, List.mem_range] at ha
    obtain ⟨k, ⟨h1, _⟩, rfl⟩ := ha
    omega
  · unfold maskL whereTo
    rw [List.pairwise_map]
    exact (List.pairwise_lt_range (n := n)).filter _ |>.imp fun h => by omega
def bstep (t : List Task) (ws : List Int) (money : Int) (b : List Int × Int) (k : Nat) : List Int × Int :=
  if (decide (money < costOf t (maskL t.length k)) || decide (worthOf ws (maskL t.length k) < b.2) || !closedB t (maskL t.length k)) = true then b
  else if (decide (b.2 < worthOf ws (maskL t.length k)) || decide ((maskL t.length k).length < b.1.length) || (decide ((maskL t.length k).length = b.1.length) && lexB (maskL t.length k) b.1)) = true then (maskL t.length k, worthOf ws (maskL t.length k))
  else b
def bscan (t : List Task) (ws : List Int) (money : Int) (n : Nat) : List Int × Int := (List.range n).foldl (bstep t ws money) ([], -1)
theorem bscan_next (t : List Task) (ws : List Int) (money : Int) (n : Nat) : bscan t ws money (n + 1) = bstep t ws money (bscan t ws money n) n := by simp [bscan, List.range_succ]
def MaskTo (n k : Nat) (l : List Int) : Prop := ∃ b, b < k ∧ maskL n b = l
theorem worth_nonneg {ws l : List Int} (h : ∀ x ∈ ws, 0 ≤ x) : 0 ≤ worthOf ws l := by
  unfold worthOf
  induction l with
  | nil => simp
  | cons a l ih =>
    rw [List.map_cons, List.sum_cons]
    have : 0 ≤ ws.getD a.toNat 0 := by
      rw [List.getD_eq_getElem?_getD]
      by_cases hk : a.toNat < ws.length
      · rw [List.getElem?_eq_getElem hk]; exact h _ (List.getElem_mem hk)
      · rw [List.getElem?_eq_none (by omega)]; simp
    omega
theorem bscan_best {t : List Task} {ws : List Int} {money : Int} (hw : ∀ x ∈ ws, 0 ≤ x) (hm : 0 ≤ money) (k : Nat) : IsBest t ws money (MaskTo t.length (k + 1)) (bscan t ws money (k + 1)) := by
  induction k with
  | zero =>
    have h0 : bscan t ws money (0 + 1) = ([], 0) := by
      rw [bscan_next]
      have hb : bscan t ws money 0 = ([], -1) := rfl
      rw [hb]
      unfold bstep
      rw [maskL_zero]
      have hc : closedB t [] = true := rfl
      have h1 : costOf t [] = 0 := rfl
      have h2 : worthOf ws [] = 0 := rfl
      rw [hc, h1, h2, if_neg (by simp; omega), if_pos (by simp)]
    rw [h0]
    refine ⟨⟨0, by omega, maskL_zero _⟩, ⟨hm, rfl⟩, rfl, fun l hl _ => ?_⟩
    obtain ⟨b, hb, rfl⟩ := hl
    have : b = 0 := by omega
    subst this
    right
    rw [maskL_zero]
    exact ⟨rfl, .inl rfl⟩
  | succ k ih =>
    rw [bscan_next]
    generalize bscan t ws money (k + 1) = b at ih
    unfold bstep
    generalize hs : maskL t.length (k + 1) = s
    have old : ∀ l, MaskTo t.length (k + 1 + 1) l → MaskTo t.length (k + 1) l ∨ l = s := fun l ⟨j, hj, he⟩ => by
      by_cases hjk : j < k + 1
      · exact .inl ⟨j, hjk, he⟩
      · have : j = k + 1 := by omega
        subst this
        exact .inr (by rw [← he, hs])
    have keep : (FitB t money s → worthOf ws s < b.2 ∨ (worthOf ws s = b.2 ∧ (s = b.1 ∨ lt2 b.1 s))) → IsBest t ws money (MaskTo t.length (k + 1 + 1)) b := fun h => by
      refine ⟨?_, ih.fit, ih.worth, fun l hl hf => ?_⟩
      · obtain ⟨j, hj, he⟩ := ih.mem
        exact ⟨j, by omega, he⟩
      · rcases old l hl with hl | rfl
        · exact ih.best l hl hf
        · exact h hf
    by_cases h1 : (decide (money < costOf t s) || decide (worthOf ws s < b.2) || !closedB t s) = true
    · rw [if_pos h1]
      simp only [Bool.or_eq_true, decide_eq_true_eq, Bool.not_eq_true'] at h1
      refine keep fun hf => ?_
      have := hf.1
      have := hf.2
      rcases h1 with (h1 | h1) | h1
      · omega
      · exact .inl h1
      · rw [h1] at this; cases this
    · rw [if_neg h1]
      simp only [Bool.or_eq_true, decide_eq_true_eq, Bool.not_eq_true', not_or, Bool.not_eq_false] at h1
      obtain ⟨⟨g1, g2⟩, g3⟩ := h1
      by_cases h2 : (decide (b.2 < worthOf ws s) || decide (s.length < b.1.length) || (decide (s.length = b.1.length) && lexB s b.1)) = true
      · rw [if_pos h2]
        simp only [Bool.or_eq_true, Bool.and_eq_true, decide_eq_true_eq, lexB_iff] at h2
        refine ⟨⟨k + 1, by omega, hs⟩, ⟨by simp only; omega, g3⟩, rfl, fun l hl hf => ?_⟩
        simp only
        rcases old l hl with hl | rfl
        · have := ih.best l hl hf
          rcases h2 with (h2 | h2) | h2
          · left; omega
          · rcases this with this | ⟨e, this⟩
            · left; omega
            · by_cases e' : worthOf ws s = b.2
              · right
                refine ⟨by omega, .inr ?_⟩
                rcases this with rfl | this
                · exact .inl h2
                · exact lt2_trans (.inl h2) this
              · left; omega
          · rcases this with this | ⟨e, this⟩
            · left; omega
            · by_cases e' : worthOf ws s = b.2
              · right
                refine ⟨by omega, .inr ?_⟩
                rcases this with rfl | this
                · exact .inr h2
                · exact lt2_trans (.inr h2) this
              · left; omega
        · exact .inr ⟨rfl, .inl rfl⟩
      · rw [if_neg h2]
        simp only [Bool.or_eq_true, Bool.and_eq_true, decide_eq_true_eq, lexB_iff, not_or, not_and] at h2
        obtain ⟨⟨h2, h3⟩, h4⟩ := h2
        refine keep fun _ => .inr ⟨by omega, ?_⟩
        rcases lt2_tri s b.1 with q | q | q
        · rcases q with q | q
          · omega
          · exact absurd q.2 (h4 q.1)
        · exact .inl q
        · exact .inr q
theorem bscan_all {t : List Task} {ws : List Int} {money : Int} (hw : ∀ x ∈ ws, 0 ≤ x) (hm : 0 ≤ money) : IsBest t ws money (UpTo (t.length : Int)) (bscan t ws money (2 ^ t.length)) := by
  have hp : 1 ≤ 2 ^ t.length := Nat.one_le_two_pow
  have h := bscan_best (t := t) hw hm (2 ^ t.length - 1)
  rw [Nat.sub_add_cancel hp] at h
  refine ⟨?_, h.fit, h.worth, fun l hl hf => h.best l ?_ hf⟩
  · obtain ⟨j, _, he⟩ := h.mem
    rw [← he]
    exact mask_upTo _ _
  · exact mask_all hl
def codeB (t : List Task) (ws : List Int) (money : Int) : Int := if validT t = true then (if decide (ws.length = t.length) && ws.all (fun x => inB x 0 1000) && inB money 0 12000000 then 0 else 2) else 1
def bestF (t : List Task) (ws : List Int) (money : Int) : (List Int × Int) × Int := if codeB t ws money = 0 then (bscan t ws money (2 ^ t.length), 0) else (([], 0), codeB t ws money)
/-! the other side: the lists in their order -/
def qstep (t : List Task) (ws : List Int) (money : Int) (b : List Int × Int) (s : List Int) : List Int × Int :=
  if (decide (costOf t s ≤ money) && decide (b.2 < worthOf ws s) && closedB t s) = true then (s, worthOf ws s) else b
def qscan (t : List Task) (ws : List Int) (money : Int) (L : List (List Int)) : List Int × Int := L.foldl (qstep t ws money) ([], -1)
theorem qscan_next (t : List Task) (ws : List Int) (money : Int) {L : List (List Int)} {k : Nat} (hk : k < L.length) : qscan t ws money (L.take (k + 1)) = qstep t ws money (qscan t ws money (L.take k)) L[k] := by
  unfold qscan
  rw [take_next hk, List.foldl_append]
  rfl
/-- The best so far; none yet if no list is fit. -/
theorem qscan_to {t : List Task} {ws : List Int} {money : Int} (hw : ∀ x ∈ ws, 0 ≤ x) : ∀ (L : List (List Int)), L.Pairwise lt2 →
    (qscan t ws money L = ([], -1) ∧ ∀ l ∈ L, ¬ FitB t money l) ∨ IsBest t ws money (· ∈ L) (qscan t ws money L) := by
  intro L hs
  have key : ∀ k, k ≤ L.length → (qscan t ws money (L.take k) = ([], -1) ∧ ∀ l ∈ L.take k, ¬ FitB t money l) ∨ IsBest t ws money (· ∈ L.take k) (qscan t ws money (L.take k)) := by
    intro k
    induction k with
    | zero => intro _; exact .inl ⟨rfl, by simp⟩
    | succ k ih =>
      intro hk
      have hk' : k < L.length := by omega
      rw [qscan_next _ _ _ hk', take_next hk']
      have hlt : ∀ l ∈ L.take k, lt2 l L[k] := fun l hl => by
        obtain ⟨j, hj, rfl⟩ := List.getElem_of_mem hl
        rw [List.getElem_take]
        have : j < k := by rw [List.length_take] at hj; omega
        exact List.pairwise_iff_getElem.1 hs j k (by omega) hk' this
      have ih := ih (by omega)
      have hpos := worth_nonneg (l := L[k]) hw
      generalize L[k] = s at hlt hpos
      generalize L.take k = M at ih hlt
      generalize qscan t ws money M = b at ih
      unfold qstep
      by_cases hc : (decide (costOf t s ≤ money) && decide (b.2 < worthOf ws s) && closedB t s) = true
      · rw [if_pos hc]
        simp only [Bool.and_eq_true, decide_eq_true_eq] at hc
        right
        refine ⟨List.mem_append.2 (.inr (by simp)), ⟨hc.1.1, hc.2⟩, rfl, fun l hl hf => ?_⟩
        simp only
        rcases List.mem_append.1 hl with hl | hl
        · rcases ih with ⟨_, ih⟩ | ih
          · exact absurd hf (ih l hl)
          · have := ih.best l hl hf
            left; omega
        · rw [List.mem_singleton.1 hl]
          exact .inr ⟨rfl, .inl rfl⟩
      · rw [if_neg hc]
        simp only [Bool.and_eq_true, decide_eq_true_eq, not_and, Bool.not_eq_true] at hc
        rcases ih with ⟨e, ih⟩ | ih
        · left
          refine ⟨e, fun l hl hf => ?_⟩
          rcases List.mem_append.1 hl with hl | hl
          · exact ih l hl hf
          · rw [List.mem_singleton.1 hl] at hf
            have := hc ⟨hf.1, by rw [e]; simp only; omega⟩
            rw [hf.2] at this
            cases this
        · right
          refine ⟨List.mem_append.2 (.inl ih.mem), ih.fit, ih.worth, fun l hl hf => ?_⟩
          rcases List.mem_append.1 hl with hl | hl
          · exact ih.best l hl hf
          · rw [List.mem_singleton.1 hl] at hf ⊢
            rcases Int.lt_trichotomy (worthOf ws s) b.2 with q | q | q
            · exact .inl q
            · exact .inr ⟨q, .inr (hlt _ ih.mem)⟩
            · have := hc ⟨hf.1, q⟩
              rw [hf.2] at this
              cases this
  have := key L.length (Nat.le_refl _)
  rwa [List.take_length] at this
theorem qscan_all {t : List Task} {ws : List Int} {money : Int} (hw : ∀ x ∈ ws, 0 ≤ x) (hm : 0 ≤ money) {L : List (List Int)} (hL : SubAll t.length L) : qscan t ws money L = bscan t ws money (2 ^ t.length) := by
  have h1 := bscan_all (t := t) hw hm
  have hnil : [] ∈ L := hL.all [] ⟨by simp, by simp⟩
  rcases qscan_to (t := t) (money := money) hw L hL.sorted with ⟨_, h⟩ | h
  · exact absurd ⟨hm, rfl⟩ (h [] hnil)
  · exact h.unique h1 fun l => ⟨fun hl => hL.up l hl, fun hl => hL.all l hl⟩
end Go.Proofs.Ytdlddlgpaokgiaa
