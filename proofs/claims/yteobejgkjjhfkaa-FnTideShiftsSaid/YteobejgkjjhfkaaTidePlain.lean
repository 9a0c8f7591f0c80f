/- Spells below a level: the plain law. -/
import Derived.Test.YteobejgkjjhfkaaTideAt
namespace Go.Proofs.Yteobejgkjjhfkaa
open Go.RowKit
set_option linter.unusedVariables false
def setTo (ps : List (Int × Int)) (t : Int) : List (Int × Int) := match ps.getLast? with
  | none => []
  | some r => ps.dropLast ++ [(r.1, t)]
theorem setTo_last (q : List (Int × Int)) (r : Int × Int) (t : Int) : setTo (q ++ [r]) t = q ++ [(r.1, t)] := by simp [setTo]
def spT (low : Int → Bool) (a : Int) : Nat → List (Int × Int)
  | 0 => []
  | j + 1 => if low (a + j) = true then (if 0 < j ∧ low (a + j - 1) = true then setTo (spT low a j) (a + j) else spT low a j ++ [(a + j, a + j)]) else spT low a j
def sumT : List (Int × Int) → Int
  | [] => 0
  | p :: ps => (p.2 - p.1 + 1) + sumT ps
theorem sumT_append : ∀ xs ys, sumT (xs ++ ys) = sumT xs + sumT ys
  | [], ys => by simp [sumT]
  | x :: xs, ys => by simp only [List.cons_append, sumT, sumT_append xs ys]; omega
def cntT (low : Int → Bool) (a : Int) : Nat → Int
  | 0 => 0
  | j + 1 => cntT low a j + (if low (a + j) = true then 1 else 0)
theorem cntT_range (low : Int → Bool) (a : Int) : ∀ j, 0 ≤ cntT low a j ∧ cntT low a j ≤ j
  | 0 => by simp [cntT]
  | j + 1 => by
    have := cntT_range low a j
    simp only [cntT]
    split <;> omega
structure SpTOne (low : Int → Bool) (a : Int) (j : Nat) (p : Int × Int) : Prop where
  pos : a ≤ p.1 ∧ p.1 ≤ p.2 ∧ p.2 < a + j
  all : ∀ m, p.1 ≤ m → m ≤ p.2 → low m = true
structure SpTOk (low : Int → Bool) (a : Int) (j : Nat) (ps : List (Int × Int)) : Prop where
  each : ∀ p ∈ ps, SpTOne low a j p
  cover : ∀ m, a ≤ m → m < a + j → low m = true → ∃ p ∈ ps, p.1 ≤ m ∧ m ≤ p.2
  apart : ps.Pairwise fun x y => (x.2 + 1 : Int) < y.1
  sum : sumT ps = cntT low a j
  last : 0 < j → low (a + j - 1) = true → ∃ (q : List (Int × Int)) (r : Int × Int), ps = q ++ [r] ∧ r.2 = a + j - 1
  len : ps.length ≤ j
theorem spT_ok (low : Int → Bool) (a : Int) : ∀ j, SpTOk low a j (spT low a j)
  | 0 => ⟨by simp [spT], fun m h1 h2 => by omega, by simp [spT], by simp [spT, sumT, cntT], fun h => absurd h (by omega), by simp [spT]⟩
  | j + 1 => by
    have ih := spT_ok low a j
    unfold spT
    generalize spT low a j = ps at ih ⊢
    have hcast : ((j + 1 : Nat) : Int) = (j : Int) + 1 := by omega
    by_cases hA : low (a + j) = true
    · rw [if_pos hA]
      have hcnt : cntT low a (j + 1) = cntT low a j + 1 := by simp only [cntT]; rw [if_pos hA]
      by_cases hB : 0 < j ∧ low (a + j - 1) = true
      · rw [if_pos hB]
        obtain ⟨q, r, rfl, hr⟩ := ih.last hB.1 hB.2
        rw [setTo_last]
        have hap := List.pairwise_append.mp ih.apart
        have er := ih.each r (by simp)
        have hrp := er.pos
        refine ⟨fun p hp => ?_, fun m h1 h2 hl => ?_, ?_, ?_, fun _ _ => ⟨q, (r.1, a + j), rfl, by simp only; omega⟩, by have := ih.len; simp at this ⊢; omega⟩
        · rcases List.mem_append.mp hp with hp | hp
          · have e := ih.each p (by simp [hp])
            exact ⟨⟨e.pos.1, e.pos.2.1, by have := e.pos.2.2; omega⟩, e.all⟩
          · simp only [List.mem_singleton] at hp
            subst hp
            refine ⟨⟨hrp.1, by simp only; omega, by simp only; omega⟩, fun m h1 h2 => ?_⟩
            simp only at h1 h2
            by_cases hm : m = a + j
            · rw [hm]; exact hA
            · exact er.all m h1 (by omega)
        · by_cases hm : m = a + j
          · exact ⟨(r.1, a + j), by simp, by simp only; omega, by simp only; omega⟩
          · obtain ⟨p, hp, g1, g2⟩ := ih.cover m h1 (by omega) hl
            rcases List.mem_append.mp hp with hp | hp
            · exact ⟨p, by simp [hp], g1, g2⟩
            · simp only [List.mem_singleton] at hp
              subst hp
              exact ⟨(p.1, a + j), by simp, g1, by simp only; omega⟩
        · refine List.pairwise_append.mpr ⟨hap.1, by simp, fun x hx y hy => ?_⟩
          simp only [List.mem_singleton] at hy
          subst hy
          exact hap.2.2 x hx r (by simp)
        · rw [hcnt, ← ih.sum, sumT_append, sumT_append]
          simp only [sumT]
          omega
      · rw [if_neg hB]
        have hend : ∀ p ∈ ps, p.2 + 1 < a + j := by
          intro p hp
          have e := ih.each p hp
          have hp3 := e.pos
          refine Int.lt_iff_le_and_ne.mpr ⟨by omega, fun he => ?_⟩
          exact hB ⟨by omega, by rw [show a + (j : Int) - 1 = p.2 by omega]; exact e.all p.2 hp3.2.1 (Int.le_refl _)⟩
        refine ⟨fun p hp => ?_, fun m h1 h2 hl => ?_, ?_, ?_, fun _ _ => ⟨ps, (a + j, a + j), rfl, by simp only; omega⟩, by have := ih.len; simp; omega⟩
        · rcases List.mem_append.mp hp with hp | hp
          · have e := ih.each p hp
            exact ⟨⟨e.pos.1, e.pos.2.1, by have := e.pos.2.2; omega⟩, e.all⟩
          · simp only [List.mem_singleton] at hp
            subst hp
            exact ⟨⟨by simp only; omega, by simp only; omega, by simp only; omega⟩, fun m h1 h2 => by simp only at h1 h2; rw [show m = a + j by omega]; exact hA⟩
        · by_cases hm : m = a + j
          · exact ⟨(a + j, a + j), by simp, by simp only; omega, by simp only; omega⟩
          · obtain ⟨p, hp, g1, g2⟩ := ih.cover m h1 (by omega) hl
            exact ⟨p, by simp [hp], g1, g2⟩
        · refine List.pairwise_append.mpr ⟨ih.apart, by simp, fun x hx y hy => ?_⟩
          simp only [List.mem_singleton] at hy
          subst hy
          exact hend x hx
        · rw [hcnt, ← ih.sum, sumT_append]
          simp only [sumT]
          omega
    · rw [if_neg hA]
      have hcnt : cntT low a (j + 1) = cntT low a j := by simp only [cntT]; rw [if_neg hA]; omega
      refine ⟨fun p hp => ?_, fun m h1 h2 hl => ?_, ih.apart, by rw [hcnt]; exact ih.sum, fun _ hl => ?_, by have := ih.len; omega⟩
      · have e := ih.each p hp
        exact ⟨⟨e.pos.1, e.pos.2.1, by have := e.pos.2.2; omega⟩, e.all⟩
      · by_cases hm : m = a + j
        · rw [hm] at hl; exact absurd hl hA
        · exact ih.cover m h1 (by omega) hl
      · rw [show a + ((j + 1 : Nat) : Int) - 1 = a + j by omega] at hl
        exact absurd hl hA
end Go.Proofs.Yteobejgkjjhfkaa
