/- ReadBill: the plain law. -/
import Derived.Test.YtampbbknhbhcbaaDoorReadN
import Derived.Test.YtampbbknhbhcbaaDoorBillT
namespace Go.Proofs.YtampbbknhbhcbaaDoor
open Go.RowKit
set_option linter.unusedVariables false
set_option linter.unusedSimpArgs false
def tOwner : List UInt8 := [111, 119, 110, 101, 114]
def tDay : List UInt8 := [100, 97, 121]
def tAmount : List UInt8 := [97, 109, 111, 117, 110, 116]
def tPaid : List UInt8 := [112, 97, 105, 100]
def billOkB (b : Bill) : Bool := inB b.o 0 39 && (inB b.d 0 100000 && (inB b.a 0 1000000000 && inB b.p 0 b.a))
def billTxt (b : Bill) : List UInt8 := ((((((tOwner ++ [32]) ++ Lib.itoa b.o) ++ [32, 100, 97, 121, 32]) ++ Lib.itoa b.d) ++ [32, 97, 109, 111, 117, 110, 116, 32]) ++ Lib.itoa b.a) ++ [32, 112, 97, 105, 100, 32] ++ Lib.itoa b.p
theorem billTxt_eq (b : Bill) : billTxt b = tOwner ++ 32 :: (Lib.itoa b.o ++ 32 :: (tDay ++ 32 :: (Lib.itoa b.d ++ 32 :: (tAmount ++ 32 :: (Lib.itoa b.a ++ 32 :: (tPaid ++ 32 :: Lib.itoa b.p)))))) := by
  simp [billTxt, tOwner, tDay, tAmount, tPaid]
def numsB (w1 w3 w5 w7 : List UInt8) : Option Bill := match numO w1, numO w3, numO w5, numO w7 with
  | some o, some d, some a, some p => if billOkB ⟨o, d, a, p⟩ = true then some ⟨o, d, a, p⟩ else none
  | _, _, _, _ => none
def wordsBill : List (List UInt8) → Option Bill
  | [w0, w1, w2, w3, w4, w5, w6, w7] => if w0 = tOwner ∧ w2 = tDay ∧ w4 = tAmount ∧ w6 = tPaid then numsB w1 w3 w5 w7 else none
  | _ => none
def billP (s : List UInt8) : Option Bill := wordsBill (splitB 32 s)
def billF (s : List UInt8) : Bill × Bool := match billP s with | some b => (b, true) | none => (⟨0, 0, 0, 0⟩, false)
theorem bill_small {b : Bill} (h : billOkB b = true) : Small b.o ∧ Small b.d ∧ Small b.a ∧ Small b.p := by
  unfold billOkB at h
  simp only [Bool.and_eq_true, inB_true] at h
  unfold Small
  omega
theorem numsB_some {w1 w3 w5 w7 : List UInt8} {b : Bill} (h : numsB w1 w3 w5 w7 = some b) : (Lib.itoa b.o = w1 ∧ Lib.itoa b.d = w3 ∧ Lib.itoa b.a = w5 ∧ Lib.itoa b.p = w7) ∧ billOkB b = true := by
  unfold numsB at h
  split at h
  · rename_i o d a p h1 h2 h3 h4
    split at h
    · rename_i hk
      injection h with h
      subst h
      exact ⟨⟨(numO_some h1).1, (numO_some h2).1, (numO_some h3).1, (numO_some h4).1⟩, hk⟩
    · cases h
  · cases h
theorem bill_text {s : List UInt8} {b : Bill} (h : billP s = some b) : billOkB b = true ∧ billTxt b = s := by
  unfold billP at h
  have hj := join_split 32 s
  generalize splitB 32 s = ws at h hj
  unfold wordsBill at h
  split at h
  · rename_i w0 w1 w2 w3 w4 w5 w6 w7
    split at h
    · rename_i hw
      obtain ⟨rfl, rfl, rfl, rfl⟩ := hw
      obtain ⟨⟨h1, h2, h3, h4⟩, hk⟩ := numsB_some h
      refine ⟨hk, ?_⟩
      rw [billTxt_eq, h1, h2, h3, h4, ← hj]
      simp [joinB]
    · cases h
  · cases h
theorem text_bill {b : Bill} (hk : billOkB b = true) : billP (billTxt b) = some b := by
  obtain ⟨s1, s2, s3, s4⟩ := bill_small hk
  have n1 : ∀ n : Int, (32 : UInt8) ∉ Lib.itoa n := fun n => itoa_not n (by decide) (by decide)
  unfold billP
  rw [billTxt_eq, splitB_more (by decide), splitB_more (n1 _), splitB_more (by decide), splitB_more (n1 _), splitB_more (by decide), splitB_more (n1 _), splitB_more (by decide), splitB_last (n1 _)]
  show (if tOwner = tOwner ∧ tDay = tDay ∧ tAmount = tAmount ∧ tPaid = tPaid then numsB (Lib.itoa b.o) (Lib.itoa b.d) (Lib.itoa b.a) (Lib.itoa b.p) else none) = some b
  rw [if_pos ⟨rfl, rfl, rfl, rfl⟩]
  unfold numsB
  rw [numO_itoa s1, numO_itoa s2, numO_itoa s3, numO_itoa s4]
  simp only
  rw [if_pos hk]
theorem bill_words {b : Bill} : fieldL [] (billTxt b) = [Lib.itoa b.o, Lib.itoa b.d, Lib.itoa b.a, Lib.itoa b.p] := by
  have w1 : ∀ n : Int, Lib.itoa n ≠ [] := fun n => (itoa_word n).1
  have w2 : ∀ n : Int, ∀ c ∈ Lib.itoa n, wordB c = true := fun n => (itoa_word n).2
  have e : billTxt b = (tOwner ++ [32]) ++ (Lib.itoa b.o ++ 32 :: ((tDay ++ [32]) ++ (Lib.itoa b.d ++ 32 :: ((tAmount ++ [32]) ++ (Lib.itoa b.a ++ 32 :: ((tPaid ++ [32]) ++ Lib.itoa b.p)))))) := by
    rw [billTxt_eq]; simp
  have n32 : wordB 32 = false := by decide
  rw [e, fieldL_skip _ _ (by decide), fieldL_next (w1 _) (w2 _) n32, fieldL_skip _ _ (by decide), fieldL_next (w1 _) (w2 _) n32, fieldL_skip _ _ (by decide), fieldL_next (w1 _) (w2 _) n32, fieldL_skip _ _ (by decide), fieldL_end (w1 _) (w2 _)]
theorem itoa_ascii (n : Int) : ∀ c ∈ Lib.itoa n, c.toNat < 128 := fun c hc => by
  have := (itoa_word n).2 c hc
  unfold wordB at this
  simp only [Bool.or_eq_true, decide_eq_true_eq, digB_iff] at this
  rcases this with rfl | h
  · decide
  · omega
theorem bill_nums {b : Bill} (hk : billOkB b = true) : numsIn (billTxt b) = [b.o, b.d, b.a, b.p] := by
  obtain ⟨s1, s2, s3, s4⟩ := bill_small hk
  have ha : ∀ c ∈ billTxt b, c.toNat < 128 := fun c hc => by
    have h1 := itoa_ascii b.o
    have h2 := itoa_ascii b.d
    have h3 := itoa_ascii b.a
    have h4 := itoa_ascii b.p
    unfold billTxt at hc
    simp only [List.mem_append] at hc
    rcases hc with ((((((((hc | hc) | hc) | hc) | hc) | hc) | hc) | hc) | hc)
    · revert c; decide
    · revert c; decide
    · exact h1 c hc
    · revert c; decide
    · exact h2 c hc
    · revert c; decide
    · exact h3 c hc
    · revert c; decide
    · exact h4 c hc
  unfold numsIn numWords numsL
  rw [fields_ascii _ ha, bill_words]
  simp [numsO, numO_itoa s1, numO_itoa s2, numO_itoa s3, numO_itoa s4]
theorem billF_yes {s : List UInt8} {b : Bill} (hk : billOkB b = true) (ht : billTxt b = s) : billF s = (b, true) := by
  unfold billF
  rw [← ht, text_bill hk]
theorem billF_no {s : List UInt8} (h : ∀ b, billOkB b = true → billTxt b ≠ s) : billF s = (⟨0, 0, 0, 0⟩, false) := by
  unfold billF
  cases hp : billP s with
  | none => rfl
  | some b => exact absurd (bill_text hp).2 (h b (bill_text hp).1)
end Go.Proofs.YtampbbknhbhcbaaDoor
