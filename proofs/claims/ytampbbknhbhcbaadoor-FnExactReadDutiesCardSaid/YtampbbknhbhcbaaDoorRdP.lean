/- ReadDuties: the plain law. -/
import Derived.Test.YtampbbknhbhcbaaDoorReadN
import Derived.Test.YtampbbknhbhcbaaDoorDutT
import Derived.Test.YtampbbknhbhcbaaDoorRbP
namespace Go.Proofs.YtampbbknhbhcbaaDoor
open Go.RowKit
set_option linter.unusedVariables false
set_option linter.unusedSimpArgs false
/-- The duty that a word says. -/
def dutyW (f : Int) (w : List UInt8) : Option Duty := match splitB 58 w with
  | [a, b] => match numO a, numO b with
    | some o, some t => some ⟨o, f, t⟩
    | _, _ => none
  | _ => none
def dutsP : Int → List (List UInt8) → Option (List Duty)
  | _, [] => some []
  | f, w :: r => match dutyW f w with
    | some d => (dutsP d.t r).map (d :: ·)
    | none => none
def dutsOf (s : List UInt8) : Option (List Duty) := dutsP 0 (splitB 32 s)
def dutF (s : List UInt8) (len : Int) : List Duty × Bool := match dutsOf s with
  | some xs => if validB xs len = true then (xs, true) else ([], false)
  | none => ([], false)
def flatD : List Duty → List Int
  | [] => []
  | d :: r => d.o :: d.t :: flatD r
def pairsD : Int → List Int → List Duty
  | f, o :: t :: r => ⟨o, f, t⟩ :: pairsD t r
  | _, _ => []
theorem dutyW_some {f : Int} {w : List UInt8} {d : Duty} (h : dutyW f w = some d) : d.f = f ∧ dutyT d = w ∧ w ≠ [] := by
  unfold dutyW at h
  have hj := join_split 58 w
  split at h
  · rename_i a b hs
    split at h
    · rename_i o t h1 h2
      injection h with h
      subst h
      refine ⟨rfl, ?_, ?_⟩
      · unfold dutyT
        rw [(numO_some h1).1, (numO_some h2).1, ← hj, hs]
        simp [joinB]
      · intro e
        subst e
        simp [splitB] at hs
    · cases h
  · cases h
theorem dutyW_text {d : Duty} (h1 : Small d.o) (h2 : Small d.t) : dutyW d.f (dutyT d) = some d := by
  have n1 : ∀ n : Int, (58 : UInt8) ∉ Lib.itoa n := fun n => itoa_not n (by decide) (by decide)
  unfold dutyW dutyT
  rw [List.append_assoc, show [(58 : UInt8)] ++ Lib.itoa d.t = 58 :: Lib.itoa d.t from rfl, splitB_more (n1 _), splitB_last (n1 _)]
  simp only
  rw [numO_itoa h1, numO_itoa h2]
theorem dutsP_some : ∀ {ws : List (List UInt8)} {f : Int} {xs : List Duty}, dutsP f ws = some xs → xs.map dutyT = ws ∧ (∀ w ∈ ws, w ≠ [])
  | [], f, xs, h => by
    simp only [dutsP, Option.some.injEq] at h
    subst h
    exact ⟨rfl, by simp⟩
  | w :: r, f, xs, h => by
    simp only [dutsP] at h
    split at h
    · rename_i d hd
      cases hr : dutsP d.t r with
      | none => rw [hr] at h; cases h
      | some ys =>
        rw [hr] at h
        simp only [Option.map_some, Option.some.injEq] at h
        subst h
        obtain ⟨i1, i2⟩ := dutsP_some hr
        obtain ⟨j1, j2, j3⟩ := dutyW_some hd
        refine ⟨by simp [i1, j2], fun x hx => ?_⟩
        rcases List.mem_cons.1 hx with rfl | hx
        · exact j3
        · exact i2 x hx
    · cases h
theorem dutsP_text : ∀ (xs : List Duty) (f : Int), vdB f xs = true → (∀ d ∈ xs, Small d.o ∧ Small d.t) → dutsP f (xs.map dutyT) = some xs
  | [], f, _, _ => rfl
  | d :: xs, f, hv, hs => by
    simp only [vdB, Bool.and_eq_true, beq_iff_eq] at hv
    obtain ⟨⟨⟨h1, h2⟩, h3⟩, h4⟩ := hv
    have hd := hs d (by simp)
    simp only [List.map_cons, dutsP]
    rw [← h2, dutyW_text hd.1 hd.2]
    simp only
    rw [dutsP_text xs d.t h4 fun x hx => hs x (by simp [hx])]
    rfl
theorem pairs_flat : ∀ (xs : List Duty) (f : Int), vdB f xs = true → pairsD f (flatD xs) = xs
  | [], f, _ => rfl
  | d :: xs, f, hv => by
    simp only [vdB, Bool.and_eq_true, beq_iff_eq] at hv
    obtain ⟨⟨⟨h1, h2⟩, h3⟩, h4⟩ := hv
    simp only [flatD, pairsD]
    rw [pairs_flat xs d.t h4, ← h2]
theorem joinB_snoc (c : UInt8) (x : List UInt8) : ∀ (l : List (List UInt8)), l ≠ [] → joinB c (l ++ [x]) = joinB c l ++ c :: x
  | [], h => absurd rfl h
  | [a], _ => by simp [joinB]
  | a :: b :: r, _ => by
    have ih := joinB_snoc c x (b :: r) (by simp)
    rw [List.cons_append, joinB_cons c a (by simp), ih, joinB_cons c a (by simp)]
    simp
theorem textTo_join (xs : List Duty) : ∀ k, k ≤ xs.length → textTo xs k = joinB 32 ((xs.take k).map dutyT)
  | 0, _ => by simp [textTo, joinB]
  | k + 1, h => by
    have ih := textTo_join xs k (by omega)
    rw [textTo_next (by omega), ih, List.take_succ_eq_append_getElem (show k < xs.length by omega), List.map_append, List.map_cons, List.map_nil]
    unfold sepT
    split
    · rename_i h0
      rw [joinB_snoc]
      · simp
      · intro e
        have := congrArg List.length e
        rw [List.length_map, List.length_take, List.length_nil] at this
        omega
    · rename_i h0
      have : k = 0 := by omega
      subst this
      simp [joinB]
theorem textTo_all (xs : List Duty) : textTo xs xs.length = joinB 32 (xs.map dutyT) := by
  rw [textTo_join xs _ (Nat.le_refl _), List.take_length]
theorem split_join : ∀ (ws : List (List UInt8)), ws ≠ [] → (∀ w ∈ ws, (32 : UInt8) ∉ w) → splitB 32 (joinB 32 ws) = ws
  | [], h, _ => absurd rfl h
  | [a], _, h => by simp only [joinB]; exact splitB_last (h a (by simp))
  | a :: b :: r, _, h => by
    rw [joinB_cons 32 a (by simp), splitB_more (h a (by simp)), split_join (b :: r) (by simp) fun w hw => h w (by simp [hw])]
theorem dutyT_not (d : Duty) : (32 : UInt8) ∉ dutyT d := fun h => by
  have n1 : ∀ n : Int, (32 : UInt8) ∉ Lib.itoa n := fun n => itoa_not n (by decide) (by decide)
  unfold dutyT at h
  simp only [List.mem_append, List.mem_singleton] at h
  rcases h with (h | h) | h
  · exact n1 _ h
  · cases h
  · exact n1 _ h
theorem dutyT_fields (d : Duty) {b : UInt8} (hb : wordB b = false) (r : List UInt8) : fieldL [] (dutyT d ++ b :: r) = Lib.itoa d.o :: Lib.itoa d.t :: fieldL [] r := by
  have w1 : ∀ n : Int, Lib.itoa n ≠ [] := fun n => (itoa_word n).1
  have w2 : ∀ n : Int, ∀ c ∈ Lib.itoa n, wordB c = true := fun n => (itoa_word n).2
  have e : dutyT d ++ b :: r = Lib.itoa d.o ++ 58 :: (Lib.itoa d.t ++ b :: r) := by unfold dutyT; simp
  rw [e, fieldL_next (w1 _) (w2 _) (by decide), fieldL_next (w1 _) (w2 _) hb]
theorem dutyT_last (d : Duty) : fieldL [] (dutyT d) = [Lib.itoa d.o, Lib.itoa d.t] := by
  have w1 : ∀ n : Int, Lib.itoa n ≠ [] := fun n => (itoa_word n).1
  have w2 : ∀ n : Int, ∀ c ∈ Lib.itoa n, wordB c = true := fun n => (itoa_word n).2
  have e : dutyT d = Lib.itoa d.o ++ 58 :: Lib.itoa d.t := by unfold dutyT; simp
  rw [e, fieldL_next (w1 _) (w2 _) (by decide), fieldL_end (w1 _) (w2 _)]
theorem join_fields : ∀ (xs : List Duty), fieldL [] (joinB 32 (xs.map dutyT)) = (flatD xs).map Lib.itoa
  | [] => by simp [joinB, fieldL, flatD]
  | [d] => by simp only [List.map_cons, List.map_nil, joinB, flatD]; exact dutyT_last d
  | d :: e :: r => by
    have ih := join_fields (e :: r)
    rw [List.map_cons, joinB_cons 32 _ (by simp), dutyT_fields d (by decide), ih]
    rfl
theorem nums_itoa : ∀ (L : List Int), (∀ n ∈ L, Small n) → numsO (L.map Lib.itoa) = some L
  | [], _ => rfl
  | n :: L, h => by
    simp only [List.map_cons, numsO]
    rw [numO_itoa (h n (by simp)), nums_itoa L fun x hx => h x (by simp [hx])]
    rfl
theorem flat_small : ∀ (xs : List Duty), (∀ d ∈ xs, Small d.o ∧ Small d.t) → ∀ n ∈ flatD xs, Small n
  | [], _, n, h => by cases h
  | d :: xs, hs, n, h => by
    simp only [flatD, List.mem_cons] at h
    rcases h with rfl | rfl | h
    · exact (hs d (by simp)).1
    · exact (hs d (by simp)).2
    · exact flat_small xs (fun x hx => hs x (by simp [hx])) n h
theorem join_mem {c : UInt8} : ∀ (ws : List (List UInt8)), ∀ x ∈ joinB c ws, x = c ∨ ∃ w ∈ ws, x ∈ w
  | [], x, h => by simp [joinB] at h
  | [a], x, h => .inr ⟨a, by simp, by simpa [joinB] using h⟩
  | a :: b :: r, x, h => by
    rw [joinB_cons c a (by simp)] at h
    rcases List.mem_append.1 h with h | h
    · exact .inr ⟨a, by simp, h⟩
    · rcases List.mem_cons.1 h with h | h
      · exact .inl h
      · rcases join_mem (b :: r) x h with h | ⟨w, hw, h⟩
        · exact .inl h
        · exact .inr ⟨w, by simp [hw], h⟩
theorem dutyT_ascii (d : Duty) : ∀ c ∈ dutyT d, c.toNat < 128 := fun c hc => by
  unfold dutyT at hc
  simp only [List.mem_append, List.mem_singleton] at hc
  rcases hc with (h | rfl) | h
  · exact itoa_ascii _ c h
  · decide
  · exact itoa_ascii _ c h
theorem nums_text {xs : List Duty} (hs : ∀ d ∈ xs, Small d.o ∧ Small d.t) : numsIn (joinB 32 (xs.map dutyT)) = flatD xs := by
  have ha : ∀ c ∈ joinB 32 (xs.map dutyT), c.toNat < 128 := fun c hc => by
    rcases join_mem _ c hc with rfl | ⟨w, hw, h⟩
    · decide
    · obtain ⟨d, _, rfl⟩ := List.mem_map.1 hw
      exact dutyT_ascii d c h
  unfold numsIn numWords numsL
  rw [fields_ascii _ ha, join_fields, nums_itoa _ (flat_small _ hs)]
  rfl
theorem valid_parts {xs : List Duty} {len : Int} (h : validB xs len = true) : vdB 0 xs = true ∧ 1 ≤ xs.length ∧ ∀ d ∈ xs, Small d.o ∧ Small d.t := by
  have hd := duts_ok h
  unfold validB at h
  simp only [Bool.and_eq_true, inB_true, decide_eq_true_eq, beq_iff_eq] at h
  obtain ⟨⟨⟨⟨h1, h2⟩, h3⟩, h4⟩, h5⟩ := h
  refine ⟨h5, h2, fun d hm => ?_⟩
  obtain ⟨k, hk, rfl⟩ := List.mem_iff_getElem.1 hm
  have := hd.2 k hk
  unfold Small
  omega
theorem dutF_yes {s : List UInt8} {xs : List Duty} {len : Int} (hv : validB xs len = true) (ht : textTo xs xs.length = s) : dutF s len = (xs, true) := by
  obtain ⟨h1, h2, h3⟩ := valid_parts hv
  unfold dutF dutsOf
  rw [← ht, textTo_all, split_join]
  · rw [dutsP_text xs 0 h1 h3]
    simp only
    rw [if_pos hv]
  · intro e
    have := congrArg List.length e
    rw [List.length_map, List.length_nil] at this
    omega
  · intro w hw
    obtain ⟨d, _, rfl⟩ := List.mem_map.1 hw
    exact dutyT_not d
theorem dutF_no {s : List UInt8} {len : Int} (h : validB (pairsD 0 (numsIn s)) len = true → dutText (pairsD 0 (numsIn s)) len ≠ s) : dutF s len = ([], false) := by
  unfold dutF
  cases hp : dutsOf s with
  | none => rfl
  | some xs =>
    simp only
    split
    · rename_i hv
      obtain ⟨h1, h2, h3⟩ := valid_parts hv
      have ht := (dutsP_some hp).1
      have hs : joinB 32 (xs.map dutyT) = s := by rw [ht]; exact join_split 32 s
      have hx : pairsD 0 (numsIn s) = xs := by rw [← hs, nums_text h3]; exact pairs_flat xs 0 h1
      rw [hx] at h
      exfalso
      apply h hv
      unfold dutText
      rw [if_pos hv, textTo_all]
      exact hs
    · rfl
theorem dutF_is {s : List UInt8} {len : Int} {xs : List Duty} (hx : pairsD 0 (numsIn s) = xs) (hv : validB xs len = true) (ht : dutText xs len = s) : dutF s len = (xs, true) := by
  unfold dutText at ht
  rw [if_pos hv] at ht
  exact dutF_yes hv ht
theorem split_few (c : UInt8) : ∀ (s : List UInt8) (h : List UInt8) (t : List (List UInt8)), splitB c s = h :: t → t.length + h.length ≤ s.length
  | [], h, t, e => by
    simp only [splitB, List.cons.injEq] at e
    obtain ⟨rfl, rfl⟩ := e
    simp
  | x :: s, h, t, e => by
    have ih := split_few c s
    simp only [splitB] at e
    split at e
    · injection e with e1 e2
      subst e1 e2
      cases hs : splitB c s with
      | nil => exact absurd hs (splitB_ne c s)
      | cons h' t' =>
        have := ih h' t' hs
        simp
        omega
    · split at e
      · rename_i h' t' hs
        injection e with e1 e2
        subst e1 e2
        have := ih h' t' hs
        simp
        omega
      · injection e with e1 e2
        subst e1 e2
        simp
theorem split_count (c : UInt8) (s : List UInt8) : (splitB c s).length ≤ s.length + 1 := by
  cases hs : splitB c s with
  | nil => exact absurd hs (splitB_ne c s)
  | cons h t =>
    have := split_few c s h t hs
    rw [List.length_cons]
    omega
theorem duts_few {s : List UInt8} {xs : List Duty} (h : dutsOf s = some xs) : xs.length ≤ s.length := by
  obtain ⟨h1, h2⟩ := dutsP_some h
  have hl := congrArg List.length h1
  rw [List.length_map] at hl
  cases hs : splitB 32 s with
  | nil => exact absurd hs (splitB_ne 32 s)
  | cons a t =>
    have := split_few 32 s a t hs
    have ha := h2 a (by rw [hs]; simp)
    have : 0 < a.length := List.length_pos_iff.2 ha
    rw [hs, List.length_cons] at hl
    omega
theorem pairs_len : ∀ (L : List Int) (f : Int), (pairsD f L).length ≤ L.length
  | [], f => by simp [pairsD]
  | [a], f => by simp [pairsD]
  | a :: b :: r, f => by
    have := pairs_len r b
    simp only [pairsD, List.length_cons]
    omega
end Go.Proofs.YtampbbknhbhcbaaDoor
