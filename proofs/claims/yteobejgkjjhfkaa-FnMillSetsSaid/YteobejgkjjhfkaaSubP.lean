/- All strictly rising lists below n in their order: the queue's plain law. -/
import Derived.Test.YteobejgkjjhfkaaAid
namespace Go.Proofs.Yteobejgkjjhfkaa
open Go.RowKit
set_option linter.unusedVariables false
set_option linter.unusedSimpArgs false
/-- Compared number by number. -/
def lexLt : List Int → List Int → Prop
  | a :: ar, b :: br => a < b ∨ (a = b ∧ lexLt ar br)
  | _, _ => False
/-- Fewer, or ar many and less. -/
def lt2 (a b : List Int) : Prop := a.length < b.length ∨ (a.length = b.length ∧ lexLt a b)
theorem lexLt_irrefl : ∀ a, ¬ lexLt a a
  | [], h => h
  | a :: ar, h => by
    simp only [lexLt] at h
    rcases h with h | ⟨_, h⟩
    · omega
    · exact lexLt_irrefl ar h
theorem lexLt_trans : ∀ a b c, lexLt a b → lexLt b c → lexLt a c
  | a :: ar, b :: br, c :: cr, h1, h2 => by
    simp only [lexLt] at h1 h2 ⊢
    rcases h1 with h1 | ⟨e1, h1⟩ <;> rcases h2 with h2 | ⟨e2, h2⟩
    · left; omega
    · left; omega
    · left; omega
    · right; exact ⟨by omega, lexLt_trans ar br cr h1 h2⟩
  | [], _, _, h1, _ => h1.elim
  | _ :: _, [], _, h1, _ => h1.elim
  | _ :: _, _ :: _, [], _, h2 => h2.elim
theorem lexLt_tri : ∀ a b : List Int, a.length = b.length → lexLt a b ∨ a = b ∨ lexLt b a
  | [], [], _ => .inr (.inl rfl)
  | a :: ar, b :: br, h => by
    have h' : ar.length = br.length := by simpa using h
    simp only [lexLt]
    rcases Int.lt_trichotomy a b with e | e | e
    · exact .inl (.inl e)
    · subst e
      rcases lexLt_tri ar br h' with q | q | q
      · exact .inl (.inr ⟨rfl, q⟩)
      · exact .inr (.inl (by rw [q]))
      · exact .inr (.inr (.inr ⟨rfl, q⟩))
    · exact .inr (.inr (.inl e))
  | [], _ :: _, h => by simp at h
  | _ :: _, [], h => by simp at h
theorem lexLt_snoc : ∀ a b : List Int, a.length = b.length → ∀ x y, lexLt a b → lexLt (a ++ [x]) (b ++ [y])
  | [], [], _, x, y, h => h.elim
  | a :: ar, b :: br, h, x, y, hl => by
    simp only [lexLt, List.cons_append] at hl ⊢
    rcases hl with hl | ⟨e, hl⟩
    · exact .inl hl
    · exact .inr ⟨e, lexLt_snoc ar br (by simpa using h) x y hl⟩
  | [], _ :: _, h, _, _, _ => by simp at h
  | _ :: _, [], h, _, _, _ => by simp at h
theorem lexLt_last : ∀ (a : List Int) {x y : Int}, x < y → lexLt (a ++ [x]) (a ++ [y])
  | [], x, y, h => .inl h
  | a :: ar, x, y, h => by
    simp only [lexLt, List.cons_append]
    exact .inr ⟨trivial, lexLt_last ar h⟩
theorem lt2_irrefl (a : List Int) : ¬ lt2 a a := by
  rintro (h | ⟨_, h⟩)
  · omega
  · exact lexLt_irrefl a h
theorem lt2_trans {a b c : List Int} (h1 : lt2 a b) (h2 : lt2 b c) : lt2 a c := by
  rcases h1 with h1 | ⟨e1, h1⟩ <;> rcases h2 with h2 | ⟨e2, h2⟩
  · left; omega
  · left; omega
  · left; omega
  · right; exact ⟨by omega, lexLt_trans a b c h1 h2⟩
theorem lt2_tri (a b : List Int) : lt2 a b ∨ a = b ∨ lt2 b a := by
  rcases Nat.lt_trichotomy a.length b.length with h | h | h
  · exact .inl (.inl h)
  · rcases lexLt_tri a b h with q | q | q
    · exact .inl (.inr ⟨h, q⟩)
    · exact .inr (.inl q)
    · exact .inr (.inr (.inr ⟨h.symm, q⟩))
  · exact .inr (.inr (.inl h))
theorem lt2_snoc {a b : List Int} (h : lt2 a b) (x y : Int) : lt2 (a ++ [x]) (b ++ [y]) := by
  rcases h with h | ⟨e, h⟩
  · left; simp; omega
  · right; exact ⟨by simp [e], lexLt_snoc a b e x y h⟩
theorem lt2_last (a : List Int) {x y : Int} (h : x < y) : lt2 (a ++ [x]) (a ++ [y]) := .inr ⟨by simp, lexLt_last a h⟩
theorem lt2_nil {a : List Int} (h : a ≠ []) : lt2 [] a := .inl (by simpa using List.length_pos_iff.2 h)
/-- From which number on a list can go on. -/
def nx (l : List Int) : Int := match l.getLast? with | some a => a + 1 | none => 0
theorem nx_nil : nx [] = 0 := rfl
theorem nx_snoc (l : List Int) (x : Int) : nx (l ++ [x]) = x + 1 := by simp [nx]
def wt (n : Nat) (l : List Int) : Nat := 2 ^ (n - (nx l).toNat)
theorem wt_pos (n : Nat) (l : List Int) : 1 ≤ wt n l := Nat.one_le_two_pow
theorem sum_ge {n : Nat} : ∀ L : List (List Int), L.length ≤ (L.map (wt n)).sum
  | [] => by simp
  | l :: L => by
    have := sum_ge (n := n) L
    have := wt_pos n l
    simp only [List.length_cons, List.map_cons, List.sum_cons]
    omega
theorem upTo_snoc {n : Int} {l : List Int} (h : UpTo n l) {x : Int} (h1 : nx l ≤ x) (h0 : 0 ≤ x) (h2 : x < n) : UpTo n (l ++ [x]) := by
  refine ⟨fun a ha => ?_, List.pairwise_append.mpr ⟨h.2, by simp, fun a ha b hb => ?_⟩⟩
  · rcases List.mem_append.1 ha with ha | ha
    · exact h.1 a ha
    · simp only [List.mem_singleton] at ha
      omega
  · simp only [List.mem_singleton] at hb
    subst hb
    rcases List.eq_nil_or_concat l with rfl | ⟨l', y, rfl⟩
    · simp at ha
    · rw [List.concat_eq_append] at h1 ha h
      rw [nx_snoc] at h1
      rcases List.mem_append.1 ha with ha | ha
      · have := (List.pairwise_append.mp h.2).2.2 a ha y (by simp)
        omega
      · simp only [List.mem_singleton] at ha
        omega
theorem upTo_init {n : Int} {l : List Int} {x : Int} (h : UpTo n (l ++ [x])) : UpTo n l ∧ nx l ≤ x ∧ 0 ≤ x ∧ x < n := by
  have hx := h.1 x (by simp)
  refine ⟨⟨fun a ha => h.1 a (List.mem_append.2 (.inl ha)), (List.pairwise_append.mp h.2).1⟩, ?_, hx.1, hx.2⟩
  rcases List.eq_nil_or_concat l with rfl | ⟨l', y, rfl⟩
  · exact hx.1
  · rw [List.concat_eq_append] at h ⊢
    rw [nx_snoc]
    have := (List.pairwise_append.mp h.2).2.2 y (by simp) x (by simp)
    omega
theorem nx_nonneg {n : Int} {l : List Int} (h : UpTo n l) : 0 ≤ nx l := by
  rcases List.eq_nil_or_concat l with rfl | ⟨l', y, rfl⟩
  · simp [nx]
  · rw [List.concat_eq_append] at h ⊢
    rw [nx_snoc]
    have := h.1 y (by simp)
    omega
theorem nx_le {n : Nat} {l : List Int} (h : UpTo (n : Int) l) : nx l ≤ n := by
  rcases List.eq_nil_or_concat l with rfl | ⟨l', y, rfl⟩
  · simp [nx]
  · rw [List.concat_eq_append] at h ⊢
    rw [nx_snoc]
    have := h.1 y (by simp)
    omega
/-- The queue: the lists before i have been continued, and list i up to x. -/
structure Sub (n : Nat) (L : List (List Int)) (i : Nat) (x : Int) : Prop where
  up : ∀ l ∈ L, UpTo (n : Int) l
  sorted : L.Pairwise lt2
  nil : [] ∈ L
  from_ : ∀ l ∈ L, l = [] ∨ ∃ (j : Nat) (hj : j < L.length) (y : Int), (j < i ∨ (j = i ∧ y < x)) ∧ l = L[j] ++ [y]
  all : ∀ (j : Nat) (hj : j < L.length) (y : Int), nx L[j] ≤ y → y < n → (j < i ∨ (j = i ∧ y < x)) → L[j] ++ [y] ∈ L
  size : i + (2 ^ (n - x.toNat) + ((L.drop (i + 1)).map (wt n)).sum) = 2 ^ n
  lt : i < L.length
theorem Sub.start (n : Nat) : Sub n [[]] 0 0 := by
  refine ⟨fun l hl => ?_, by simp, by simp, fun l hl => .inl (by simpa using hl), fun j hj y h1 h2 h3 => ?_, by simp, by simp⟩
  · have : l = [] := by simpa using hl
    subst this
    exact ⟨by simp, by simp⟩
  · have : j = 0 := by simpa using hj
    subst this
    simp [nx] at h1
    omega
theorem Sub.len {n : Nat} {L : List (List Int)} {i : Nat} {x : Int} (h : Sub n L i x) : L.length ≤ 2 ^ n := by
  have h1 := h.size
  have h2 := sum_ge (n := n) (L.drop (i + 1))
  have h3 : 1 ≤ 2 ^ (n - x.toNat) := Nat.one_le_two_pow
  have h4 := h.lt
  rw [List.length_drop] at h2
  omega
theorem Sub.push {n : Nat} {L : List (List Int)} {i : Nat} {x : Int} (h : Sub n L i x) (hi : i < L.length) (h0 : 0 ≤ x) (h1 : nx L[i] ≤ x) (h2 : x < n) : Sub n (L ++ [L[i] ++ [x]]) i (x + 1) := by
  have hup := h.up _ (List.getElem_mem hi)
  refine ⟨fun l hl => ?_, List.pairwise_append.mpr ⟨h.sorted, by simp, fun a ha b hb => ?_⟩, List.mem_append.2 (.inl h.nil), fun l hl => ?_, fun j hj y g1 g2 g3 => ?_, ?_, by simp; omega⟩
  · rcases List.mem_append.1 hl with hl | hl
    · exact h.up l hl
    · rw [List.mem_singleton.1 hl]
      exact upTo_snoc hup h1 h0 h2
  · rw [List.mem_singleton.1 hb]
    rcases h.from_ a ha with rfl | ⟨j, hj, y, hjy, rfl⟩
    · exact lt2_nil (by simp)
    · rcases hjy with hjy | ⟨rfl, hjy⟩
      · exact lt2_snoc (List.pairwise_iff_getElem.1 h.sorted j i hj hi hjy) _ _
      · exact lt2_last _ hjy
  · rcases List.mem_append.1 hl with hl | hl
    · rcases h.from_ l hl with rfl | ⟨j, hj, y, hjy, e⟩
      · exact .inl rfl
      · exact .inr ⟨j, by simp; omega, y, by omega, by rw [List.getElem_append_left hj]; exact e⟩
    · exact .inr ⟨i, by simp; omega, x, by omega, by rw [List.getElem_append_left hi]; exact List.mem_singleton.1 hl⟩
  · have hjl : j < L.length := by omega
    rw [List.getElem_append_left hjl] at g1 ⊢
    by_cases hyx : j = i ∧ y = x
    · obtain ⟨rfl, rfl⟩ := hyx
      exact List.mem_append.2 (.inr (by simp))
    · exact List.mem_append.2 (.inl (h.all j hjl y g1 g2 (by omega)))
  · have hs := h.size
    have hd : (L ++ [L[i] ++ [x]]).drop (i + 1) = L.drop (i + 1) ++ [L[i] ++ [x]] := List.drop_append_of_le_length (by omega)
    rw [hd, List.map_append, List.sum_append]
    have hw : wt n (L[i] ++ [x]) = 2 ^ (n - (x + 1).toNat) := by unfold wt; rw [nx_snoc]
    simp only [List.map_cons, List.map_nil, List.sum_cons, List.sum_nil, hw]
    have he : n - x.toNat = (n - (x + 1).toNat) + 1 := by omega
    rw [he, Nat.pow_succ] at hs
    omega
/-- The list i is done. -/
theorem Sub.next {n : Nat} {L : List (List Int)} {i : Nat} {x : Int} (h : Sub n L i x) (hx : x = n) (hi : i + 1 < L.length) : Sub n L (i + 1) (nx (L[i + 1])) := by
  subst hx
  refine ⟨h.up, h.sorted, h.nil, fun l hl => ?_, fun j hj y g1 g2 g3 => ?_, ?_, hi⟩
  · rcases h.from_ l hl with rfl | ⟨j, hj, y, hjy, e⟩
    · exact .inl rfl
    · exact .inr ⟨j, hj, y, by omega, e⟩
  · rcases g3 with g3 | ⟨rfl, g3⟩
    · exact h.all j hj y g1 g2 (by omega)
    · omega
  · have hs := h.size
    rw [List.drop_eq_getElem_cons hi] at hs
    simp only [List.map_cons, List.sum_cons, Int.toNat_natCast, Nat.sub_self, Nat.pow_zero] at hs
    have : wt n L[i + 1] = 2 ^ (n - (nx L[i + 1]).toNat) := rfl
    omega
/-- Every strictly rising list, each once, in order. -/
structure SubAll (n : Nat) (L : List (List Int)) : Prop where
  up : ∀ l ∈ L, UpTo (n : Int) l
  all : ∀ l, UpTo (n : Int) l → l ∈ L
  sorted : L.Pairwise lt2
  len : L.length ≤ 2 ^ n
theorem Sub.done {n : Nat} {L : List (List Int)} {i : Nat} {x : Int} (h : Sub n L i x) (hx : x = n) (hi : i + 1 = L.length) : SubAll n L := by
  subst hx
  refine ⟨h.up, ?_, h.sorted, h.len⟩
  have key : ∀ m (l : List Int), l.length = m → UpTo (n : Int) l → l ∈ L := by
    intro m
    induction m with
    | zero => intro l hl _; rw [List.eq_nil_of_length_eq_zero hl]; exact h.nil
    | succ m ih =>
      intro l hl hu
      rcases List.eq_nil_or_concat l with rfl | ⟨l', y, rfl⟩
      · simp at hl
      · rw [List.concat_eq_append] at hu hl ⊢
        obtain ⟨h1, h2, h3, h4⟩ := upTo_init hu
        obtain ⟨j, hj, e⟩ := List.getElem_of_mem (ih l' (by simpa using hl) h1)
        have := h.all j hj y (by rw [e]; exact h2) h4 (by omega)
        rw [e] at this
        exact this
  exact fun l hl => key _ l rfl hl
end Go.Proofs.Yteobejgkjjhfkaa
