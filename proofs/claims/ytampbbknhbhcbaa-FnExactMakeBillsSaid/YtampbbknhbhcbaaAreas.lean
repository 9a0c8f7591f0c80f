/- The areas of the owners: both sides. -/
import Derived.Test.YtampbbknhbhcbaaParcelOk
namespace Go.Proofs.Ytampbbknhbhcbaa
open Go.RowKit
set_option linter.unusedVariables false
def addAt (l : List Int) (o n : Int) : List Int := l.set o.toNat (l.getD o.toNat 0 + n)
def areasL (xs : List Parcel) : List Int := xs.foldl (fun l x => addAt l x.o x.a) (List.replicate 40 0)
theorem foldl_next {α β : Type} (f : β → α → β) (b : β) {xs : List α} {k : Nat} (hk : k < xs.length) : (xs.take (k + 1)).foldl f b = f ((xs.take k).foldl f b) xs[k] := by
  rw [take_next hk, List.foldl_append]; rfl
theorem addAt_len (l : List Int) (o n : Int) : (addAt l o n).length = l.length := by simp [addAt]
theorem areas_next {xs : List Parcel} {k : Nat} (hk : k < xs.length) : areasL (xs.take (k + 1)) = addAt (areasL (xs.take k)) xs[k].o xs[k].a := foldl_next _ _ hk
theorem areas_len (xs : List Parcel) : (areasL xs).length = 40 := by
  unfold areasL
  suffices h : ∀ (ys : List Parcel) (l : List Int), (ys.foldl (fun l x => addAt l x.o x.a) l).length = l.length by rw [h]; simp
  intro ys
  induction ys with
  | nil => intro l; rfl
  | cons y r ih => intro l; rw [List.foldl_cons, ih, addAt_len]
theorem addAt_bd {l : List Int} {o n m b : Int} (hn : 0 ≤ n ∧ n ≤ b) (h : ∀ i, 0 ≤ l.getD i 0 ∧ l.getD i 0 ≤ m) (i : Nat) : 0 ≤ (addAt l o n).getD i 0 ∧ (addAt l o n).getD i 0 ≤ m + b := by
  unfold addAt
  have h1 := h i
  have h2 := h o.toNat
  rw [List.getD_eq_getElem?_getD, List.getElem?_set]
  split
  · split
    · simp only [Option.getD_some]; omega
    · simp only [Option.getD_none]; omega
  · rw [← List.getD_eq_getElem?_getD]; omega
theorem parB_range {x : Parcel} (h : parB x = true) : (1 ≤ x.i ∧ x.i ≤ 9999) ∧ (0 ≤ x.o ∧ x.o ≤ 39) ∧ (1 ≤ x.a ∧ x.a ≤ 10000000) ∧ (0 ≤ x.k ∧ x.k ≤ 3) := by
  simp only [parB, Bool.and_eq_true, inB_true] at h
  omega
theorem areas_bd {xs : List Parcel} (h : xs.all parB = true) (i : Nat) : 0 ≤ (areasL xs).getD i 0 ∧ (areasL xs).getD i 0 ≤ 10000000 * (xs.length : Int) := by
  unfold areasL
  suffices h : ∀ (ys : List Parcel) (l : List Int) (m : Int), ys.all parB = true → (∀ i, 0 ≤ l.getD i 0 ∧ l.getD i 0 ≤ m) → ∀ i, 0 ≤ (ys.foldl (fun l x => addAt l x.o x.a) l).getD i 0 ∧ (ys.foldl (fun l x => addAt l x.o x.a) l).getD i 0 ≤ m + 10000000 * (ys.length : Int) by
    have := h xs (List.replicate 40 0) 0 ‹_› (fun i => by
      rw [List.getD_eq_getElem?_getD, List.getElem?_replicate]
      split <;> simp) i
    omega
  intro ys
  induction ys with
  | nil => intro l m _ h i; simpa using h i
  | cons y r ih =>
    intro l m ha h i
    rw [List.all_cons, Bool.and_eq_true] at ha
    have hy := parB_range ha.1
    have := ih (addAt l y.o y.a) (m + 10000000) ha.2 (addAt_bd (by omega) h) i
    rw [List.foldl_cons, List.length_cons]
    omega
theorem okP_len {xs : List Parcel} (h : okP xs = true) : xs.length ≤ 60 := by
  simp only [okP, Bool.and_eq_true, decide_eq_true_eq] at h; exact h.1.1
theorem okP_all {xs : List Parcel} (h : okP xs = true) : xs.all parB = true := by
  simp only [okP, Bool.and_eq_true] at h; exact h.1.2
theorem okP_at {xs : List Parcel} (h : okP xs = true) {k : Nat} (hk : k < xs.length) : (1 ≤ xs[k].i ∧ xs[k].i ≤ 9999) ∧ (0 ≤ xs[k].o ∧ xs[k].o ≤ 39) ∧ (1 ≤ xs[k].a ∧ xs[k].a ≤ 10000000) ∧ (0 ≤ xs[k].k ∧ xs[k].k ≤ 3) :=
  parB_range (List.all_eq_true.1 (okP_all h) _ (List.getElem_mem hk))
theorem all_take' {α : Type} {p : α → Bool} {xs : List α} (h : xs.all p = true) (k : Nat) : (xs.take k).all p = true := by
  rw [List.all_eq_true] at h ⊢
  exact fun x hx => h x (List.mem_of_mem_take hx)
theorem replicate_getD (n k : Nat) : (List.replicate n (0 : Int)).getD k 0 = 0 := by
  rw [List.getD_eq_getElem?_getD, List.getElem?_replicate]
  split <;> rfl
set_option maxHeartbeats 800000 in
theorem specAreas (A : Option Addr) (xs : List Parcel) (c : Nat) (w : World) (hx : Rd w A xs) (hv : okP xs = true) :
    Calls Try.prog 53 #[.slice A xs.length c] w fun e w' => ∃ V q, e = .returned (.slice V (areasL xs).length q) ∧ Own w' w.heap.size 2 (.slice V (areasL xs).length q) (areasL xs) ∧ Below w.heap.size w w' := by
  have hn := okP_len hv
  go_enter Try.func53, Try.ntmps53
  go_wp2_with (first | (at_make; refine wpList_make' elInt _ rfl _ _ rfl w.heap.size .i64 .i64 _ _ 40 rfl rfl rfl rfl (by decide) (Nat.le_refl _) ?_; intro w1 hown hb1) | fail)
  go_loopw [4] (fun i wr => ∃ k : Nat, k ≤ xs.length ∧ i = .int .i64 k ∧ Own wr w.heap.size 2 (.slice (some ⟨w.heap.size, 0, none⟩) 40 40) (areasL (xs.take k)) ∧ Below w.heap.size w wr) (fun i _ => xs.length - (intOf i).toNat)
  case atStart => exact ⟨0, Nat.zero_le _, rfl, hown, hb1⟩
  case round =>
    obtain ⟨k, hk, rfl, ho, hb⟩ := hrel
    clear hown hb1
    by_cases hlt : k < xs.length
    · obtain ⟨b, off, rfl, c1, c2, c3, c4⟩ := (hx.below hb).parcel hlt
      obtain ⟨-, g, ga, -⟩ := okP_at hv hlt
      have hi : xs[k].o.toNat < (areasL (xs.take k)).length := by rw [areas_len]; omega
      obtain ⟨d1, f1⟩ := ho.int hi
      have hbd := areas_bd (all_take' (okP_all hv) k) xs[k].o.toNat
      have htl : (xs.take k).length ≤ k := List.length_take_le _ _
      have h3 := ho.intSet hi ((areasL (xs.take k)).getD xs[k].o.toNat 0 + xs[k].a)
      rw [show (areasL (xs.take k)).set xs[k].o.toNat ((areasL (xs.take k)).getD xs[k].o.toNat 0 + xs[k].a) = areasL (xs.take (k + 1)) from (areas_next hlt).symm] at h3
      have HO := hid h3
      rw [show (areasL (xs.take k))[xs[k].o.toNat] = (areasL (xs.take k)).getD xs[k].o.toNat 0 by simp [hi]] at d1
      clear h3 ho hx hv hi c1 c4
      generalize (areasL (xs.take k)).getD xs[k].o.toNat 0 = z at HO hbd d1 ⊢
      generalize xs[k].o = o at g c2 d1 f1 HO
      generalize xs[k].a = ar at ga c3 HO
      go_wp2
      go_region
      go_wp2
      go_roundw
      case rel => exact ⟨k + 1, by omega, by go_num, HO.out.drewN _, (hb.setCell (Nat.le_refl _) _).drewN _⟩
      case measure => simp [intOf]; omega
    · have ht : xs.take k = xs := List.take_of_length_le (by omega)
      rw [ht] at ho
      have HO := hid ho
      clear ho hx hv
      go_wp2
      go_ret
      exact ⟨some ⟨w.heap.size, 0, none⟩, 40, by rw [areas_len]; exact rfl, by rw [areas_len]; exact HO.out, hb⟩
set_option maxHeartbeats 800000 in
theorem implAreas (A : Option Addr) (xs : List Parcel) (c : Nat) (w : World) (hx : Rd w A xs) (hv : okP xs = true) :
    Calls Try.prog 38 #[.slice A xs.length c] w fun e w' => ∃ V q, e = .returned (.slice V (areasL xs).length q) ∧ Own w' w.heap.size 2 (.slice V (areasL xs).length q) (areasL xs) ∧ Below w.heap.size w w' := by
  have hn := okP_len hv
  go_enter Try.func38, Try.ntmps38
  go_wp2_with (first | (at_make; refine wpList_make' elInt _ rfl _ _ rfl w.heap.size .i64 .i64 _ _ 40 rfl rfl rfl rfl (by decide) (Nat.le_refl _) ?_; intro w1 hown hb1) | fail)
  go_loopw [9] (fun i wr => ∃ k : Nat, k ≤ xs.length ∧ i = .int .i64 k ∧ Own wr w.heap.size 2 (.slice (some ⟨w.heap.size, 0, none⟩) 40 40) (areasL (xs.take k)) ∧ Below w.heap.size w wr) (fun i _ => xs.length - (intOf i).toNat)
  case atStart => exact ⟨0, Nat.zero_le _, rfl, hown, hb1⟩
  case round =>
    obtain ⟨k, hk, rfl, ho, hb⟩ := hrel
    clear hown hb1
    by_cases hlt : k < xs.length
    · obtain ⟨b, off, rfl, c1, c2, c3, c4⟩ := (hx.below hb).parcel hlt
      obtain ⟨-, g, ga, -⟩ := okP_at hv hlt
      have hi : xs[k].o.toNat < (areasL (xs.take k)).length := by rw [areas_len]; omega
      obtain ⟨d1, f1⟩ := ho.int hi
      have hbd := areas_bd (all_take' (okP_all hv) k) xs[k].o.toNat
      have htl : (xs.take k).length ≤ k := List.length_take_le _ _
      have h3 := ho.intSet hi ((areasL (xs.take k)).getD xs[k].o.toNat 0 + xs[k].a)
      rw [show (areasL (xs.take k)).set xs[k].o.toNat ((areasL (xs.take k)).getD xs[k].o.toNat 0 + xs[k].a) = areasL (xs.take (k + 1)) from (areas_next hlt).symm] at h3
      have HO := hid h3
      have hgs := (ho.block _ rfl).2
      rw [show (areasL (xs.take k))[xs[k].o.toNat] = (areasL (xs.take k)).getD xs[k].o.toNat 0 by simp [hi]] at d1
      clear h3 ho hx hv hi
      generalize (areasL (xs.take k)).getD xs[k].o.toNat 0 = z at HO hbd d1 ⊢
      generalize xs[k].o = o at g c2 d1 f1 HO
      generalize xs[k].a = ar at ga c3 HO
      go_wp2
      go_region
      go_wp2
      go_roundw
      case rel => exact ⟨k + 1, by omega, by go_num, (HO.out.alloc _).drewN _, ((hb.setCell (Nat.le_refl _) _).alloc (hb.setCell (Nat.le_refl _) _).size _).drewN _⟩
      case measure => simp [intOf]; omega
    · have ht : xs.take k = xs := List.take_of_length_le (by omega)
      rw [ht] at ho
      have HO := hid ho
      clear ho hx hv
      go_wp2
      go_ret
      exact ⟨some ⟨w.heap.size, 0, none⟩, 40, by rw [areas_len]; exact rfl, by rw [areas_len]; exact HO.out, hb⟩
end Go.Proofs.Ytampbbknhbhcbaa
