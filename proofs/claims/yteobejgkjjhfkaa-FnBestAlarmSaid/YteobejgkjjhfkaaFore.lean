/- Forecasts: walked. -/
import Derived.Test.YteobejgkjjhfkaaPast
import Derived.Test.YteobejgkjjhfkaaThrough
namespace Go.Proofs.Yteobejgkjjhfkaa
open Go.RowKit
set_option linter.unusedVariables false
def LevOk (xs : List Int) : Prop := (1 ≤ xs.length ∧ xs.length ≤ 9) ∧ ∀ x ∈ xs, -1000 ≤ x ∧ x ≤ 1000
set_option maxHeartbeats 4000000 in
theorem a2Levels_ (w : World) (A : Option Addr) (bs : List Byt) (c : Nat) (hr : Rd w A bs) (hb : BytOk bs) :
    Calls Try.prog 45 #[.slice A bs.length c] w fun e w' => ∃ V q xs, e = .returned (.slice V xs.length q) ∧ Rd w' V xs ∧ LevOk xs ∧ Below w.heap.size w w' := by
  have HR := hid hr
  clear hr
  go_enter Try.func45, Try.ntmps45
  go_wp2_with fail
  refine (srcFrom _ A bs c HR.out hb).mono ?_
  rintro e w1 ⟨rfl, hs, hb1⟩
  have hlt := hs.lt
  have HS := hid (hs.next ((Below.refl _ _).alloc (Nat.le_refl _) (.cells #[] 2)))
  have HO := hid (Own.empty (α := Int) (w := w1) (base := w.heap.size + 1) (e := 2) (by omega))
  clear hs hb1
  go_wp2_with fail
  refine (srcPick w _ _ 0 30 HS.out (by omega) (by omega)).mono ?_
  rintro e w2 ⟨r0, rfl, hr0, hs, hp⟩
  have HS1 := hid hs
  have HO1 := hid (HO.out.grown (span_grownBy hp) (.inr (by simp only [Value.ownBlock, ne_eq, Option.some.injEq]; omega)))
  clear hs hp HO HS
  generalize w1.heap.size = G1 at HO1 ⊢
  generalize w.heap.size = g at hlt HS1 HO1 ⊢
  go_wp2_with fail
  refine (srcPick w _ _ _ 9 HS1.out (by omega) (by omega)).mono ?_
  rintro e w3 ⟨r, rfl, hr, hs, hp⟩
  have HS2 := hid hs
  have HO2 := hid (HO1.out.grown (span_grownBy hp) (.inr (fun e => by have := (HO1.out.block g e).1; omega)))
  clear hs hp HO1 HS1
  go_wp2_with fail
  go_loopw [4, 5, 6] (fun u at' i wr => ∃ (j : Nat) (xs : List Int) (a : Int), i = .int .i64 j ∧ at' = .int .i64 a ∧ xs.length + j = r.toNat + 1 ∧ Own wr (g + 1) 2 u xs ∧ (∀ x ∈ xs, -1000 ≤ x ∧ x ≤ 1000) ∧ (-100 - 40 * (xs.length : Int) ≤ a ∧ a ≤ 190 + 40 * (xs.length : Int)) ∧ SrcOk w wr g (4 + 2 * xs.length)) (fun _ _ i _ => (intOf i).toNat)
  case atStart => exact ⟨r.toNat + 1, [], _, val_int (by omega), rfl, by simp, HO2.out, by simp, by simp only [List.length_nil]; omega, HS2.out⟩
  case round =>
    obtain ⟨j, xs, a, rfl, rfl, hj, ho, hx, ha, hs⟩ := hrel
    obtain ⟨wo, rfl⟩ : ∃ wo : World, wo = wr := ⟨_, rfl⟩
    have HO := hid ho
    have HX := hid hx
    have HS := hid hs
    have hz : g + 1 ≤ wo.heap.size := hs.lt
    obtain ⟨V, vq, rfl⟩ := ho.form
    clear ho hx hs HO2 HS2
    by_cases hj0 : 0 < j
    · go_wp2_with (first | fail | (at_builtin; refine wpList_push elInt _ rfl (.tmp 21) (.tmp 23) rfl (g + 1) _ xs a rfl (HO.out.alloc _) _ rfl (heap_alloc_new _ _) (by omega) (le_alloc hz) ?_; intro v' w' hown' hg' hat'; refine keep_ ?_))
      have hs3 : SrcOk w w' g (4 + 2 * xs.length) := by
        have h1 := HS.out.next ((Below.refl _ _).alloc (Nat.le_refl _) (.cells #[.int .i64 a] 2))
        refine h1.span (lo := g + 1) (hi := w'.heap.size + wo.heap.size + 2) (Span.of_grown hg' fun q hq => ?_) (.inl (by omega)) (by have := HS.out.base; omega)
        have h2 := (HO.out.block q hq)
        omega
      have Z1 := hid hs3
      have Z2 := hid hown'
      clear hs3 hown' hg' hat'
      refine go_ ?_
      go_wp2_with fail
      refine (srcPick w _ _ _ 5 Z1.out (by omega) (by omega)).mono ?_
      rintro e w4 ⟨r4, rfl, hr4, hs, hp⟩
      have Z3 := hid hs
      have Z4 := hid (Z2.out.grown (span_grownBy hp) (.inr (fun e => by have := (Z2.out.block g e).1; omega)))
      clear hs hp
      go_wp2_with fail
      go_roundw
      case rel => exact ⟨j - 1, xs ++ [a], _, val_int (by omega), rfl, by simp; omega, Z4.out, fun x hx => by rcases List.mem_append.1 hx with h | h; exact HX.out x h; simp at h; omega, by simp only [List.length_append, List.length_cons, List.length_nil]; omega, by rw [List.length_append]; exact Z3.out⟩
      case measure => simp [intOf]; omega
    · have hln : xs.length ≤ 9 := by omega
      have E1 := hid (HO.out.rd (by omega))
      go_wp2_with fail
      go_ret
      exact ⟨V, vq, xs, rfl, E1.out, ⟨by omega, HX.out⟩, HS.out.below⟩
set_option maxHeartbeats 1000000 in
theorem implAll_Level (A : Option Addr) (xs : List Int) (c : Nat) (p : Int → Bool) (w : World) (hx : Rd w A xs)
    (hcl : ∀ x ∈ xs, ∀ w', Below w.heap.size w w' → Calls Try.prog 93 #[.int .i64 x] w' fun e w'' => e = .returned (.bool (p x)) ∧ Below w'.heap.size w' w'') :
    Calls Try.prog 75 #[.slice A xs.length c, .func (.func 93) #[] #[]] w fun e w' => e = .returned (.bool (xs.all p)) ∧ Below w.heap.size w w' := by
  have hn := hx.len
  go_enter Try.func75, Try.ntmps75
  go_wp2
  go_loopw [9] (fun i wr => ∃ k : Nat, k ≤ xs.length ∧ i = .int .i64 k ∧ (xs.take k).all p = true ∧ ∃ q, wr = w.more q) (fun i _ => xs.length - (intOf i).toNat)
  case atStart => exact ⟨0, Nat.zero_le _, rfl, rfl, more_self⟩
  case round =>
    obtain ⟨k, hk, rfl, ht, q, rfl⟩ := hrel
    have Ht := hid ht
    clear ht
    by_cases hlt : k < xs.length
    · obtain ⟨b, off, rfl, c1⟩ := hx.int hlt
      have hc := hcl _ (List.getElem_mem hlt) (w.more q) more_below
      have hmem := List.getElem_mem hlt
      have HT : Hid ((xs.take (k + 1)).all p = p xs[k]) := by
        show (xs.take (k + 1)).all p = p xs[k]
        rw [take_next hlt, List.all_append, Ht.out]; simp
      have HF : Hid (p xs[k] = false → xs.all p = false) := fun h => by
        rw [List.all_eq_false]
        exact ⟨xs[k], hmem, by simp [h]⟩
      generalize xs[k] = x at c1 hc HT HF
      clear hx hcl hmem
      by_cases h1 : p x = true
      · go_wp2_with (go_at_call 93; refine hc.mono ?_; rintro e w' ⟨rfl, hb⟩; rw [h1])
        go_roundw
        case rel => exact ⟨k + 1, by omega, by go_num, by rw [HT.out]; exact h1, below_ex (more_below.trans (hb.mono more_size))⟩
        case measure => simp [intOf]; omega
      · rw [Bool.not_eq_true] at h1
        go_wp2_with (go_at_call 93; refine hc.mono ?_; rintro e w' ⟨rfl, hb⟩; rw [h1])
        go_ret
        exact ⟨ret_bool (HF.out h1).symm, more_below.trans (hb.mono more_size)⟩
    · have HE : Hid (xs.all p = true) := by
        have := Ht.out
        rw [List.take_of_length_le (by omega)] at this
        exact this
      clear hx hcl
      go_wp2
      go_ret
      exact ⟨ret_bool HE.out.symm, more_below⟩
set_option maxHeartbeats 1000000 in
theorem areLevels_ (A : Option Addr) (xs : List Int) (c : Nat) (w : World) (hx : Rd w A xs) (hr : ∀ x ∈ xs, -2000 ≤ x ∧ x ≤ 2000) :
    Calls Try.prog 96 #[.slice A xs.length c] w fun e w' => e = .returned (.bool true) ∧ Below w.heap.size w w' := by
  have HX := hid hx
  have HA : Hid (xs.all (fun n => inB n (-2000) 2000) = true) := by
    show xs.all (fun n => inB n (-2000) 2000) = true
    rw [List.all_eq_true]
    exact fun x h => inB_lit (hr x h)
  clear hx hr
  go_enter Try.func96, Try.ntmps96
  go_wp2_with fail
  refine (implAll_Level _ _ _ (fun n => inB n (-2000) 2000) _ HX.out (fun x _ w' _ => (validLevel_ x w').mono ?_)).mono ?_
  · rintro e w2 ⟨rfl, rfl⟩
    exact ⟨rfl, Below.refl _ _⟩
  rintro e w2 ⟨rfl, hb⟩
  rw [HA.out]
  have HB := hid hb
  clear hb
  go_wp2_with fail
  go_ret
  exact ⟨rfl, HB.out⟩
def plus7 (ys : List Int) : List Int := ys.map (· + 7)
theorem plus7_len (ys : List Int) : (plus7 ys).length = ys.length := by simp [plus7]
theorem Rd.plus {w : World} {A : Option Addr} {ys : List Int} (h : Rd w A (plus7 ys)) {k : Nat} (hk : k < ys.length) : ∃ b off, A = some ⟨b, off, none⟩ ∧ w.cell? ⟨b, off + k, none⟩ = some (.int .i64 (ys[k] + 7)) := by
  obtain ⟨b, off, hA, hc⟩ := h.int (k := k) (by rw [plus7_len]; exact hk)
  exact ⟨b, off, hA, by rw [hc]; simp [plus7]⟩
theorem plus7_ok {ys : List Int} (h : LevOk ys) : ∀ x ∈ plus7 ys, -2000 ≤ x ∧ x ≤ 2000 := by
  intro x hx
  obtain ⟨y, hy, rfl⟩ := List.mem_map.mp hx
  have := h.2 y hy
  omega
set_option maxHeartbeats 1000000 in
theorem areForecasts_ (A B : Option Addr) (ys : List Int) (c d : Nat) (w : World) (hx : Rd w A (plus7 ys)) (hy : Rd w B ys) (hok : LevOk ys) :
    Calls Try.prog 94 #[.slice A ys.length c, .slice B ys.length d] w fun e w' => e = .returned (.bool true) ∧ Below w.heap.size w w' := by
  have HX := hid hx
  have HY := hid hy
  have HOK := hid hok
  have hl := hok.1
  have hc1 : ∀ w1, Below w.heap.size w w1 → Calls Try.prog 96 #[.slice A ys.length c] w1 fun e w' => e = .returned (.bool true) ∧ Below w1.heap.size w1 w' := fun w1 hb => by
    have h9 := areLevels_ A (plus7 ys) c w1 (hx.below hb) (plus7_ok hok)
    rwa [plus7_len] at h9
  have HC := hid hc1
  clear hx hy hok hc1
  go_enter Try.func94, Try.ntmps94
  go_wp2_with fail
  refine (HC.out _ (Below.refl _ _)).mono ?_
  rintro e w1 ⟨rfl, hb⟩
  have HB := hid hb
  have HY1 := hid (HY.out.below hb)
  clear hb
  go_wp2_with fail
  refine (areLevels_ _ _ _ _ HY1.out (fun x hx => by have := HOK.out.2 x hx; omega)).mono ?_
  rintro e w2 ⟨rfl, hb⟩
  have HB2 := hid (HB.out.trans (hb.mono HB.out.size))
  clear hb
  go_wp2_with fail
  go_ret
  exact ⟨rfl, HB2.out⟩
set_option maxHeartbeats 2000000 in
theorem errorsOf_ (A B : Option Addr) (ys : List Int) (c d : Nat) (w : World) (hx : Rd w A (plus7 ys)) (hy : Rd w B ys) (hok : LevOk ys) :
    Calls Try.prog 95 #[.slice A ys.length c, .slice B ys.length d] w fun e w' => ∃ V q, e = .returned (.slice V ys.length q) ∧ Rd w' V (List.replicate ys.length (7 : Int)) ∧ Below w.heap.size w w' := by
  have HX := hid hx
  have HY := hid hy
  have hl := hok.1
  have HOK := hid hok
  clear hx hy hok
  go_enter Try.func95, Try.ntmps95
  go_wp2_with fail
  go_loopw [5, 11] (fun ov i wr => ∃ k : Nat, k ≤ ys.length ∧ i = .int .i64 k ∧ Own wr w.heap.size 2 ov (List.replicate k (7 : Int)) ∧ Below w.heap.size w wr) (fun _ i _ => ys.length - (intOf i).toNat)
  case atStart => exact ⟨0, Nat.zero_le _, rfl, Own.empty (Nat.le_refl _), (Below.refl _ _).alloc (Nat.le_refl _) _⟩
  case round =>
    obtain ⟨k, hk, rfl, ho, hq⟩ := hrel
    obtain ⟨wo, rfl⟩ : ∃ wo : World, wo = wr := ⟨_, rfl⟩
    have HQ := hid hq
    have HO := hid ho
    have HX2 := hid (HX.out.below hq)
    have HY2 := hid (HY.out.below hq)
    obtain ⟨V, vq, rfl⟩ := ho.form
    rw [List.length_replicate] at HO ⊢
    clear ho hq
    by_cases hlt : k < ys.length
    · obtain ⟨b, off, rfl, c1⟩ := HX2.out.plus hlt
      obtain ⟨b2, off2, rfl, c2⟩ := HY2.out.int hlt
      have hyr := HOK.out.2 _ (List.getElem_mem hlt)
      generalize ys[k] = y at c1 c2 hyr
      go_wp2_with (first | fail | (at_builtin; refine keep_ ?_))
      refine go_ ?_
      rw [show y + 7 - y = 7 by omega]
      refine wpList_push elInt _ rfl (.tmp 16) (.tmp 23) rfl w.heap.size _ (List.replicate k (7 : Int)) (7 : Int) rfl (HO.out.alloc _) _ rfl (heap_alloc_new _ _) (by simp; omega) (le_alloc HQ.out.size) ?_
      intro v' w' hown' hg' hat'
      have hbn := below_own (HQ.out.alloc HQ.out.size _) (HO.out.alloc _) hg' (Nat.le_refl _) (le_alloc HQ.out.size)
      have Z1 := hid hbn
      have Z2 := hid hown'
      clear hbn hown' hg' hat'
      go_wp2_with fail
      go_roundw
      case rel => exact ⟨k + 1, by omega, by go_num, by rw [List.replicate_succ']; exact Z2.out, Z1.out⟩
      case measure => simp [intOf]; omega
    · have hke : k = ys.length := by omega
      subst hke
      have E1 := hid (HO.out.rd (by simp; omega))
      go_wp2_with fail
      go_ret
      exact ⟨V, vq, rfl, E1.out, HQ.out⟩
set_option maxHeartbeats 1000000 in
theorem errorsOfForecast_ (A B : Option Addr) (ys : List Int) (c d : Nat) (w : World) (hx : Rd w A (plus7 ys)) (hy : Rd w B ys) (hok : LevOk ys) :
    Calls Try.prog 46 #[.slice A ys.length c, .slice B ys.length d] w fun e w' => ∃ V q, e = .returned (.tuple #[.slice V ys.length q, .int .i64 0]) ∧ Rd w' V (List.replicate ys.length (7 : Int)) ∧ Below w.heap.size w w' := by
  have HX := hid hx
  have HY := hid hy
  have HOK := hid hok
  clear hx hy hok
  go_enter Try.func46, Try.ntmps46
  go_wp2_with fail
  refine (areForecasts_ _ _ _ _ _ _ HX.out HY.out HOK.out).mono ?_
  rintro e w1 ⟨rfl, hb⟩
  have HB := hid hb
  have HX1 := hid (HX.out.below hb)
  have HY1 := hid (HY.out.below hb)
  clear hb
  go_wp2_with fail
  refine (errorsOf_ _ _ _ _ _ _ HX1.out HY1.out HOK.out).mono ?_
  rintro e w2 ⟨V, q, rfl, hr, hb⟩
  have HR := hid hr
  have HB2 := hid (HB.out.trans (hb.mono HB.out.size))
  clear hr hb
  go_wp2_with fail
  go_ret2
  exact ⟨V, q, rfl, HR.out, HB2.out⟩
theorem floor7 (n : Int) (h : 1 ≤ n ∧ n ≤ 9) (w : World) : Calls Try.prog 129 #[.int .i64 (2 * (7 * n) + n), .int .i64 (2 * n)] w fun e w' => e = .returned (.int .i64 7) ∧ w = w' := by
  have hd : (2 * (7 * n) + n) / (2 * n) = 7 := by
    have : n = 1 ∨ n = 2 ∨ n = 3 ∨ n = 4 ∨ n = 5 ∨ n = 6 ∨ n = 7 ∨ n = 8 ∨ n = 9 := by omega
    rcases this with rfl | rfl | rfl | rfl | rfl | rfl | rfl | rfl | rfl <;> rfl
  have hm : (2 * (7 * n) + n) % (2 * n) = n := by
    have : n = 1 ∨ n = 2 ∨ n = 3 ∨ n = 4 ∨ n = 5 ∨ n = 6 ∨ n = 7 ∨ n = 8 ∨ n = 9 := by omega
    rcases this with rfl | rfl | rfl | rfl | rfl | rfl | rfl | rfl | rfl <;> rfl
  generalize hN : 2 * (7 * n) + n = N at hd hm ⊢
  generalize hD : 2 * n = D at hd hm ⊢
  have hN0 : 0 ≤ N ∧ N ≤ 200 := by omega
  have hD0 : 1 ≤ D ∧ D ≤ 20 := by omega
  clear hN hD
  go_enter Try.func129, Try.ntmps129
  go_wp2_with fail
  go_ret
  exact ⟨by first | rfl | exact ret_int hd, rfl⟩
theorem nearest7 (n : Int) (h : 1 ≤ n ∧ n ≤ 9) (w : World) : Calls Try.prog 90 #[.agg #[.int .i64 (7 * n), .int .i64 n]] w fun e w' => e = .returned (.int .i64 7) ∧ Below w.heap.size w w' := by
  go_enter Try.func90, Try.ntmps90
  go_wp2_with (go_at_call 129; refine (floor7 n h _).mono ?_; rintro e w' ⟨rfl, rfl⟩)
  go_ret
  exact ⟨rfl, (Below.refl _ _).alloc (Nat.le_refl _) _⟩
theorem sum7 : ∀ n : Nat, (List.replicate n (7 : Int)).sum = 7 * n
  | 0 => by simp
  | n + 1 => by rw [List.replicate_succ, List.sum_cons, sum7 n]; omega
end Go.Proofs.Yteobejgkjjhfkaa
