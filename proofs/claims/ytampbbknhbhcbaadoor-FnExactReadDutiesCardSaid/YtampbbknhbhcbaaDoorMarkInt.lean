/- What the law's own helpers make of []int64: sz, to, eq, mark, held. -/
import Derived.Test.YtampbbknhbhcbaaDoorLaw
namespace Go.Proofs.YtampbbknhbhcbaaDoor
open Go.RowKit
theorem elInt : El Tryd.prog 45 2 (0 : Int) :=
  El.mk' (z := .int .i64 0) (bytes := 8) Tryd.underlying45 (by kernel_rfl) (by decide) rfl (by decide)
theorem Own.int {w : World} {base : Nat} {e : TypeId} {g n c : Nat} {xs : List Int} (h : Own w base e (.slice (some ⟨g, 0, none⟩) n c) xs) {k : Nat} (hk : k < xs.length) :
    w.cell? ⟨g, k, none⟩ = some (.int .i64 xs[k]) ∧ w.frozen? ⟨g, k, none⟩ = false :=
  ⟨by simpa [Enc.size] using h.cell (j := 0) hk rfl, h.free _⟩
theorem Own.intSet {w : World} {base : Nat} {e : TypeId} {g n c : Nat} {xs : List Int} (h : Own w base e (.slice (some ⟨g, 0, none⟩) n c) xs) {k : Nat} (hk : k < xs.length) (d : Int) :
    Own (w.setCell ⟨g, k, none⟩ (.int .i64 d)) base e (.slice (some ⟨g, 0, none⟩) n c) (xs.set k d) := by
  have h1 := h.set (j := 0) (u := .int .i64 d) (y := d) hk (by decide) rfl
  simpa [Enc.size] using h1
/-- The marks k, k + 1, .. -/
def marks (k : Int) (n : Nat) : List Int := (List.range n).map fun (i : Nat) => k + (i : Int)
theorem marks_len (k : Int) (n : Nat) : (marks k n).length = n := by simp [marks]
theorem marks_get (k : Int) (n i : Nat) (h : i < (marks k n).length) : (marks k n)[i] = k + i := by simp [marks]
theorem mark_step {α : Type} {f : Nat → α} {xs : List α} {k : Nat} (hk : k < xs.length) : ((List.range k).map f ++ xs.drop k).set k (f k) = (List.range (k + 1)).map f ++ xs.drop (k + 1) := by
  rw [List.set_append_right _ _ (by simp), List.length_map, List.length_range, Nat.sub_self, List.drop_eq_getElem_cons hk, List.set_cons_zero, List.range_succ]
  simp
theorem mark_end {α : Type} {f : Nat → α} {xs : List α} {k : Nat} (hk : ¬ k < xs.length) (hk' : k ≤ xs.length) : (List.range k).map f ++ xs.drop k = (List.range xs.length).map f := by
  have : k = xs.length := by omega
  subst this
  simp

set_option maxHeartbeats 400000 in
theorem eqInt64S (A B : Option Addr) (xs ys : List Int) (c d : Nat) (w : World) (hx : Rd w A xs) (hy : Rd w B ys) :
    Calls Tryd.prog 49 #[.slice A xs.length c, .slice B ys.length d] w fun e w' => e = .returned (.bool (xs == ys)) ∧ Below w.heap.size w w' := by
  have hn := hx.len
  have hm := hy.len
  by_cases hl : xs.length = ys.length
  · have Hl := hid hl
    have hl' : ((xs.length : Int) != ys.length) = false := by simp [hl]
    clear hl
    go_enter Tryd.func49, Tryd.ntmps49
    go_wp2
    go_loopw [5] (fun i wr => ∃ k : Nat, k ≤ xs.length ∧ i = .int .i64 k ∧ xs.take k = ys.take k ∧ (∃ m, wr = w.more m)) (fun i _ => xs.length - (intOf i).toNat)
    case atStart => exact ⟨0, Nat.zero_le _, rfl, rfl, more_self⟩
    case round =>
      obtain ⟨k, hk, rfl, ht, m, rfl⟩ := hrel
      have Ht := hid ht
      clear ht
      by_cases hlt : k < xs.length
      · have hlt2 : k < ys.length := by rw [← Hl.out]; exact hlt
        obtain ⟨b, off, rfl, c1⟩ := hx.int hlt
        obtain ⟨b', off', rfl, d1⟩ := hy.int hlt2
        clear hx hy
        by_cases he : xs[k] = ys[k]
        · have heb : (xs[k] != ys[k]) = false := by simp [he]
          have He := hid he
          clear he
          go_wp2
          go_quiet (fail)
          go_wp2
          go_roundw
          case rel => exact ⟨k + 1, by omega, by go_num, same_step hlt hlt2 Ht.out He.out, below_ex (more_below.drewN _)⟩
          case measure => simp [intOf]; omega
        · have heb : (xs[k] != ys[k]) = true := by simp [he]
          have He := hid he
          clear he
          go_wp2
          go_quiet (fail)
          go_wp2
          go_ret
          exact ⟨ret_bool (same_no hlt hlt2 He.out), more_below.drewN _⟩
      · go_wp2
        go_ret
        exact ⟨ret_bool (same_all Hl.out hlt Ht.out), more_below⟩
  · have Hl := hid hl
    have hl' : ((xs.length : Int) != ys.length) = true := by rw [bne_iff_ne]; omega
    clear hl
    go_enter Tryd.func49, Tryd.ntmps49
    go_wp2
    go_ret
    exact ⟨ret_bool (same_short Hl.out), Below.refl _ _⟩
set_option maxHeartbeats 400000 in
theorem toInt64S (A : Option Addr) (xs : List Int) (c : Nat) (w : World) (hx : Rd w A xs) :
    Calls Tryd.prog 45 #[.slice A xs.length c] w fun e w' => ∃ v, e = .returned v ∧ Own w' w.heap.size 2 v xs ∧ Below w.heap.size w w' := by
  have hn := hx.len
  go_enter Tryd.func45, Tryd.ntmps45
  go_wp2_with (at_make; refine wpList_make' elInt _ rfl _ _ rfl w.heap.size .i64 .i64 _ _ xs.length rfl rfl rfl rfl hn (Nat.le_refl _) ?_; intro w1 hown hb1)
  go_loopw [4] (fun i wr => ∃ k : Nat, k ≤ xs.length ∧ i = .int .i64 k ∧ Own wr w.heap.size 2 (.slice (some ⟨w.heap.size, 0, none⟩) xs.length xs.length) (xs.take k ++ List.replicate (xs.length - k) 0) ∧ Below w.heap.size w wr) (fun i _ => xs.length - (intOf i).toNat)
  case atStart => exact ⟨0, Nat.zero_le _, rfl, by simpa using hown, hb1⟩
  case round =>
    obtain ⟨k, hk, rfl, hown, hb⟩ := hrel
    clear hb1
    by_cases hlt : k < xs.length
    · obtain ⟨b, off, rfl, c0⟩ := (hx.below hb).int hlt
      have hk' : k < (xs.take k ++ List.replicate (xs.length - k) (0 : Int)).length := by simp; omega
      obtain ⟨d0, f0⟩ := hown.int hk'
      have hown3 := hown.intSet hk' xs[k]
      rw [set_step rfl hlt] at hown3
      have HO := hid hown3
      generalize (xs.take k ++ List.replicate (xs.length - k) (0 : Int))[k] = z at d0
      clear hown hown3 hx hk'
      go_wp2
      go_roundw
      case rel => exact ⟨k + 1, by omega, by go_num, HO.out, hb.setCell (Nat.le_refl _) _⟩
      case measure => simp [intOf]; omega
    · go_wp2
      go_ret
      refine ⟨_, rfl, ?_, hb⟩
      rw [List.take_of_length_le (by omega), Nat.sub_eq_zero_of_le (by omega)] at hown
      simpa using hown
end Go.Proofs.YtampbbknhbhcbaaDoor
