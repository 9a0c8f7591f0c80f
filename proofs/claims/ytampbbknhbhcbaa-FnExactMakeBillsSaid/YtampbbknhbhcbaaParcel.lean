/- Parcel: what a slice of them is in cells, and what the law's own helpers make of it. Written by a program (genstruct.py). -/
import Derived.Test.YtampbbknhbhcbaaLaw
import Derived.Test.YtampbbknhbhcbaaMarkInt
namespace Go.Proofs.Ytampbbknhbhcbaa
open Go.RowKit
structure Parcel where
  i : Int
  o : Int
  a : Int
  k : Int
  deriving DecidableEq
instance : Enc Parcel := ⟨4, fun d => [.int .i64 d.i, .int .i64 d.o, .int .i64 d.a, .int .i64 d.k], fun _ => rfl, fun _ u h => by simp at h; rcases h with rfl | rfl | rfl | rfl <;> rfl⟩
theorem Rd.parcel {w : World} {A : Option Addr} {xs : List Parcel} (h : Rd w A xs) {k : Nat} (hk : k < xs.length) : ∃ b off, A = some ⟨b, off, none⟩ ∧
    w.cell? ⟨b, off + k * 4, none⟩ = some (.int .i64 xs[k].i) ∧ w.cell? ⟨b, off + k * 4 + 1, none⟩ = some (.int .i64 xs[k].o) ∧ w.cell? ⟨b, off + k * 4 + 2, none⟩ = some (.int .i64 xs[k].a) ∧ w.cell? ⟨b, off + k * 4 + 3, none⟩ = some (.int .i64 xs[k].k) := by
  obtain ⟨b, off, hA, hc⟩ := h.2 k hk
  exact ⟨b, off, hA, hc 0 _ rfl, hc 1 _ rfl, hc 2 _ rfl, hc 3 _ rfl⟩
theorem guardParcel : Try.prog.eqGuardType Try.prog.depth 58 = false := by kernel_rfl
theorem stoodParcel : Try.prog.stoodInHeld 58 = false := by kernel_rfl
theorem fieldsParcel : Try.prog.underlying 58 = some (.struct (Try.prog.fieldsOf 58)) := by kernel_rfl
attribute [go_sem] guardParcel
theorem parcel_beq (d e : Parcel) : (d == e) = (d.i == e.i && d.o == e.o && d.a == e.a && d.k == e.k) := by
  rw [Bool.eq_iff_iff]
  cases d; cases e; simp [and_assoc]
@[go_sem ↓] theorem neqParcel (a0 b0 c0 d0 a1 b1 c1 d1 : Int) (w : World) : (binOp .neq 58 (.agg #[.int .i64 a0, .int .i64 b0, .int .i64 c0, .int .i64 d0]) (.agg #[.int .i64 a1, .int .i64 b1, .int .i64 c1, .int .i64 d1])).run Try.prog w = .ok (.bool (!((⟨a0, b0, c0, d0⟩ : Parcel) == ⟨a1, b1, c1, d1⟩))) w := by
  rw [run_neq_struct, run_equalIn_struct _ _ _ _ _ fieldsParcel stoodParcel]
  simp [go_sem, Try.underlying58]
  by_cases h0 : a0 = a1 <;> by_cases h1 : b0 = b1 <;> by_cases h2 : c0 = c1 <;> by_cases h3 : d0 = d1 <;> simp [h0, h1, h2, h3]
theorem elParcel : El Try.prog 27 58 (⟨0, 0, 0, 0⟩ : Parcel) :=
  El.mk' (z := .agg #[.int .i64 0, .int .i64 0, .int .i64 0, .int .i64 0]) (bytes := 32) Try.underlying27 (by kernel_rfl) (by decide) rfl (by decide)
instance : OfInts Parcel := ⟨fun g => ⟨⟨g 0, g 1, g 2, g 3⟩, fun j hj => by
  have : j = 0 ∨ j = 1 ∨ j = 2 ∨ j = 3 := by have : j < 4 := hj; omega
  rcases this with rfl | rfl | rfl | rfl <;> rfl⟩⟩
theorem Own.parcel {w : World} {base : Nat} {e : TypeId} {g n c : Nat} {xs : List Parcel} (h : Own w base e (.slice (some ⟨g, 0, none⟩) n c) xs) {k : Nat} (hk : k < xs.length) :
    (w.cell? ⟨g, k * 4, none⟩ = some (.int .i64 xs[k].i) ∧ w.cell? ⟨g, k * 4 + 1, none⟩ = some (.int .i64 xs[k].o) ∧ w.cell? ⟨g, k * 4 + 2, none⟩ = some (.int .i64 xs[k].a) ∧ w.cell? ⟨g, k * 4 + 3, none⟩ = some (.int .i64 xs[k].k)) ∧
    (w.frozen? ⟨g, k * 4, none⟩ = false ∧ w.frozen? ⟨g, k * 4 + 1, none⟩ = false ∧ w.frozen? ⟨g, k * 4 + 2, none⟩ = false ∧ w.frozen? ⟨g, k * 4 + 3, none⟩ = false) :=
  ⟨⟨h.cell (j := 0) hk rfl, h.cell (j := 1) hk rfl, h.cell (j := 2) hk rfl, h.cell (j := 3) hk rfl⟩, h.free _, h.free _, h.free _, h.free _⟩
theorem Own.parcelSet {w : World} {base : Nat} {e : TypeId} {g n c : Nat} {xs : List Parcel} (h : Own w base e (.slice (some ⟨g, 0, none⟩) n c) xs) {k : Nat} (hk : k < xs.length) (d : Parcel) :
    Own ((((w.setCell ⟨g, k * 4, none⟩ (.int .i64 d.i)).setCell ⟨g, k * 4 + 1, none⟩ (.int .i64 d.o)).setCell ⟨g, k * 4 + 2, none⟩ (.int .i64 d.a)).setCell ⟨g, k * 4 + 3, none⟩ (.int .i64 d.k)) base e (.slice (some ⟨g, 0, none⟩) n c) (xs.set k d) := by
  have h1 := h.set (j := 0) (u := .int .i64 d.i) (y := ⟨d.i, xs[k].o, xs[k].a, xs[k].k⟩) (k := k) (by simpa using hk) (by decide) (by simp [Enc.enc])
  have h2 := h1.set (j := 1) (u := .int .i64 d.o) (y := ⟨d.i, d.o, xs[k].a, xs[k].k⟩) (k := k) (by simpa using hk) (by decide) (by simp [Enc.enc])
  have h3 := h2.set (j := 2) (u := .int .i64 d.a) (y := ⟨d.i, d.o, d.a, xs[k].k⟩) (k := k) (by simpa using hk) (by decide) (by simp [Enc.enc])
  have h4 := h3.set (j := 3) (u := .int .i64 d.k) (y := d) (k := k) (by simpa using hk) (by decide) (by simp [Enc.enc])
  simp only [List.set_set] at h4
  exact h4
theorem Own.parcel_i {w : World} {base : Nat} {e : TypeId} {g n c : Nat} {xs : List Parcel} (h : Own w base e (.slice (some ⟨g, 0, none⟩) n c) xs) {k : Nat} (hk : k < xs.length) (z : Int) :
    Own (w.setCell ⟨g, k * 4, none⟩ (.int .i64 z)) base e (.slice (some ⟨g, 0, none⟩) n c) (xs.set k { xs[k] with i := z }) :=
  h.set (j := 0) hk (by decide) rfl
theorem Own.parcel_o {w : World} {base : Nat} {e : TypeId} {g n c : Nat} {xs : List Parcel} (h : Own w base e (.slice (some ⟨g, 0, none⟩) n c) xs) {k : Nat} (hk : k < xs.length) (z : Int) :
    Own (w.setCell ⟨g, k * 4 + 1, none⟩ (.int .i64 z)) base e (.slice (some ⟨g, 0, none⟩) n c) (xs.set k { xs[k] with o := z }) :=
  h.set (j := 1) hk (by decide) rfl
theorem Own.parcel_a {w : World} {base : Nat} {e : TypeId} {g n c : Nat} {xs : List Parcel} (h : Own w base e (.slice (some ⟨g, 0, none⟩) n c) xs) {k : Nat} (hk : k < xs.length) (z : Int) :
    Own (w.setCell ⟨g, k * 4 + 2, none⟩ (.int .i64 z)) base e (.slice (some ⟨g, 0, none⟩) n c) (xs.set k { xs[k] with a := z }) :=
  h.set (j := 2) hk (by decide) rfl
theorem Own.parcel_k {w : World} {base : Nat} {e : TypeId} {g n c : Nat} {xs : List Parcel} (h : Own w base e (.slice (some ⟨g, 0, none⟩) n c) xs) {k : Nat} (hk : k < xs.length) (z : Int) :
    Own (w.setCell ⟨g, k * 4 + 3, none⟩ (.int .i64 z)) base e (.slice (some ⟨g, 0, none⟩) n c) (xs.set k { xs[k] with k := z }) :=
  h.set (j := 3) hk (by decide) rfl

set_option maxHeartbeats 400000 in
theorem szParcelS (A : Option Addr) (n c : Nat) (left : Int) (w : World) (hn : n ≤ maxLen) (hl : 0 ≤ left) (hl2 : left ≤ 1048576) :
    Calls Try.prog 7 #[.slice A n c, .int .i64 left] w fun e w' => e = .returned (.int .i64 (if left < n then -1 else left - n)) ∧ w = w' := by
  unfold maxLen at hn
  go_enter Try.func7, Try.ntmps7
  go_wp2
  · go_ret
    exact ⟨rfl, rfl⟩
  · go_ret
    exact ⟨rfl, rfl⟩
set_option maxHeartbeats 400000 in
theorem toParcel (a0 b0 c0 d0 : Int) (w : World) :
    Calls Try.prog 34 #[.agg #[.int .i64 a0, .int .i64 b0, .int .i64 c0, .int .i64 d0]] w fun e w' => e = .returned (.agg #[.int .i64 a0, .int .i64 b0, .int .i64 c0, .int .i64 d0]) ∧ Below w.heap.size w w' := by
  go_enter Try.func34, Try.ntmps34
  go_wp2
  exact bodyPost_ret (v := .agg #[.int .i64 a0, .int .i64 b0, .int .i64 c0, .int .i64 d0]) (by simp [results, Try.results34, go_sem]) rfl ⟨rfl, (((Below.refl _ _).alloc (Nat.le_refl _) _).alloc (by simp) _).alloc (by simp; omega) _⟩
set_option maxHeartbeats 400000 in
theorem eqParcel (a0 b0 c0 d0 a1 b1 c1 d1 : Int) (w : World) :
    Calls Try.prog 40 #[.agg #[.int .i64 a0, .int .i64 b0, .int .i64 c0, .int .i64 d0], .agg #[.int .i64 a1, .int .i64 b1, .int .i64 c1, .int .i64 d1]] w fun e w' => e = .returned (.bool ((⟨a0, b0, c0, d0⟩ : Parcel) == ⟨a1, b1, c1, d1⟩)) ∧ Below w.heap.size w w' := by
  have hb : ∀ o1 o2, Below w.heap.size w ((w.alloc o1).alloc o2) := fun _ _ => ((Below.refl _ _).alloc (Nat.le_refl _) _).alloc (by simp) _
  have HB := hid hb
  clear hb
  rw [parcel_beq]
  go_enter Try.func40, Try.ntmps40
  go_wp2
  all_goals
    go_ret
    exact ⟨ret_bool (by simp_all), HB.out _ _⟩
set_option maxHeartbeats 400000 in
theorem eqParcelS (A B : Option Addr) (xs ys : List Parcel) (c d : Nat) (w : World) (hx : Rd w A xs) (hy : Rd w B ys) :
    Calls Try.prog 12 #[.slice A xs.length c, .slice B ys.length d] w fun e w' => e = .returned (.bool (xs == ys)) ∧ Below w.heap.size w w' := by
  have hn := hx.len
  have hm := hy.len
  by_cases hl : xs.length = ys.length
  · have Hl := hid hl
    have hl' : ((xs.length : Int) != ys.length) = false := by simp [hl]
    clear hl
    go_enter Try.func12, Try.ntmps12
    go_wp2
    go_loopw [5] (fun i wr => ∃ k : Nat, k ≤ xs.length ∧ i = .int .i64 k ∧ xs.take k = ys.take k ∧ (∃ m, wr = w.more m)) (fun i _ => xs.length - (intOf i).toNat)
    case atStart => exact ⟨0, Nat.zero_le _, rfl, rfl, more_self⟩
    case round =>
      obtain ⟨k, hk, rfl, ht, m, rfl⟩ := hrel
      have Ht := hid ht
      clear ht
      by_cases hlt : k < xs.length
      · have hlt2 : k < ys.length := by rw [← Hl.out]; exact hlt
        obtain ⟨b, off, rfl, c0, c1, c2, c3⟩ := hx.parcel hlt
        obtain ⟨b', off', rfl, d0, d1, d2, d3⟩ := hy.parcel hlt2
        clear hx hy
        by_cases he : xs[k] = ys[k]
        · have heb : ((⟨xs[k].i, xs[k].o, xs[k].a, xs[k].k⟩ : Parcel) == ⟨ys[k].i, ys[k].o, ys[k].a, ys[k].k⟩) = true := by rw [he]; simp
          have He := hid he
          clear he
          go_wp2
          refine wp_region_more (by kernel_rfl) (by kernel_rfl) ?_
          repeat (go_big_quiet_step ((go_at_call 40; exact quiet_below (eqParcel _ _ _ _ _ _ _ _ _))))
          refine wpQuiet_nil ?_
          rintro _ ⟨nq, rfl⟩
          go_wp2
          go_roundw
          case rel => exact ⟨k + 1, by omega, by go_num, same_step hlt hlt2 Ht.out He.out, more_trans⟩
          case measure => simp [intOf]; omega
        · have heb : ((⟨xs[k].i, xs[k].o, xs[k].a, xs[k].k⟩ : Parcel) == ⟨ys[k].i, ys[k].o, ys[k].a, ys[k].k⟩) = false := beq_no he
          have He := hid he
          clear he
          go_wp2
          refine wp_region_more (by kernel_rfl) (by kernel_rfl) ?_
          repeat (go_big_quiet_step ((go_at_call 40; exact quiet_below (eqParcel _ _ _ _ _ _ _ _ _))))
          refine wpQuiet_nil ?_
          rintro _ ⟨nq, rfl⟩
          go_wp2
          go_ret
          exact ⟨ret_bool (same_no hlt hlt2 He.out), below_go more_below more_size⟩
      · go_wp2
        go_ret
        exact ⟨ret_bool (same_all Hl.out hlt Ht.out), more_below⟩
  · have Hl := hid hl
    have hl' : ((xs.length : Int) != ys.length) = true := by rw [bne_iff_ne]; omega
    clear hl
    go_enter Try.func12, Try.ntmps12
    go_wp2
    go_ret
    exact ⟨ret_bool (same_short Hl.out), Below.refl _ _⟩
set_option maxHeartbeats 400000 in
theorem toParcelS (A : Option Addr) (xs : List Parcel) (c : Nat) (w : World) (hx : Rd w A xs) :
    Calls Try.prog 9 #[.slice A xs.length c] w fun e w' => ∃ v, e = .returned v ∧ Own w' w.heap.size 58 v xs ∧ Below w.heap.size w w' := by
  have hn := hx.len
  go_enter Try.func9, Try.ntmps9
  go_wp2_with (at_make; refine wpList_make' elParcel _ rfl _ _ rfl w.heap.size .i64 .i64 _ _ xs.length rfl rfl rfl rfl hn (Nat.le_refl _) ?_; intro w1 hown hb1)
  go_loopw [4] (fun i wr => ∃ k : Nat, k ≤ xs.length ∧ i = .int .i64 k ∧ Own wr w.heap.size 58 (.slice (some ⟨w.heap.size, 0, none⟩) xs.length xs.length) (xs.take k ++ List.replicate (xs.length - k) ⟨0, 0, 0, 0⟩) ∧ Below w.heap.size w wr) (fun i _ => xs.length - (intOf i).toNat)
  case atStart => exact ⟨0, Nat.zero_le _, rfl, by simpa using hown, hb1⟩
  case round =>
    obtain ⟨k, hk, rfl, hown, hb⟩ := hrel
    clear hb1
    by_cases hlt : k < xs.length
    · obtain ⟨b, off, rfl, c0, c1, c2, c3⟩ := (hx.below hb).parcel hlt
      have hk' : k < (xs.take k ++ List.replicate (xs.length - k) (⟨0, 0, 0, 0⟩ : Parcel)).length := by simp; omega
      clear hx
      go_wp2_with fail
      refine (toParcel _ _ _ _ _).mono ?_
      rintro e w2 ⟨rfl, hb2⟩
      obtain ⟨y, rfl⟩ := below_ex hb2
      have hown2 := hown.more (x := y)
      obtain ⟨⟨d0, d1, d2, d3⟩, f0, f1, f2, f3⟩ := hown2.parcel hk'
      have hown3 := hown2.parcelSet hk' xs[k]
      rw [set_step rfl hlt] at hown3
      have HO := hid hown3
      clear hown hown2 hown3
      go_wp2
      go_roundw
      case rel => exact ⟨k + 1, by omega, by go_num, HO.out, ((((below_go hb hb.size).setCell (Nat.le_refl _) _).setCell (Nat.le_refl _) _).setCell (Nat.le_refl _) _).setCell (Nat.le_refl _) _⟩
      case measure => simp [intOf]; omega
    · go_wp2
      go_ret
      refine ⟨_, rfl, ?_, hb⟩
      rw [List.take_of_length_le (by omega), Nat.sub_eq_zero_of_le (by omega)] at hown
      simpa using hown
def markParcel (q : Int) (i : Nat) : Parcel := ⟨q + 4 * (i : Int), q + 4 * (i : Int) + 1, q + 4 * (i : Int) + 1 + 1, q + 4 * (i : Int) + 1 + 1 + 1⟩
def marksParcel (q : Int) (n : Nat) : List Parcel := (List.range n).map (markParcel q)
theorem marksParcel_len (k : Int) (n : Nat) : (marksParcel k n).length = n := by simp [marksParcel]
theorem marksParcel_get (k : Int) (n i : Nat) (h : i < (marksParcel k n).length) : (marksParcel k n)[i] = markParcel k i := by simp [marksParcel]
set_option maxHeartbeats 800000 in
theorem markParcelS (v : Value) (xs : List Parcel) (q : Int) (base : Nat) (w : World) (h : Own w base 58 v xs) (hl : xs.length ≤ 1048576) (h0 : 0 ≤ q) (h1 : q ≤ 100000000) :
    Calls Try.prog 13 #[v, .int .i64 q] w fun e w' => e = .returned (.int .i64 (q + 4 * xs.length)) ∧ Own w' base 58 v (marksParcel q xs.length) ∧ w.grownBy w' v.ownBlock := by
  obtain ⟨A, c, rfl⟩ := h.form
  go_enter Try.func13, Try.ntmps13
  go_wp2
  go_loopw [1, 5] (fun y i wr => ∃ k : Nat, k ≤ xs.length ∧ i = .int .i64 k ∧ y = .int .i64 (q + 4 * k) ∧ Own wr base 58 (.slice A xs.length c) ((List.range k).map (markParcel q) ++ xs.drop k) ∧ w.grownBy wr (Value.slice A xs.length c).ownBlock) (fun _ i _ => xs.length - (intOf i).toNat)
  case atStart => exact ⟨0, Nat.zero_le _, rfl, by go_num, by simpa using h, World.grownBy.refl _ _⟩
  case round =>
    obtain ⟨k, hk, rfl, rfl, ho, hg⟩ := hrel
    by_cases hlt : k < xs.length
    · have hk' : k < ((List.range k).map (markParcel q) ++ xs.drop k).length := by simp; omega
      obtain ⟨g, rfl, hb, hgs⟩ := ho.addr hk'
      obtain ⟨⟨d0, d1, d2, d3⟩, f0, f1, f2, f3⟩ := ho.parcel hk'
      have h3 := ho.parcelSet hk' (markParcel q k)
      rw [mark_step hlt] at h3
      simp only [markParcel] at h3
      have HO := hid h3
      clear h3 ho h
      generalize ((List.range k).map (markParcel q) ++ xs.drop k)[k] = z at d0 d1 d2 d3
      clear hk'
      go_wp2
      go_roundw
      case rel => exact ⟨k + 1, by omega, by go_num, by go_num, HO.out, grown_set (grown_set (grown_set (grown_set hg)))⟩
      case measure => simp [intOf]; omega
    · rw [mark_end hlt hk] at ho
      have HO := hid ho
      clear ho
      go_wp2
      go_ret
      exact ⟨ret_int (by omega), HO.out, hg⟩
end Go.Proofs.Ytampbbknhbhcbaa
