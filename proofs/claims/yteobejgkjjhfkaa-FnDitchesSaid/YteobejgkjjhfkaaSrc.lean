/- The source of drawn numbers: bytes, an index, a seed; what it gives lies in its range. -/
import Derived.Test.YteobejgkjjhfkaaKind
import Derived.Test.YteobejgkjjhfkaaIn
import Derived.Deep.CutBlock
namespace Go.Proofs.Yteobejgkjjhfkaa
open Go.RowKit
set_option linter.unusedVariables false
/-- A byte. -/
structure Byt where
  n : Int
instance : Enc Byt := ⟨1, fun b => [.int .u8 b.n], fun _ => rfl, fun _ u h => by simp at h; subst h; rfl⟩
theorem Rd.byt {w : World} {A : Option Addr} {xs : List Byt} (h : Rd w A xs) {k : Nat} (hk : k < xs.length) : ∃ b off, A = some ⟨b, off, none⟩ ∧ w.cell? ⟨b, off + k, none⟩ = some (.int .u8 xs[k].n) := by
  obtain ⟨b, off, hA, hc⟩ := h.2 k hk
  exact ⟨b, off, hA, by simpa [Enc.size] using hc 0 _ rfl⟩
def BytOk (bs : List Byt) : Prop := ∀ b ∈ bs, 0 ≤ b.n ∧ b.n ≤ 255
/-- Block g is a source over bytes that were there in the world W0; its index is at most m. -/
structure SrcOk (W0 w : World) (g m : Nat) : Prop where
  base : W0.heap.size ≤ g
  below : Below W0.heap.size W0 w
  out : ∃ A bs c a s, Rd W0 A bs ∧ BytOk bs ∧ (w.cell? ⟨g, 0, none⟩ = some (.slice A bs.length c) ∧ w.cell? ⟨g, 1, none⟩ = some (.int .i64 a) ∧ w.cell? ⟨g, 2, none⟩ = some (.int .u64 s)) ∧
    (w.frozen? ⟨g, 1, none⟩ = false ∧ w.frozen? ⟨g, 2, none⟩ = false) ∧ 0 ≤ a ∧ a ≤ m
section
variable {W0 w w' : World} {g m : Nat}
theorem SrcOk.lt (h : SrcOk W0 w g m) : g < w.heap.size := by
  obtain ⟨A, bs, c, a, s, _, _, ⟨e, _⟩, _⟩ := h.out
  exact World.block_lt_of_cell? w _ e
theorem SrcOk.next (h : SrcOk W0 w g m) (hb : Below w.heap.size w w') : SrcOk W0 w' g m := by
  refine ⟨h.base, h.below.trans (hb.mono h.below.size), ?_⟩
  obtain ⟨A, bs, c, a, s, h1, h2, ⟨e0, e1, e2⟩, ⟨f1, f2⟩, h3⟩ := h.out
  exact ⟨A, bs, c, a, s, h1, h2, ⟨box_cell hb e0, box_cell hb e1, box_cell hb e2⟩, ⟨box_free hb (by rw [e1]; rfl) f1, box_free hb (by rw [e2]; rfl) f2⟩, h3⟩
theorem SrcOk.mono (h : SrcOk W0 w g m) {n : Nat} (hn : m ≤ n) : SrcOk W0 w g n := by
  refine ⟨h.base, h.below, ?_⟩
  obtain ⟨A, bs, c, a, s, h1, h2, h3, h4, h5, h6⟩ := h.out
  exact ⟨A, bs, c, a, s, h1, h2, h3, h4, h5, by omega⟩
theorem SrcOk.span {lo hi : Nat} (h : SrcOk W0 w g m) (hs : Span w w' lo hi) (hd : g < lo ∨ hi ≤ g) (hB : W0.heap.size ≤ lo) : SrcOk W0 w' g m := by
  refine ⟨h.base, below_span h.below hs hB h.below.size, ?_⟩
  obtain ⟨A, bs, c, a, s, h1, h2, ⟨e0, e1, e2⟩, ⟨f1, f2⟩, h3⟩ := h.out
  have hf : ∀ j, w'.frozen? ⟨g, j, none⟩ = w.frozen? ⟨g, j, none⟩ := fun j => World.frozen?_of_block (hs.block g h.lt hd)
  exact ⟨A, bs, c, a, s, h1, h2, ⟨span_cell hs e0 hd, span_cell hs e1 hd, span_cell hs e2 hd⟩, ⟨by rw [hf]; exact f1, by rw [hf]; exact f2⟩, h3⟩
end
theorem and255 (x : Int) : 0 ≤ IntKind.u64.wrap ((BitVec.ofInt 64 x &&& BitVec.ofInt 64 255).toNat : Int) ∧ IntKind.u64.wrap ((BitVec.ofInt 64 x &&& BitVec.ofInt 64 255).toNat : Int) ≤ 255 := by
  have h : (BitVec.ofInt 64 x &&& BitVec.ofInt 64 255).toNat ≤ 255 := by
    rw [BitVec.toNat_and]
    exact Nat.le_trans Nat.and_le_right (by decide)
  have hw : IntKind.u64.wrap ((BitVec.ofInt 64 x &&& BitVec.ofInt 64 255).toNat : Int) = ((BitVec.ofInt 64 x &&& BitVec.ofInt 64 255).toNat : Int) := IntWalk.u64_in _ (by omega)
  rw [hw]
  omega
set_option maxHeartbeats 2000000 in
theorem srcNext (W0 w : World) (g m : Nat) (h : SrcOk W0 w g m) (hm : m ≤ 1000000000) :
    Calls Try.prog 114 #[.pointer (some ⟨g, 0, none⟩)] w fun e w' => ∃ r, e = .returned (.int .i64 r) ∧ (0 ≤ r ∧ r ≤ 255) ∧ SrcOk W0 w' g (m + 1) ∧ Span w w' g (g + 1) := by
  have h0 := h
  obtain ⟨hbase, hbel, A, bs, c, a, s, hr, hby, ⟨e0, e1, e2⟩, ⟨f1, f2⟩, ha0, ha1⟩ := h0
  have hn := hr.len
  have hglt := h.lt
  have HBY := hid hby
  have HRB := hid (hr.below hbel)
  have HBE := hid hbel
  have a64 : a ≤ 1000000000 := by omega
  have key : ∀ wy : World, Below W0.heap.size W0 wy → (∃ s', wy.cell? ⟨g, 0, none⟩ = some (.slice A bs.length c) ∧ wy.cell? ⟨g, 1, none⟩ = some (.int .i64 (a + 1)) ∧ wy.cell? ⟨g, 2, none⟩ = some (.int .u64 s')) → wy.frozen? ⟨g, 1, none⟩ = false → wy.frozen? ⟨g, 2, none⟩ = false → SrcOk W0 wy g (m + 1) := fun wy hb hc k1 k2 => by
    obtain ⟨s', q0, q1, q2⟩ := hc
    exact ⟨hbase, hb, A, bs, c, a + 1, s', hr, hby, ⟨q0, q1, q2⟩, ⟨k1, k2⟩, by omega, by omega⟩
  have KEY := hid key
  clear key hby hr hbel h
  by_cases h1 : a < bs.length
  · have hk : a.toNat < bs.length := by omega
    obtain ⟨b, off, rfl, c1⟩ := HRB.out.byt hk
    have hbb := HBY.out _ (List.getElem_mem hk)
    generalize bs[a.toNat].n = bv at c1 hbb
    have h2 : a + 1 ≤ bs.length := by omega
    have d1 : decide (a < bs.length) = true := decide_eq_true h1
    have d2 : decide (a + 1 ≤ bs.length) = true := decide_eq_true h2
    go_enter Try.func114, Try.ntmps114
    go_wp2_with fail
    go_quiet (fail)
    revert nq
    intro n1
    go_wp2_with fail
    go_quiet (fail)
    revert nq
    intro n2
    have D0 : ((w.drewN n1).drewN n2).cell? ⟨g, 0, none⟩ = some (.slice (some ⟨b, off, none⟩) bs.length c) := e0
    have D1 : ((w.drewN n1).drewN n2).cell? ⟨g, 1, none⟩ = some (.int .i64 a) := e1
    have D2 : ((w.drewN n1).drewN n2).cell? ⟨g, 2, none⟩ = some (.int .u64 s) := e2
    have F1 : ((w.drewN n1).drewN n2).frozen? ⟨g, 1, none⟩ = false := f1
    have F2 : ((w.drewN n1).drewN n2).frozen? ⟨g, 2, none⟩ = false := f2
    have DB := (HBE.out.drewN n1).drewN n2
    have DS : Span w ((w.drewN n1).drewN n2) g (g + 1) := Span.of_below (((Below.refl _ _).drewN n1).drewN n2) (Nat.le_refl _)
    clear e0 e1 e2 f1 f2 c1
    generalize (w.drewN n1).drewN n2 = wd at D0 D1 D2 F1 F2 DB DS ⊢
    go_upto_region 5 with fail
    obtain ⟨wx, hwx⟩ : ∃ x, wd.setCell ⟨g, 1, none⟩ (.int .i64 (a + 1)) = x := ⟨_, rfl⟩
    have x0 : wx.cell? ⟨g, 0, none⟩ = some (.slice (some ⟨b, off, none⟩) bs.length c) := by rw [← hwx]; simp [go_sem, D0]
    have x1 : wx.cell? ⟨g, 1, none⟩ = some (.int .i64 (a + 1)) := by rw [← hwx]; simp [go_sem, D1]
    have x2 : wx.cell? ⟨g, 2, none⟩ = some (.int .u64 s) := by rw [← hwx]; simp [go_sem, D2]
    have y1 : wx.frozen? ⟨g, 1, none⟩ = false := by rw [← hwx]; simpa [go_sem] using F1
    have y2 : wx.frozen? ⟨g, 2, none⟩ = false := by rw [← hwx]; simpa [go_sem] using F2
    have xb : Below W0.heap.size W0 wx := by rw [← hwx]; exact DB.setCell hbase _
    have xs : Span w wx g (g + 1) := by rw [← hwx]; exact span_set DS ⟨Nat.le_refl _, Nat.lt_succ_self _⟩ _
    rw [hwx]
    have XB := hid xb
    have XS := hid xs
    clear hwx D0 D1 D2 F1 F2 DB DS xb xs
    go_upto_region 6 with fail
    generalize hwz : wx.setCell ⟨g, 2, none⟩ (Value.int IntKind.u64 _) = wz
    have z0 : wz.cell? ⟨g, 0, none⟩ = some (.slice (some ⟨b, off, none⟩) bs.length c) := by rw [← hwz]; simp [go_sem, x0]
    have z1 : wz.cell? ⟨g, 1, none⟩ = some (.int .i64 (a + 1)) := by rw [← hwz]; simp [go_sem, x1]
    obtain ⟨sv, z2⟩ : ∃ sv, wz.cell? ⟨g, 2, none⟩ = some (.int .u64 sv) := by rw [← hwz]; exact ⟨_, by simp [go_sem, x2]; rfl⟩
    have u1 : wz.frozen? ⟨g, 1, none⟩ = false := by rw [← hwz]; simpa [go_sem] using y1
    have u2 : wz.frozen? ⟨g, 2, none⟩ = false := by rw [← hwz]; simpa [go_sem] using y2
    have zb : Below W0.heap.size W0 wz := by rw [← hwz]; exact XB.out.setCell hbase _
    have zs : Span w wz g (g + 1) := by rw [← hwz]; exact span_set XS.out ⟨Nat.le_refl _, Nat.lt_succ_self _⟩ _
    have ZK := hid (KEY.out wz zb ⟨sv, z0, z1, z2⟩ u1 u2)
    have ZS := hid zs
    clear hwz x0 x1 x2 y1 y2 XB XS zb zs
    go_wp2_with fail
    go_quiet (fail)
    go_wp2_with fail
    go_ret
    exact ⟨_, rfl, hbb, ZK.out.next ((Below.refl _ _).drewN _), ZS.out.trans (Span.of_below ((Below.refl _ _).drewN _) (Nat.le_refl _))⟩
  · have d1 : decide (a < bs.length) = false := decide_eq_false h1
    have d2 : decide (a + 1 ≤ bs.length) = false := decide_eq_false (by omega)
    go_enter Try.func114, Try.ntmps114
    go_wp2_with fail
    go_quiet (fail)
    revert nq
    intro n1
    have D0 : (w.drewN n1).cell? ⟨g, 0, none⟩ = some (.slice A bs.length c) := e0
    have D1 : (w.drewN n1).cell? ⟨g, 1, none⟩ = some (.int .i64 a) := e1
    have D2 : (w.drewN n1).cell? ⟨g, 2, none⟩ = some (.int .u64 s) := e2
    have F1 : (w.drewN n1).frozen? ⟨g, 1, none⟩ = false := f1
    have F2 : (w.drewN n1).frozen? ⟨g, 2, none⟩ = false := f2
    have DB := HBE.out.drewN n1
    have DS : Span w (w.drewN n1) g (g + 1) := Span.of_below ((Below.refl _ _).drewN n1) (Nat.le_refl _)
    clear e0 e1 e2 f1 f2
    generalize w.drewN n1 = wd at D0 D1 D2 F1 F2 DB DS ⊢
    go_upto_region 5 with fail
    obtain ⟨wx, hwx⟩ : ∃ x, wd.setCell ⟨g, 1, none⟩ (.int .i64 (a + 1)) = x := ⟨_, rfl⟩
    have x0 : wx.cell? ⟨g, 0, none⟩ = some (.slice A bs.length c) := by rw [← hwx]; simp [go_sem, D0]
    have x1 : wx.cell? ⟨g, 1, none⟩ = some (.int .i64 (a + 1)) := by rw [← hwx]; simp [go_sem, D1]
    have x2 : wx.cell? ⟨g, 2, none⟩ = some (.int .u64 s) := by rw [← hwx]; simp [go_sem, D2]
    have y1 : wx.frozen? ⟨g, 1, none⟩ = false := by rw [← hwx]; simpa [go_sem] using F1
    have y2 : wx.frozen? ⟨g, 2, none⟩ = false := by rw [← hwx]; simpa [go_sem] using F2
    have xb : Below W0.heap.size W0 wx := by rw [← hwx]; exact DB.setCell hbase _
    have xs : Span w wx g (g + 1) := by rw [← hwx]; exact span_set DS ⟨Nat.le_refl _, Nat.lt_succ_self _⟩ _
    rw [hwx]
    have XB := hid xb
    have XS := hid xs
    clear hwx D0 D1 D2 F1 F2 DB DS xb xs
    go_upto_region 6 with fail
    generalize hwz : wx.setCell ⟨g, 2, none⟩ (Value.int IntKind.u64 _) = wz
    have z0 : wz.cell? ⟨g, 0, none⟩ = some (.slice A bs.length c) := by rw [← hwz]; simp [go_sem, x0]
    have z1 : wz.cell? ⟨g, 1, none⟩ = some (.int .i64 (a + 1)) := by rw [← hwz]; simp [go_sem, x1]
    obtain ⟨sv, z2⟩ : ∃ sv, wz.cell? ⟨g, 2, none⟩ = some (.int .u64 sv) := by rw [← hwz]; exact ⟨_, by simp [go_sem, x2]; rfl⟩
    have u1 : wz.frozen? ⟨g, 1, none⟩ = false := by rw [← hwz]; simpa [go_sem] using y1
    have u2 : wz.frozen? ⟨g, 2, none⟩ = false := by rw [← hwz]; simpa [go_sem] using y2
    have zb : Below W0.heap.size W0 wz := by rw [← hwz]; exact XB.out.setCell hbase _
    have zs : Span w wz g (g + 1) := by rw [← hwz]; exact span_set XS.out ⟨Nat.le_refl _, Nat.lt_succ_self _⟩ _
    have ZK := hid (KEY.out wz zb ⟨sv, z0, z1, z2⟩ u1 u2)
    have ZS := hid zs
    clear hwz x0 x1 x2 y1 y2 XB XS zb zs
    go_wp2_with fail
    go_quiet (fail)
    go_wp2_with fail
    have hz : 0 ≤ bits BinOp.and IntKind.u64 (sv / 1099511627776) 255 ∧ bits BinOp.and IntKind.u64 (sv / 1099511627776) 255 ≤ 255 := and255 _
    go_ret
    exact ⟨bits BinOp.and IntKind.u64 (sv / 1099511627776) 255, ret_int (IntWalk.wrap64_in _ (by omega)), hz, ZK.out.next ((Below.refl _ _).drewN _), ZS.out.trans (Span.of_below ((Below.refl _ _).drewN _) (Nat.le_refl _))⟩
/-! pick and one -/
set_option maxHeartbeats 1000000 in
theorem srcPick (W0 w : World) (g m : Nat) (n : Int) (h : SrcOk W0 w g m) (hm : m ≤ 999999990) (hn : 1 ≤ n ∧ n ≤ 60000) :
    Calls Try.prog 72 #[.pointer (some ⟨g, 0, none⟩), .int .i64 n] w fun e w' => ∃ r, e = .returned (.int .i64 r) ∧ (0 ≤ r ∧ r < n) ∧ SrcOk W0 w' g (m + 2) ∧ Span w w' g (g + 1) := by
  have HS := hid h
  clear h
  by_cases h1 : n ≤ 1
  · go_enter Try.func72, Try.ntmps72
    go_wp2_with fail
    go_ret
    exact ⟨0, rfl, by omega, HS.out.mono (by omega), Span.refl _ _ _⟩
  · by_cases h2 : 200 < n
    · go_enter Try.func72, Try.ntmps72
      go_wp2_with fail
      refine (srcNext W0 _ g m HS.out (by omega)).mono ?_
      rintro e w1 ⟨r, rfl, hr, hs, hp⟩
      have HS1 := hid hs
      have HP1 := hid hp
      clear hs hp
      go_wp2_with fail
      refine (srcNext W0 _ g (m + 1) HS1.out (by omega)).mono ?_
      rintro e w2 ⟨r2, rfl, hr2, hs, hp⟩
      have HS2 := hid hs
      have HP2 := hid (HP1.out.trans hp)
      clear hs hp
      go_wp2_with fail
      go_ret
      have h3 : 0 ≤ r * 256 + r2 := by omega
      exact ⟨(r * 256 + r2) % n, ret_int (by first | rfl | (rw [Int.tmod_eq_emod_of_nonneg h3])), ⟨Int.emod_nonneg _ (by omega), Int.emod_lt_of_pos _ (by omega)⟩, HS2.out, HP2.out⟩
    · go_enter Try.func72, Try.ntmps72
      go_wp2_with fail
      refine (srcNext W0 _ g m HS.out (by omega)).mono ?_
      rintro e w1 ⟨r, rfl, hr, hs, hp⟩
      have HS1 := hid hs
      have HP1 := hid hp
      clear hs hp
      go_wp2_with fail
      go_ret
      have h3 : 0 ≤ r := by omega
      exact ⟨r % n, ret_int (by first | rfl | (rw [Int.tmod_eq_emod_of_nonneg h3])), ⟨Int.emod_nonneg _ (by omega), Int.emod_lt_of_pos _ (by omega)⟩, HS1.out.mono (by omega), HP1.out⟩
set_option maxHeartbeats 1000000 in
theorem srcOne (W0 w : World) (g m : Nat) (n : Int) (h : SrcOk W0 w g m) (hm : m ≤ 999999990) (hn : 1 ≤ n ∧ n ≤ 60000) :
    Calls Try.prog 87 #[.pointer (some ⟨g, 0, none⟩), .int .i64 n] w fun e w' => ∃ r, e = .returned (.bool r) ∧ SrcOk W0 w' g (m + 2) ∧ Span w w' g (g + 1) := by
  have HS := hid h
  clear h
  go_enter Try.func87, Try.ntmps87
  go_wp2_with fail
  refine (srcPick W0 _ g m n HS.out hm hn).mono ?_
  rintro e w1 ⟨r, rfl, hr, hs, hp⟩
  have HS1 := hid hs
  have HP1 := hid hp
  clear hs hp
  go_wp2_with fail
  go_ret
  exact ⟨_, rfl, HS1.out, HP1.out⟩
set_option maxHeartbeats 1000000 in
theorem srcFrom (w : World) (A : Option Addr) (bs : List Byt) (c : Nat) (hr : Rd w A bs) (hb : BytOk bs) :
    Calls Try.prog 55 #[.slice A bs.length c] w fun e w' => e = .returned (.pointer (some ⟨w.heap.size, 0, none⟩)) ∧ SrcOk w w' w.heap.size 0 ∧ Below w.heap.size w w' := by
  have HR := hid hr
  clear hr
  go_enter Try.func55, Try.ntmps55
  go_wp2_with fail
  go_ret
  refine ⟨rfl, ⟨Nat.le_refl _, (Below.refl _ _).alloc (Nat.le_refl _) _, A, bs, c, 0, 0, HR.out, hb, ⟨by simp [go_sem], by simp [go_sem], by simp [go_sem]⟩, ⟨by simp [go_sem], by simp [go_sem]⟩, Int.le_refl _, by simp⟩, (Below.refl _ _).alloc (Nat.le_refl _) _⟩

end Go.Proofs.Yteobejgkjjhfkaa
