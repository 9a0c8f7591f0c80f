/- Dues of the owners: both sides. -/
import Derived.Test.YtampbbknhbhcbaaDuesI
namespace Go.Proofs.Ytampbbknhbhcbaa
open Go.RowKit
set_option linter.unusedVariables false
theorem getD_own {xs : List Parcel} (h : okP xs = true) {k : Nat} (hk : k < xs.length) : 0 ≤ xs[k].o ∧ xs[k].o ≤ 39 := (okP_at h hk).2.1
set_option maxRecDepth 100000 in
set_option maxHeartbeats 4000000 in
theorem implDueL (A : Option Addr) (xs : List Parcel) (c : Nat) (F : Option Addr) (fs : List Int) (d : Nat) (T : Int) (w : World) (hx : Rd w A xs) (hf : Rd w F fs) (hC : dueC xs fs T = 0) :
    Calls Try.prog 47 #[.slice A xs.length c, .slice F fs.length d, .int .i64 T] w fun e w' => ∃ v, e = .returned v ∧ Own w' w.heap.size 2 v (dueL xs fs T) ∧ Below w.heap.size w w' := by
  have hn := hx.len
  have hm := hf.len
  obtain ⟨hv, h4, hfb, hT, hs⟩ := dueC_ok hC
  have hxl := okP_len hv
  have HX := hid hx
  have HF := hid hf
  have HV := hid hv
  have HFB := hid hfb
  have hok := wt_share hv hfb hs hT
  have HOK := hid hok
  have h4n : 4 ≤ fs.length := by omega
  have HSB := hid (fun i => share_bd hok i)
  have HDB := hid (dueJ_bd xs (sh := shareL T (wtS xs fs) (wtL xs fs)) (m := 1000000001) (by omega) (fun i => by have h5 := share_bd hok i; exact ⟨h5.1, by have := h5.2; omega⟩))
  have hll : (shareL T (wtS xs fs) (wtL xs fs)).length = xs.length := by rw [shareL, shareJ_len, wtL_len]
  have HLL := hid hll
  have HWL := hid (wtL_len xs fs)
  have HE : Hid (dueL xs fs T = dueJ xs (shareL T (wtS xs fs) (wtL xs fs)) xs.length) := hid rfl
  generalize dueL xs fs T = Y at *
  clear hx hf hv h4 hfb hs hok hC hll
  go_enter Try.func47, Try.ntmps47
  go_wp2_with (first | (at_make; refine wpList_make' elInt _ rfl _ _ rfl w.heap.size .i64 .i64 _ _ 40 rfl rfl rfl rfl (by decide) (Nat.le_refl _) ?_; intro w1 hown hb1) | fail)
  refine (implWeights _ _ _ _ _ _ _ (HX.out.below hb1) (HF.out.below hb1) HV.out HFB.out h4n).mono ?_
  rintro e w2 ⟨V2, q2, rfl, ho2, hb2⟩
  have HD2 := hid (hown.below hb2)
  have hs1 := hb1.size
  have HB2 := hid (hb1.trans (hb2.mono hb1.size))
  have HR2 := hid (ho2.rd (by have := HWL.out; omega))
  have hgz := Nat.lt_of_lt_of_le (hown.block w.heap.size rfl).2 hb2.size
  clear ho2 hb2 hown hb1
  go_wp2_with fail
  refine (implShare_ _ _ _ _ _ _ HR2.out HOK.out).mono ?_
  rintro e w3 ⟨V3, q3, rfl, ho3, hb3⟩
  have HD3 := hid (HD2.out.below hb3)
  have HB3 := hid (HB2.out.trans (hb3.mono HB2.out.size))
  have HG3 := hid (fun b (h : (Value.slice V3 (wtL xs fs).length q3).ownBlock = some b) => (show b ≠ w.heap.size by have := (ho3.block b h).1; omega))
  have HS3 := hid ho3
  rw [HWL.out] at HS3 HG3
  rw [HWL.out]
  clear ho3 hb3 HD2 HB2 HR2 HOK
  generalize shareL T (wtS xs fs) (wtL xs fs) = L at *
  go_wp2_with fail
  go_loopw [17] (fun i wr => ∃ k : Nat, k ≤ xs.length ∧ i = .int .i64 k ∧ Own wr w.heap.size 2 (.slice (some ⟨w.heap.size, 0, none⟩) 40 40) (dueJ xs L k) ∧ Own wr w2.heap.size 2 (.slice V3 xs.length q3) L ∧ Below w.heap.size w wr) (fun i _ => xs.length - (intOf i).toNat)
  case atStart => exact ⟨0, Nat.zero_le _, rfl, HD3.out, HS3.out, HB3.out⟩
  case round =>
    obtain ⟨k, hk, rfl, ho, hs, hb⟩ := hrel
    by_cases hlt : k < xs.length
    · obtain ⟨gs, rfl, -, -⟩ := hs.addr (k := k) (by rw [HLL.out]; exact hlt)
      obtain ⟨c1, -⟩ := hs.int (k := k) (by rw [HLL.out]; exact hlt)
      rw [← getD_int (by rw [HLL.out]; exact hlt)] at c1
      obtain ⟨b, off, rfl, -, c2, -, -⟩ := (HX.out.below hb).parcel hlt
      obtain ⟨g1, g2⟩ := getD_own HV.out hlt
      have hi : xs[k].o.toNat < (dueJ xs L k).length := by rw [dueJ_len]; omega
      obtain ⟨d1, f1⟩ := ho.int hi
      rw [← getD_int hi] at d1
      have hbd := HDB.out k xs[k].o.toNat
      have hsb := HSB.out k
      have h3 := ho.intSet hi ((dueJ xs L k).getD xs[k].o.toNat 0 + L.getD k 0)
      rw [← dueJ_next hlt] at h3
      have HO := hid h3
      have HS := hid (own_other (g := w.heap.size) (j := xs[k].o.toNat) (n := 40) (c := 40) hs (.int .i64 ((dueJ xs L k).getD xs[k].o.toNat 0 + L.getD k 0)) (fun k hk => HG3.out k hk))
      clear h3 ho hi hs
      generalize (dueJ xs L k).getD xs[k].o.toNat 0 = z at HO HS hbd d1
      generalize L.getD k 0 = n at c1 hsb HO HS
      generalize xs[k].o = ow at g1 g2 c2 d1 f1 HO HS
      go_wp2_with fail
      go_roundw
      case rel => exact ⟨k + 1, by omega, by go_num, HO.out, HS.out, hb.setCell (Nat.le_refl _) _⟩
      case measure => simp [intOf]; omega
    · have hke : k = xs.length := by omega
      rw [hke] at ho
      have HO := hid ho
      clear ho hs
      go_wp2_with fail
      go_ret
      have hE := HE.out
      subst hE
      exact ⟨_, rfl, HO.out, hb⟩
theorem duesF_ok {xs : List Parcel} {fs : List Int} {T : Int} (h : dueC xs fs T = 0) : duesF xs fs T = (dueL xs fs T, 0) := by unfold duesF; rw [if_pos h]
theorem duesF_no {xs : List Parcel} {fs : List Int} {T : Int} (h : ¬ dueC xs fs T = 0) : duesF xs fs T = ([], dueC xs fs T) := by unfold duesF; rw [if_neg h]
theorem dueC_bd (xs : List Parcel) (fs : List Int) (T : Int) : 0 ≤ dueC xs fs T ∧ dueC xs fs T ≤ 6 := by
  unfold dueC
  repeat (first | omega | split)
set_option maxHeartbeats 1000000 in
theorem implDues (A : Option Addr) (xs : List Parcel) (c : Nat) (F : Option Addr) (fs : List Int) (d : Nat) (T : Int) (w : World) (hx : Rd w A xs) (hf : Rd w F fs) :
    Calls Try.prog 25 #[.slice A xs.length c, .slice F fs.length d, .int .i64 T] w fun e w' => ∃ v, e = .returned (.tuple #[v, .int .i64 (duesF xs fs T).2]) ∧ Own w' w.heap.size 2 v (duesF xs fs T).1 ∧ Below w.heap.size w w' := by
  have HX := hid hx
  have HF := hid hf
  clear hx hf
  by_cases hC : dueC xs fs T = 0
  · rw [duesF_ok hC]
    go_enter Try.func25, Try.ntmps25
    go_wp2_with fail
    refine (implDuesCode _ _ _ _ _ _ _ _ HX.out HF.out).mono ?_
    rintro e w1 ⟨rfl, hb1⟩
    rw [hC]
    go_wp2_with fail
    refine (implDueL _ _ _ _ _ _ _ _ (HX.out.below hb1) (HF.out.below hb1) hC).mono ?_
    rintro e w2 ⟨v, rfl, ho, hb2⟩
    have HO := hid (ho.mono hb1.size)
    have HB := hid (hb1.trans (hb2.mono hb1.size))
    clear ho hb2 hC
    go_wp2_with fail
    go_ret2
    exact ⟨_, rfl, HO.out, HB.out⟩
  · rw [duesF_no hC]
    have hne : (dueC xs fs T != 0) = true := by rw [bne_iff_ne]; exact hC
    generalize hCe : dueC xs fs T = C at hne hC ⊢
    have HCE := hid hCe
    clear hC hCe
    go_enter Try.func25, Try.ntmps25
    go_wp2_with fail
    refine (implDuesCode _ _ _ _ _ _ _ _ HX.out HF.out).mono ?_
    rintro e w1 ⟨rfl, hb1⟩
    rw [HCE.out]
    go_wp2_with fail
    go_ret2
    exact ⟨_, rfl, Own.empty hb1.size, hb1.alloc hb1.size _⟩
set_option maxRecDepth 100000 in
set_option maxHeartbeats 4000000 in
theorem specDues (A : Option Addr) (xs : List Parcel) (c : Nat) (F : Option Addr) (fs : List Int) (d : Nat) (T : Int) (w : World) (hx : Rd w A xs) (hf : Rd w F fs) :
    Calls Try.prog 23 #[.slice A xs.length c, .slice F fs.length d, .int .i64 T] w fun e w' => ∃ v, e = .returned (.tuple #[v, .int .i64 (duesF xs fs T).2]) ∧ Own w' w.heap.size 2 v (duesF xs fs T).1 ∧ Below w.heap.size w w' := by
  have hn := hx.len
  have HX := hid hx
  have HF := hid hf
  clear hx hf
  by_cases hC : dueC xs fs T = 0
  · rw [duesF_ok hC]
    obtain ⟨hv, h4, hfb, hT, hs⟩ := dueC_ok hC
    have hxl := okP_len hv
    have hok := wt_share hv hfb hs hT
    have HSB := hid (fun i => share_bd hok i)
    have HDB := hid (dueJ_bd xs (sh := shareL T (wtS xs fs) (wtL xs fs)) (m := 1000000001) (by omega) (fun i => by have h5 := share_bd hok i; exact ⟨h5.1, by have := h5.2; omega⟩))
    have HLL : Hid ((shareL T (wtS xs fs) (wtL xs fs)).length = xs.length) := hid (by rw [shareL, shareJ_len, wtL_len])
    have HE : Hid (dueL xs fs T = dueJ xs (shareL T (wtS xs fs) (wtL xs fs)) xs.length) := hid rfl
    have HDV : Hid (dvC xs fs T = shareL T (wtS xs fs) (wtL xs fs)) := by show dvC xs fs T = _; unfold dvC; rw [if_pos hC]; rfl
    have HV := hid hv
    clear hv h4 hfb hs hok
    go_enter Try.func23, Try.ntmps23
    go_wp2_with fail
    refine (specDiv20 _ _ _ _ _ _ _ _ HX.out HF.out).mono ?_
    rintro e w2 ⟨v2, rfl, ho2, hb2⟩
    rw [hC]
    rw [HDV.out] at ho2
    have HX2 := hid (HX.out.below hb2)
    have HB2 := hid hb2
    have hs2 := hb2.size
    obtain ⟨V3, q3, rfl⟩ := ho2.form
    rw [HLL.out] at ho2
    rw [HLL.out]
    have HO2 := hid ho2
    clear ho2 hb2 hC
    generalize shareL T (wtS xs fs) (wtL xs fs) = L at *
    go_wp2_with (first | (at_make; refine wpList_make' elInt _ rfl _ _ rfl w2.heap.size .i64 .i64 _ _ 40 rfl rfl rfl rfl (by decide) (Nat.le_refl _) ?_; intro w3 hown hb3) | fail)
    have HG3 := hid (fun b (h : (Value.slice V3 xs.length q3).ownBlock = some b) => (show b ≠ w2.heap.size by have := (HO2.out.block b h).2; omega))
    have HS3 := hid (HO2.out.below hb3)
    have HB3 := hid (HB2.out.trans (hb3.mono hs2))
    have HD3 := hid hown
    clear hown hb3
    go_loopw [11] (fun i wr => ∃ k : Nat, k ≤ xs.length ∧ i = .int .i64 k ∧ Own wr w2.heap.size 2 (.slice (some ⟨w2.heap.size, 0, none⟩) 40 40) (dueJ xs L k) ∧ Own wr w.heap.size 2 (.slice V3 xs.length q3) L ∧ Below w.heap.size w wr) (fun i _ => xs.length - (intOf i).toNat)
    case atStart => exact ⟨0, Nat.zero_le _, rfl, HD3.out, HS3.out, HB3.out⟩
    case round =>
      obtain ⟨k, hk, rfl, ho, hs, hb⟩ := hrel
      by_cases hlt : k < xs.length
      · obtain ⟨gs, rfl, -, -⟩ := hs.addr (k := k) (by rw [HLL.out]; exact hlt)
        obtain ⟨c1, -⟩ := hs.int (k := k) (by rw [HLL.out]; exact hlt)
        rw [← getD_int (by rw [HLL.out]; exact hlt)] at c1
        obtain ⟨b, off, rfl, -, c2, -, -⟩ := (HX.out.below hb).parcel hlt
        obtain ⟨g1, g2⟩ := getD_own HV.out hlt
        have hi : xs[k].o.toNat < (dueJ xs L k).length := by rw [dueJ_len]; omega
        obtain ⟨d1, f1⟩ := ho.int hi
        rw [← getD_int hi] at d1
        have hbd := HDB.out k xs[k].o.toNat
        have hsb := HSB.out k
        have h3 := ho.intSet hi ((dueJ xs L k).getD xs[k].o.toNat 0 + L.getD k 0)
        rw [← dueJ_next hlt] at h3
        have HO := hid h3
        have HS := hid (own_other (g := w2.heap.size) (j := xs[k].o.toNat) (n := 40) (c := 40) hs (.int .i64 ((dueJ xs L k).getD xs[k].o.toNat 0 + L.getD k 0)) (fun k hk => HG3.out k hk))
        clear h3 ho hi hs
        generalize (dueJ xs L k).getD xs[k].o.toNat 0 = z at HO HS hbd d1
        generalize L.getD k 0 = n at c1 hsb HO HS
        generalize xs[k].o = ow at g1 g2 c2 d1 f1 HO HS
        go_wp2_with fail
        go_region
        go_wp2_with fail
        go_roundw
        case rel => exact ⟨k + 1, by omega, by go_num, HO.out.drewN _, HS.out.drewN _, (hb.setCell hs2 _).drewN _⟩
        case measure => simp [intOf]; omega
      · have hke : k = xs.length := by omega
        rw [hke, ← HE.out] at ho
        have HO := hid (ho.mono hs2)
        clear ho hs
        go_wp2_with fail
        go_ret2
        exact ⟨_, rfl, HO.out, hb⟩
  · rw [duesF_no hC]
    have hne : (dueC xs fs T != 0) = true := by rw [bne_iff_ne]; exact hC
    generalize hCe : dueC xs fs T = C at hne hC ⊢
    have HCE := hid hCe
    clear hC hCe
    go_enter Try.func23, Try.ntmps23
    go_wp2_with fail
    refine (specDiv20 _ _ _ _ _ _ _ _ HX.out HF.out).mono ?_
    rintro e w1 ⟨v1, rfl, ho1, hb1⟩
    rw [HCE.out]
    clear ho1
    go_wp2_with fail
    go_ret2
    exact ⟨_, rfl, Own.nil _ _ _, hb1⟩
end Go.Proofs.Ytampbbknhbhcbaa
