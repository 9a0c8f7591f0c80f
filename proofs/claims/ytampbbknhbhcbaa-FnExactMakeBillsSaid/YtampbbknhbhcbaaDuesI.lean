/- Dues: the program's division. -/
import Derived.Test.YtampbbknhbhcbaaDuesS
namespace Go.Proofs.Ytampbbknhbhcbaa
open Go.RowKit
set_option linter.unusedVariables false
set_option maxHeartbeats 400000 in
theorem implShared (n : Int) (w : World) : Calls Try.prog 69 #[.int .i64 n] w fun e w' => e = .returned (.bool (inB n 0 1000000000)) ∧ w = w' := by
  go_enter Try.func69, Try.ntmps69
  go_wp2_with (go_at_call 58; refine (implIn _ _ _ _).mono ?_; rintro e w' ⟨rfl, rfl⟩)
  go_ret
  exact ⟨rfl, rfl⟩
set_option maxHeartbeats 400000 in
theorem implFac1 (n : Int) (w : World) : Calls Try.prog 68 #[.int .i64 n] w fun e w' => e = .returned (.bool (inB n 0 10)) ∧ Below w.heap.size w w' := by
  go_enter Try.func68, Try.ntmps68
  go_wp2_with (go_at_call 58; refine (implIn _ _ _ _).mono ?_; rintro e w' ⟨rfl, rfl⟩)
  go_ret
  exact ⟨rfl, Below.refl _ _⟩
set_option maxHeartbeats 1000000 in
theorem implAll_Fac (A : Option Addr) (xs : List Int) (c : Nat) (p : Int → Bool) (w : World) (hx : Rd w A xs)
    (hcl : ∀ x ∈ xs, ∀ w', Below w.heap.size w w' → Calls Try.prog 68 #[.int .i64 x] w' fun e w'' => e = .returned (.bool (p x)) ∧ Below w'.heap.size w' w'') :
    Calls Try.prog 67 #[.slice A xs.length c, .func (.func 68) #[] #[]] w fun e w' => e = .returned (.bool (xs.all p)) ∧ Below w.heap.size w w' := by
  have hn := hx.len
  go_enter Try.func67, Try.ntmps67
  go_wp2
  go_loopw [9] (fun i wr => ∃ k : Nat, k ≤ xs.length ∧ i = .int .i64 k ∧ (xs.take k).all p = true ∧ ∃ q, wr = w.more q) (fun i _ => xs.length - (intOf i).toNat)
  case atStart => exact ⟨0, Nat.zero_le _, rfl, rfl, more_self⟩
  case round =>
    obtain ⟨k, hk, rfl, ht, q, rfl⟩ := hrel
    have Ht := hid ht
    clear ht
    by_cases hlt : k < xs.length
    · obtain ⟨b, off, rfl, c1⟩ := hx.int hlt
      have hc := hcl _ (List.getElem_mem hlt) (w.more q) more_below
      have hmem := List.getElem_mem hlt
      have HT : Hid ((xs.take (k + 1)).all p = p xs[k]) := by
        show (xs.take (k + 1)).all p = p xs[k]
        rw [take_next hlt, List.all_append, Ht.out]; simp
      have HF : Hid (p xs[k] = false → xs.all p = false) := fun h => by
        rw [List.all_eq_false]
        exact ⟨xs[k], hmem, by simp [h]⟩
      generalize xs[k] = x at c1 hc HT HF
      clear hx hcl hmem
      by_cases h1 : p x = true
      · go_wp2_with (go_at_call 68; refine hc.mono ?_; rintro e w' ⟨rfl, hb⟩; rw [h1])
        go_roundw
        case rel => exact ⟨k + 1, by omega, by go_num, by rw [HT.out]; exact h1, below_ex (more_below.trans (hb.mono more_size))⟩
        case measure => simp [intOf]; omega
      · rw [Bool.not_eq_true] at h1
        go_wp2_with (go_at_call 68; refine hc.mono ?_; rintro e w' ⟨rfl, hb⟩; rw [h1])
        go_ret
        exact ⟨ret_bool (HF.out h1).symm, more_below.trans (hb.mono more_size)⟩
    · have HE : Hid (xs.all p = true) := by
        have := Ht.out
        rw [List.take_of_length_le (by omega)] at this
        exact this
      clear hx hcl
      go_wp2
      go_ret
      exact ⟨ret_bool HE.out.symm, more_below⟩
set_option maxRecDepth 100000 in
set_option maxHeartbeats 4000000 in
theorem implWeights (A : Option Addr) (xs : List Parcel) (c : Nat) (F : Option Addr) (fs : List Int) (d : Nat) (w : World) (hx : Rd w A xs) (hf : Rd w F fs) (hv : okP xs = true) (hfb : facB fs = true) (h4n : 4 ≤ fs.length) :
    Calls Try.prog 70 #[.slice A xs.length c, .slice F fs.length d] w fun e w' => ∃ V q, e = .returned (.slice V (wtL xs fs).length q) ∧ Own w' w.heap.size 2 (.slice V (wtL xs fs).length q) (wtL xs fs) ∧ Below w.heap.size w w' := by
  have hn := hx.len
  have hm := hf.len
  have HX1 := hid hx
  have HF1 := hid hf
  have HV := hid hv
  have HFB := hid hfb
  have hxl := okP_len hv
  clear hx hf hv hfb
  go_enter Try.func70, Try.ntmps70
  go_wp2_with fail
  go_loopw [5, 11] (fun v i wr => ∃ k : Nat, k ≤ xs.length ∧ i = .int .i64 k ∧ Own wr w.heap.size 2 v (wtL (xs.take k) fs) ∧ Below w.heap.size w wr) (fun _ i _ => xs.length - (intOf i).toNat)
  case atStart => exact ⟨0, Nat.zero_le _, rfl, Own.empty (Nat.le_refl _), (Below.refl _ _).alloc (Nat.le_refl _) _⟩
  case round =>
    obtain ⟨k, hk, rfl, ho, hb⟩ := hrel
    by_cases hlt : k < xs.length
    · obtain ⟨b, off, rfl, -, -, -, -⟩ := HX1.out.parcel hlt
      obtain ⟨fb, foff, rfl, -⟩ := HF1.out.int (k := 0) (by omega)
      obtain ⟨k1, k2, k3, k4⟩ := (HX1.out.below hb).parcelAt hlt
      have hp := okP_at HV.out hlt
      have g1 : 0 ≤ xs[k].k := hp.2.2.2.1
      have g2 : xs[k].k ≤ 3 := hp.2.2.2.2
      have g3 : xs[k].k < (fs.length : Int) := by omega
      have c5 := HF1.out.intAt (k := xs[k].k.toNat) (by omega)
      have hmb := wt_bd hp.2.2.1 (facB_at HFB.out xs[k].k.toNat)
      have hfr := facB_at HFB.out xs[k].k.toNat
      have har := hp.2.2.1
      have HN := hid (wtL_next (fs := fs) hlt)
      have HKL := hid (wtL_len (xs.take k) fs)
      have htl : (xs.take k).length ≤ k := List.length_take_le _ _
      have HO := hid ho
      have HBB := hid hb
      have hbs := hb.size
      have b2 := World.block_lt_of_cell? _ _ c5
      simp only at b2
      have k5 := (hb.cell (World.block_lt_of_cell? _ _ c5)).trans c5
      clear ho hb hp c5
      generalize wtL (xs.take k) fs = out at HN HKL HO
      generalize fs.getD xs[k].k.toNat 0 = f at hmb hfr HN k5
      generalize xs[k].a = ar at hmb har HN k3
      generalize xs[k].k = cl at g1 g2 g3 k4 k5
      generalize xs[k].o = ow at k2
      generalize xs[k].i = id0 at k1
      obtain ⟨V, q, rfl⟩ := HO.out.form
      have hlo : out.length ≤ 1048576 := by have := HKL.out; omega
      have e1 : IntKind.i64.wrap (ar * f) = ar * f := IntWalk.i64_in _ (by omega)
      go_upto_region 5 with fail
      obtain ⟨G, hG⟩ : ∃ G, wr.heap.size = G := ⟨_, rfl⟩
      obtain ⟨w1, hw1⟩ : ∃ x, wr.alloc (.cells #[.int .i64 id0, .int .i64 ow, .int .i64 ar, .int .i64 cl] 58) = x := ⟨_, rfl⟩
      have j3 : w1.cell? ⟨G, 2, none⟩ = some (.int .i64 ar) := by rw [← hw1, ← hG]; simp [go_sem]
      have j4 : w1.cell? ⟨G, 3, none⟩ = some (.int .i64 cl) := by rw [← hw1, ← hG]; simp [go_sem]
      have j5 : w1.cell? ⟨fb, foff + cl.toNat, none⟩ = some (.int .i64 f) := by rw [← hw1]; simp [go_sem, k5]
      have HO1 : Hid (Own w1 w.heap.size 2 (.slice V out.length q) out) := by rw [← hw1]; exact HO.out.alloc _
      have HQ1 : Hid (Below w.heap.size w w1) := by rw [← hw1]; exact HBB.out.alloc hbs _
      have HOF := hid (fun g (hg : (Value.slice V out.length q).ownBlock = some g) => (show g ≠ G by have := (HO.out.block g hg).2; omega))
      have HOB := hid (fun g (hg : (Value.slice V out.length q).ownBlock = some g) => (HO.out.block g hg).1)
      have hs1 := HQ1.out.size
      rw [hw1, hG]
      clear hw1 hG HO HBB k1 k2 k3 k4 k5
      go_region_held3 (fun w' => w'.cell? ⟨G, 2, none⟩ = some (.int .i64 ar) ∧ w'.cell? ⟨G, 3, none⟩ = some (.int .i64 cl) ∧ w'.cell? ⟨fb, foff + cl.toNat, none⟩ = some (.int .i64 f))
        (first | go_keep | exact ⟨q0, q1, q2⟩)
        (first | (refine step_push' elInt _ rfl (.tmp 15) (.tmp 24) rfl w.heap.size _ _ (ar * f) rfl (by first | exact Own.alloc HO1.out _ | exact Own.alloc (own_drew' HO1.out) _) _ rfl (heap_alloc_new _ _) hlo (by simp; omega) ?_; intro v' w' hown' hg' hat'; have q0 : w'.cell? ⟨G, 2, none⟩ = some (.int .i64 ar) := grown_cell hg' (by simp [go_sem, j3]) (fun g hg e => HOF.out g hg e); have q1 : w'.cell? ⟨G, 3, none⟩ = some (.int .i64 cl) := grown_cell hg' (by simp [go_sem, j4]) (fun g hg e => HOF.out g hg e); have q2 : w'.cell? ⟨fb, foff + cl.toNat, none⟩ = some (.int .i64 f) := grown_cell hg' (by simp [go_sem, j5]) (fun g hg e => by have := HOB.out g hg; simp only at e; omega)))
      have hbn := below_own ((HQ1.out.drew).alloc hs1 _) (Own.alloc (own_drew' HO1.out) _) hg' (Nat.le_refl _) (le_alloc hs1)
      clear q0 q1 q2
      go_wp2_with fail
      go_roundw
      case rel => exact ⟨k + 1, by omega, by go_num, by rw [HN.out]; exact hown', hbn⟩
      case measure => simp [intOf]; omega
    · have ht : xs.take k = xs := List.take_of_length_le (by omega)
      rw [ht] at ho
      obtain ⟨V, q, rfl⟩ := ho.form
      have HO := hid ho
      clear ho
      go_wp2_with fail
      go_ret
      exact ⟨V, q, rfl, HO.out, hb⟩
set_option maxRecDepth 100000 in
set_option maxHeartbeats 4000000 in
theorem implDuesCode (A : Option Addr) (xs : List Parcel) (c : Nat) (F : Option Addr) (fs : List Int) (d : Nat) (T : Int) (w : World) (hx : Rd w A xs) (hf : Rd w F fs) :
    Calls Try.prog 46 #[.slice A xs.length c, .slice F fs.length d, .int .i64 T] w fun e w' => e = .returned (.int .i64 (dueC xs fs T)) ∧ Below w.heap.size w w' := by
  have hn := hx.len
  have hm := hf.len
  have HX := hid hx
  have HF := hid hf
  clear hx hf
  by_cases hv : okP xs = true
  · have HV := hid hv
    by_cases h4 : fs.length = 4
    · have h4' : ((fs.length : Int) != 4) = false := by simp [h4]
      have hall : fs.all (fun n => inB n 0 10) = facB fs := rfl
      have h4n : 4 ≤ fs.length := by omega
      rcases hfb : facB fs with _ | _
      · rw [dueC_2 hv (fun h => by rw [hfb] at h; exact absurd h.2.1 (by decide))]
        clear h4 hv
        go_enter Try.func46, Try.ntmps46
        go_wp2_with fail
        refine (implParcels _ _ _ _ HX.out).mono ?_
        rintro e w1 ⟨rfl, hb1⟩
        rw [HV.out]
        go_wp2_with fail
        refine (implAll_Fac _ _ _ (fun n => inB n 0 10) _ (HF.out.below hb1) (fun x _ w' _ => implFac1 x w')).mono ?_
        rintro e w2 ⟨rfl, hb2⟩
        rw [hall, hfb]
        have hb3 := hb1.trans (hb2.mono hb1.size)
        clear hb1 hb2
        go_wp2_with fail
        go_ret
        exact ⟨rfl, hb3⟩
      · rcases hT : inB T 0 1000000000 with _ | _
        · rw [dueC_2 hv (fun h => by rw [hT] at h; exact absurd h.2.2 (by decide))]
          clear h4 hv
          go_enter Try.func46, Try.ntmps46
          go_wp2_with fail
          refine (implParcels _ _ _ _ HX.out).mono ?_
          rintro e w1 ⟨rfl, hb1⟩
          rw [HV.out]
          go_wp2_with fail
          refine (implAll_Fac _ _ _ (fun n => inB n 0 10) _ (HF.out.below hb1) (fun x _ w' _ => implFac1 x w')).mono ?_
          rintro e w2 ⟨rfl, hb2⟩
          rw [hall, hfb]
          have hb3 := hb1.trans (hb2.mono hb1.size)
          clear hb1 hb2
          go_wp2_with (go_at_call 69; refine (implShared _ _).mono ?_; rintro e w' ⟨rfl, rfl⟩; rw [hT])
          go_ret
          exact ⟨rfl, hb3⟩
        · have HC := hid (dueC_3 (T := T) hv ⟨h4, hfb, hT⟩)
          generalize dueC xs fs T = C at *
          have HWM := hid (wtL_mem hv hfb)
          have hxl := okP_len hv
          have HFB := hid hfb
          clear h4 hv
          go_enter Try.func46, Try.ntmps46
          go_wp2_with fail
          refine (implParcels _ _ _ _ HX.out).mono ?_
          rintro e w1 ⟨rfl, hb1⟩
          rw [HV.out]
          go_wp2_with fail
          refine (implAll_Fac _ _ _ (fun n => inB n 0 10) _ (HF.out.below hb1) (fun x _ w' _ => implFac1 x w')).mono ?_
          rintro e w2 ⟨rfl, hb2⟩
          rw [hall, hfb]
          have hb3 := hb1.trans (hb2.mono hb1.size)
          clear hb1 hb2
          go_wp2_with (go_at_call 69; refine (implShared _ _).mono ?_; rintro e w' ⟨rfl, rfl⟩; rw [hT])
          refine (implWeights _ _ _ _ _ _ _ (HX.out.below hb3) (HF.out.below hb3) HV.out HFB.out h4n).mono ?_
          rintro e w4 ⟨V4, q4, rfl, ho4, hb4⟩
          have HB4 := hid (hb3.trans (hb4.mono hb3.size))
          have hwl := wtL_len xs fs
          have HR := hid (ho4.rd (by omega))
          have HWL := hid hwl
          clear ho4 hb4 hb3 hwl
          go_wp2_with fail
          refine (implSum_ _ _ _ _ HR.out (by have := HWL.out; omega) (fun x hx => by have := HWM.out x hx; omega)).mono ?_
          rintro e w5 ⟨rfl, rfl⟩
          rw [show sumW (wtL xs fs) (wtL xs fs).length = wtS xs fs from rfl]
          by_cases hs : wtS xs fs = 0
          · have hC := HC.out
            rw [if_pos hs] at hC
            subst hC
            rw [hs]
            go_wp2_with fail
            go_ret
            exact ⟨rfl, HB4.out⟩
          · have hC := HC.out
            rw [if_neg hs] at hC
            subst hC
            have hsn : (wtS xs fs == 0) = false := by simpa using hs
            go_wp2_with fail
            go_ret
            exact ⟨rfl, HB4.out⟩
    · rw [dueC_2 hv (fun h => h4 h.1)]
      have h4' : ((fs.length : Int) != 4) = true := by rw [bne_iff_ne]; omega
      clear h4 hv
      go_enter Try.func46, Try.ntmps46
      go_wp2_with fail
      refine (implParcels _ _ _ _ HX.out).mono ?_
      rintro e w1 ⟨rfl, hb1⟩
      rw [HV.out]
      go_wp2_with fail
      go_ret
      exact ⟨rfl, hb1⟩
  · rw [dueC_1 hv]
    rw [Bool.not_eq_true] at hv
    have HV := hid hv
    clear hv
    go_enter Try.func46, Try.ntmps46
    go_wp2_with fail
    refine (implParcels _ _ _ _ HX.out).mono ?_
    rintro e w1 ⟨rfl, hb1⟩
    rw [HV.out]
    go_wp2_with fail
    go_ret
    exact ⟨rfl, hb1⟩
end Go.Proofs.Ytampbbknhbhcbaa
