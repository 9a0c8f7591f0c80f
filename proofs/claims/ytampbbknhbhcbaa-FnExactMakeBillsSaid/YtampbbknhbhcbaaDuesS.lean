/- Dues: the reference's division. -/
import Derived.Test.YtampbbknhbhcbaaDuesP
import Derived.Test.YtampbbknhbhcbaaUnfS
import Derived.Test.YtampbbknhbhcbaaShareImpl
namespace Go.Proofs.Ytampbbknhbhcbaa
open Go.RowKit
set_option linter.unusedVariables false
set_option maxHeartbeats 400000 in
theorem specValidP (A : Option Addr) (xs : List Parcel) (c : Nat) (w : World) (hx : Rd w A xs) :
    Calls Try.prog 65 #[.slice A xs.length c] w fun e w' => e = .returned (.bool (okP xs)) ∧ Below w.heap.size w w' := by
  go_enter Try.func65, Try.ntmps65
  go_wp2_with fail
  refine (specParcels _ _ _ _ hx).mono ?_
  rintro e w1 ⟨rfl, hb1⟩
  go_wp2_with fail
  go_ret
  exact ⟨rfl, hb1⟩
set_option maxHeartbeats 1000000 in
theorem specFactors (A : Option Addr) (fs : List Int) (c : Nat) (w : World) (hx : Rd w A fs) :
    Calls Try.prog 66 #[.slice A fs.length c] w fun e w' => e = .returned (.bool (facB fs && decide (fs.length = 4))) ∧ w = w' := by
  have hn := hx.len
  go_enter Try.func66, Try.ntmps66
  go_wp2_with fail
  go_loop [3] (fun i => ∃ k : Nat, k ≤ fs.length ∧ i = .int .i64 k ∧ (fs.take k).all (fun n => inB n 0 10) = true) (fun i => fs.length - (intOf i).toNat)
  case atStart => exact ⟨0, Nat.zero_le _, rfl, rfl⟩
  case round =>
    obtain ⟨k, hk, rfl, ht⟩ := hrel
    have Ht := hid ht
    clear ht
    by_cases hlt : k < fs.length
    · obtain ⟨b, off, rfl, c1⟩ := hx.int hlt
      have hmem := List.getElem_mem hlt
      have HT : Hid ((fs.take (k + 1)).all (fun n => inB n 0 10) = inB fs[k] 0 10) := by
        show (fs.take (k + 1)).all (fun n => inB n 0 10) = inB fs[k] 0 10
        rw [take_next hlt, List.all_append, Ht.out]; simp
      have HF : Hid (inB fs[k] 0 10 = false → facB fs = false) := fun h => by
        rw [facB, List.all_eq_false]
        exact ⟨fs[k], hmem, by simp [h]⟩
      generalize fs[k] = x at c1 HT HF
      clear hx hmem
      rcases hp : inB x 0 10 with _ | _
      · have HFF := hid (HF.out hp)
        go_wp2_with (go_at_call 52; refine (specIn _ _ _ _).mono ?_; rintro e w' ⟨rfl, rfl⟩; rw [hp])
        go_ret
        exact ⟨ret_bool (by simp [HFF.out]), rfl⟩
      · go_wp2_with (go_at_call 52; refine (specIn _ _ _ _).mono ?_; rintro e w' ⟨rfl, rfl⟩; rw [hp])
        go_round
        case rel => exact ⟨k + 1, by omega, by go_num, by rw [HT.out]; exact hp⟩
        case measure => simp [intOf]; omega
    · have HE : Hid (facB fs = true) := by
        have := Ht.out
        rw [List.take_of_length_le (by omega)] at this
        exact this
      clear hx
      by_cases h4 : fs.length = 4
      · have h4' : ((fs.length : Int) == 4) = true := by simp [h4]
        have H4 := hid h4
        clear h4
        go_wp2_with fail
        go_ret
        exact ⟨ret_bool (by simp [HE.out, H4.out]), rfl⟩
      · have h4' : ((fs.length : Int) == 4) = false := by rw [beq_eq_false_iff_ne]; omega
        have H4 := hid h4
        clear h4
        go_wp2_with fail
        go_ret
        exact ⟨ret_bool (by simp [H4.out]), rfl⟩
def dvL (xs : List Parcel) (fs : List Int) (T : Int) : List Int := shareL T (wtS xs fs) (wtL xs fs)
theorem dvL_len (xs : List Parcel) (fs : List Int) (T : Int) : (dvL xs fs T).length = xs.length := by rw [dvL, shareL, shareJ_len, wtL_len]
def dvC (xs : List Parcel) (fs : List Int) (T : Int) : List Int := if dueC xs fs T = 0 then dvL xs fs T else []
theorem dueC_1 {xs : List Parcel} {fs : List Int} {T : Int} (h : ¬ okP xs = true) : dueC xs fs T = 1 := by unfold dueC; rw [if_neg h]
theorem dueC_2 {xs : List Parcel} {fs : List Int} {T : Int} (h : okP xs = true) (h2 : ¬ (fs.length = 4 ∧ facB fs = true ∧ inB T 0 1000000000 = true)) : dueC xs fs T = 2 := by unfold dueC; rw [if_pos h, if_neg h2]
theorem dueC_3 {xs : List Parcel} {fs : List Int} {T : Int} (h : okP xs = true) (h2 : fs.length = 4 ∧ facB fs = true ∧ inB T 0 1000000000 = true) : dueC xs fs T = if wtS xs fs = 0 then 6 else 0 := by unfold dueC; rw [if_pos h, if_pos h2]
theorem Rd.parcelAt {w : World} {b off : Nat} {xs : List Parcel} (h : Rd w (some ⟨b, off, none⟩) xs) {k : Nat} (hk : k < xs.length) :
    w.cell? ⟨b, off + k * 4, none⟩ = some (.int .i64 xs[k].i) ∧ w.cell? ⟨b, off + k * 4 + 1, none⟩ = some (.int .i64 xs[k].o) ∧ w.cell? ⟨b, off + k * 4 + 2, none⟩ = some (.int .i64 xs[k].a) ∧ w.cell? ⟨b, off + k * 4 + 3, none⟩ = some (.int .i64 xs[k].k) := by
  obtain ⟨b', off', hA, c1, c2, c3, c4⟩ := h.parcel hk
  injection hA with hA
  injection hA with h1 h2
  subst h1 h2
  exact ⟨c1, c2, c3, c4⟩
set_option maxRecDepth 100000 in
set_option maxHeartbeats 4000000 in
theorem specDiv20 (A : Option Addr) (xs : List Parcel) (c : Nat) (F : Option Addr) (fs : List Int) (d : Nat) (T : Int) (w : World) (hx : Rd w A xs) (hf : Rd w F fs) :
    Calls Try.prog 45 #[.slice A xs.length c, .slice F fs.length d, .int .i64 T] w fun e w' => ∃ v, e = .returned (.tuple #[v, .int .i64 (dueC xs fs T)]) ∧ Own w' w.heap.size 2 v (dvC xs fs T) ∧ Below w.heap.size w w' := by
  have hn := hx.len
  have hm := hf.len
  have HX := hid hx
  have HF := hid hf
  clear hx hf
  by_cases hv : okP xs = true
  · by_cases h2 : fs.length = 4 ∧ facB fs = true ∧ inB T 0 1000000000 = true
    · have HC := hid (dueC_3 hv h2)
      have HD : Hid (dvC xs fs T = if dueC xs fs T = 0 then dvL xs fs T else []) := hid rfl
      generalize dueC xs fs T = C at *
      generalize dvC xs fs T = Y at *
      obtain ⟨h4, hfb, hT⟩ := h2
      have hTr := inB_true.1 hT
      have hxl := okP_len hv
      have H4 := hid h4
      have h4n : 4 ≤ fs.length := by omega
      have hbb : (facB fs && decide (fs.length = 4)) = true := by simp [hfb, h4]
      have HFB := hid hfb
      have HV := hid hv
      have HWM := hid (wtL_mem hv hfb)
      have HTT := hid hT
      clear h4 hfb hv hT
      go_enter Try.func45, Try.ntmps45
      go_wp2_with fail
      refine (specValidP _ _ _ _ HX.out).mono ?_
      rintro e w1 ⟨rfl, hb1⟩
      rw [HV.out]
      have HX1 := hid (HX.out.below hb1)
      have HF1 := hid (HF.out.below hb1)
      have HB1 := hid hb1
      have hs1 := hb1.size
      clear hb1 HX HF
      go_wp2_with (first | (go_at_call 66; refine (specFactors _ _ _ _ HF1.out).mono ?_; rintro e w' ⟨rfl, rfl⟩; rw [hbb]) | (go_at_call 52; refine (specIn _ _ _ _).mono ?_; rintro e w' ⟨rfl, rfl⟩; rw [HTT.out]))
      go_loopw [8, 9] (fun v i wr => ∃ k : Nat, k ≤ xs.length ∧ i = .int .i64 k ∧ Own wr w1.heap.size 2 v (wtL (xs.take k) fs) ∧ Below w1.heap.size w1 wr) (fun _ i _ => xs.length - (intOf i).toNat)
      case atStart => exact ⟨0, Nat.zero_le _, rfl, Own.empty (Nat.le_refl _), (Below.refl _ _).alloc (Nat.le_refl _) _⟩
      case round =>
        obtain ⟨k, hk, rfl, ho, hb⟩ := hrel
        by_cases hlt : k < xs.length
        · obtain ⟨b, off, rfl, -, -, -, -⟩ := HX1.out.parcel hlt
          obtain ⟨fb, foff, rfl, -⟩ := HF1.out.int (k := 0) (by omega)
          obtain ⟨-, -, c3, c4⟩ := HX1.out.parcelAt hlt
          have hp := okP_at HV.out hlt
          have g1 : 0 ≤ xs[k].k := hp.2.2.2.1
          have g2 : xs[k].k ≤ 3 := hp.2.2.2.2
          have g3 : xs[k].k < (fs.length : Int) := by omega
          have g4 : (k : Int) < (xs.length : Int) := by omega
          have c5 := HF1.out.intAt (k := xs[k].k.toNat) (by omega)
          have hmb := wt_bd hp.2.2.1 (facB_at HFB.out xs[k].k.toNat)
          have hfr := facB_at HFB.out xs[k].k.toNat
          have har := hp.2.2.1
          have HN := hid (wtL_next (fs := fs) hlt)
          have HKL := hid (wtL_len (xs.take k) fs)
          have htl : (xs.take k).length ≤ k := List.length_take_le _ _
          have HO := hid ho
          have HBB := hid hb
          have hbs := hb.size
          have b1 := World.block_lt_of_cell? _ _ c3
          have b2 := World.block_lt_of_cell? _ _ c5
          simp only at b1 b2
          have k3 := (hb.cell (World.block_lt_of_cell? _ _ c3)).trans c3
          have k4 := (hb.cell (World.block_lt_of_cell? _ _ c4)).trans c4
          have k5 := (hb.cell (World.block_lt_of_cell? _ _ c5)).trans c5
          clear ho hb hp c3 c4 c5
          generalize wtL (xs.take k) fs = out at HN HKL HO
          generalize fs.getD xs[k].k.toNat 0 = f at hmb hfr HN k5
          generalize xs[k].a = ar at hmb har HN k3
          generalize xs[k].k = cl at g1 g2 g3 k4 k5
          obtain ⟨V, q, rfl⟩ := HO.out.form
          have HOF := hid (fun g (hg : (Value.slice V out.length q).ownBlock = some g) => (HO.out.block g hg).1)
          have hlo : out.length ≤ 1048576 := by have := HKL.out; omega
          have e1 : IntKind.i64.wrap (ar * f) = ar * f := IntWalk.i64_in _ (by omega)
          go_upto_region 9 with fail
          go_region_held3 (fun w' => w'.cell? ⟨b, off + k * 4 + 2, none⟩ = some (.int .i64 ar) ∧ w'.cell? ⟨b, off + k * 4 + 3, none⟩ = some (.int .i64 cl) ∧ w'.cell? ⟨fb, foff + cl.toNat, none⟩ = some (.int .i64 f))
            (first | go_keep | exact ⟨q0, q1, q2⟩)
            (first | (refine step_push' elInt _ rfl (.tmp 29) (.tmp 44) rfl w1.heap.size _ _ (ar * f) rfl (by first | exact Own.alloc HO.out _ | exact Own.alloc (own_drew' HO.out) _) _ rfl (heap_alloc_new _ _) hlo (by simp; omega) ?_; intro v' w' hown' hg' hat'; have q0 : w'.cell? ⟨b, off + k * 4 + 2, none⟩ = some (.int .i64 ar) := grown_cell hg' (by simp [go_sem, k3]) (fun g hg e => by have := HOF.out g hg; simp only at e; omega); have q1 : w'.cell? ⟨b, off + k * 4 + 3, none⟩ = some (.int .i64 cl) := grown_cell hg' (by simp [go_sem, k4]) (fun g hg e => by have := HOF.out g hg; simp only at e; omega); have q2 : w'.cell? ⟨fb, foff + cl.toNat, none⟩ = some (.int .i64 f) := grown_cell hg' (by simp [go_sem, k5]) (fun g hg e => by have := HOF.out g hg; simp only at e; omega)))
          have hbn := below_own ((HBB.out.drew).alloc hbs _) (Own.alloc (own_drew' HO.out) _) hg' (Nat.le_refl _) (le_alloc hbs)
          clear q0 q1 q2
          go_wp2_with fail
          go_roundw
          case rel => exact ⟨k + 1, by omega, by go_num, by rw [HN.out]; exact hown', hbn⟩
          case measure => simp [intOf]; omega
        · have ht : xs.take k = xs := List.take_of_length_le (by omega)
          rw [ht] at ho
          have HO := hid ho
          have HBR := hid (HB1.out.trans (hb.mono hs1))
          have hwl := wtL_len xs fs
          have hsr := Nat.le_trans hs1 hb.size
          obtain ⟨V, q, rfl⟩ := ho.form
          have HR := hid (ho.rd (by omega))
          have HWL := hid hwl
          clear ho hb hwl
          go_wp2_with fail
          refine (specSumW _ _ _ _ HR.out (by have := HWL.out; omega) (fun x hx => by have := HWM.out x hx; omega)).mono ?_
          rintro e w4 ⟨rfl, rfl⟩
          rw [show sumW (wtL xs fs) (wtL xs fs).length = wtS xs fs from rfl]
          by_cases hs : wtS xs fs = 0
          · have hC := HC.out
            rw [if_pos hs] at hC
            have hD := HD.out
            rw [hC, if_neg (by decide)] at hD
            subst hC hD
            rw [hs]
            go_wp2_with fail
            go_ret2
            exact ⟨_, rfl, Own.nil _ _ _, HBR.out⟩
          · have hC := HC.out
            rw [if_neg hs] at hC
            have hD := HD.out
            rw [hC, if_pos rfl] at hD
            subst hC hD
            have HOK := hid (wt_share HV.out HFB.out hs (T := T) (by omega))
            have hsn : (wtS xs fs == 0) = false := by simpa using hs
            have HSE := hid (dvL_len xs fs T)
            go_wp2_with fail
            refine (specShare_ _ _ _ _ _ _ HR.out HOK.out).mono ?_
            rintro e w5 ⟨V5, q5, rfl, ho5, hb5⟩
            have HO5 := hid (ho5.mono hsr)
            have HB5 := hid (HBR.out.trans (hb5.mono hsr))
            clear ho5 hb5
            go_wp2_with fail
            go_ret2
            exact ⟨_, rfl, HO5.out, HB5.out⟩
    · have HC := hid (dueC_2 hv h2)
      have HD : Hid (dvC xs fs T = []) := by show dvC xs fs T = []; unfold dvC; rw [HC.out, if_neg (by decide)]
      rw [HC.out, HD.out]
      have HV := hid hv
      clear hv HC HD
      rcases hbb : (facB fs && decide (fs.length = 4)) with _ | _
      · go_enter Try.func45, Try.ntmps45
        go_wp2_with fail
        refine (specValidP _ _ _ _ HX.out).mono ?_
        rintro e w1 ⟨rfl, hb1⟩
        rw [HV.out]
        have HF1 := hid (HF.out.below hb1)
        go_wp2_with (first | (go_at_call 66; refine (specFactors _ _ _ _ HF1.out).mono ?_; rintro e w' ⟨rfl, rfl⟩; rw [hbb]))
        go_ret2
        exact ⟨_, rfl, Own.nil _ _ _, hb1⟩
      · have hT : inB T 0 1000000000 = false := by
          rw [Bool.and_eq_true, decide_eq_true_eq] at hbb
          rw [← Bool.not_eq_true]
          exact fun h => h2 ⟨hbb.2, hbb.1, h⟩
        have HTT := hid hT
        clear hT
        go_enter Try.func45, Try.ntmps45
        go_wp2_with fail
        refine (specValidP _ _ _ _ HX.out).mono ?_
        rintro e w1 ⟨rfl, hb1⟩
        rw [HV.out]
        have HF1 := hid (HF.out.below hb1)
        go_wp2_with (first | (go_at_call 66; refine (specFactors _ _ _ _ HF1.out).mono ?_; rintro e w' ⟨rfl, rfl⟩; rw [hbb]) | (go_at_call 52; refine (specIn _ _ _ _).mono ?_; rintro e w' ⟨rfl, rfl⟩; rw [HTT.out]))
        go_ret2
        exact ⟨_, rfl, Own.nil _ _ _, hb1⟩
  · have HC := hid (dueC_1 (fs := fs) (T := T) hv)
    have HD : Hid (dvC xs fs T = []) := by show dvC xs fs T = []; unfold dvC; rw [HC.out, if_neg (by decide)]
    rw [HC.out, HD.out]
    rw [Bool.not_eq_true] at hv
    have HV := hid hv
    clear hv HC HD
    go_enter Try.func45, Try.ntmps45
    go_wp2_with fail
    refine (specValidP _ _ _ _ HX.out).mono ?_
    rintro e w1 ⟨rfl, hb1⟩
    rw [HV.out]
    go_wp2_with fail
    go_ret2
    exact ⟨_, rfl, Own.nil _ _ _, hb1⟩
end Go.Proofs.Ytampbbknhbhcbaa
