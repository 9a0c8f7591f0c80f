/- Spells below a level: walked. -/
import Derived.Test.YteobejgkjjhfkaaTidePlain
namespace Go.Proofs.Yteobejgkjjhfkaa
open Go.RowKit
set_option linter.unusedVariables false
instance : Enc (Int × Int) := ⟨2, fun d => [.int .i64 d.1, .int .i64 d.2], fun _ => rfl, fun _ u h => by simp at h; rcases h with rfl | rfl <;> rfl⟩
theorem Rd.pair {w : World} {A : Option Addr} {xs : List (Int × Int)} (h : Rd w A xs) {k : Nat} (hk : k < xs.length) : ∃ b off, A = some ⟨b, off, none⟩ ∧
    w.cell? ⟨b, off + k * 2, none⟩ = some (.int .i64 xs[k].1) ∧ w.cell? ⟨b, off + k * 2 + 1, none⟩ = some (.int .i64 xs[k].2) := by
  obtain ⟨b, off, hA, hc⟩ := h.2 k hk
  exact ⟨b, off, hA, hc 0 _ rfl, hc 1 _ rfl⟩
theorem elSpell : El Try.prog 45 50 ((0, 0) : Int × Int) :=
  El.mk' (z := .agg #[.int .i64 0, .int .i64 0]) (bytes := 16) Try.underlying45 (by kernel_rfl) (by decide) rfl (by decide)
theorem td_bound {xs : List Tide} (h : TB xs) (m : Int) : -1000 ≤ tden xs m ∧ tden xs m ≤ 1000 := by
  have hs := segF_lt xs m xs.length 0 (by have := h.len; omega)
  have h1 : segOf xs m + 1 < xs.length := hs
  have e1 := h.each _ (List.getElem_mem (show segOf xs m < xs.length by omega))
  have e2 := h.each _ (List.getElem_mem h1)
  unfold tden tA tB
  rw [getD_tide h1, getD_tide (show segOf xs m < xs.length by omega)]
  omega
def lowB (xs : List Tide) (lv m : Int) : Bool := decide (tnum xs m < lv * tden xs m)
def firstT (xs : List Tide) : Int := (xs.getD 0 ⟨0, 0⟩).m
def lastT (xs : List Tide) : Int := (xs.getD (xs.length - 1) ⟨0, 0⟩).m
set_option maxHeartbeats 2000000 in
theorem belowAt_ (A : Option Addr) (xs : List Tide) (c : Nat) (lv m : Int) (w : World) (hx : Rd w A xs) (hok : TB xs) (hm : -1000 ≤ m ∧ m ≤ 2000) (hlv : -2000 ≤ lv ∧ lv ≤ 2000) :
    Calls Try.prog 71 #[.slice A xs.length c, .int .i64 lv, .int .i64 m] w fun e w' => e = .returned (.bool (lowB xs lv m)) ∧ Below w.heap.size w w' := by
  have HX := hid hx
  have HOK := hid hok
  have htd := td_bound hok m
  have hml := mul_small (a := lv) (b := tden xs m) (A := 2000) (B := 1000) hlv htd (by omega) (by omega)
  obtain ⟨R, hR⟩ : ∃ R, lowB xs lv m = R := ⟨_, rfl⟩
  rw [hR]
  unfold lowB at hR
  have HR := hid hR
  clear hx hok hR
  go_enter Try.func71, Try.ntmps71
  go_wp2_with fail
  refine (tideAt_ _ _ _ m _ HX.out HOK.out hm).mono ?_
  rintro e w1 ⟨rfl, hb⟩
  have HB := hid hb
  generalize tnum xs m = N at HR
  generalize tden xs m = D at HR hml htd
  clear hb
  go_wp2_with fail
  go_ret
  exact ⟨ret_bool HR.out, HB.out.alloc HB.out.size _⟩
def befT (low : Int → Bool) (a : Int) (j : Nat) : Bool := decide (0 < j) && low (a + j - 1)
set_option maxRecDepth 100000 in
set_option maxHeartbeats 8000000 in
theorem spellsBelow_ (A : Option Addr) (xs : List Tide) (c : Nat) (lv : Int) (w : World) (hx : Rd w A xs) (hok : TB xs) (hlv : -2000 ≤ lv ∧ lv ≤ 2000) (hab : firstT xs ≤ lastT xs) :
    Calls Try.prog 66 #[.slice A xs.length c, .int .i64 lv] w fun e w' => ∃ V q, e = .returned (.slice V (spT (lowB xs lv) (firstT xs) (lastT xs - firstT xs + 1).toNat).length q) ∧
      Rd w' V (spT (lowB xs lv) (firstT xs) (lastT xs - firstT xs + 1).toNat) ∧ Below w.heap.size w w' := by
  have hlen := hok.len
  have HX := hid hx
  have HOK := hid hok
  obtain ⟨b, off, rfl, hc⟩ := hx.tides (by omega)
  have hc0 := (hc 0 (by omega)).1
  have hcl := (hc (xs.length - 1) (by omega)).1
  have e0 := hok.each _ (List.getElem_mem (show 0 < xs.length by omega))
  have el := hok.each _ (List.getElem_mem (show xs.length - 1 < xs.length by omega))
  rw [← getD_tide (show 0 < xs.length by omega)] at hc0 e0
  rw [← getD_tide (show xs.length - 1 < xs.length by omega)] at hcl el
  have hc0 : w.cell? ⟨b, off, none⟩ = some (.int .i64 (firstT xs)) := by rw [Nat.zero_mul, Nat.add_zero] at hc0; exact hc0
  have hcl : w.cell? ⟨b, off + (xs.length - 1) * 2, none⟩ = some (.int .i64 (lastT xs)) := hcl
  have ea : 0 ≤ firstT xs ∧ firstT xs ≤ 1000 := e0.1
  have eb : 0 ≤ lastT xs ∧ lastT xs ≤ 1000 := el.1
  obtain ⟨n, hn⟩ : ∃ n, xs.length = n + 1 := ⟨xs.length - 1, by omega⟩
  have hcl : w.cell? ⟨b, off + n * 2, none⟩ = some (.int .i64 (lastT xs)) := by rw [show n = xs.length - 1 by omega]; exact hcl
  have HCB : Hid (∀ m w1, Below w.heap.size w w1 → -1000 ≤ m ∧ m ≤ 2000 → Calls Try.prog 71 #[.slice (some ⟨b, off, none⟩) (n + 1) c, .int .i64 lv, .int .i64 m] w1 fun e w' => e = .returned (.bool (lowB xs lv m)) ∧ Below w1.heap.size w1 w') := fun m w1 hb hm => by
    have h9 := belowAt_ (some ⟨b, off, none⟩) xs c lv m w1 (hx.below hb) hok hm hlv
    rwa [hn] at h9
  have hn40 : n ≤ 39 := by omega
  rw [hn]
  generalize firstT xs = a at *
  generalize lastT xs = z at *
  generalize lowB xs lv = low at *
  obtain ⟨RES, hRES⟩ : ∃ R, spT low a (z - a + 1).toNat = R := ⟨_, rfl⟩
  rw [hRES]
  have HRES := hid hRES
  clear hx hok hc e0 el hn HX HOK hlen hRES
  go_enter Try.func66, Try.ntmps66
  go_wp2_with fail
  go_loopw [5, 6, 7] (fun u bf i wr => ∃ (j : Nat), (j : Int) ≤ z - a + 1 ∧ i = .int .i64 (a + j) ∧ bf = .bool (befT low a j) ∧ Own wr w.heap.size 50 u (spT low a j) ∧ Below w.heap.size w wr) (fun _ _ i _ => (z + 1 - intOf i).toNat)
  case atStart => exact ⟨0, by omega, val_int (by omega), rfl, Own.empty (Nat.le_refl _), (Below.refl _ _).alloc (Nat.le_refl _) _⟩
  case round =>
    obtain ⟨j, hj, rfl, rfl, ho, hq⟩ := hrel
    obtain ⟨wo, rfl⟩ : ∃ wo : World, wo = wr := ⟨_, rfl⟩
    obtain ⟨V, vq, rfl⟩ := ho.form
    have HO := hid ho
    have HQ := hid hq
    have hz := hq.size
    have d0 := box_cell hq hc0
    have dl := box_cell hq hcl
    have hok2 := spT_ok low a j
    have hl := hok2.len
    have HOK2 := hid hok2
    have hst : spT low a (j + 1) = if low (a + j) = true then (if 0 < j ∧ low (a + j - 1) = true then setTo (spT low a j) (a + j) else spT low a j ++ [(a + j, a + j)]) else spT low a j := rfl
    have hbe : befT low a (j + 1) = low (a + j) := by
      unfold befT
      rw [show a + ((j + 1 : Nat) : Int) - 1 = a + j by omega]
      simp
    have HBE := hid hbe
    clear ho hq hok2 hbe
    by_cases hlt : a + (j : Int) ≤ z
    · have hcall := hid (HCB.out (a + j) wo HQ.out (by omega))
      obtain ⟨bj, hbj⟩ : ∃ x, low (a + j) = x := ⟨_, rfl⟩
      rw [hbj] at hst hcall HBE
      have hmr : 0 ≤ a + (j : Int) ∧ a + (j : Int) ≤ 1000 := by omega
      cases bj with
      | false =>
        have HST := hid hst
        clear hst hbj
        go_upto_region 7 with (go_at_call 71; refine hcall.out.mono ?_; rintro e w2 ⟨rfl, hb⟩; have HB := hid hb; clear hb)
        have HO2 := hid (HO.out.below HB.out)
        have HQ2 := hid (HQ.out.trans (HB.out.mono HQ.out.size))
        go_wp2_with fail
        go_roundw
        case rel => exact ⟨j + 1, by omega, val_int (by omega), by rw [HBE.out], by rw [HST.out]; exact HO2.out, HQ2.out⟩
        case measure => simp [intOf]; omega
      | true =>
        rw [if_pos rfl] at hst
        cases hbf : befT low a j with
        | true =>
          have hB : 0 < j ∧ low (a + j - 1) = true := by simpa [befT] using hbf
          rw [if_pos hB] at hst
          obtain ⟨q, r, hqr, hr⟩ := HOK2.out.last hB.1 hB.2
          rw [hqr, setTo_last] at hst
          rw [hqr] at HO hl ⊢
          have HST := hid hst
          have hlq : (q ++ [r]).length = q.length + 1 := by simp
          rw [hlq] at HO hl ⊢
          have hok' := HO.out
          clear hst hbj hB HOK2 hqr hbf hr
          have hkq : q.length < (q ++ [r]).length := by omega
          obtain ⟨g, rfl, hgb, hgs⟩ := hok'.addr hkq
          clear hok'
          go_upto_region 7 with (go_at_call 71; refine hcall.out.mono ?_; rintro e w2 ⟨rfl, hb⟩; have HB := hid hb; clear hb)
          have HO2 := hid (HO.out.below HB.out)
          have HQ2 := hid (HQ.out.trans (HB.out.mono HQ.out.size))
          have k1 : w2.cell? ⟨g, q.length * 2 + 1, none⟩ = some (.int .i64 r.2) := HO2.out.cell hkq (j := 1) (u := .int .i64 r.2) (by simp [Enc.enc])
          have f1 := HO2.out.free (q.length * 2 + 1)
          have hset : Own (w2.setCell ⟨g, q.length * 2 + 1, none⟩ (.int .i64 (a + j))) _ _ _ _ := HO2.out.set hkq (j := 1) (u := .int .i64 (a + j)) (y := (r.1, a + j)) (by decide) (by simp [Enc.enc])
          rw [List.set_append_right _ _ (Nat.le_refl _), Nat.sub_self] at hset
          have HSET := hid hset
          clear hset hlq
          go_wp2_with fail
          go_roundw
          case rel => exact ⟨j + 1, by omega, val_int (by omega), by rw [HBE.out], by rw [HST.out]; exact HSET.out, HQ2.out.setCell hgb _⟩
          case measure => simp [intOf]; omega
        | false =>
          have hB : ¬ (0 < j ∧ low (a + j - 1) = true) := by simpa [befT] using hbf
          rw [if_neg hB] at hst
          have HST := hid hst
          clear hst hbj hB hbf
          generalize spT low a j = L at HO hl HST ⊢
          go_upto_region 7 with (go_at_call 71; refine hcall.out.mono ?_; rintro e w2 ⟨rfl, hb⟩; have HB := hid hb; clear hb)
          have HO2 := hid (HO.out.below HB.out)
          have HQ2 := hid (HQ.out.trans (HB.out.mono HQ.out.size))
          go_wp2_with (first | fail | (at_builtin; refine wpList_push elSpell _ rfl (.tmp 43) (.tmp 47) rfl w.heap.size _ L ((a + j, a + j) : Int × Int) rfl (HO2.out.alloc _) _ rfl (heap_alloc_new _ _) (by omega) (le_alloc HQ2.out.size) ?_; intro v' w' hown' hg' hat'; refine keep_ ?_))
          have hbn := below_own (HQ2.out.alloc HQ2.out.size _) (HO2.out.alloc _) hg' (Nat.le_refl _) (le_alloc HQ2.out.size)
          have Z1 := hid hbn
          have Z2 := hid hown'
          clear hbn hown' hg' hat'
          refine go_ ?_
          go_wp2_with fail
          go_roundw
          case rel => exact ⟨j + 1, by omega, val_int (by omega), by rw [HBE.out], by rw [HST.out]; exact Z2.out, Z1.out⟩
          case measure => simp [intOf]; omega
    · have hjz : (z - a + 1).toNat = j := by omega
      have hre := HRES.out
      rw [hjz] at hre
      rw [hre] at HO hl ⊢
      have E1 := hid (HO.out.rd (by omega))
      clear hst hre HBE
      go_wp2_with fail
      go_ret
      exact ⟨V, ⟨vq, rfl⟩, E1.out, HQ.out⟩
end Go.Proofs.Yteobejgkjjhfkaa
