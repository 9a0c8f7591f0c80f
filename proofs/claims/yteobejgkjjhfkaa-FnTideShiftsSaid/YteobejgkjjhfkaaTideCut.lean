/- CutTides: walked. -/
import Derived.Test.YteobejgkjjhfkaaTideMv2
namespace Go.Proofs.Yteobejgkjjhfkaa
open Go.RowKit
set_option linter.unusedVariables false
def CutR (CX : List Tide) (w : World) (e : Ending) (w' : World) : Prop :=
  (∃ V q, e = .returned (.tuple #[.slice V CX.length q, .int .i64 0]) ∧ Rd w' V CX ∧ Below w.heap.size w w') ∨ (¬ TideOk CX ∧ ∃ V q, e = .returned (.tuple #[.slice V 0 q, .int .i64 6]) ∧ Below w.heap.size w w')
set_option maxRecDepth 100000 in
set_option maxHeartbeats 8000000 in
theorem cutTides_ (A : Option Addr) (xs : List Tide) (c : Nat) (f t : Int) (w : World) (hx : Rd w A xs) (hok : TT xs) (hf : firstT xs ≤ f) (hft : f < t) (ht : t ≤ lastT xs) :
    Calls Try.prog 41 #[.slice A xs.length c, .int .i64 f, .int .i64 t] w (CutR (cutX xs f t) w) := by
  have hn := hx.len
  have HX := hid hx
  have HOK := hid hok
  have hlen := hok.ok.len
  obtain ⟨_, hf0, hl0⟩ := first_last hok
  obtain ⟨nb1, db1⟩ := tb_num hok (m := f) (by omega)
  obtain ⟨nb2, db2⟩ := tb_num hok (m := t) (by omega)
  have H1 : Hid (inB f (firstT xs) (lastT xs) = true) := inB_lit (by omega)
  have H2 : Hid (inB t (firstT xs) (lastT xs) = true) := inB_lit (by omega)
  have hfb : 0 ≤ f ∧ f ≤ 1000 := by omega
  have htb : 0 ≤ t ∧ t ≤ 1000 := by omega
  have HEA := hid hok.tb.each
  have hcl := (cut_len xs f t)
  have HCL := hid hcl
  have HCX : Hid (cutX xs f t = [⟨f, near (tnum xs f) (tden xs f)⟩] ++ (xs.take xs.length).filter (fun x => inB x.m (f + 1) (t - 1)) ++ [⟨t, near (tnum xs t) (tden xs t)⟩]) := by show _ = _; rw [List.take_length]; rfl
  generalize cutX xs f t = CX at HCX HCL hcl ⊢
  clear hx hok hf ht hf0 hl0
  go_enter Try.func41, Try.ntmps41
  go_wp2_with fail
  refine (validTides_ _ _ _ _ HX.out HOK.out.ok).mono ?_
  rintro e w1 ⟨rfl, hb⟩
  have HB1 := hid hb
  have HX1 := hid (HX.out.below hb)
  clear hb
  go_wp2_with fail
  refine (isMinuteOf_ _ _ _ f _ HX1.out HOK.out).mono ?_
  rintro e w2 ⟨rfl, hb⟩
  rw [H1.out]
  have HB2 := hid (HB1.out.trans (hb.mono HB1.out.size))
  have HX2 := hid (HX1.out.below hb)
  clear hb
  go_wp2_with fail
  refine (isMinuteOf_ _ _ _ t _ HX2.out HOK.out).mono ?_
  rintro e w3 ⟨rfl, hb⟩
  rw [H2.out]
  have HB3 := hid (HB2.out.trans (hb.mono HB2.out.size))
  have HX3 := hid (HX2.out.below hb)
  clear hb
  go_wp2_with fail
  refine (tideAt_ _ _ _ f _ HX3.out HOK.out.tb (by omega)).mono ?_
  rintro e w4 ⟨rfl, hb⟩
  have HB4 := hid (HB3.out.trans (hb.mono HB3.out.size))
  have HX4 := hid (HX3.out.below hb)
  clear hb
  go_wp2_with fail
  refine (nearest_ (tnum xs f) (tden xs f) _ nb1 (by omega)).mono ?_
  rintro e w5 ⟨rfl, hb⟩
  have HB5 := hid (HB4.out.trans (hb.mono HB4.out.size))
  have HX5 := hid (HX4.out.below hb)
  clear hb
  generalize near (tnum xs f) (tden xs f) = l1 at *
  have HO0 := hid (Own.one (α := Tide) (w := w5) (base := w5.heap.size) (e := 52) ⟨f, l1⟩ (Nat.le_refl _))
  go_wp2_with fail
  go_loopw [8, 42] (fun u i wr => ∃ k : Nat, k ≤ xs.length ∧ i = .int .i64 k ∧ Own wr w5.heap.size 52 u ([⟨f, l1⟩] ++ (xs.take k).filter (fun x => inB x.m (f + 1) (t - 1))) ∧ Below w5.heap.size w5 wr) (fun _ i _ => xs.length - (intOf i).toNat)
  case atStart => exact ⟨0, Nat.zero_le _, rfl, by rw [List.take_zero]; exact HO0.out, (Below.refl _ _).alloc (Nat.le_refl _) _⟩
  case round =>
    obtain ⟨k, hk, rfl, ho, hq⟩ := hrel
    obtain ⟨wo, rfl⟩ : ∃ wo : World, wo = wr := ⟨_, rfl⟩
    have HO := hid ho
    have HQ := hid hq
    have HX6 := hid (HX5.out.below hq)
    have hz := hq.size
    have hfl := List.length_filter_le (fun x : Tide => inB x.m (f + 1) (t - 1)) (xs.take k)
    rw [List.length_take] at hfl
    clear ho hq HO0
    by_cases hlt : k < xs.length
    · obtain ⟨b, off, rfl, c1, c2⟩ := HX6.out.tide hlt
      have hea := HEA.out _ (List.getElem_mem hlt)
      have hnx : (xs.take (k + 1)).filter (fun x => inB x.m (f + 1) (t - 1)) = (xs.take k).filter (fun x => inB x.m (f + 1) (t - 1)) ++ (if inB xs[k].m (f + 1) (t - 1) = true then [xs[k]] else []) := by
        rw [take_next hlt, List.filter_append]
        congr 1
        rw [List.filter_cons, List.filter_nil]
      generalize xs[k] = x at c1 c2 hea hnx
      obtain ⟨x1, x2⟩ := x
      simp only at c1 c2 hea hnx
      have HO' := hid HO.out
      generalize (xs.take k).filter (fun x => inB x.m (f + 1) (t - 1)) = L at HO' hnx hfl
      have hL : ([(⟨f, l1⟩ : Tide)] ++ L).length ≤ 1048576 := by simp only [List.length_append, List.length_cons, List.length_nil]; omega
      have HL := hid hL
      clear hL hfl HO
      cases hin : inB x1 (f + 1) (t - 1) with
      | false =>
        have HIN := hid hin
        rw [hin, if_neg (by decide), List.append_nil] at hnx
        have HNX := hid hnx
        clear hin hnx
        go_wp2_with (go_at_call 59; refine (implIn _ _ _ _).mono ?_; rintro e w' ⟨rfl, rfl⟩; rw [HIN.out])
        go_roundw
        case rel => exact ⟨k + 1, by omega, by go_num, by rw [HNX.out]; exact HO'.out.alloc _, HQ.out.alloc hz _⟩
        case measure => simp [intOf]; omega
      | true =>
        have HIN := hid hin
        rw [hin, if_pos rfl] at hnx
        have HNX := hid hnx
        clear hin hnx
        go_wp2_with (first | (go_at_call 59; refine (implIn _ _ _ _).mono ?_; rintro e w' ⟨rfl, rfl⟩; rw [HIN.out]) | (at_builtin; refine wpList_push elTide _ rfl (.tmp 53) (.tmp 55) rfl w5.heap.size _ _ (⟨x1, x2⟩ : Tide) rfl ((HO'.out.alloc _).alloc _) _ rfl (alloc_new2 _ _ _) HL.out (le_alloc (le_alloc hz)) ?_; intro v' w' hown' hg' hat'; refine keep_ ?_))
        have HOW := hid hown'
        have HQ2 := hid (below_own ((HQ.out.alloc hz _).alloc (le_alloc hz) _) ((HO'.out.alloc _).alloc _) hg' (Nat.le_refl _) (le_alloc (le_alloc hz)))
        clear hown' hg' hat'
        refine go_ ?_
        go_wp2_with fail
        go_roundw
        case rel => exact ⟨k + 1, by omega, by go_num, by rw [HNX.out, ← List.append_assoc]; exact HOW.out, HQ2.out⟩
        case measure => simp [intOf]; omega
    · have hke : k = xs.length := by omega
      subst hke
      have HO' := hid HO.out
      generalize (xs.take xs.length).filter (fun x => inB x.m (f + 1) (t - 1)) = L at HO' HCX hfl
      clear HO
      go_wp2_with fail
      refine (tideAt_ _ _ _ t _ HX6.out HOK.out.tb (by omega)).mono ?_
      rintro e w7 ⟨rfl, hb⟩
      have HQ7 := hid (HQ.out.trans (hb.mono hz))
      have HO7 := hid (HO'.out.below hb)
      clear hb
      go_wp2_with fail
      refine (nearest_ (tnum xs t) (tden xs t) _ nb2 (by omega)).mono ?_
      rintro e w8 ⟨rfl, hb⟩
      have HQ8 := hid (HQ7.out.trans (hb.mono HQ7.out.size))
      have HO8 := hid (HO7.out.below hb)
      clear hb HO' HO7
      generalize near (tnum xs t) (tden xs t) = l2 at *
      have hL : ([(⟨f, l1⟩ : Tide)] ++ L).length ≤ 1048576 := by simp only [List.length_append, List.length_cons, List.length_nil]; omega
      have HL := hid hL
      clear hL hfl
      have hz8 := HQ8.out.size
      go_wp2_with (first | fail | (at_builtin; refine wpList_push elTide _ rfl (.tmp 58) (.tmp 65) rfl w5.heap.size _ _ (⟨t, l2⟩ : Tide) rfl (HO8.out.alloc _) _ rfl (heap_alloc_new _ _) HL.out (le_alloc hz8) ?_; intro v' w' hown' hg' hat'; refine keep_ ?_))
      have HQ9 := hid (below_own (HQ8.out.alloc hz8 _) (HO8.out.alloc _) hg' (Nat.le_refl _) (le_alloc hz8))
      have hown2 : Own w' w5.heap.size 52 v' CX := by rw [HCX.out]; exact hown'
      obtain ⟨V, vq, rfl⟩ := hown2.form
      have HR := hid (hown2.rd (by omega))
      have HB9 := hid (HB5.out.trans (HQ9.out.mono HB5.out.size))
      clear hown' hg' hat' hown2 HO8
      refine go_ ?_
      go_wp2_with fail
      refine (validAny_ _ _ _ _ HR.out (by omega)).mono ?_
      rintro e w10 ⟨r, rfl, hr, hb⟩
      have HRR := hid hr
      have HR10 := hid (HR.out.below hb)
      have HB10 := hid (HB9.out.trans (hb.mono HB9.out.size))
      clear hr hb
      cases r with
      | true =>
        go_wp2_with fail
        go_ret2
        exact .inl ⟨V, vq, rfl, HR10.out, HB10.out⟩
      | false =>
        go_wp2_with fail
        go_ret2
        exact .inr ⟨fun h => absurd (HRR.out h) (by decide), _, _, rfl, HB10.out.alloc HB10.out.size _⟩
end Go.Proofs.Yteobejgkjjhfkaa
