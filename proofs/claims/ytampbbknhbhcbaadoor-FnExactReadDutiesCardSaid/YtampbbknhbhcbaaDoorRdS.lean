/- ReadDuties: the reference's walk. -/
import Derived.Test.YtampbbknhbhcbaaDoorRdP
import Derived.Test.YtampbbknhbhcbaaDoorRbS2
import Derived.Test.YtampbbknhbhcbaaDoorDutyOk
namespace Go.Proofs.YtampbbknhbhcbaaDoor
open Go.RowKit
set_option linter.unusedVariables false
set_option linter.unusedSimpArgs false
theorem list2 {α : Type} {l : List α} (h : l.length = 2) : ∃ a b, l = [a, b] := by
  match l, h with
  | [a, b], _ => exact ⟨a, b, rfl⟩
theorem dutyW_not2 {f : Int} {w : List UInt8} (h : (splitB 58 w).length ≠ 2) : dutyW f w = none := by
  unfold dutyW
  split
  · rename_i a b hs
    rw [hs] at h
    exact absurd rfl h
  · rfl
theorem dutyW_two {f : Int} {w a b : List UInt8} (h : splitB 58 w = [a, b]) : dutyW f w = match numO a, numO b with
    | some o, some t => some ⟨o, f, t⟩
    | _, _ => none := by
  unfold dutyW
  rw [h]
  rfl
/-- What the reference makes of what the words say. -/
def dutR (R : Option (List Duty)) (len : Int) : List Duty × Bool := match R with
  | some xs => if validB xs len = true then (xs, true) else ([], false)
  | none => ([], false)
theorem ret_duts {A : Option Addr} {q : Nat} {D : List Duty × Bool} {xs : List Duty} {b : Bool} (h : (xs, b) = D) {w' : World} {B : Nat} {w : World} (ho : Own w' B 57 (.slice A xs.length q) xs) (hb : Below B w w') :
    ∃ A' q', Ending.returned (.tuple #[.slice A xs.length q, .bool b]) = .returned (.tuple #[.slice A' D.1.length q', .bool D.2]) ∧ Own w' B 57 (.slice A' D.1.length q') D.1 ∧ Below B w w' := by
  subst h
  exact ⟨A, q, rfl, ho, hb⟩
set_option maxRecDepth 100000 in
set_option maxHeartbeats 2000000 in
theorem specReadDuties (s : List UInt8) (len : Int) (w : World) (hs : s.length ≤ 1048576) :
    Calls Tryd.prog 13 #[.string ⟨s.toArray⟩, .int .i64 len] w fun e w' => ∃ A q, e = .returned (.tuple #[.slice A (dutF s len).1.length q, .bool (dutF s len).2]) ∧ Own w' w.heap.size 57 (.slice A (dutF s len).1.length q) (dutF s len).1 ∧ Below w.heap.size w w' := by
  obtain ⟨D, hD⟩ : ∃ D, dutF s len = D := ⟨_, rfl⟩
  rw [hD]
  obtain ⟨R, hR⟩ : ∃ R, dutsOf s = R := ⟨_, rfl⟩
  have HD : Hid (dutR R len = D) := by rw [← hD, ← hR]; rfl
  have HFEW : Hid (∀ xs, R = some xs → xs.length ≤ s.length) := fun xs h => duts_few (hR.trans h)
  have hcnt := split_count 32 s
  have HCS := hid (fun x => specSplit s 32 x hs)
  have hwl : ∀ x ∈ splitB 32 s, x.length ≤ 1048576 := fun x hx => Nat.le_trans (split_len 32 s x hx) hs
  have hne := splitB_ne 32 s
  unfold dutsOf at hR
  unfold wordsOf at HCS
  generalize splitB 32 s = ws at hR HCS hwl hcnt hne
  have HWL := hid hwl
  have HR := hid hR
  have hpos : 0 < ws.length := List.length_pos_iff.2 hne
  clear hR hwl hD hne
  go_enter Tryd.func13, Tryd.ntmps13
  go_wp2_with (go_at_call 34; refine (HCS.out _).mono ?_; rintro e w1 ⟨A, q, rfl, ho, hb⟩; refine keep_ ?_)
  obtain ⟨g, rfl, hg1, hg2⟩ := ho.addr (k := 0) (by simp; omega)
  have HB1 := hid (hb.alloc hb.size (.cells #[] 57))
  have HW1 := hid (ho.alloc (.cells #[] 57))
  have HO1 := hid (Own.empty (α := Duty) (w := w1) (base := w.heap.size) (e := 57) hb.size)
  clear ho hb hg1 hg2
  refine go_ ?_
  go_wp2_with fail
  go_loopw [7, 8, 9] (fun u z i wr => ∃ (k : Nat) (f : Int) (xs : List Duty), k ≤ ws.length ∧ i = .int .i64 k ∧ z = .int .i64 f ∧ xs.length = k ∧ ((dutsP f (ws.drop k)).map (xs ++ ·)) = R ∧ Own wr w.heap.size 57 u xs ∧ Own wr w.heap.size 9 (.slice (some ⟨g, 0, none⟩) (ws.map toB).length q) (ws.map toB) ∧ Below w.heap.size w wr) (fun _ _ i _ => ws.length - (intOf i).toNat)
  case atStart => exact ⟨0, 0, [], Nat.zero_le _, rfl, rfl, rfl, by rw [List.drop_zero, HR.out]; cases R <;> simp, HO1.out, HW1.out, HB1.out⟩
  case round =>
    obtain ⟨k, f, xs, hk, rfl, rfl, hxl, hr, ho, hw, hb⟩ := hrel
    obtain ⟨wo, rfl⟩ : ∃ wo : World, wo = wr := ⟨_, rfl⟩
    have HO := hid ho
    have HB := hid hb
    have HW2 := hid hw
    have HXL := hid hxl
    obtain ⟨V, vq, rfl⟩ := ho.form
    by_cases hlt : k < ws.length
    · have c1 : wo.cell? ⟨g, k, none⟩ = some (.string ⟨(ws[k]).toArray⟩) := by
        have := hw.cell (k := k) (j := 0) (by simpa using hlt) (u := .string ⟨(ws[k]).toArray⟩) (by simp [Enc.enc, toB])
        simpa [Enc.size] using this
      have hxs := HWL.out _ (List.getElem_mem hlt)
      rw [List.drop_eq_getElem_cons hlt] at hr
      generalize ws[k] = x at c1 hxs hr
      simp only [dutsP] at hr
      have HSP := hid (fun y => specSplit x 58 y hxs)
      have hpl := split_len 58 x
      have HDW := hid (fun h => dutyW_not2 (f := f) (w := x) h)
      have HDT := hid (fun a b h => dutyW_two (f := f) (w := x) (a := a) (b := b) h)
      unfold wordsOf at HSP
      generalize splitB 58 x = P at HSP hpl HDW HDT
      by_cases h2 : P.length = 2
      · obtain ⟨a, b, rfl⟩ := list2 h2
        have m1 : a.length ≤ 1048576 := Nat.le_trans (hpl a (by simp)) hxs
        have m2 : b.length ≤ 1048576 := Nat.le_trans (hpl b (by simp)) hxs
        rw [HDT.out a b rfl] at hr
        have N1 := hid (fun y => specNumber a y m1)
        have N2 := hid (fun y => specNumber b y m2)
        clear HDT HDW h2 hpl hxl ho hw hb
        rcases numR_cases a with ⟨n1, e1⟩ | ⟨o, n1, e1⟩
        · rw [n1] at hr
          rw [e1] at N1
          have hE : (([], false) : List Duty × Bool) = D := by rw [← HD.out, ← hr]; rfl
          have HE := hid hE
          clear n1 e1 hr hE
          go_wp2_with (go_at_call 34; refine (HSP.out _).mono ?_; rintro e w2 ⟨A2, q2, rfl, ho2, hb2⟩; refine keep_ ?_)
          have hr2 := ho2.rd (by simp)
          obtain ⟨b2, off2, rfl, c0'⟩ := hr2.str (k := 0) (by simp)
          have c0 : w2.cell? ⟨b2, off2, none⟩ = some (.string ⟨a.toArray⟩) := c0'
          have c2 : w2.cell? ⟨b2, off2 + 1, none⟩ = some (.string ⟨b.toArray⟩) := strAt hr2 (k := 1) (by simp)
          have HB2 := hid (HB.out.trans (hb2.mono HB.out.size))
          have HO2 := hid (HO.out.below hb2)
          have HW3 := hid (HW2.out.below hb2)
          clear ho2 hb2 hr2 c0' c1
          refine go_ ?_
          go_wp2_with fail
          refine (N1.out _).mono ?_
          rintro e w3 ⟨rfl, hb3⟩
          have c3 := box_cell hb3 c2
          have HB3 := hid (HB2.out.trans (hb3.mono HB2.out.size))
          clear hb3 c0 c2
          go_wp2_with fail
          refine (N2.out _).mono ?_
          rintro e w4 ⟨rfl, hb4⟩
          have HB4 := hid (HB3.out.trans (hb4.mono HB3.out.size))
          clear hb4 c3
          go_wp2_with fail
          go_ret2
          exact ret_duts HE.out (Own.nil _ _ _) HB4.out
        · rcases numR_cases b with ⟨n2, e2⟩ | ⟨t, n2, e2⟩
          · rw [n1, n2] at hr
            rw [e1] at N1
            rw [e2] at N2
            have hE : (([], false) : List Duty × Bool) = D := by rw [← HD.out, ← hr]; rfl
            have HE := hid hE
            clear n1 e1 n2 e2 hr hE
            go_wp2_with (go_at_call 34; refine (HSP.out _).mono ?_; rintro e w2 ⟨A2, q2, rfl, ho2, hb2⟩; refine keep_ ?_)
            have hr2 := ho2.rd (by simp)
            obtain ⟨b2, off2, rfl, c0'⟩ := hr2.str (k := 0) (by simp)
            have c0 : w2.cell? ⟨b2, off2, none⟩ = some (.string ⟨a.toArray⟩) := c0'
            have c2 : w2.cell? ⟨b2, off2 + 1, none⟩ = some (.string ⟨b.toArray⟩) := strAt hr2 (k := 1) (by simp)
            have HB2 := hid (HB.out.trans (hb2.mono HB.out.size))
            have HO2 := hid (HO.out.below hb2)
            have HW3 := hid (HW2.out.below hb2)
            clear ho2 hb2 hr2 c0' c1
            refine go_ ?_
            go_wp2_with fail
            refine (N1.out _).mono ?_
            rintro e w3 ⟨rfl, hb3⟩
            have c3 := box_cell hb3 c2
            have HB3 := hid (HB2.out.trans (hb3.mono HB2.out.size))
            clear hb3 c0 c2
            go_wp2_with fail
            refine (N2.out _).mono ?_
            rintro e w4 ⟨rfl, hb4⟩
            have HB4 := hid (HB3.out.trans (hb4.mono HB3.out.size))
            clear hb4 c3
            go_wp2_with fail
            go_ret2
            exact ret_duts HE.out (Own.nil _ _ _) HB4.out
          · rw [n1, n2] at hr
            rw [e1] at N1
            rw [e2] at N2
            have hE : (dutsP t (ws.drop (k + 1))).map ((xs ++ [(⟨o, f, t⟩ : Duty)]) ++ ·) = R := by
              rw [← hr]
              simp only
              cases dutsP t (ws.drop (k + 1)) <;> simp
            have HE := hid hE
            clear n1 e1 n2 e2 hr hE
            go_wp2_with (go_at_call 34; refine (HSP.out _).mono ?_; rintro e w2 ⟨A2, q2, rfl, ho2, hb2⟩; refine keep_ ?_)
            have hr2 := ho2.rd (by simp)
            obtain ⟨b2, off2, rfl, c0'⟩ := hr2.str (k := 0) (by simp)
            have c0 : w2.cell? ⟨b2, off2, none⟩ = some (.string ⟨a.toArray⟩) := c0'
            have c2 : w2.cell? ⟨b2, off2 + 1, none⟩ = some (.string ⟨b.toArray⟩) := strAt hr2 (k := 1) (by simp)
            have HB2 := hid (HB.out.trans (hb2.mono HB.out.size))
            have HO2 := hid (HO.out.below hb2)
            have HW3 := hid (HW2.out.below hb2)
            clear ho2 hb2 hr2 c0' c1
            refine go_ ?_
            go_wp2_with fail
            refine (N1.out _).mono ?_
            rintro e w3 ⟨rfl, hb3⟩
            have c3 := box_cell hb3 c2
            have HB3 := hid (HB2.out.trans (hb3.mono HB2.out.size))
            have HO3 := hid (HO2.out.below hb3)
            have HW4 := hid (HW3.out.below hb3)
            clear hb3 c0 c2
            go_wp2_with fail
            refine (N2.out _).mono ?_
            rintro e w4 ⟨rfl, hb4⟩
            have HB4 := hid (HB3.out.trans (hb4.mono HB3.out.size))
            have HO4 := hid (HO3.out.below hb4)
            have HW5 := hid (HW4.out.below hb4)
            clear hb4 c3
            go_wp2_with (at_builtin; refine wpList_push elDuty _ rfl (.tmp 52) (.tmp 57) rfl w.heap.size _ xs (⟨o, f, t⟩ : Duty) rfl (HO4.out.alloc _) _ rfl (heap_alloc_new _ _) (by have := HXL.out; omega) (le_alloc HB4.out.size) ?_; intro v' w5 hown' hg' hat'; refine keep_ ?_)
            have HB5 := hid (below_own (HB4.out.alloc HB4.out.size (.cells #[.int .i64 o, .int .i64 f, .int .i64 t] 57)) (HO4.out.alloc _) hg' (Nat.le_refl _) (le_alloc HB4.out.size))
            have HW6 := hid ((HW5.out.alloc (.cells #[.int .i64 o, .int .i64 f, .int .i64 t] 57)).beside hg' (own_ne HW5.out HO4.out (by decide)))
            have HO5 := hid hown'
            clear hown' hg' hat'
            refine go_ ?_
            go_wp2_with fail
            go_roundw
            case rel => exact ⟨k + 1, t, xs ++ [(⟨o, f, t⟩ : Duty)], by omega, by go_num, rfl, by simp [HXL.out], HE.out, HO5.out, HW6.out, HB5.out⟩
            case measure => simp [intOf]; omega
      · rw [HDW.out h2] at hr
        have hE : (([], false) : List Duty × Bool) = D := by rw [← HD.out, ← hr]; rfl
        have HE := hid hE
        have hl2 : ((P.length : Int) != 2) = true := by rw [bne_iff_ne]; omega
        clear HDT HDW h2 hr hE hpl hxl ho hw hb
        go_wp2_with (go_at_call 34; refine (HSP.out _).mono ?_; rintro e w2 ⟨A2, q2, rfl, ho2, hb2⟩; have HB2 := hid (HB.out.trans (hb2.mono HB.out.size)); clear ho2 hb2; refine keep_ ?_)
        refine go_ ?_
        go_wp2_with fail
        go_ret2
        exact ret_duts HE.out (Own.nil _ _ _) HB2.out
    · rw [List.drop_eq_nil_of_le (by omega)] at hr
      simp only [dutsP, Option.map_some, List.append_nil] at hr
      have hf := HFEW.out xs hr.symm
      have HDD : Hid (dutR (some xs) len = D) := by rw [hr]; exact HD.out
      have hrd := ho.rd (by omega)
      have HC := hid (specOk V xs vq len wo hrd)
      clear ho hb hw hr hrd hxl hf
      cases hv : validB xs len
      · have HE : Hid ((([], false) : List Duty × Bool) = D) := by
          show _ = D
          rw [← HDD.out]
          unfold dutR
          simp only
          rw [hv]
          rfl
        rw [hv] at HC
        clear hv
        go_wp2_with (go_at_call 28; refine HC.out.mono ?_; rintro e w' ⟨rfl, rfl⟩)
        go_ret2
        exact ret_duts HE.out (Own.nil _ _ _) HB.out
      · have HE : Hid (((xs, true) : List Duty × Bool) = D) := by
          show _ = D
          rw [← HDD.out]
          unfold dutR
          simp only
          rw [hv]
          rfl
        rw [hv] at HC
        clear hv
        go_wp2_with (go_at_call 28; refine HC.out.mono ?_; rintro e w' ⟨rfl, rfl⟩)
        go_ret2
        exact ret_duts HE.out HO.out HB.out
end Go.Proofs.YtampbbknhbhcbaaDoor
