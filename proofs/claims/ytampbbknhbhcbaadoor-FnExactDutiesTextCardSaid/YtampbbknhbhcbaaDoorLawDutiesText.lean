/- FnExactDutiesText: the walk and the row. Written by a program (genlaw.py). -/
import Derived.Test.YtampbbknhbhcbaaDoorDutT
import Derived.Test.YtampbbknhbhcbaaDoorLaw
import Derived.Test.YtampbbknhbhcbaaDoorDoor
import Derived.Test.YtampbbknhbhcbaaDoorCards
import Derived.Test.YtampbbknhbhcbaaDoorTie
namespace Go.Proofs.YtampbbknhbhcbaaDoor.fnExactDutiesText
open Go.ChangeShapes Go.WideShapes Go.ChangeAt Go.RowKit
set_option linter.unusedVariables false
set_option maxHeartbeats 4000000 in
theorem walk {w : World} (A0 : Option Addr) (n0 c0 : Nat) (x0 : Arg Duty w A0 n0) (a1 : Int) (bd1 : -9223372036854775808 ≤ a1 ∧ a1 ≤ 9223372036854775807) (ht : Tab w) :
    Calls Tryd.prog 3 #[.slice A0 n0 c0, .int .i64 a1] w fun e w' => e = .returned (.bool true) ∧ Below w.heap.size w w' := by
  obtain ⟨hn0, hx0⟩ := x0
  by_cases g0 : (1048576 : Int) < n0
  · have B := Below.refl w.heap.size w
    go_enter Tryd.func3, Tryd.ntmps3
    go_wp2_with fail
    refine (szDutyS A0 n0 c0 1048576 _ hn0 (by omega) (by omega)).mono ?_
    rintro e w' ⟨rfl, rfl⟩
    rw [if_pos (by omega)]
    go_wp2_with fail
    go_ret
    exact ⟨rfl, B⟩
  obtain ⟨xs0, rfl, h0, ft0⟩ := hx0 (by omega)
  have B := Below.refl w.heap.size w
  go_enter Tryd.func3, Tryd.ntmps3
  go_wp2_with fail
  refine (szDutyS A0 xs0.length c0 1048576 _ hn0 (by omega) (by omega)).mono ?_
  rintro e w' ⟨rfl, rfl⟩
  rw [if_neg (by omega)]
  have H0 := h0.below B
  go_wp2_with fail
  refine (toDutyS A0 xs0 c0 _ H0).mono ?_
  rintro e w1 ⟨v1, rfl, o1, b1⟩
  obtain ⟨P1, k1, rfl⟩ := o1.form
  have u1 := hid o1.block
  have z1 := hid b1.size
  obtain ⟨y1, rfl⟩ := below_ex b1
  clear b1
  replace B := below_next B (x := y1)
  replace H0 := H0.more (x := y1)
  go_wp2_with fail
  refine (specDutText P1 xs0 k1 a1 _ (o1.rd (by omega)) ).mono ?_
  rintro e w2 ⟨rfl, b2⟩
  have z2 := hid b2.size
  obtain ⟨y2, rfl⟩ := below_ex b2
  clear b2
  replace B := below_next B (x := y2)
  replace H0 := H0.more (x := y2)
  replace o1 := o1.more (x := y2)
  go_wp2_with fail
  clear o1
  refine (toDutyS A0 xs0 c0 _ H0).mono ?_
  rintro e w3 ⟨v3, rfl, o3, b3⟩
  obtain ⟨P3, k3, rfl⟩ := o3.form
  have u3 := hid o3.block
  have z3 := hid b3.size
  obtain ⟨y3, rfl⟩ := below_ex b3
  clear b3
  replace B := below_next B (x := y3)
  replace H0 := H0.more (x := y3)
  go_wp2_with fail
  refine (implDutText P3 xs0 k3 a1 _ (o3.rd (by omega)) (ht.below B)).mono ?_
  rintro e w4 ⟨rfl, b4⟩
  have z4 := hid b4.size
  obtain ⟨y4, rfl⟩ := below_ex b4
  clear b4
  replace B := below_next B (x := y4)
  replace H0 := H0.more (x := y4)
  replace o3 := o3.more (x := y4)
  generalize dutText xs0 a1 = TX
  go_wp2_with fail
  refine (toDutyS A0 xs0 c0 _ H0).mono ?_
  rintro e w5 ⟨v5, rfl, o5, b5⟩
  obtain ⟨P5, k5, rfl⟩ := o5.form
  have u5 := hid o5.block
  have z5 := hid b5.size
  obtain ⟨y5, rfl⟩ := below_ex b5
  clear b5
  replace B := below_next B (x := y5)
  replace H0 := H0.more (x := y5)
  replace o3 := o3.more (x := y5)
  go_wp2_with fail
  refine (eqDutyS P3 P5 xs0 xs0 _ _ _ (o3.rd (by omega)) (o5.rd (by omega))).mono ?_
  rintro e w6 ⟨rfl, b6⟩
  have z6 := hid b6.size
  obtain ⟨y6, rfl⟩ := below_ex b6
  clear b6
  replace B := below_next B (x := y6)
  replace H0 := H0.more (x := y6)
  replace o3 := o3.more (x := y6)
  replace o5 := o5.more (x := y6)
  go_wp2_with fail
  clear o5
  go_ret
  exact ⟨rfl, B⟩
set_option maxRecDepth 100000 in
theorem lifted (os : Os) (started : os.Started) (H : Type) (enc : TypeId × Value → H) :
    ReturnsInHanded {} Tryd.checked os 3 .any (fun w args => (Rows.fnExactDutiesTextSpec.pre enc Tryd.prog Tryd.f3 [] false w args ∧ laidMetH Tryd.prog laid3 w) ∧ sizedMet enc Tryd.prog Tryd.f3 (OpenSpec.ofChange Rows.fnExactDutiesTextSpec) false w args)
      (Rows.fnExactDutiesTextSpec.post enc Tryd.prog Tryd.f3 false true false false) := by
  refine returnsInHanded_of_change_and (C := Tryd.checked) (X := fun w _ => laidMetH Tryd.prog laid3 w) (fun _ _ _ hh h => h.of_heap hh) ownLaw started (by kernel_rfl) Tryd.func3
    (ChangeSpec.witness_shaped (enc := enc) (C := Tryd.checked) (os := os) (X := fun w _ => laidMetH Tryd.prog laid3 w) false (World.laidAll Tryd.prog os laid3) #[.slice none 0 0, .int .i64 0] 8 (World.laidAll_os _ _ _)
      (shaped3 os) (by kernel_rfl) (by kernel_rfl) (by kernel_rfl) (met3 os _)) ?_
  intro W base args ds gs before hval0 hW hc _ hL _
  have hval : ∀ (j : Nat) t v, Tryd.f3.params[j]? = some t → args[j]? = some v → Value.okWide Tryd.prog W .any base t v := hval0
  have hW' := hW
  obtain ⟨p, q, hA0, hV, hbef, hfz, hnd⟩ := hW
  have hA : DataW.TrodAll enc Tryd.prog W 0 (fun _ => true) true Tryd.f3.params.toList args.toList ds p := hA0
  rw [Tryd.params3] at hA hval
  obtain ⟨v0, vs0, d0, ds0, p0, q0, hargs, rfl, hp0, h0, r0⟩ := trodAll_cons hA
  obtain ⟨v1, vs1, d1, ds1, p1, q1, rfl, rfl, hp1, h1, r1⟩ := trodAll_cons r0
  obtain ⟨rfl, rfl, hpl⟩ := trodAll_nil r1
  obtain rfl : args = #[v0, v1] := by cases args; simp_all
  obtain ⟨rfl, hq⟩ := trodVars_none hV
  obtain ⟨A0, n0, c0, rfl, x0⟩ := open_structs (α := Duty) Tryd.underlying22 Tryd.underlying59 (by kernel_rfl) (by kernel_rfl) rfl (by decide) (by kernel_rfl) (hval 0 _ v0 rfl rfl) h0
  obtain ⟨a1, rfl, rfl, hz1, w1⟩ := open_int Tryd.underlying2 (hval 1 _ v1 rfl rfl) h1
  refine (walk A0 n0 c0 x0 a1 (wf_range w1) (tab_of_laid3 hL)).mono fun e W' ⟨he, hb⟩ => ?_
  subst he
  exact ⟨_, rfl, law_close laidLaw (by kernel_rfl) rfl rfl (by kernel_rfl) hW' rfl rfl rfl hb⟩
theorem holds : Rows.FnExactDutiesTextSaid :=
  OpenClaim.holds_of_wide 3 Tryd.f3 rfl rfl rfl rfl rfl rfl rfl ⟨rfl, rfl, rfl, rfl, rfl⟩ rfl rfl rfl rfl rfl (by kernel_rfl) Tryd.func3 (by kernel_rfl)
    (of_decide_eq_true (by kernel_rfl)) (by unfold Func.isWrapper; first | (rw [if_pos (by decide +kernel)]; kernel_rfl) | (rw [if_neg (by decide +kernel)]; exact ⟨rfl, rfl⟩))
    (fun os started H enc _ => lifted os started H enc)
theorem proved : Rows.FnExactDutiesTextCardSaid :=
  Claim7.holds_tied_plain_at .later [] [.data, .data, .data] true (true, "b2f187b5e3323d4475029cd286e9ea0c42cb59b3dc80d5817dbae9ab052b1b12") true
    holds (fun _ h => by cases h) (by kernel_rfl) (fun _ h => by cases h) fnExactDutiesText_row_tie rfl ⟨rfl, rfl⟩ (by kernel_rfl) rfl
    (fun f fn hf hfn => by
      obtain rfl : f = 3 := Option.some.inj ((show Tryd.prog.funcNamed "loop.example/g01032/laws.FnExactDutiesText" = some 3 by kernel_rfl).symm.trans hf) |>.symm
      obtain rfl : fn = Tryd.f3 := (Option.some.inj (Tryd.func3.symm.trans hfn)).symm
      exact ⟨by kernel_rfl, fun j t ht => by
        rw [Tryd.params3] at ht
        have hm : t ∈ [22, 2] := by simpa using Array.mem_of_getElem? ht
        have hall : ([22, 2].all fun u => !Tryd.prog.wantsStandIn u) = true := by kernel_rfl
        exact (show Tryd.prog.wantsStandIn t = false by simpa using List.all_eq_true.1 hall t hm)⟩)
    (by kernel_rfl)
end Go.Proofs.YtampbbknhbhcbaaDoor.fnExactDutiesText
