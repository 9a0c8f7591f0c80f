/- FnExactReadDuties: the walk, the row, the card. -/
import Derived.Test.YtampbbknhbhcbaaDoorRdI
import Derived.Test.YtampbbknhbhcbaaDoorDoor5
import Derived.Test.YtampbbknhbhcbaaDoorCards
import Derived.Test.YtampbbknhbhcbaaDoorTie
import Derived.ChangeMaps5
namespace Go.Proofs.YtampbbknhbhcbaaDoor.fnExactReadDuties
open Go.ChangeShapes Go.WideShapes Go.ChangeAt Go.RowKit
set_option linter.unusedVariables false
theorem dutF_len (s : List UInt8) (len : Int) : (dutF s len).1.length ≤ 40 := by
  unfold dutF
  split
  · split
    · rename_i hv
      exact (duts_ok hv).1
    · simp
  · simp
set_option maxRecDepth 100000 in
set_option maxHeartbeats 4000000 in
theorem walk {w : World} (s : List UInt8) (len : Int) (ht : Tabs w) :
    Calls Tryd.prog 4 #[.string ⟨s.toArray⟩, .int .i64 len] w fun e w' => e = .returned (.bool true) ∧ Below w.heap.size w w' := by
  by_cases g0 : (1048576 : Int) < s.length
  · go_enter Tryd.func4, Tryd.ntmps4
    go_wp2_with fail
    go_ret
    exact ⟨rfl, Below.refl _ _⟩
  have hs : s.length ≤ 1048576 := by omega
  have hlen := dutF_len s len
  have HS := hid (specReadDuties s len w hs)
  have HI := hid (fun x ht => implReadDuties s len x hs ht)
  generalize dutF s len = D at hlen HS HI
  obtain ⟨xs, ok⟩ := D
  have hlen : xs.length ≤ 40 := hlen
  have YL : Hid (xs.length ≤ 1048576) := Nat.le_trans hlen (by decide)
  simp only at HS HI
  have HT := hid ht
  have HX := hid hlen
  clear ht hlen
  go_enter Tryd.func4, Tryd.ntmps4
  go_wp2_with fail
  refine HS.out.mono ?_
  rintro e w1 ⟨P1, k1, rfl, o1, b1⟩
  have u1 := hid o1.block
  have B := b1
  have z1 := hid b1.size
  clear b1
  go_wp2_with fail
  refine (HI.out _ (HT.out.below B)).mono ?_
  rintro e w2 ⟨P2, k2, rfl, o2, b2⟩
  have u2 := hid o2.block
  have z2 := hid b2.size
  replace B := B.trans (b2.mono B.size)
  replace o1 := o1.below b2
  clear b2
  go_wp2_with fail
  refine (eqDutyS P2 P1 xs xs _ _ _ (o2.rd YL.out) (o1.rd YL.out)).mono ?_
  rintro e w3 ⟨rfl, b3⟩
  have z3 := hid b3.size
  replace B := B.trans (b3.mono B.size)
  replace o1 := o1.below b3
  replace o2 := o2.below b3
  clear b3
  go_wp2_with fail
  refine (markDutyS _ _ _ _ _ o2 YL.out (by omega) (by omega)).mono ?_
  rintro e w4 ⟨rfl, q4, hg4⟩
  have z4 := hid hg4.size
  replace o1 := o1.beside hg4 (fun k g hk hg => by have := u1.out k hk; have := u2.out g hg; have := z1.out; have := z2.out; have := z3.out; have := z4.out; omega)
  replace B := B.grown hg4 B.size (fun g hg => by have := u2.out g hg; have := z1.out; have := z2.out; have := z3.out; omega)
  clear o2
  have o2 := q4
  clear q4 hg4
  go_wp2_with fail
  refine (heldDutyS _ _ _ _ _ (o2.rd (by rw [marksDuty_len]; exact YL.out)) (by omega) (by omega)).mono ?_
  rintro e w5 ⟨rfl, b5⟩
  have z5 := hid b5.size
  replace B := B.trans (b5.mono B.size)
  replace o1 := o1.below b5
  replace o2 := o2.below b5
  clear b5
  have hxl := HX.out
  go_wp2_with fail
  refine (HI.out _ (HT.out.below B)).mono ?_
  rintro e w6 ⟨P6, k6, rfl, o6, b6⟩
  have z6 := hid b6.size
  replace B := B.trans (b6.mono B.size)
  replace o1 := o1.below b6
  replace o2 := o2.below b6
  clear b6
  go_wp2_with fail
  refine (eqDutyS P6 P1 xs xs _ _ _ (o6.rd YL.out) (o1.rd YL.out)).mono ?_
  rintro e w7 ⟨rfl, b7⟩
  replace B := B.trans (b7.mono B.size)
  replace o2 := o2.below b7
  clear b7
  go_wp2_with fail
  refine (heldDutyS _ _ _ _ _ (o2.rd (by rw [marksDuty_len]; exact YL.out)) (by omega) (by omega)).mono ?_
  rintro e w8 ⟨rfl, b8⟩
  replace B := B.trans (b8.mono B.size)
  clear b8
  go_wp2_with fail
  go_ret
  exact ⟨rfl, B⟩
set_option maxRecDepth 100000 in
theorem lifted (os : Os) (started : os.Started) (H : Type) (enc : TypeId × Value → H) :
    ReturnsInHanded {} Tryd.checked os 4 .any (fun w args => (Rows.fnExactReadDutiesSpec.pre enc Tryd.prog Tryd.f4 [] false w args ∧ laidMetH Tryd.prog laid5 w) ∧ sizedMet enc Tryd.prog Tryd.f4 (OpenSpec.ofChange Rows.fnExactReadDutiesSpec) false w args)
      (Rows.fnExactReadDutiesSpec.post enc Tryd.prog Tryd.f4 false true false false) := by
  refine returnsInHanded_of_change_and (C := Tryd.checked) (X := fun w _ => laidMetH Tryd.prog laid5 w) (fun _ _ _ hh h => h.of_heap hh) ownLaw started (by kernel_rfl) Tryd.func4
    (ChangeSpec.witness_shaped (enc := enc) (C := Tryd.checked) (os := os) (X := fun w _ => laidMetH Tryd.prog laid5 w) false (World.laidAll Tryd.prog os laid5) #[.string ⟨#[]⟩, .int .i64 0] 8 (World.laidAll_os _ _ _)
      (shaped5 os) (by kernel_rfl) (by kernel_rfl) (by kernel_rfl) (met5 os _)) ?_
  intro W base args ds gs before hval0 hW hc _ hL _
  have hval : ∀ (j : Nat) t v, Tryd.f4.params[j]? = some t → args[j]? = some v → Value.okWide Tryd.prog W .any base t v := hval0
  have hW' := hW
  obtain ⟨p, q, hA0, hV, hbef, hfz, hnd⟩ := hW
  have hA : DataW.TrodAll enc Tryd.prog W 0 (fun _ => true) true Tryd.f4.params.toList args.toList ds p := hA0
  rw [Tryd.params4] at hA hval
  obtain ⟨v0, vs0, d0, ds0, p0, q0, hargs, rfl, hp0, h0, r0⟩ := trodAll_cons hA
  obtain ⟨v1, vs1, d1, ds1, p1, q1, rfl, rfl, hp1, h1, r1⟩ := trodAll_cons r0
  obtain ⟨rfl, rfl, hpl⟩ := trodAll_nil r1
  obtain rfl : args = #[v0, v1] := by cases args; simp_all
  obtain ⟨rfl, hq⟩ := trodVars_none hV
  obtain ⟨⟨⟨s⟩⟩, rfl, _, _, _⟩ := Go.ChangeMaps.open_string Tryd.underlying9 (hval 0 _ v0 rfl rfl) h0
  obtain ⟨a1, rfl, rfl, hz1, w1⟩ := open_int Tryd.underlying2 (hval 1 _ v1 rfl rfl) h1
  refine (walk s a1 (tabs_of_laid5 hL)).mono fun e W' ⟨he, hb⟩ => ?_
  subst he
  exact ⟨_, rfl, law_close laidLaw (by kernel_rfl) rfl rfl (by kernel_rfl) hW' rfl rfl rfl hb⟩
theorem holds : Rows.FnExactReadDutiesSaid :=
  OpenClaim.holds_of_wide 4 Tryd.f4 rfl rfl rfl rfl rfl rfl rfl ⟨rfl, rfl, rfl, rfl, rfl⟩ rfl rfl rfl rfl rfl (by kernel_rfl) Tryd.func4 (by kernel_rfl)
    (of_decide_eq_true (by kernel_rfl)) (by unfold Func.isWrapper; first | (rw [if_pos (by decide +kernel)]; kernel_rfl) | (rw [if_neg (by decide +kernel)]; exact ⟨rfl, rfl⟩))
    (fun os started H enc _ => lifted os started H enc)
theorem proved : Rows.FnExactReadDutiesCardSaid :=
  Claim7.holds_tied_plain_at .later [] [.data, .data, .data, .sentinel, .sentinel] true (true, "b2f187b5e3323d4475029cd286e9ea0c42cb59b3dc80d5817dbae9ab052b1b12") true
    holds (fun _ h => by cases h) (by kernel_rfl) (fun _ h => by cases h) fnExactReadDuties_row_tie rfl ⟨rfl, rfl⟩ (by kernel_rfl) rfl
    (fun f fn hf hfn => by
      obtain rfl : f = 4 := Option.some.inj ((show Tryd.prog.funcNamed "loop.example/g01032/laws.FnExactReadDuties" = some 4 by kernel_rfl).symm.trans hf) |>.symm
      obtain rfl : fn = Tryd.f4 := (Option.some.inj (Tryd.func4.symm.trans hfn)).symm
      exact ⟨by kernel_rfl, fun j t ht => by
        rw [Tryd.params4] at ht
        have hm : t ∈ [9, 2] := by simpa using Array.mem_of_getElem? ht
        have hall : ([9, 2].all fun u => !Tryd.prog.wantsStandIn u) = true := by kernel_rfl
        exact (show Tryd.prog.wantsStandIn t = false by simpa using List.all_eq_true.1 hall t hm)⟩)
    (by kernel_rfl)
end Go.Proofs.YtampbbknhbhcbaaDoor.fnExactReadDuties
