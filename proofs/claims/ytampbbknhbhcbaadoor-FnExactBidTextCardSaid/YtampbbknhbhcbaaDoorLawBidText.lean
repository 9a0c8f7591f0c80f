/- FnExactBidText: the walk, the row, the card. -/
import Derived.Test.YtampbbknhbhcbaaDoorBidT
import Derived.Test.YtampbbknhbhcbaaDoorDoor
import Derived.Test.YtampbbknhbhcbaaDoorCards
import Derived.Test.YtampbbknhbhcbaaDoorTie
namespace Go.Proofs.YtampbbknhbhcbaaDoor.fnExactBidText
open Go.ChangeShapes Go.WideShapes Go.ChangeAt Go.RowKit
set_option linter.unusedVariables false
set_option maxRecDepth 100000 in
set_option maxHeartbeats 4000000 in
theorem walk {w : World} (a b c : Int) (ht : Tab w) :
    Calls Tryd.prog 6 #[.agg #[.int .i64 a, .int .i64 b, .int .i64 c]] w fun e w' => e = .returned (.bool true) ∧ Below w.heap.size w w' := by
  have B := (Below.refl w.heap.size w).alloc (Nat.le_refl _) (.cells #[.int .i64 a, .int .i64 b, .int .i64 c] 40)
  have HT := ht.alloc (.cells #[.int .i64 a, .int .i64 b, .int .i64 c] 40)
  go_enter Tryd.func6, Tryd.ntmps6
  go_wp2_with fail
  refine (toBid a b c _).mono ?_
  rintro e w1 ⟨rfl, b1⟩
  replace B := B.trans (b1.mono (le_alloc (Nat.le_refl _)))
  replace HT := HT.below b1
  obtain ⟨y1, rfl⟩ := below_ex b1
  clear b1
  go_wp2_with fail
  refine (specBidText a b c _).mono ?_
  rintro e w2 ⟨rfl, b2⟩
  replace B := B.trans (b2.mono B.size)
  replace HT := HT.below b2
  obtain ⟨y2, rfl⟩ := below_ex b2
  clear b2
  go_wp2_with fail
  refine (toBid a b c _).mono ?_
  rintro e w3 ⟨rfl, b3⟩
  replace B := B.trans (b3.mono B.size)
  replace HT := HT.below b3
  obtain ⟨y3, rfl⟩ := below_ex b3
  clear b3
  go_wp2_with fail
  refine (implBidText a b c _ HT).mono ?_
  rintro e w4 ⟨rfl, b4⟩
  replace B := B.trans (b4.mono B.size)
  obtain ⟨y4, rfl⟩ := below_ex b4
  clear b4 HT
  generalize bidTxt a b c = T
  go_wp2_with fail
  go_ret
  exact ⟨rfl, B⟩
set_option maxRecDepth 100000 in
theorem lifted (os : Os) (started : os.Started) (H : Type) (enc : TypeId × Value → H) :
    ReturnsInHanded {} Tryd.checked os 6 .any (fun w args => (Rows.fnExactBidTextSpec.pre enc Tryd.prog Tryd.f6 [] false w args ∧ laidMetH Tryd.prog laid3 w) ∧ sizedMet enc Tryd.prog Tryd.f6 (OpenSpec.ofChange Rows.fnExactBidTextSpec) false w args)
      (Rows.fnExactBidTextSpec.post enc Tryd.prog Tryd.f6 false true false false) := by
  refine returnsInHanded_of_change_and (C := Tryd.checked) (X := fun w _ => laidMetH Tryd.prog laid3 w) (fun _ _ _ hh h => h.of_heap hh) ownLaw started (by kernel_rfl) Tryd.func6
    (ChangeSpec.witness_shaped (enc := enc) (C := Tryd.checked) (os := os) (X := fun w _ => laidMetH Tryd.prog laid3 w) false (World.laidAll Tryd.prog os laid3) #[.agg #[.int .i64 0, .int .i64 0, .int .i64 0]] 8 (World.laidAll_os _ _ _)
      (shaped3 os) (by kernel_rfl) (by kernel_rfl) (by kernel_rfl) (met3 os _)) ?_
  intro W base args ds gs before hval0 hW hc _ hL _
  have hval : ∀ (j : Nat) t v, Tryd.f6.params[j]? = some t → args[j]? = some v → Value.okWide Tryd.prog W .any base t v := hval0
  have hW' := hW
  obtain ⟨p, q, hA0, hV, hbef, hfz, hnd⟩ := hW
  have hA : DataW.TrodAll enc Tryd.prog W 0 (fun _ => true) true Tryd.f6.params.toList args.toList ds p := hA0
  rw [Tryd.params6] at hA hval
  obtain ⟨v0, d0, rfl, rfl, h0⟩ := trodAll_one hA
  obtain ⟨rfl, hq⟩ := trodVars_none hV
  obtain ⟨c0, c1, c2, y0, y1, y2, n, rfl, _, _, k0, k1, k2⟩ := Go.Joins.open_agg3 Tryd.underlying40 (by kernel_rfl) (by kernel_rfl) (hval 0 _ v0 rfl rfl) h0
  obtain ⟨a, e0, _, w0⟩ := DataW.trod_int Tryd.underlying2 k0
  obtain ⟨b, e1, _, w1⟩ := DataW.trod_int Tryd.underlying2 k1
  obtain ⟨c, e2, _, w2⟩ := DataW.trod_int Tryd.underlying2 k2
  injection e0 with e0
  injection e1 with e1
  injection e2 with e2
  subst e0 e1 e2
  refine (walk a b c (tab_of_laid3 hL)).mono fun e W' ⟨he, hb⟩ => ?_
  subst he
  exact ⟨_, rfl, law_close laidLaw (by kernel_rfl) rfl rfl (by kernel_rfl) hW' rfl rfl rfl hb⟩
theorem holds : Rows.FnExactBidTextSaid :=
  OpenClaim.holds_of_wide 6 Tryd.f6 rfl rfl rfl rfl rfl rfl rfl ⟨rfl, rfl, rfl, rfl, rfl⟩ rfl rfl rfl rfl rfl (by kernel_rfl) Tryd.func6 (by kernel_rfl)
    (of_decide_eq_true (by kernel_rfl)) (by unfold Func.isWrapper; first | (rw [if_pos (by decide +kernel)]; kernel_rfl) | (rw [if_neg (by decide +kernel)]; exact ⟨rfl, rfl⟩))
    (fun os started H enc _ => lifted os started H enc)
theorem proved : Rows.FnExactBidTextCardSaid :=
  Claim7.holds_tied_plain_at .later [] [.data, .data, .data] true (true, "b2f187b5e3323d4475029cd286e9ea0c42cb59b3dc80d5817dbae9ab052b1b12") true
    holds (fun _ h => by cases h) (by kernel_rfl) (fun _ h => by cases h) fnExactBidText_row_tie rfl ⟨rfl, rfl⟩ (by kernel_rfl) rfl
    (fun f fn hf hfn => by
      obtain rfl : f = 6 := Option.some.inj ((show Tryd.prog.funcNamed "loop.example/g01032/laws.FnExactBidText" = some 6 by kernel_rfl).symm.trans hf) |>.symm
      obtain rfl : fn = Tryd.f6 := (Option.some.inj (Tryd.func6.symm.trans hfn)).symm
      exact ⟨by kernel_rfl, fun j t ht => by
        rw [Tryd.params6] at ht
        have hm : t ∈ [40] := by simpa using Array.mem_of_getElem? ht
        have hall : ([40].all fun u => !Tryd.prog.wantsStandIn u) = true := by kernel_rfl
        exact (show Tryd.prog.wantsStandIn t = false by simpa using List.all_eq_true.1 hall t hm)⟩)
    (by kernel_rfl)
end Go.Proofs.YtampbbknhbhcbaaDoor.fnExactBidText
