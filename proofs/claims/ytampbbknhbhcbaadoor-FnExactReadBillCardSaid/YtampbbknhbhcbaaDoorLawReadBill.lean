/- FnExactReadBill: the walk, the row, the card. -/
import Derived.Test.YtampbbknhbhcbaaDoorRbI2
import Derived.Test.YtampbbknhbhcbaaDoorDoor5
import Derived.Test.YtampbbknhbhcbaaDoorCards
import Derived.Test.YtampbbknhbhcbaaDoorTie
import Derived.ChangeMaps5
namespace Go.Proofs.YtampbbknhbhcbaaDoor.fnExactReadBill
open Go.ChangeShapes Go.WideShapes Go.ChangeAt Go.RowKit
set_option linter.unusedVariables false
set_option maxRecDepth 100000 in
set_option maxHeartbeats 2000000 in
theorem walk {w : World} (s : List UInt8) (ht : Tabs w) :
    Calls Tryd.prog 5 #[.string ⟨s.toArray⟩] w fun e w' => e = .returned (.bool true) ∧ Below w.heap.size w w' := by
  by_cases g0 : (1048576 : Int) < s.length
  · go_enter Tryd.func5, Tryd.ntmps5
    go_wp2_with fail
    go_ret
    exact ⟨rfl, Below.refl _ _⟩
  have hs : s.length ≤ 1048576 := by omega
  obtain ⟨⟨⟨o, d, a, p⟩, ok⟩, hR⟩ : ∃ R, billF s = R := ⟨_, rfl⟩
  have HS := hid (specReadBill s w hs)
  have HI := hid (fun x ht => implReadBill s x hs ht)
  rw [hR] at HS
  simp only [hR] at HI
  have HT := hid ht
  clear ht hR
  go_enter Tryd.func5, Tryd.ntmps5
  go_wp2_with fail
  refine HS.out.mono ?_
  rintro e w1 ⟨rfl, b1⟩
  have B := b1.alloc b1.size (.cells #[.int .i64 o, .int .i64 d, .int .i64 a, .int .i64 p] 34)
  obtain ⟨w2, hw2⟩ : ∃ x, w1.alloc (.cells #[.int .i64 o, .int .i64 d, .int .i64 a, .int .i64 p] 34) = x := ⟨_, rfl⟩
  have y2 : Hid (w1.heap.size < w2.heap.size) := by rw [← hw2]; simp [Hid]
  have c0 : w2.cell? ⟨w1.heap.size, 0, none⟩ = some (.int .i64 o) := by rw [← hw2]; simp [go_sem]
  have c1 : w2.cell? ⟨w1.heap.size, 1, none⟩ = some (.int .i64 d) := by rw [← hw2]; simp [go_sem]
  have c2 : w2.cell? ⟨w1.heap.size, 2, none⟩ = some (.int .i64 a) := by rw [← hw2]; simp [go_sem]
  have c3 : w2.cell? ⟨w1.heap.size, 3, none⟩ = some (.int .i64 p) := by rw [← hw2]; simp [go_sem]
  clear b1
  go_wp2_with fail
  rw [hw2] at B
  clear hw2
  refine (HI.out _ (HT.out.below B)).mono ?_
  rintro e w3 ⟨rfl, b3⟩
  replace B := B.trans (b3.mono B.size)
  replace c0 := box_cell b3 c0
  replace c1 := box_cell b3 c1
  replace c2 := box_cell b3 c2
  replace c3 := box_cell b3 c3
  clear b3
  replace B := B.alloc B.size (.cells #[.int .i64 o, .int .i64 d, .int .i64 a, .int .i64 p] 34)
  go_wp2_with (go_at_call 19; refine (eqBill o d a p o d a p _).mono ?_; rintro e w5 ⟨rfl, b5⟩; rw [show ((⟨o, d, a, p⟩ : Bill) == ⟨o, d, a, p⟩) = true from by rw [beq_iff_eq]]; replace B := B.trans (b5.mono B.size); clear b5)
  go_ret
  exact ⟨rfl, B⟩
set_option maxRecDepth 100000 in
theorem lifted (os : Os) (started : os.Started) (H : Type) (enc : TypeId × Value → H) :
    ReturnsInHanded {} Tryd.checked os 5 .any (fun w args => (Rows.fnExactReadBillSpec.pre enc Tryd.prog Tryd.f5 [] false w args ∧ laidMetH Tryd.prog laid5 w) ∧ sizedMet enc Tryd.prog Tryd.f5 (OpenSpec.ofChange Rows.fnExactReadBillSpec) false w args)
      (Rows.fnExactReadBillSpec.post enc Tryd.prog Tryd.f5 false true false false) := by
  refine returnsInHanded_of_change_and (C := Tryd.checked) (X := fun w _ => laidMetH Tryd.prog laid5 w) (fun _ _ _ hh h => h.of_heap hh) ownLaw started (by kernel_rfl) Tryd.func5
    (ChangeSpec.witness_shaped (enc := enc) (C := Tryd.checked) (os := os) (X := fun w _ => laidMetH Tryd.prog laid5 w) false (World.laidAll Tryd.prog os laid5) #[.string ⟨#[]⟩] 8 (World.laidAll_os _ _ _)
      (shaped5 os) (by kernel_rfl) (by kernel_rfl) (by kernel_rfl) (met5 os _)) ?_
  intro W base args ds gs before hval0 hW hc _ hL _
  have hval : ∀ (j : Nat) t v, Tryd.f5.params[j]? = some t → args[j]? = some v → Value.okWide Tryd.prog W .any base t v := hval0
  have hW' := hW
  obtain ⟨p, q, hA0, hV, hbef, hfz, hnd⟩ := hW
  have hA : DataW.TrodAll enc Tryd.prog W 0 (fun _ => true) true Tryd.f5.params.toList args.toList ds p := hA0
  rw [Tryd.params5] at hA hval
  obtain ⟨v0, d0, rfl, rfl, h0⟩ := trodAll_one hA
  obtain ⟨rfl, hq⟩ := trodVars_none hV
  obtain ⟨⟨⟨s⟩⟩, rfl, _, _, _⟩ := Go.ChangeMaps.open_string Tryd.underlying9 (hval 0 _ v0 rfl rfl) h0
  refine (walk s (tabs_of_laid5 hL)).mono fun e W' ⟨he, hb⟩ => ?_
  subst he
  exact ⟨_, rfl, law_close laidLaw (by kernel_rfl) rfl rfl (by kernel_rfl) hW' rfl rfl rfl hb⟩
theorem holds : Rows.FnExactReadBillSaid :=
  OpenClaim.holds_of_wide 5 Tryd.f5 rfl rfl rfl rfl rfl rfl rfl ⟨rfl, rfl, rfl, rfl, rfl⟩ rfl rfl rfl rfl rfl (by kernel_rfl) Tryd.func5 (by kernel_rfl)
    (of_decide_eq_true (by kernel_rfl)) (by unfold Func.isWrapper; first | (rw [if_pos (by decide +kernel)]; kernel_rfl) | (rw [if_neg (by decide +kernel)]; exact ⟨rfl, rfl⟩))
    (fun os started H enc _ => lifted os started H enc)
theorem proved : Rows.FnExactReadBillCardSaid :=
  Claim7.holds_tied_plain_at .later [] [.data, .data, .data, .sentinel, .sentinel] true (true, "b2f187b5e3323d4475029cd286e9ea0c42cb59b3dc80d5817dbae9ab052b1b12") true
    holds (fun _ h => by cases h) (by kernel_rfl) (fun _ h => by cases h) fnExactReadBill_row_tie rfl ⟨rfl, rfl⟩ (by kernel_rfl) rfl
    (fun f fn hf hfn => by
      obtain rfl : f = 5 := Option.some.inj ((show Tryd.prog.funcNamed "loop.example/g01032/laws.FnExactReadBill" = some 5 by kernel_rfl).symm.trans hf) |>.symm
      obtain rfl : fn = Tryd.f5 := (Option.some.inj (Tryd.func5.symm.trans hfn)).symm
      exact ⟨by kernel_rfl, fun j t ht => by
        rw [Tryd.params5] at ht
        have hm : t ∈ [9] := by simpa using Array.mem_of_getElem? ht
        have hall : ([9].all fun u => !Tryd.prog.wantsStandIn u) = true := by kernel_rfl
        exact (show Tryd.prog.wantsStandIn t = false by simpa using List.all_eq_true.1 hall t hm)⟩)
    (by kernel_rfl)
end Go.Proofs.YtampbbknhbhcbaaDoor.fnExactReadBill
