/- FnExactTaskText: the walk, the row, the card. -/
import Derived.Test.YtampbbknhbhcbaaDoorTskI
import Derived.Test.YtampbbknhbhcbaaDoorDoor
import Derived.Test.YtampbbknhbhcbaaDoorCards
import Derived.Test.YtampbbknhbhcbaaDoorTie
import Derived.Deep.RegionHeld3
namespace Go.Proofs.YtampbbknhbhcbaaDoor.fnExactTaskText
open Go.ChangeShapes Go.WideShapes Go.ChangeAt Go.RowKit
set_option linter.unusedVariables false
set_option maxRecDepth 100000 in
set_option maxHeartbeats 4000000 in
theorem walk {w : World} (d c y : Int) (A : Option Addr) (n q : Nat) (x : Arg Int w A n) (ht : Tab w) :
    Calls Tryd.prog 7 #[.agg #[.int .i64 d, .int .i64 c, .int .i64 y, .slice A n q]] w fun e w' => e = .returned (.bool true) ∧ Below w.heap.size w w' := by
  obtain ⟨hn0, hx0⟩ := x
  obtain ⟨w1, hw1⟩ : ∃ x, w.alloc (.cells #[.int .i64 d, .int .i64 c, .int .i64 y, .slice A n q] 47) = x := ⟨_, rfl⟩
  have b1 : Below w.heap.size w w1 := by rw [← hw1]; exact (Below.refl _ _).alloc (Nat.le_refl _) _
  have y1 : Hid (w.heap.size < w1.heap.size) := by rw [← hw1]; simp [Hid]
  have c0 : w1.cell? ⟨w.heap.size, 0, none⟩ = some (.int .i64 d) := by rw [← hw1]; simp [go_sem]
  have c1 : w1.cell? ⟨w.heap.size, 1, none⟩ = some (.int .i64 c) := by rw [← hw1]; simp [go_sem]
  have c2 : w1.cell? ⟨w.heap.size, 2, none⟩ = some (.int .i64 y) := by rw [← hw1]; simp [go_sem]
  have c3 : w1.cell? ⟨w.heap.size, 3, none⟩ = some (.slice A n q) := by rw [← hw1]; simp [go_sem]
  by_cases g0 : (1048576 : Int) < n
  · go_enter Tryd.func7, Tryd.ntmps7
    go_wp2_with fail
    clear hw1
    refine (szTask ⟨d, c, y, A, n, q⟩ 1048576 _ hn0 (by omega) (by omega)).mono ?_
    rintro e w2 ⟨rfl, b2⟩
    unfold szT
    rw [if_pos g0]
    have B := b1.trans (b2.mono b1.size)
    clear b1 b2
    go_wp2_with fail
    go_ret
    exact ⟨rfl, B⟩
  obtain ⟨l, rfl, h0, ft0⟩ := hx0 (by omega)
  go_enter Tryd.func7, Tryd.ntmps7
  go_wp2_with fail
  clear hw1
  refine (szTask ⟨d, c, y, A, l.length, q⟩ 1048576 _ hn0 (by omega) (by omega)).mono ?_
  rintro e w2 ⟨rfl, b2⟩
  unfold szT
  rw [if_neg (by simp only; omega)]
  have B := b1.trans (b2.mono b1.size)
  replace c0 := box_cell b2 c0
  replace c1 := box_cell b2 c1
  replace c2 := box_cell b2 c2
  replace c3 := box_cell b2 c3
  have H0 := h0.below B
  clear b1 b2
  have hsz : decide ((1048576 : Int) - (l.length : Int) < 0) = false := decide_eq_false (by omega)
  go_wp2_with fail
  refine (toTask d c y A q l _ H0).mono ?_
  rintro e w3 ⟨v3, rfl, o3, b3⟩
  obtain ⟨P3, k3, rfl⟩ := o3.form
  replace B := B.trans (b3.mono B.size)
  replace c0 := box_cell b3 c0
  replace c1 := box_cell b3 c1
  replace c2 := box_cell b3 c2
  replace c3 := box_cell b3 c3
  replace H0 := H0.below b3
  clear b3
  go_wp2_with fail
  refine (specTaskText d c y P3 k3 l _ (o3.rd (by omega))).mono ?_
  rintro e w4 ⟨rfl, b4⟩
  replace B := B.trans (b4.mono B.size)
  replace c0 := box_cell b4 c0
  replace c1 := box_cell b4 c1
  replace c2 := box_cell b4 c2
  replace c3 := box_cell b4 c3
  replace H0 := H0.below b4
  clear b4 o3
  go_wp2_with fail
  refine (toTask d c y A q l _ H0).mono ?_
  rintro e w5 ⟨v5, rfl, o5, b5⟩
  obtain ⟨P5, k5, rfl⟩ := o5.form
  replace B := B.trans (b5.mono B.size)
  replace c0 := box_cell b5 c0
  replace c1 := box_cell b5 c1
  replace c2 := box_cell b5 c2
  replace c3 := box_cell b5 c3
  replace H0 := H0.below b5
  clear b5
  go_wp2_with fail
  obtain ⟨w6, hw6⟩ : ∃ x, w5.alloc (.cells #[.int .i64 d, .int .i64 c, .int .i64 y, .slice P5 l.length k5] 50) = x := ⟨_, rfl⟩
  rw [hw6]
  have b6 : Below w5.heap.size w5 w6 := by rw [← hw6]; exact (Below.refl _ _).alloc (Nat.le_refl _) _
  have y6 : Hid (w5.heap.size < w6.heap.size) := by rw [← hw6]; simp [Hid]
  have e0 : w6.cell? ⟨w5.heap.size, 0, none⟩ = some (.int .i64 d) := by rw [← hw6]; simp [go_sem]
  have e1 : w6.cell? ⟨w5.heap.size, 1, none⟩ = some (.int .i64 c) := by rw [← hw6]; simp [go_sem]
  have e2 : w6.cell? ⟨w5.heap.size, 2, none⟩ = some (.int .i64 y) := by rw [← hw6]; simp [go_sem]
  have e3 : w6.cell? ⟨w5.heap.size, 3, none⟩ = some (.slice P5 l.length k5) := by rw [← hw6]; simp [go_sem]
  clear hw6
  replace B := B.trans (b6.mono B.size)
  replace c0 := box_cell b6 c0
  replace c1 := box_cell b6 c1
  replace c2 := box_cell b6 c2
  replace c3 := box_cell b6 c3
  replace o5 := o5.below b6
  replace H0 := H0.below b6
  clear b6
  go_wp2_with fail
  refine (implTaskText d c y P5 k5 l _ (o5.rd (by omega)) (ht.below B)).mono ?_
  rintro e w7 ⟨rfl, b7⟩
  replace B := B.trans (b7.mono B.size)
  replace c0 := box_cell b7 c0
  replace c1 := box_cell b7 c1
  replace c2 := box_cell b7 c2
  replace c3 := box_cell b7 c3
  replace e0 := box_cell b7 e0
  replace e1 := box_cell b7 e1
  replace e2 := box_cell b7 e2
  replace e3 := box_cell b7 e3
  replace o5 := o5.below b7
  replace H0 := H0.below b7
  clear b7
  generalize taskText d c y l = TX
  go_wp2_with fail
  go_region_held3 (fun w' => w'.cell? ⟨w.heap.size, 0, none⟩ = some (.int .i64 d) ∧ w'.cell? ⟨w.heap.size, 1, none⟩ = some (.int .i64 c) ∧ w'.cell? ⟨w.heap.size, 2, none⟩ = some (.int .i64 y) ∧ w'.cell? ⟨w.heap.size, 3, none⟩ = some (.slice A l.length q) ∧ w'.cell? ⟨w5.heap.size, 0, none⟩ = some (.int .i64 d) ∧ w'.cell? ⟨w5.heap.size, 1, none⟩ = some (.int .i64 c) ∧ w'.cell? ⟨w5.heap.size, 2, none⟩ = some (.int .i64 y) ∧ w'.cell? ⟨w5.heap.size, 3, none⟩ = some (.slice P5 l.length k5))
    (first | go_keep | ((repeat' apply And.intro) <;> first | exact box_cell (by assumption) (by assumption) | exact box_cell (by assumption) (box_cell (by assumption) (by assumption))))
    (first
      | (go_at_call 27; have hb := b8; clear hb; refine (eqTask d c y d c y P5 P8 k5 k8 l l _ (o5.rd (by omega)) (o8.rd (by omega))).mono ?_; rintro e w9 ⟨rfl, b9⟩; replace o5 := o5.below b9; replace o8 := o8.below b9; replace H0 := H0.below b9)
      | (go_at_call 25; refine (toTask d c y A q l _ (show Rd w7.drew A l from H0)).mono ?_; rintro e w8 ⟨v8, rfl, o8, b8⟩; replace b8 := undrew b8; rw [show w7.drew.heap.size = w7.heap.size from rfl] at o8; obtain ⟨P8, k8, rfl⟩ := o8.form; replace o5 := o5.below b8; replace H0 := H0.below b8)
    )
  replace B := B.trans (b8.mono B.size)
  replace B := B.trans (b9.mono B.size)
  clear b8 b9 o5 o8 c0 c1 c2 c3 e0 e1 e2 e3 H0
  go_wp2_with fail
  go_ret
  exact ⟨rfl, B⟩
set_option maxRecDepth 100000 in
theorem lifted (os : Os) (started : os.Started) (H : Type) (enc : TypeId × Value → H) :
    ReturnsInHanded {} Tryd.checked os 7 .any (fun w args => (Rows.fnExactTaskTextSpec.pre enc Tryd.prog Tryd.f7 [] false w args ∧ laidMetH Tryd.prog laid3 w) ∧ sizedMet enc Tryd.prog Tryd.f7 (OpenSpec.ofChange Rows.fnExactTaskTextSpec) false w args)
      (Rows.fnExactTaskTextSpec.post enc Tryd.prog Tryd.f7 false true false false) := by
  refine returnsInHanded_of_change_and (C := Tryd.checked) (X := fun w _ => laidMetH Tryd.prog laid3 w) (fun _ _ _ hh h => h.of_heap hh) ownLaw started (by kernel_rfl) Tryd.func7
    (ChangeSpec.witness_shaped (enc := enc) (C := Tryd.checked) (os := os) (X := fun w _ => laidMetH Tryd.prog laid3 w) false (World.laidAll Tryd.prog os laid3) #[.agg #[.int .i64 0, .int .i64 0, .int .i64 0, .slice none 0 0]] 8 (World.laidAll_os _ _ _)
      (shaped3 os) (by kernel_rfl) (by kernel_rfl) (by kernel_rfl) (met3 os _)) ?_
  intro W base args ds gs before hval0 hW hc _ hL _
  have hval : ∀ (j : Nat) t v, Tryd.f7.params[j]? = some t → args[j]? = some v → Value.okWide Tryd.prog W .any base t v := hval0
  have hW' := hW
  obtain ⟨p, q, hA0, hV, hbef, hfz, hnd⟩ := hW
  have hA : DataW.TrodAll enc Tryd.prog W 0 (fun _ => true) true Tryd.f7.params.toList args.toList ds p := hA0
  rw [Tryd.params7] at hA hval
  obtain ⟨v0, d0, rfl, rfl, h0⟩ := trodAll_one hA
  obtain ⟨rfl, hq⟩ := trodVars_none hV
  obtain ⟨c0, c1, c2, c3, y0, y1, y2, y3, n, rfl, _, _, k0, k1, k2, k3⟩ := Go.Joins.open_agg4 Tryd.underlying47 (by kernel_rfl) (by kernel_rfl) (hval 0 _ v0 rfl rfl) h0
  obtain ⟨a, e0, _, w0⟩ := DataW.trod_int Tryd.underlying2 k0
  obtain ⟨b, e1, _, w1⟩ := DataW.trod_int Tryd.underlying2 k1
  obtain ⟨c, e2, _, w2⟩ := DataW.trod_int Tryd.underlying2 k2
  injection e0 with e0
  injection e1 with e1
  injection e2 with e2
  subst e0 e1 e2
  obtain ⟨A, m, q, rfl, ha⟩ := open_nums_cell Tryd.underlying45 Tryd.underlying2 (by kernel_rfl) k3
  refine (walk a b c A m q ha (tab_of_laid3 hL)).mono fun e W' ⟨he, hb⟩ => ?_
  subst he
  exact ⟨_, rfl, law_close laidLaw (by kernel_rfl) rfl rfl (by kernel_rfl) hW' rfl rfl rfl hb⟩
theorem holds : Rows.FnExactTaskTextSaid :=
  OpenClaim.holds_of_wide 7 Tryd.f7 rfl rfl rfl rfl rfl rfl rfl ⟨rfl, rfl, rfl, rfl, rfl⟩ rfl rfl rfl rfl rfl (by kernel_rfl) Tryd.func7 (by kernel_rfl)
    (of_decide_eq_true (by kernel_rfl)) (by unfold Func.isWrapper; first | (rw [if_pos (by decide +kernel)]; kernel_rfl) | (rw [if_neg (by decide +kernel)]; exact ⟨rfl, rfl⟩))
    (fun os started H enc _ => lifted os started H enc)
theorem proved : Rows.FnExactTaskTextCardSaid :=
  Claim7.holds_tied_plain_at .later [] [.data, .data, .data] true (true, "b2f187b5e3323d4475029cd286e9ea0c42cb59b3dc80d5817dbae9ab052b1b12") true
    holds (fun _ h => by cases h) (by kernel_rfl) (fun _ h => by cases h) fnExactTaskText_row_tie rfl ⟨rfl, rfl⟩ (by kernel_rfl) rfl
    (fun f fn hf hfn => by
      obtain rfl : f = 7 := Option.some.inj ((show Tryd.prog.funcNamed "loop.example/g01032/laws.FnExactTaskText" = some 7 by kernel_rfl).symm.trans hf) |>.symm
      obtain rfl : fn = Tryd.f7 := (Option.some.inj (Tryd.func7.symm.trans hfn)).symm
      exact ⟨by kernel_rfl, fun j t ht => by
        rw [Tryd.params7] at ht
        have hm : t ∈ [47] := by simpa using Array.mem_of_getElem? ht
        have hall : ([47].all fun u => !Tryd.prog.wantsStandIn u) = true := by kernel_rfl
        exact (show Tryd.prog.wantsStandIn t = false by simpa using List.all_eq_true.1 hall t hm)⟩)
    (by kernel_rfl)
end Go.Proofs.YtampbbknhbhcbaaDoor.fnExactTaskText
