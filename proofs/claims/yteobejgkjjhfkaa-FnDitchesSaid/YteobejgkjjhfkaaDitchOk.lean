/- Nets of ditches: the walks of the small tests, on valid nets. -/
import Derived.Test.YteobejgkjjhfkaaDitchP
import Derived.Test.YteobejgkjjhfkaaHas
import Derived.Test.YteobejgkjjhfkaaKind
namespace Go.Proofs.Yteobejgkjjhfkaa
open Go.RowKit
set_option linter.unusedVariables false
set_option linter.unusedSimpArgs false
structure DOk (J : Int) (d : Ditch) : Prop where
  a : 0 ≤ d.a ∧ d.a ≤ J - 1
  b : 0 ≤ d.b ∧ d.b ≤ J - 1
  ne : d.a ≠ d.b
  c : 0 ≤ d.c ∧ d.c ≤ 1000
structure NetOk (J : Int) (ds : List Ditch) : Prop where
  j : 2 ≤ J ∧ J ≤ 10
  len : ds.length ≤ 20
  all : ∀ d ∈ ds, DOk J d
set_option maxHeartbeats 1000000 in
theorem implDitchOk (J a b c : Int) (w : World) (hJ : 2 ≤ J ∧ J ≤ 10) (h : DOk J ⟨a, b, c⟩) : Calls Try.prog 121 #[.int .i64 J, .agg #[.int .i64 a, .int .i64 b, .int .i64 c]] w fun e w' => e = .returned (.bool true) ∧ Below w.heap.size w w' := by
  have h1 : inB a 0 (J - 1) = true := inB_true.2 h.a
  have h2 : inB b 0 (J - 1) = true := inB_true.2 h.b
  have h3 : inB c 0 1000 = true := inB_true.2 h.c
  have h4 : (a != b) = true := bne_iff_ne.2 h.ne
  have h5 : ¬ a = b := h.ne
  have hw : IntKind.i64.wrap (J - 1) = J - 1 := IntWalk.i64_in _ (by omega)
  have H1 := hid h1
  have H2 := hid h2
  have H3 := hid h3
  clear h1 h2 h3 h
  go_enter Try.func121, Try.ntmps121
  go_wp2_with (go_at_call 59; refine (implIn _ _ _ _).mono ?_; rintro e w' ⟨rfl, rfl⟩; first | rw [H1.out] | rw [H2.out] | rw [H3.out])
  go_ret
  exact ⟨rfl, (Below.refl _ _).alloc (Nat.le_refl _) _⟩
set_option maxHeartbeats 1000000 in
theorem implValid1 (J a b c : Int) (nb : Nat) (w : World) (hJ : 2 ≤ J ∧ J ≤ 10) (h : DOk J ⟨a, b, c⟩) (hc : w.cell? ⟨nb, 0, none⟩ = some (.int .i64 J)) :
    Calls Try.prog 120 #[.agg #[.int .i64 a, .int .i64 b, .int .i64 c], .pointer (some ⟨nb, 0, none⟩)] w fun e w' => e = .returned (.bool true) ∧ Below w.heap.size w w' := by
  have hB := hid ((Below.refl w.heap.size w).alloc (Nat.le_refl _) (.cells #[.int .i64 a, .int .i64 b, .int .i64 c] 139))
  have HC := hid (fun x => implDitchOk J a b c x hJ h)
  clear h hJ
  go_enter Try.func120, Try.ntmps120
  go_wp2_with (go_at_call 121; refine (HC.out _).mono ?_; rintro e w' ⟨rfl, hb⟩; have HB := hid (hB.out.trans (hb.mono hB.out.size)); clear hb)
  go_ret
  exact ⟨rfl, HB.out⟩
set_option maxHeartbeats 1000000 in
theorem implAll_Net (q0 : Value) (A : Option Addr) (ds : List Ditch) (c : Nat) (w : World) (hx : Rd w A ds)
    (hcl : ∀ x ∈ ds, ∀ w', Below w.heap.size w w' → Calls Try.prog 120 #[.agg #[.int .i64 x.a, .int .i64 x.b, .int .i64 x.c], q0] w' fun e w'' => e = .returned (.bool true) ∧ Below w'.heap.size w' w'') :
    Calls Try.prog 119 #[.slice A ds.length c, .func (.func 120) #[] #[q0]] w fun e w' => e = .returned (.bool true) ∧ Below w.heap.size w w' := by
  have hn := hx.len
  go_enter Try.func119, Try.ntmps119
  go_wp2
  go_loopw [9] (fun i wr => ∃ k : Nat, k ≤ ds.length ∧ i = .int .i64 k ∧ ∃ q, wr = w.more q) (fun i _ => ds.length - (intOf i).toNat)
  case atStart => exact ⟨0, Nat.zero_le _, rfl, more_self⟩
  case round =>
    obtain ⟨k, hk, rfl, q, rfl⟩ := hrel
    by_cases hlt : k < ds.length
    · obtain ⟨b, off, rfl, c1, c2, c3⟩ := hx.ditch hlt
      have HB := hid ((more_below (w := w) (x := q)).alloc more_size (.cells #[.int .i64 ds[k].a, .int .i64 ds[k].b, .int .i64 ds[k].c] 139))
      have hc := hcl _ (List.getElem_mem hlt) _ HB.out
      generalize ds[k].a = x1 at c1 HB hc
      generalize ds[k].b = x2 at c2 HB hc
      generalize ds[k].c = x3 at c3 HB hc
      clear hx hcl
      go_wp2_with (go_at_call 120; refine hc.mono ?_; rintro e w' ⟨rfl, hb⟩; have HB2 := hid (HB.out.trans (hb.mono HB.out.size)); clear hb)
      go_roundw
      case rel => exact ⟨k + 1, by omega, by go_num, below_ex HB2.out⟩
      case measure => simp [intOf]; omega
    · clear hx hcl
      go_wp2
      go_ret
      exact ⟨rfl, more_below⟩
set_option maxHeartbeats 1000000 in
theorem implValidNet (J : Int) (A : Option Addr) (ds : List Ditch) (c : Nat) (w : World) (hx : Rd w A ds) (hv : NetOk J ds) :
    Calls Try.prog 81 #[.agg #[.int .i64 J, .slice A ds.length c]] w fun e w' => e = .returned (.bool true) ∧ Below w.heap.size w w' := by
  have hn := hx.len
  have hl := hv.len
  have hJ : inB J 2 10 = true := inB_true.2 hv.j
  have HJ := hid hJ
  have HB := hid ((Below.refl w.heap.size w).alloc (Nat.le_refl _) (.cells #[.int .i64 J, .slice A ds.length c] 61))
  have HA := hid (implAll_Net (.pointer (some ⟨w.heap.size, 0, none⟩)) A ds c (w.alloc (.cells #[.int .i64 J, .slice A ds.length c] 61)) (hx.below HB.out) (fun x hm w' hb => implValid1 J x.a x.b x.c w.heap.size w' hv.j (hv.all x hm) (box_cell hb (by simp [go_sem]))))
  have hl2 : decide ((ds.length : Int) ≤ 20) = true := decide_eq_true (by omega)
  clear hx hv hJ
  go_enter Try.func81, Try.ntmps81
  go_wp2_with (first | (go_at_call 59; refine (implIn _ _ _ _).mono ?_; rintro e w' ⟨rfl, rfl⟩; rw [HJ.out]) | (go_at_call 119; refine HA.out.mono ?_; rintro e w' ⟨rfl, hb⟩; have HB2 := hid (HB.out.trans (hb.mono HB.out.size)); clear hb))
  go_ret
  exact ⟨rfl, HB2.out⟩
set_option maxHeartbeats 1000000 in
theorem implInner (J f : Int) (S : Value) (w : World) (hJ : 2 ≤ J ∧ J ≤ 10) (hf : 1 ≤ f ∧ f ≤ J - 1) :
    Calls Try.prog 82 #[.agg #[.int .i64 J, S], .int .i64 f] w fun e w' => e = .returned (.bool true) ∧ Below w.heap.size w w' := by
  have h1 : inB f 1 (J - 1) = true := inB_true.2 hf
  have H1 := hid h1
  have hw : IntKind.i64.wrap (J - 1) = J - 1 := IntWalk.i64_in _ (by omega)
  clear h1
  go_enter Try.func82, Try.ntmps82
  go_wp2_with (go_at_call 59; refine (implIn _ _ _ _).mono ?_; rintro e w' ⟨rfl, rfl⟩; rw [H1.out])
  go_ret
  exact ⟨rfl, (Below.refl _ _).alloc (Nat.le_refl _) _⟩
end Go.Proofs.Yteobejgkjjhfkaa
