/- CutFlow: walked, on valid nets and rising sides. -/
import Derived.Test.YteobejgkjjhfkaaDitchCut
namespace Go.Proofs.Yteobejgkjjhfkaa
open Go.RowKit
set_option linter.unusedVariables false
set_option linter.unusedSimpArgs false
set_option maxRecDepth 100000 in
set_option maxHeartbeats 2000000 in
theorem implCutFlow (J : Int) (A : Option Addr) (ds : List Ditch) (c : Nat) (B : Option Addr) (sd : List Int) (q : Nat) (w : World) (hx : Rd w A ds) (hv : NetOk J ds) (hs : Rd w B sd) (hr : risesB 0 (J - 1) sd = true) :
    Calls Try.prog 35 #[.agg #[.int .i64 J, .slice A ds.length c], .slice B sd.length q] w fun e w' => e = .returned (.tuple #[.int .i64 (cutT (hasB sd) ds), .int .i64 0]) ∧ Below w.heap.size w w' := by
  have hJ := hv.j
  have e1 : IntKind.i64.wrap (J - 1) = J - 1 := IntWalk.i64_in _ (by omega)
  have HB0 := hid ((Below.refl w.heap.size w).alloc (Nat.le_refl _) (.cells #[.int .i64 J, .slice A ds.length c] 61))
  have c0 : (w.alloc (.cells #[.int .i64 J, .slice A ds.length c] 61)).cell? ⟨w.heap.size, 0, none⟩ = some (.int .i64 J) := by simp [go_sem]
  have c1 : (w.alloc (.cells #[.int .i64 J, .slice A ds.length c] 61)).cell? ⟨w.heap.size, 1, none⟩ = some (.slice A ds.length c) := by simp [go_sem]
  have C0 := hid c0
  have C1 := hid c1
  have HX := hid hx
  have HS := hid hs
  have HV := hid (fun x hx => implValidNet J A ds c x hx hv)
  have HC := hid (fun x hx hs => implCut J A ds c B sd q x hx hv hs)
  have HR := hid (fun x hs => implRises B sd q 0 (J - 1) x hs)
  simp only [hr] at HR
  generalize cutT (hasB sd) ds = R at HC
  clear hx hv hs hr c0 c1
  go_enter Try.func35, Try.ntmps35
  go_wp2_with (go_at_call 81; refine (HV.out _ (HX.out.below HB0.out)).mono ?_; rintro e w1 ⟨rfl, hb⟩; refine keep_ ?_)
  have d0 := box_cell hb C0.out
  have d1 := box_cell hb C1.out
  have HB1 := hid (HB0.out.trans (hb.mono HB0.out.size))
  clear hb C0 C1
  refine go_ ?_
  go_wp2_with (first | (go_at_call 85; refine (HR.out _ (HS.out.below HB1.out)).mono ?_; rintro e w2 ⟨rfl, rfl⟩) | (go_at_call 86; refine (HC.out _ (HX.out.below HB1.out) (HS.out.below HB1.out)).mono ?_; rintro e w3 ⟨rfl, hb⟩; have HB2 := hid (HB1.out.trans (hb.mono HB1.out.size)); clear hb))
  go_ret2
  exact ⟨rfl, HB2.out⟩
end Go.Proofs.Yteobejgkjjhfkaa
