/- The cut of junctions: walked. -/
import Derived.Test.YteobejgkjjhfkaaDitchOk
import Derived.Test.YteobejgkjjhfkaaRises
namespace Go.Proofs.Yteobejgkjjhfkaa
open Go.RowKit
set_option linter.unusedVariables false
set_option linter.unusedSimpArgs false
theorem cutT_take (T : Int → Bool) (ds : List Ditch) (k : Nat) (h : k < ds.length) : cutT T (ds.take (k + 1)) = cutT T (ds.take k) + cut1 T ds[k] := by
  rw [List.take_succ_eq_append_getElem h]
  generalize ds.take k = l
  induction l with
  | nil => simp [cutT]
  | cons a l ih => simp only [List.cons_append, cutT, ih]; omega
theorem cut1_bd {J : Int} {d : Ditch} (T : Int → Bool) (h : DOk J d) : 0 ≤ cut1 T d ∧ cut1 T d ≤ 1000 := by
  have := h.c
  unfold cut1
  split <;> omega
theorem cutT_bd {J : Int} {ds : List Ditch} (T : Int → Bool) (h : ∀ d ∈ ds, DOk J d) : ∀ k, k ≤ ds.length → 0 ≤ cutT T (ds.take k) ∧ cutT T (ds.take k) ≤ 1000 * k
  | 0, _ => by simp [cutT]
  | k + 1, hk => by
    have i := cutT_bd T h k (by omega)
    have := cut1_bd T (h _ (List.getElem_mem (show k < ds.length by omega)))
    rw [cutT_take T ds k (by omega)]
    omega
set_option maxRecDepth 100000 in
set_option maxHeartbeats 2000000 in
theorem implCut (J : Int) (A : Option Addr) (ds : List Ditch) (c : Nat) (B : Option Addr) (sd : List Int) (q : Nat) (w : World) (hx : Rd w A ds) (hv : NetOk J ds) (hs : Rd w B sd) :
    Calls Try.prog 86 #[.agg #[.int .i64 J, .slice A ds.length c], .slice B sd.length q] w fun e w' => e = .returned (.int .i64 (cutT (hasB sd) ds)) ∧ Below w.heap.size w w' := by
  have hn := hx.len
  have hl := hv.len
  obtain ⟨R, hR⟩ : ∃ R, cutT (hasB sd) ds = R := ⟨_, rfl⟩
  rw [hR]
  have HR := hid hR
  have HV := hid hv
  clear hR hv
  have HB0 := hid ((Below.refl w.heap.size w).alloc (Nat.le_refl _) (.cells #[.int .i64 J, .slice A ds.length c] 61))
  have HS := hid hs
  clear hs
  go_enter Try.func86, Try.ntmps86
  go_wp2_with fail
  go_loopw [5, 11] (fun z i wr => ∃ k : Nat, k ≤ ds.length ∧ i = .int .i64 k ∧ z = .int .i64 (cutT (hasB sd) (ds.take k)) ∧ Below w.heap.size w wr) (fun _ i _ => ds.length - (intOf i).toNat)
  case atStart => exact ⟨0, Nat.zero_le _, rfl, rfl, HB0.out⟩
  case round =>
    obtain ⟨k, hk, rfl, rfl, hb⟩ := hrel
    obtain ⟨wo, rfl⟩ : ∃ wo : World, wo = wr := ⟨_, rfl⟩
    by_cases hlt : k < ds.length
    · obtain ⟨b, off, rfl, c1, c2, c3⟩ := (hx.below hb).ditch hlt
      have hz := cutT_bd (hasB sd) HV.out.all k (by omega)
      have HN := hid (cutT_take (hasB sd) ds k hlt)
      have hd := cut1_bd (hasB sd) (HV.out.all _ (List.getElem_mem hlt))
      have hdc := (HV.out.all _ (List.getElem_mem hlt)).c
      have HB := hid (hb.alloc hb.size (.cells #[.int .i64 ds[k].a, .int .i64 ds[k].b, .int .i64 ds[k].c] 139))
      have HS2 := hid (HS.out.below HB.out)
      unfold cut1 at HN hd
      generalize cutT (hasB sd) (ds.take k) = z at hz HN
      generalize ds[k].a = x1 at c1 HB HN hd HS2
      generalize ds[k].b = x2 at c2 HB HN hd HS2
      generalize ds[k].c = x3 at c3 HB HN hd HS2 hdc
      have e1 : IntKind.i64.wrap (z + x3) = z + x3 := IntWalk.i64_in _ (by omega)
      have HA1 := hid (fun x hx => implHas B sd q x1 x hx)
      have HA2 := hid (fun x hx => implHas B sd q x2 x hx)
      clear hx hd hb
      cases h1 : hasB sd x1
      · rw [h1] at HA1 HN
        simp only [Bool.false_eq_true, false_and, if_false] at HN
        clear h1
        go_wp2_with (go_at_call 107; first | (with_reducible refine (HA1.out _ HS2.out).mono ?_; rintro e w' ⟨rfl, rfl⟩) | (with_reducible refine (HA2.out _ HS2.out).mono ?_; rintro e w' ⟨rfl, rfl⟩))
        go_roundw
        case rel => exact ⟨k + 1, by omega, by go_num, by exact congrArg _ (by rw [HN.out]; omega), HB.out⟩
        case measure => simp [intOf]; omega
      · rw [h1] at HA1 HN
        cases h2 : hasB sd x2
        · rw [h2] at HA2 HN
          simp only [and_self, if_true] at HN
          clear h1 h2
          go_wp2_with (go_at_call 107; first | (with_reducible refine (HA1.out _ HS2.out).mono ?_; rintro e w' ⟨rfl, rfl⟩) | (with_reducible refine (HA2.out _ HS2.out).mono ?_; rintro e w' ⟨rfl, rfl⟩))
          go_roundw
          case rel => exact ⟨k + 1, by omega, by go_num, by exact congrArg _ HN.out.symm, HB.out⟩
          case measure => simp [intOf]; omega
        · rw [h2] at HA2 HN
          simp only [Bool.true_eq_false, and_false, if_false] at HN
          clear h1 h2
          go_wp2_with (go_at_call 107; first | (with_reducible refine (HA1.out _ HS2.out).mono ?_; rintro e w' ⟨rfl, rfl⟩) | (with_reducible refine (HA2.out _ HS2.out).mono ?_; rintro e w' ⟨rfl, rfl⟩))
          go_roundw
          case rel => exact ⟨k + 1, by omega, by go_num, by exact congrArg _ (by rw [HN.out]; omega), HB.out⟩
          case measure => simp [intOf]; omega
    · have hkl : k = ds.length := by omega
      subst hkl
      clear hx
      go_wp2_with fail
      go_ret
      exact ⟨ret_int (by rw [← HR.out, List.take_length]), hb⟩
end Go.Proofs.Yteobejgkjjhfkaa
