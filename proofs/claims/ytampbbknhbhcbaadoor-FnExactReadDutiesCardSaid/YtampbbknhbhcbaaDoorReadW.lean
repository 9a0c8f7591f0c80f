/- Words between bytes: the reference's walk. -/
import Derived.Test.YtampbbknhbhcbaaDoorReadS
namespace Go.Proofs.YtampbbknhbhcbaaDoor
open Go.RowKit
set_option linter.unusedVariables false
set_option linter.unusedSimpArgs false
def toB (x : List UInt8) : ByteArray := ⟨x.toArray⟩
def wordsOf (c : UInt8) (s : List UInt8) : List ByteArray := (splitB c s).map toB
theorem piece_step {s : List UInt8} {f k : Nat} (hf : f ≤ k) (hk : k < s.length) : (s.drop f).take (k + 1 - f) = (s.drop f).take (k - f) ++ [s[k]] := by
  have h : k - f < (s.drop f).length := by rw [List.length_drop]; omega
  rw [show k + 1 - f = (k - f) + 1 by omega, List.take_succ_eq_append_getElem h]
  congr 2
  rw [List.getElem_drop]
  congr 1
  omega
theorem piece_cut {s : List UInt8} {f k : Nat} (hf : f ≤ k) (hk : k < s.length) : s.drop f = (s.drop f).take (k - f) ++ s[k] :: s.drop (k + 1) := by
  have h := List.take_append_drop (k + 1 - f) (s.drop f)
  rw [piece_step hf hk, List.drop_drop] at h
  rw [show f + (k + 1 - f) = k + 1 by omega, List.append_assoc] at h
  exact h.symm
set_option maxRecDepth 100000 in
set_option maxHeartbeats 2000000 in
theorem specSplit (s : List UInt8) (c : UInt8) (w : World) (hs : s.length ≤ 1048576) :
    Calls Tryd.prog 34 #[.string ⟨s.toArray⟩, .int .u8 (c.toNat : Int)] w fun e w' => ∃ A q, e = .returned (.slice A (wordsOf c s).length q) ∧ Own w' w.heap.size 9 (.slice A (wordsOf c s).length q) (wordsOf c s) ∧ Below w.heap.size w w' := by
  have hcl : c.toNat < 256 := c.toNat_lt
  obtain ⟨cn, hcn⟩ : ∃ cn, c.toNat = cn := ⟨_, rfl⟩
  rw [hcn] at hcl ⊢
  obtain ⟨R, hR⟩ : ∃ R, wordsOf c s = R := ⟨_, rfl⟩
  rw [hR]
  have HR := hid hR
  have HCN := hid hcn
  clear hR hcn
  go_enter Tryd.func34, Tryd.ntmps34
  go_wp2_with fail
  go_loopw [5, 6, 7] (fun u f i wr => ∃ (k m : Nat) (ol : List (List UInt8)) (out : List ByteArray), k ≤ s.length ∧ m ≤ k ∧ i = .int .i64 k ∧ f = .int .i64 m ∧ out = ol.map toB ∧ ol.length ≤ m ∧ ol ++ splitB c (s.drop m) = splitB c s ∧ c ∉ (s.drop m).take (k - m) ∧ Own wr w.heap.size 9 u out ∧ Below w.heap.size w wr) (fun _ _ i _ => s.length - (intOf i).toNat)
  case atStart => exact ⟨0, 0, [], [], Nat.zero_le _, Nat.le_refl _, rfl, rfl, rfl, Nat.le_refl _, by simp, by simp, Own.empty (Nat.le_refl _), (Below.refl _ _).alloc (Nat.le_refl _) _⟩
  case round =>
    obtain ⟨k, m, ol, out, hk, hm, rfl, rfl, hout, hol, hsp, hno, ho, hb⟩ := hrel
    obtain ⟨wo, rfl⟩ : ∃ wo : World, wo = wr := ⟨_, rfl⟩
    have hol2 : out.length ≤ m := by rw [hout, List.length_map]; exact hol
    have HO := hid ho
    have HB := hid hb
    have HOUT := hid hout
    have hbs := hb.size
    obtain ⟨V, vq, rfl⟩ := ho.form
    clear ho hb hout
    by_cases hlt : k < s.length
    · obtain ⟨x, hx⟩ : ∃ x, s[k] = x := ⟨_, rfl⟩
      have hget : ∀ h, (⟨s.toArray⟩ : ByteArray)[k]'h = x := fun _ => hx
      have hxl : x.toNat < 256 := x.toNat_lt
      by_cases hxc : x = c
      · have hcut := piece_cut hm hlt
        rw [hx, hxc] at hcut
        have hex : (⟨s.toArray⟩ : ByteArray).extract m k = toB ((s.drop m).take (k - m)) := ByteArray.extract_mk s m k
        have hlen : ((s.drop m).take (k - m)).length ≤ 1048576 := by simp; omega
        have hne : ((x.toNat : Int) == cn) = true := by rw [hxc, HCN.out]; simp
        generalize (s.drop m).take (k - m) = p at hcut hex hno hlen
        have HS : Hid ((ol ++ [p]) ++ splitB c (s.drop (k + 1)) = splitB c s) := by
          show (ol ++ [p]) ++ splitB c (s.drop (k + 1)) = splitB c s
          rw [← hsp, hcut, splitB_more hno, List.append_assoc]
          rfl
        have HOL : Hid (out ++ [toB p] = (ol ++ [p]).map toB) := by show out ++ [toB p] = (ol ++ [p]).map toB; rw [HOUT.out]; simp
        generalize toB p = B at hex HOL
        clear hcut hsp hno hx hxc
        go_wp2_with (at_builtin; refine wpList_push elStr _ rfl (.tmp 20) (.tmp 25) rfl w.heap.size _ out B rfl (HO.out.alloc _) _ rfl (heap_alloc_new _ _) (by omega) (le_alloc hbs) ?_; intro v' w' hown' hg' hat'; refine keep_ ?_)
        have HB2 := hid (below_own (HB.out.alloc hbs (.cells #[.string B] 9)) (HO.out.alloc _) hg' (Nat.le_refl _) (le_alloc hbs))
        have HO2 := hid hown'
        clear hown' hg' hat'
        refine go_ ?_
        go_wp2_with fail
        go_roundw
        case rel => exact ⟨k + 1, k + 1, ol ++ [p], _, by omega, Nat.le_refl _, by go_num, by go_num, HOL.out, by simp; omega, HS.out, by simp, HO2.out, HB2.out⟩
        case measure => simp [intOf]; omega
      · have hne : ((x.toNat : Int) == cn) = false := by
          rw [beq_eq_false_iff_ne]
          intro e
          exact hxc (by rw [← UInt8.toNat_inj, HCN.out]; omega)
        have HNO : Hid (c ∉ (s.drop m).take (k + 1 - m)) := by
          show c ∉ (s.drop m).take (k + 1 - m)
          rw [piece_step hm hlt, hx]
          simp only [List.mem_append, List.mem_singleton, not_or]
          exact ⟨hno, fun e => hxc e.symm⟩
        have HSP := hid hsp
        clear hx hno hsp
        go_wp2_with fail
        go_roundw
        case rel => exact ⟨k + 1, m, ol, out, by omega, by omega, by go_num, rfl, HOUT.out, hol, HSP.out, HNO.out, HO.out, HB.out⟩
        case measure => simp [intOf]; omega
    · have hkn : k = s.length := by omega
      have hex : (⟨s.toArray⟩ : ByteArray).extract m s.length = toB (s.drop m) := by
        unfold toB
        rw [ByteArray.extract_mk, List.take_of_length_le (by simp)]
      have hmn : m ≤ s.length := by omega
      have HN2 : Hid (c ∉ s.drop m) := by
        show c ∉ s.drop m
        rw [hkn, List.take_of_length_le (by simp)] at hno
        exact hno
      have HR2 : Hid (out ++ [toB (s.drop m)] = R) := by
        show out ++ [toB (s.drop m)] = R
        rw [← HR.out]
        unfold wordsOf
        rw [← hsp, splitB_last HN2.out, HOUT.out]
        simp
      have hlen : (s.drop m).length ≤ 1048576 := by simp; omega
      generalize toB (s.drop m) = B at hex HR2
      clear hsp hno
      go_wp2_with (at_builtin; refine wpList_push elStr _ rfl (.tmp 29) (.tmp 33) rfl w.heap.size _ out B rfl (HO.out.alloc _) _ rfl (heap_alloc_new _ _) (by omega) (le_alloc hbs) ?_; intro v' w' hown' hg' hat'; refine keep_ ?_)
      have HB2 := hid (below_own (HB.out.alloc hbs (.cells #[.string B] 9)) (HO.out.alloc _) hg' (Nat.le_refl _) (le_alloc hbs))
      rw [HR2.out] at hown'
      have HO2 := hid hown'
      obtain ⟨A2, q2, rfl⟩ := hown'.form
      clear hown' hg' hat'
      refine go_ ?_
      go_wp2_with fail
      go_ret
      exact ⟨A2, q2, rfl, HO2.out, HB2.out⟩
end Go.Proofs.YtampbbknhbhcbaaDoor
