/- sort.swapRange_func, sort.rotate_func: walked. -/
import Derived.Test.YtampbbknhbhcbaaSortP
namespace Go.Proofs.Ytampbbknhbhcbaa
open Go.RowKit Go.Sort Go.Lib
set_option linter.unusedVariables false
set_option linter.unusedSimpArgs false
section
variable {α : Type} [Inhabited α] {enc : α → Value} {lt : α → α → Bool} {g : Nat} {lb : Array Value} {sf : Nat} {sb : Array Value} {blk off size : Nat} {w0 W : World}
set_option maxHeartbeats 4000000 in
theorem swapRange_ (E : SEnv enc lt g lb sf sb blk off size W) (p u q v r : List α) (a b n : Nat) (hW : SW enc W blk off (p ++ u ++ q ++ v ++ r).toArray W) (hl : (p ++ u ++ q ++ v ++ r).length = size)
    (ha : a = p.length) (hu : u.length = n) (hv : v.length = n) (hb : b = p.length + n + q.length) :
    Calls Try.prog 90 #[.agg #[.func (.func g) #[] lb, .func (.func sf) #[] sb], .int .i64 a, .int .i64 b, .int .i64 n] W fun e w' =>
      e = .returned (.tuple #[]) ∧ SW enc W blk off (p ++ v ++ q ++ u ++ r).toArray w' := by
  have hsz := E.le
  have hlt := E.lt
  have hll : p.length + n + q.length + n + r.length = size := by simp only [List.length_append] at hl; omega
  have HE := hid E
  have HU := hid hu
  have HV := hid hv
  have HA := hid ha
  have HBB := hid hb
  have hab : a + n ≤ b ∧ b + n ≤ size := by omega
  have HLL := hid hll
  have HS := hid (hW.alloc (.cells #[.func (.func g) #[] lb, .func (.func sf) #[] sb] 97))
  have hfin : ∀ w', SW enc W blk off (p ++ (v.take n ++ u.drop n) ++ q ++ (u.take n ++ v.drop n) ++ r).toArray w' → SW enc W blk off (p ++ v ++ q ++ u ++ r).toArray w' := fun w' h => by
    rw [List.take_of_length_le (by omega), List.drop_of_length_le (by omega), List.take_of_length_le (by omega), List.drop_of_length_le (by omega), List.append_nil, List.append_nil] at h
    exact h
  have HF := hid hfin
  clear hW hl hll hu hv ha hb E hfin
  go_enter Try.func90, Try.ntmps90
  go_wp2_with fail
  go_loopw [8] (fun i wr => ∃ k : Nat, k ≤ n ∧ i = .int .i64 k ∧ SW enc W blk off (p ++ (v.take k ++ u.drop k) ++ q ++ (u.take k ++ v.drop k) ++ r).toArray wr ∧ (∃ o, o = Obj.cells #[.func (.func g) #[] lb, .func (.func sf) #[] sb] 97 ∧ wr.cell? ⟨W.heap.size, 1, none⟩ = some (.func (.func sf) #[] sb))) (fun i _ => n - (intOf i).toNat)
  case atStart => exact ⟨0, Nat.zero_le _, rfl, by simpa using HS.out, _, rfl, by simp [go_sem]⟩
  case round =>
    obtain ⟨k, hk, rfl, hw, _, rfl, hbx⟩ := hrel
    have HW2 := hid hw
    clear hw
    by_cases hlt2 : k < n
    · have hku : k < u.length := by have := HU.out; omega
      have hkv : k < v.length := by have := HV.out; omega
      have e1 : p ++ (v.take k ++ u.drop k) ++ q ++ (u.take k ++ v.drop k) ++ r = (p ++ v.take k) ++ u[k] :: ((u.drop (k + 1) ++ q ++ u.take k) ++ v[k] :: (v.drop (k + 1) ++ r)) := by
        rw [List.drop_eq_getElem_cons hku, List.drop_eq_getElem_cons hkv]; simp only [List.append_assoc, List.cons_append, List.nil_append]
      have e2 : (p ++ v.take k) ++ v[k] :: ((u.drop (k + 1) ++ q ++ u.take k) ++ u[k] :: (v.drop (k + 1) ++ r)) = p ++ (v.take (k + 1) ++ u.drop (k + 1)) ++ q ++ (u.take (k + 1) ++ v.drop (k + 1)) ++ r := by
        rw [List.take_succ_eq_append_getElem hku, List.take_succ_eq_append_getElem hkv]; simp only [List.append_assoc, List.cons_append, List.nil_append]
      have i1 : a + k = (p ++ v.take k).length := by rw [List.length_append, List.length_take]; have := HA.out; omega
      have i2 : b + k = (p ++ v.take k).length + 1 + (u.drop (k + 1) ++ q ++ u.take k).length := by simp only [List.length_append, List.length_take, List.length_drop]; have := HBB.out; have := HU.out; omega
      have hlen : (p ++ (v.take k ++ u.drop k) ++ q ++ (u.take k ++ v.drop k) ++ r).length = size := by simp only [List.length_append, List.length_take, List.length_drop]; have := HLL.out; have := HU.out; have := HV.out; omega
      obtain ⟨wz, s1, s2, s3⟩ := HE.out.swapAt HW2.out hlen e1 i1 i2
      rw [e2] at s2
      have S2 := hid s2
      have HBX2 := hid (s3 ⟨W.heap.size, 1, none⟩ _ (by show W.heap.size ≠ blk; omega) hbx)
      rw [show ((a + k : Nat) : Int) = (a : Int) + k by omega, show ((b + k : Nat) : Int) = (b : Int) + k by omega] at s1
      clear e1 e2 i1 i2 hlen s2 s3
      go_wp2_with fail
      go_roundw
      case rel => exact ⟨k + 1, by omega, by go_num, S2.out, _, rfl, HBX2.out⟩
      case measure => simp [intOf]; omega
    · have hke : k = n := by omega
      subst hke
      have HF2 := hid (HF.out _ HW2.out)
      clear HF HW2
      go_wp2_with fail
      go_end0
      exact ⟨rfl, HF2.out⟩
set_option maxHeartbeats 8000000 in
theorem rotate_ (E : SEnv enc lt g lb sf sb blk off size W) (p u v r : List α) (a m b : Nat) (hW : SW enc W blk off (p ++ u ++ v ++ r).toArray W) (hl : (p ++ u ++ v ++ r).length = size)
    (ha : a = p.length) (hm : m = p.length + u.length) (hb : b = p.length + u.length + v.length) (hu : 0 < u.length) (hv : 0 < v.length) :
    Calls Try.prog 89 #[.agg #[.func (.func g) #[] lb, .func (.func sf) #[] sb], .int .i64 a, .int .i64 m, .int .i64 b] W fun e w' =>
      e = .returned (.tuple #[]) ∧ SW enc W blk off (p ++ v ++ u ++ r).toArray w' := by
  have hsz := E.le
  have hlt := E.lt
  have hll : p.length + u.length + v.length + r.length = size := by simp only [List.length_append] at hl; omega
  have HE := hid E
  obtain ⟨F, hF⟩ : ∃ F, p ++ v ++ u ++ r = F := ⟨_, rfl⟩
  rw [hF]
  have HF := hid hF
  have HL := hid hl
  have HS := hid (hW.alloc (.cells #[.func (.func g) #[] lb, .func (.func sf) #[] sb] 97))
  obtain ⟨U0, hU0⟩ : ∃ n, u.length = n := ⟨_, rfl⟩
  obtain ⟨V0, hV0⟩ : ∃ n, v.length = n := ⟨_, rfl⟩
  have HU0 := hid hU0
  have HV0 := hid hV0
  have hmm : a + U0 = m ∧ m + V0 = b ∧ b ≤ size ∧ 0 < U0 ∧ 0 < V0 := by omega
  have hpa : Hid (p.length + U0 = m) := by show _ = _; omega
  clear hW hl hll ha hm hb hu hv E hF hU0 hV0
  go_enter Try.func89, Try.ntmps89
  go_wp2_with fail
  go_loopw [8, 9] (fun i j wr => ∃ (P U V Q : List α) (iN jN : Nat), i = .int .i64 iN ∧ j = .int .i64 jN ∧ (0 < iN ∧ 0 < jN ∧ iN ≤ m ∧ m + jN ≤ size) ∧ U.length = iN ∧ V.length = jN ∧ P.length + iN = m ∧ (P ++ U ++ V ++ Q).length = size ∧ P ++ V ++ U ++ Q = F ∧
      SW enc W blk off (P ++ U ++ V ++ Q).toArray wr ∧ wr.cell? ⟨W.heap.size, 0, none⟩ = some (.func (.func g) #[] lb) ∧ wr.cell? ⟨W.heap.size, 1, none⟩ = some (.func (.func sf) #[] sb)) (fun i j _ => (intOf i).toNat + (intOf j).toNat)
  case atStart => exact ⟨p, u, v, r, U0, V0, val_int (by omega), val_int (by omega), by omega, HU0.out, HV0.out, hpa.out, HL.out, HF.out, HS.out, by simp [go_sem], by simp [go_sem]⟩
  case round =>
    obtain ⟨P, U, V, Q, iN, jN, rfl, rfl, hij, hU, hV, hP, hl2, hF2, hw, hb0, hb1⟩ := hrel
    have HW2 := hid hw
    have E2 := hid (HE.out.at_ hw hl2)
    have S2 := hid (HE.out.here hw hl2)
    have HL2 := hid hl2
    have HF2 := hid hF2
    have HUU := hid hU
    have HVV := hid hV
    have HPP := hid hP
    have hsum : P.length + iN + jN + Q.length = size := by simp only [List.length_append] at hl2; omega
    have HSUM := hid hsum
    clear hw hF2 hl2 hU hV hP hsum HS HL HF
    rcases Nat.lt_trichotomy iN jN with hc | hc | hc
    · -- i < j
      have hq : Calls Try.prog 90 #[.agg #[.func (.func g) #[] lb, .func (.func sf) #[] sb], .int .i64 ((m : Int) - (iN : Int)), .int .i64 ((m : Int) + (jN : Int) - (iN : Int)), .int .i64 (iN : Int)] wr fun e w' =>
          e = .returned (.tuple #[]) ∧ SW enc wr blk off (P ++ V.drop (jN - iN) ++ V.take (jN - iN) ++ U ++ Q).toArray w' := by
        have h := swapRange_ E2.out P U (V.take (jN - iN)) (V.drop (jN - iN)) Q P.length (P.length + iN + (jN - iN)) iN (by have := S2.out; rwa [List.append_assoc (P ++ U), List.take_append_drop]) (by have := HL2.out; rwa [List.append_assoc (P ++ U), List.take_append_drop]) rfl HUU.out (by rw [List.length_drop]; have := HVV.out; omega) (by rw [List.length_take]; have := HVV.out; omega)
        rw [show ((P.length : Nat) : Int) = (m : Int) - (iN : Int) by have := HPP.out; omega, show ((P.length + iN + (jN - iN) : Nat) : Int) = (m : Int) + (jN : Int) - (iN : Int) by have := HPP.out; omega] at h
        exact h
      have HQ := hid hq
      have n1 : ((iN : Int) != (jN : Int)) = true := by rw [bne_iff_ne]; omega
      have n2 : (iN != jN) = true := by rw [bne_iff_ne]; omega
      clear hq
      go_wp2_with (go_at_call 90; refine HQ.out.mono ?_; rintro e w3 ⟨rfl, hs3⟩; refine keep_ ?_)
      have c0 := SWx.cell hs3 (p := ⟨W.heap.size, 0, none⟩) (by show W.heap.size ≠ blk; omega) hb0
      have c1 := SWx.cell hs3 (p := ⟨W.heap.size, 1, none⟩) (by show W.heap.size ≠ blk; omega) hb1
      have hl3 : (P ++ V.drop (jN - iN) ++ V.take (jN - iN) ++ U ++ Q).length = size := by simp only [List.length_append, List.length_take, List.length_drop]; have := HSUM.out; have := HUU.out; have := HVV.out; omega
      have S3 := hid (HE.out.then_ HW2.out HL2.out hs3 hl3)
      have HL3 := hid hl3
      clear hs3 hb0 hb1 hl3
      refine go_ ?_
      go_wp2_with fail
      go_roundw
      case rel => exact ⟨P, V.drop (jN - iN), V.take (jN - iN), U ++ Q, iN, jN - iN, rfl, val_int (by omega), by omega, by rw [List.length_drop]; have := HVV.out; omega, by rw [List.length_take]; have := HVV.out; omega, HPP.out, by rw [← List.append_assoc]; exact HL3.out, by have := HF2.out; rw [← this]; simp only [List.append_assoc]; rw [← List.append_assoc (V.take _), List.take_append_drop], by rw [← List.append_assoc]; exact S3.out, c0, c1⟩
      case measure => simp [intOf]; omega
    · subst hc
      have hq : Calls Try.prog 90 #[.agg #[.func (.func g) #[] lb, .func (.func sf) #[] sb], .int .i64 ((m : Int) - (iN : Int)), .int .i64 (m : Int), .int .i64 (iN : Int)] wr fun e w' =>
          e = .returned (.tuple #[]) ∧ SW enc wr blk off (P ++ V ++ [] ++ U ++ Q).toArray w' := by
        have h := swapRange_ E2.out P U [] V Q P.length (P.length + iN + 0) iN (by have := S2.out; rwa [List.append_nil]) (by have := HL2.out; rwa [List.append_nil]) rfl HUU.out HVV.out rfl
        rw [show ((P.length : Nat) : Int) = (m : Int) - (iN : Int) by have := HPP.out; omega, show ((P.length + iN + 0 : Nat) : Int) = (m : Int) by have := HPP.out; omega] at h
        exact h
      have HQ := hid hq
      have n1 : ((iN : Int) != (iN : Int)) = false := by simp
      clear hq
      go_wp2_with (go_at_call 90; refine HQ.out.mono ?_; rintro e w3 ⟨rfl, hs3⟩; refine keep_ ?_)
      rw [List.append_nil, HF2.out] at hs3
      have hl3 : F.length = size := by rw [← HF2.out]; simp only [List.length_append]; have := HSUM.out; have := HUU.out; have := HVV.out; omega
      have S3 := hid (HE.out.then_ HW2.out HL2.out hs3 hl3)
      clear hs3 hb0 hb1 hl3
      refine go_ ?_
      go_wp2_with fail
      go_end0
      exact ⟨rfl, S3.out⟩
    · -- j < i
      have hq : Calls Try.prog 90 #[.agg #[.func (.func g) #[] lb, .func (.func sf) #[] sb], .int .i64 ((m : Int) - (iN : Int)), .int .i64 (m : Int), .int .i64 (jN : Int)] wr fun e w' =>
          e = .returned (.tuple #[]) ∧ SW enc wr blk off (P ++ V ++ U.drop jN ++ U.take jN ++ Q).toArray w' := by
        have h := swapRange_ E2.out P (U.take jN) (U.drop jN) V Q P.length (P.length + jN + (iN - jN)) jN (by have := S2.out; rwa [List.append_assoc P, List.take_append_drop]) (by have := HL2.out; rwa [List.append_assoc P, List.take_append_drop]) rfl (by rw [List.length_take]; have := HUU.out; omega) HVV.out (by rw [List.length_drop]; have := HUU.out; omega)
        rw [show ((P.length : Nat) : Int) = (m : Int) - (iN : Int) by have := HPP.out; omega, show ((P.length + jN + (iN - jN) : Nat) : Int) = (m : Int) by have := HPP.out; omega] at h
        exact h
      have HQ := hid hq
      have n1 : ((iN : Int) != (jN : Int)) = true := by rw [bne_iff_ne]; omega
      have n2 : (iN != jN) = true := by rw [bne_iff_ne]; omega
      clear hq
      go_wp2_with (go_at_call 90; refine HQ.out.mono ?_; rintro e w3 ⟨rfl, hs3⟩; refine keep_ ?_)
      have c0 := SWx.cell hs3 (p := ⟨W.heap.size, 0, none⟩) (by show W.heap.size ≠ blk; omega) hb0
      have c1 := SWx.cell hs3 (p := ⟨W.heap.size, 1, none⟩) (by show W.heap.size ≠ blk; omega) hb1
      have hl3 : (P ++ V ++ U.drop jN ++ U.take jN ++ Q).length = size := by simp only [List.length_append, List.length_take, List.length_drop]; have := HSUM.out; have := HUU.out; have := HVV.out; omega
      have S3 := hid (HE.out.then_ HW2.out HL2.out hs3 hl3)
      have HL3 := hid hl3
      clear hs3 hb0 hb1 hl3
      refine go_ ?_
      go_wp2_with fail
      go_roundw
      case rel => exact ⟨P ++ V, U.drop jN, U.take jN, Q, iN - jN, jN, val_int (by omega), rfl, by omega, by rw [List.length_drop]; have := HUU.out; omega, by rw [List.length_take]; have := HUU.out; omega, by rw [List.length_append]; have := HPP.out; have := HVV.out; omega, HL3.out, by have := HF2.out; rw [← this]; simp only [List.append_assoc]; rw [← List.append_assoc (U.take _), List.take_append_drop], S3.out, c0, c1⟩
      case measure => simp [intOf]; omega
end
end Go.Proofs.Ytampbbknhbhcbaa
