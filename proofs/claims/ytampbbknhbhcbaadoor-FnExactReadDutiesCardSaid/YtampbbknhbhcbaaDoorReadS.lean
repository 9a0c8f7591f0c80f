/- Numbers and words read out of a text: the reference's walks. -/
import Derived.Test.YtampbbknhbhcbaaDoorReadP
import Derived.Test.YtampbbknhbhcbaaDoorTskI
import Derived.Laws.Strings2
import Derived.Laws.Strings3
namespace Go.Proofs.YtampbbknhbhcbaaDoor
open Go.RowKit
set_option linter.unusedVariables false
set_option linter.unusedSimpArgs false
theorem mk_size (l : List UInt8) : (⟨l.toArray⟩ : ByteArray).size = l.length := by simp [ByteArray.size]
theorem mk_get (l : List UInt8) (i : Nat) (h : i < l.length) (h' : i < (⟨l.toArray⟩ : ByteArray).size) : (⟨l.toArray⟩ : ByteArray)[i]'h' = l[i] := rfl
theorem mk_toList (l : List UInt8) : (⟨l.toArray⟩ : ByteArray).toList = l := by rw [ByteArray.toList_eq]
theorem mk_self (s : ByteArray) : s = ⟨s.data.toList.toArray⟩ := by cases s; simp
def numR (s : List UInt8) : Int × Bool := match numO s with | some n => (n, true) | none => (0, false)
theorem numR_none {s : List UInt8} (h : numV s = none) : numR s = (0, false) := by unfold numR numO; rw [h]
theorem numR_short {s : List UInt8} (h : ¬ (1 ≤ (stripM s).length ∧ (stripM s).length ≤ 18)) : numR s = (0, false) := numR_none (by unfold numV; rw [if_neg h])
theorem numR_bad {s : List UInt8} (h : accD 0 (stripM s) = none) : numR s = (0, false) := numR_none (by unfold numV; rw [h]; split <;> rfl)
theorem numR_ok {s : List UInt8} (h : 1 ≤ (stripM s).length ∧ (stripM s).length ≤ 18) {m : Nat} (hm : accD 0 (stripM s) = some m) {n : Int} (hn : signed (decide ((stripM s).length < s.length)) m = n) : numR s = if Lib.itoa n = s then (n, true) else (0, false) := by
  unfold numR numO numV
  rw [if_pos h, hm]
  simp only [Option.map_some]
  rw [hn]
  by_cases he : Lib.itoa n = s
  · rw [if_pos he, if_pos he]
  · rw [if_neg he, if_neg he]
theorem ret_num {p : Int × Bool} {a : Int} {b : Bool} (h : p = (a, b)) : Ending.returned (.tuple #[.int .i64 a, .bool b]) = .returned (.tuple #[.int .i64 p.1, .bool p.2]) := by rw [h]
set_option maxHeartbeats 400000 in
theorem specDigit (c : UInt8) (w : World) : Calls Tryd.prog 58 #[.int .u8 (c.toNat : Int)] w fun e w' => e = .returned (.bool (digB c)) ∧ w = w' := by
  have hc : c.toNat < 256 := c.toNat_lt
  unfold digB
  generalize c.toNat = n at hc ⊢
  by_cases h : 48 ≤ n
  all_goals
    go_enter Tryd.func58, Tryd.ntmps58
    go_wp2
    go_ret
    exact ⟨ret_bool (by first | (simp [h]; done) | (simp [h]; omega) | (simp; omega)), rfl⟩
set_option maxRecDepth 100000 in
set_option maxHeartbeats 1000000 in
theorem specNumber (s : List UInt8) (w : World) (hs : s.length ≤ 1048576) :
    Calls Tryd.prog 35 #[.string ⟨s.toArray⟩] w fun e w' => e = .returned (.tuple #[.int .i64 (numR s).1, .bool (numR s).2]) ∧ Below w.heap.size w w' := by
  obtain ⟨t, ht⟩ : ∃ t, stripM s = t := ⟨_, rfl⟩
  have HT := hid ht
  cases hs0 : s with
  | nil =>
    have ht0 : t = [] := by rw [← ht, hs0]; rfl
    subst ht0
    rw [← hs0]
    have HS0 := hid hs0
    have HSH := hid (numR_short (s := s) (by rw [HT.out]; simp))
    subst hs0
    clear HT ht
    go_enter Tryd.func35, Tryd.ntmps35
    go_wp2_with fail
    go_ret2
    exact ⟨ret_num HSH.out, Below.refl _ _⟩
  | cons c r =>
    have hsl : s.length = r.length + 1 := by rw [hs0]; rfl
    have hget0 : ∀ h, (⟨s.toArray⟩ : ByteArray)[0]'h = c := fun h => by subst hs0; rfl
    rw [← hs0]
    by_cases hc : c = 45
    · have htr : t = r := by rw [← ht, hs0, hc]; rfl
      have htl : s.length = t.length + 1 := by rw [htr]; exact hsl
      have hcn : ((c.toNat : Int) == 45) = true := by rw [hc]; rfl
      have hex : (⟨s.toArray⟩ : ByteArray).extract 1 s.length = ⟨t.toArray⟩ := by
        rw [ByteArray.extract_mk, htr, hs0]
        simp
      have hex2 : (⟨s.toArray⟩ : ByteArray).extract 1 (t.length + 1) = ⟨t.toArray⟩ := by rw [← htl]; exact hex
      have hne : ¬ s = [] := by rw [hs0]; simp
      have hne2 : s.isEmpty = false := by rw [hs0]; rfl
      clear ht htr hsl hs0
      go_enter Tryd.func35, Tryd.ntmps35
      by_cases hlen : 1 ≤ t.length ∧ t.length ≤ 18
      · have h18 := hlen.2
        have h1l := hlen.1
        have HLEN := hid hlen
        clear hlen
        go_wp2_with fail
        go_loopw [5, 6] (fun n i wr => ∃ (k m : Nat), k ≤ t.length ∧ i = .int .i64 k ∧ n = .int .i64 (m : Int) ∧ accD m (t.drop k) = accD 0 t ∧ m < 10 ^ k ∧ wr = w) (fun _ i _ => t.length - (intOf i).toNat)
        case atStart => exact ⟨0, 0, Nat.zero_le _, rfl, rfl, rfl, by decide, rfl⟩
        case round =>
          obtain ⟨k, m, hk, rfl, rfl, ha, hm, rfl⟩ := hrel
          have hp : (10 : Nat) ^ k ≤ 10 ^ 18 := Nat.pow_le_pow_right (by decide) (by omega)
          have hmb : m < 1000000000000000000 := by omega
          clear hp
          by_cases hlt : k < t.length
          · rw [List.drop_eq_getElem_cons hlt] at ha
            obtain ⟨c, hck0⟩ : ∃ c, t[k] = c := ⟨_, rfl⟩
            have hget : ∀ h, (⟨t.toArray⟩ : ByteArray)[k]'h = c := fun _ => hck0
            have HM := hid hm
            rw [hck0] at ha
            clear hm hck0
            simp only [accD] at ha
            cases hd : digB c
            · rw [hd] at ha
              simp only [Bool.false_eq_true, if_false] at ha
              have HA := hid ha.symm
              clear ha
              go_wp2_with (go_at_call 58; refine (specDigit c _).mono ?_; rintro e w' ⟨rfl, rfl⟩; rw [hd])
              go_ret2
              exact ⟨ret_num (numR_bad (by rw [HT.out]; exact HA.out)), Below.refl _ _⟩
            · rw [hd] at ha
              simp only [if_true] at ha
              have hc := digB_iff.1 hd
              have HA := hid ha
              have HP : Hid (10 * m + (c.toNat - 48) < 10 ^ (k + 1)) := by
                show _ < _
                have := HM.out
                rw [Nat.pow_succ]
                omega
              have hck : ((c.toNat - 48 : Nat) : Int) = (c.toNat : Int) - 48 := by omega
              have hm17 : m < 100000000000000000 := by
                have h2 : (10 : Nat) ^ k ≤ 10 ^ 17 := Nat.pow_le_pow_right (by decide) (by omega)
                have := HM.out
                omega
              clear ha
              go_wp2_with (go_at_call 58; refine (specDigit c _).mono ?_; rintro e w' ⟨rfl, rfl⟩; rw [hd])
              go_roundw
              case rel => exact ⟨k + 1, 10 * m + (c.toNat - 48), by omega, by go_num, val_int (by omega), HA.out, HP.out, trivial⟩
              case measure => simp [intOf]; omega
          · rw [List.drop_eq_nil_of_le (by omega)] at ha
            simp only [accD] at ha
            have HA := hid ha.symm
            clear ha hm
            have hsg : signed (decide ((stripM s).length < s.length)) m = -(m : Int) := by rw [HT.out, decide_eq_true (by omega)]; rfl
            have HR := hid (numR_ok (s := s) (by rw [HT.out]; exact HLEN.out) (by rw [HT.out]; exact HA.out) hsg)
            clear hsg
            obtain ⟨D, hD⟩ : ∃ D, Lib.itoa (-(m : Int)) = D := ⟨_, rfl⟩
            have HDC := hid (specDecE (-(m : Int)) D (by omega) (by omega) (hid hD) wr)
            have HDD := hid hD
            clear hD
            by_cases he : D = s
            · have he2 : ((⟨D.toArray⟩ : ByteArray).toList == (⟨s.toArray⟩ : ByteArray).toList) = true := by rw [he]; simp
              have he3 : (D == s) = true := by rw [he]; simp
              have HE := hid he
              clear he
              go_wp2_with (go_at_call 41; refine HDC.out.mono ?_; rintro e w1 ⟨rfl, hb⟩; have HB := hid hb; clear hb)
              go_ret2
              exact ⟨ret_num (by rw [HR.out, HDD.out, if_pos HE.out]), HB.out⟩
            · have he2 : ((⟨D.toArray⟩ : ByteArray).toList == (⟨s.toArray⟩ : ByteArray).toList) = false := by rw [mk_toList, mk_toList, beq_eq_false_iff_ne]; exact he
              have he3 : (D == s) = false := by rw [beq_eq_false_iff_ne]; exact he
              have HE := hid he
              clear he
              go_wp2_with (go_at_call 41; refine HDC.out.mono ?_; rintro e w1 ⟨rfl, hb⟩; have HB := hid hb; clear hb)
              go_ret2
              exact ⟨ret_num (by rw [HR.out, HDD.out, if_neg HE.out]), HB.out⟩
      · have HLEN := hid hlen
        have hshort : t.length < 1 ∨ 18 < t.length := by omega
        clear hlen
        rcases hshort with h9 | h9
        · first
          | (exfalso; have h8 := List.length_pos_iff.2 hne; omega)
          | (go_wp2_with fail
             go_ret2
             exact ⟨ret_num (numR_short (by rw [HT.out]; exact HLEN.out)), Below.refl _ _⟩)
        · go_wp2_with fail
          go_ret2
          exact ⟨ret_num (numR_short (by rw [HT.out]; exact HLEN.out)), Below.refl _ _⟩
    · have htr : t = s := by rw [← ht, hs0]; show (if c = 45 then r else c :: r) = c :: r; rw [if_neg hc]
      have hcn : ((c.toNat : Int) == 45) = false := by
        rw [beq_eq_false_iff_ne]
        intro e
        exact hc (by rw [← UInt8.toNat_inj]; show c.toNat = 45; omega)
      have hne : ¬ s = [] := by rw [hs0]; simp
      have hne2 : s.isEmpty = false := by rw [hs0]; rfl
      clear ht hsl hs0
      subst htr
      go_enter Tryd.func35, Tryd.ntmps35
      by_cases hlen : 1 ≤ t.length ∧ t.length ≤ 18
      · have h18 := hlen.2
        have h1l := hlen.1
        have HLEN := hid hlen
        clear hlen
        go_wp2_with fail
        go_loopw [5, 6] (fun n i wr => ∃ (k m : Nat), k ≤ t.length ∧ i = .int .i64 k ∧ n = .int .i64 (m : Int) ∧ accD m (t.drop k) = accD 0 t ∧ m < 10 ^ k ∧ wr = w) (fun _ i _ => t.length - (intOf i).toNat)
        case atStart => exact ⟨0, 0, Nat.zero_le _, rfl, rfl, rfl, by decide, rfl⟩
        case round =>
          obtain ⟨k, m, hk, rfl, rfl, ha, hm, rfl⟩ := hrel
          have hp : (10 : Nat) ^ k ≤ 10 ^ 18 := Nat.pow_le_pow_right (by decide) (by omega)
          have hmb : m < 1000000000000000000 := by omega
          clear hp
          by_cases hlt : k < t.length
          · rw [List.drop_eq_getElem_cons hlt] at ha
            obtain ⟨c, hck0⟩ : ∃ c, t[k] = c := ⟨_, rfl⟩
            have hget : ∀ h, (⟨t.toArray⟩ : ByteArray)[k]'h = c := fun _ => hck0
            have HM := hid hm
            rw [hck0] at ha
            clear hm hck0
            simp only [accD] at ha
            cases hd : digB c
            · rw [hd] at ha
              simp only [Bool.false_eq_true, if_false] at ha
              have HA := hid ha.symm
              clear ha
              go_wp2_with (go_at_call 58; refine (specDigit c _).mono ?_; rintro e w' ⟨rfl, rfl⟩; rw [hd])
              go_ret2
              exact ⟨ret_num (numR_bad (by rw [HT.out]; exact HA.out)), Below.refl _ _⟩
            · rw [hd] at ha
              simp only [if_true] at ha
              have hc := digB_iff.1 hd
              have HA := hid ha
              have HP : Hid (10 * m + (c.toNat - 48) < 10 ^ (k + 1)) := by
                show _ < _
                have := HM.out
                rw [Nat.pow_succ]
                omega
              have hck : ((c.toNat - 48 : Nat) : Int) = (c.toNat : Int) - 48 := by omega
              have hm17 : m < 100000000000000000 := by
                have h2 : (10 : Nat) ^ k ≤ 10 ^ 17 := Nat.pow_le_pow_right (by decide) (by omega)
                have := HM.out
                omega
              clear ha
              go_wp2_with (go_at_call 58; refine (specDigit c _).mono ?_; rintro e w' ⟨rfl, rfl⟩; rw [hd])
              go_roundw
              case rel => exact ⟨k + 1, 10 * m + (c.toNat - 48), by omega, by go_num, val_int (by omega), HA.out, HP.out, trivial⟩
              case measure => simp [intOf]; omega
          · rw [List.drop_eq_nil_of_le (by omega)] at ha
            simp only [accD] at ha
            have HA := hid ha.symm
            clear ha hm
            have hsg : signed (decide ((stripM t).length < t.length)) m = (m : Int) := by rw [HT.out, decide_eq_false (by omega)]; rfl
            have HR := hid (numR_ok (s := t) (by rw [HT.out]; exact HLEN.out) (by rw [HT.out]; exact HA.out) hsg)
            clear hsg
            obtain ⟨D, hD⟩ : ∃ D, Lib.itoa ((m : Int)) = D := ⟨_, rfl⟩
            have HDC := hid (specDecE ((m : Int)) D (by omega) (by omega) (hid hD) wr)
            have HDD := hid hD
            clear hD
            by_cases he : D = t
            · have he2 : ((⟨D.toArray⟩ : ByteArray).toList == (⟨t.toArray⟩ : ByteArray).toList) = true := by rw [he]; simp
              have he3 : (D == t) = true := by rw [he]; simp
              have HE := hid he
              clear he
              go_wp2_with (go_at_call 41; refine HDC.out.mono ?_; rintro e w1 ⟨rfl, hb⟩; have HB := hid hb; clear hb)
              go_ret2
              exact ⟨ret_num (by rw [HR.out, HDD.out, if_pos HE.out]), HB.out⟩
            · have he2 : ((⟨D.toArray⟩ : ByteArray).toList == (⟨t.toArray⟩ : ByteArray).toList) = false := by rw [mk_toList, mk_toList, beq_eq_false_iff_ne]; exact he
              have he3 : (D == t) = false := by rw [beq_eq_false_iff_ne]; exact he
              have HE := hid he
              clear he
              go_wp2_with (go_at_call 41; refine HDC.out.mono ?_; rintro e w1 ⟨rfl, hb⟩; have HB := hid hb; clear hb)
              go_ret2
              exact ⟨ret_num (by rw [HR.out, HDD.out, if_neg HE.out]), HB.out⟩
      · have HLEN := hid hlen
        have hshort : t.length < 1 ∨ 18 < t.length := by omega
        clear hlen
        rcases hshort with h9 | h9
        · first
          | (exfalso; have h8 := List.length_pos_iff.2 hne; omega)
          | (go_wp2_with fail
             go_ret2
             exact ⟨ret_num (numR_short (by rw [HT.out]; exact HLEN.out)), Below.refl _ _⟩)
        · go_wp2_with fail
          go_ret2
          exact ⟨ret_num (numR_short (by rw [HT.out]; exact HLEN.out)), Below.refl _ _⟩
end Go.Proofs.YtampbbknhbhcbaaDoor
