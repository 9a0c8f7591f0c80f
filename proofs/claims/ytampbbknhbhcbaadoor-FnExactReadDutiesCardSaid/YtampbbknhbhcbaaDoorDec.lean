/- A number in decimal, by the reference. -/
import Derived.Test.YtampbbknhbhcbaaDoorMarkInt
import Derived.Test.YtampbbknhbhcbaaDoorIn
import Derived.Laws.IdiomStrings
import Derived.Laws.Concat
import Derived.Lib.ItoaNum
import Derived.Lib.BufferRead
import Derived.Deep.CutBlock
namespace Go.Proofs.YtampbbknhbhcbaaDoor
open Go.RowKit
set_option linter.unusedVariables false
instance : Enc UInt8 := ⟨1, fun b => [.int .u8 (b.toNat : Int)], fun _ => rfl, fun _ u h => by simp at h; subst h; rfl⟩
theorem elU8 : El Tryd.prog 87 5 (0 : UInt8) :=
  El.mk' (z := .int .u8 0) (bytes := 1) Tryd.underlying87 (by kernel_rfl) (by decide) rfl (by decide)
theorem Rd.u8 {w : World} {A : Option Addr} {xs : List UInt8} (h : Rd w A xs) {k : Nat} (hk : k < xs.length) : ∃ b off, A = some ⟨b, off, none⟩ ∧ w.cell? ⟨b, off + k, none⟩ = some (.int .u8 (xs[k].toNat : Int)) := by
  obtain ⟨b, off, hA, hc⟩ := h.2 k hk
  exact ⟨b, off, hA, by simpa [Enc.size] using hc 0 _ rfl⟩
/-- string(b), b a slice of bytes. -/
theorem conv_u8 (w : World) (A : Option Addr) (l : List UInt8) (cap : Nat) (h : Rd w A l) : (convert 87 9 (.slice A l.length cap)).run Tryd.prog w = .ok (.string ⟨l.toArray⟩) w := by
  cases l with
  | nil =>
    cases A with
    | none => exact Lib.run_convert_nil_bytes w _ _ _ _ Tryd.underlying87 Tryd.underlying5 Tryd.underlying9
    | some a => exact run_convert_bytes_back w _ _ _ a cap [] Tryd.underlying87 Tryd.underlying5 Tryd.underlying9 (fun j hj => absurd hj (by simp))
  | cons x l =>
    obtain ⟨b, off, rfl, -⟩ := h.u8 (k := 0) (by simp)
    refine run_convert_bytes_back w _ _ _ ⟨b, off, none⟩ cap (x :: l) Tryd.underlying87 Tryd.underlying5 Tryd.underlying9 (fun j hj => ?_)
    obtain ⟨b', off', hA, c⟩ := h.u8 hj
    injection hA with hA
    injection hA with h1 h2
    subst h1 h2
    rw [addr_add]
    exact c
/-- The digits ahead of a tail. -/
def decL (m : Nat) (l : List UInt8) : List UInt8 := if m = 0 then l else Lib.decDigits m ++ l
theorem decL_step {m : Nat} (h : 0 < m) (l : List UInt8) : decL (m / 10) (UInt8.ofNat (48 + m % 10) :: l) = decL m l := by
  unfold decL
  rw [if_neg (show ¬ m = 0 by omega)]
  by_cases h1 : m < 10
  · rw [if_pos (by omega), Lib.decDigits, dif_pos h1, Nat.mod_eq_of_lt h1]; rfl
  · rw [if_neg (by omega)]
    conv => rhs; rw [Lib.decDigits, dif_neg h1]
    simp
theorem digit_enc (d : Nat) (h : d < 10) : (Enc.enc (UInt8.ofNat (48 + d))).toArray = #[Value.int .u8 (48 + (d : Int))] := by
  show #[Value.int .u8 (((UInt8.ofNat (48 + d)).toNat : Nat) : Int)] = _
  rw [UInt8.toNat_ofNat', Nat.mod_eq_of_lt (by omega)]
  simp
theorem decDigits_pos (m : Nat) : 0 < (Lib.decDigits m).length := by
  rw [Lib.decDigits]
  split <;> simp
theorem decL_len0 {m : Nat} : (decL m []).length = 0 ↔ m = 0 := by
  unfold decL
  split
  · rename_i h; simp [h]
  · rename_i h
    have := decDigits_pos m
    constructor
    · intro h2; rw [List.append_nil] at h2; omega
    · intro h2; exact absurd h2 h
theorem decDigits_len : ∀ (j m : Nat), m < 10 ^ (j + 1) → (Lib.decDigits m).length ≤ j + 1
  | 0, m, h => by rw [Lib.decDigits, dif_pos (by omega)]; simp
  | j + 1, m, h => by
    rw [Lib.decDigits]
    split
    · simp
    · rw [List.length_append]
      have := decDigits_len j (m / 10) (by rw [Nat.pow_succ] at h; omega)
      simp only [List.length_cons, List.length_nil]
      omega
theorem decL_len {k n : Nat} {l : List UInt8} (h : decL k l = decL n []) (hn : n ≤ 9223372036854775808) : l.length ≤ 20 := by
  have h1 : (decL n []).length ≤ 20 := by
    unfold decL
    split
    · simp
    · have := decDigits_len 19 n (by omega)
      simpa using this
  have h2 : l.length ≤ (decL k l).length := by
    unfold decL
    split
    · exact Nat.le_refl _
    · simp
  rw [h] at h2
  omega
theorem own_digit {w : World} {base : Nat} (d : Nat) (hd : d < 10) (z : Int) (hz : z = 48 + (d : Int)) (hb : base ≤ w.heap.size) : Own (w.alloc (.cells #[.int .u8 z] 5)) base 5 (.slice (some ⟨w.heap.size, 0, none⟩) 1 1) [UInt8.ofNat (48 + d)] := by
  subst hz
  rw [← digit_enc d hd]
  exact Own.one _ hb
set_option maxHeartbeats 2000000 in
theorem specDecPos (n : Nat) (hn : (n : Int) ≤ 9223372036854775807) (w : World) :
    Calls Tryd.prog 41 #[.int .i64 n] w fun e w' => e = .returned (.string ⟨(Lib.itoa n).toArray⟩) ∧ Below w.heap.size w w' := by
  have hI : Lib.itoa (n : Int) = Lib.decDigits n := by unfold Lib.itoa; rw [if_neg (by omega)]; rfl
  rw [hI]
  clear hI
  have HN := hid hn
  go_enter Tryd.func41, Tryd.ntmps41
  go_wp2_with fail
  go_loopw [3, 4] (fun v i wr => ∃ (k : Nat) (l : List UInt8), i = .int .i64 k ∧ k ≤ n ∧ decL k l = decL n [] ∧ Own wr w.heap.size 5 v l ∧ Below w.heap.size w wr) (fun _ i _ => (intOf i).toNat)
  case atStart => exact ⟨n, [], rfl, Nat.le_refl _, rfl, Own.empty (Nat.le_refl _), (Below.refl _ _).alloc (Nat.le_refl _) _⟩
  case round =>
    obtain ⟨k, l, rfl, hk, hd, ho, hb⟩ := hrel
    have hl := decL_len hd (by omega)
    have HD := hid hd
    clear hd
    have hbs := hb.size
    obtain ⟨A, c, rfl⟩ := ho.form
    have HO := hid ho
    have HB := hid hb
    clear ho hb
    by_cases h0 : 0 < k
    · have hkn : ((k : Int) != 0) = true := by rw [bne_iff_ne]; omega
      have HS := hid (decL_step h0 l)
      have HR := hid (HO.out.rd (by omega))
      go_wp2_with (at_builtin; (refine wpList_appendRd elU8 _ rfl (.tmp 21) (.tmp 22) rfl w.heap.size _ [UInt8.ofNat (48 + k % 10)] l rfl (own_digit (k % 10) (by omega) _ (by omega) hbs) A c rfl (HR.out.alloc _) (by simp) (le_alloc hbs) ?_); intro v' w' hown' hg' hat'; refine keep_ ?_)
      have hbn := below_own (HB.out.alloc hbs _) (own_digit (k % 10) (by omega) _ (by omega) hbs) hg' (Nat.le_refl _) (le_alloc hbs)
      refine go_ ?_
      go_wp2_with fail
      go_roundw
      case rel => exact ⟨k / 10, UInt8.ofNat (48 + k % 10) :: l, by go_num, by omega, by rw [HS.out, HD.out], hown', hbn⟩
      case measure => simp [intOf]; omega
    · have hk0 : k = 0 := by omega
      subst hk0
      have hdl : l = decL n [] := by have := HD.out; rwa [decL, if_pos rfl] at this
      subst hdl
      have HCV := hid (conv_u8 wr A _ c (HO.out.rd (by omega)))
      clear hk hn
      by_cases hn0 : n = 0
      · subst hn0
        have e0 : (decL 0 []).length = 0 := by rfl
        rw [e0]
        clear HCV HO HD
        go_wp2_with fail
        go_ret
        exact ⟨by rw [Lib.decDigits, dif_pos (by decide)]; rfl, HB.out⟩
      · have hll : ¬ (decL n []).length = 0 := fun h => hn0 (decL_len0.1 h)
        have hcv := HCV.out
        have hde : decL n [] = Lib.decDigits n := by unfold decL; rw [if_neg hn0, List.append_nil]
        have HDE := hid hde
        clear hde hn0 HD HCV HO hl
        generalize decL n [] = L at *
        generalize L.length = m at *
        have hmn : ((m : Int) == 0) = false := by rw [beq_eq_false_iff_ne]; omega
        have hng : ¬ (n : Int) < 0 := by omega
        have hng2 : decide ((n : Int) < 0) = false := decide_eq_false hng
        go_wp2_with fail
        go_ret
        exact ⟨by rw [← HDE.out]; rfl, HB.out⟩
theorem tmod_neg (k : Nat) : (-(k : Int)).tmod 10 = -((k % 10 : Nat) : Int) := by
  rw [Int.neg_tmod, Int.tmod_eq_emod_of_nonneg (by omega)]; omega
theorem tdiv_neg (k : Nat) : (-(k : Int)).tdiv 10 = -((k / 10 : Nat) : Int) := by
  rw [Int.neg_tdiv, Int.tdiv_eq_ediv_of_nonneg (by omega)]; omega
set_option maxHeartbeats 2000000 in
theorem specDecNeg (n : Nat) (h0n : 0 < n) (hn : (n : Int) ≤ 9223372036854775808) (w : World) :
    Calls Tryd.prog 41 #[.int .i64 (-(n : Int))] w fun e w' => e = .returned (.string ⟨(Lib.itoa (-(n : Int))).toArray⟩) ∧ Below w.heap.size w w' := by
  have hI : Lib.itoa (-(n : Int)) = 45 :: Lib.decDigits n := by unfold Lib.itoa; rw [if_pos (by omega)]; simp
  rw [hI]
  clear hI
  obtain ⟨z, hz⟩ : ∃ z : Int, z = -(n : Int) := ⟨_, rfl⟩
  rw [← hz]
  have HZ := hid hz
  have HN := hid hn
  have hzn : z < 0 := by omega
  have hzd : decide (z < 0) = true := decide_eq_true hzn
  clear hz hn
  go_enter Tryd.func41, Tryd.ntmps41
  go_wp2_with fail
  go_loopw [3, 4] (fun v i wr => ∃ (k : Nat) (l : List UInt8) (x : Int), i = .int .i64 x ∧ x = -(k : Int) ∧ k ≤ n ∧ decL k l = decL n [] ∧ Own wr w.heap.size 5 v l ∧ Below w.heap.size w wr) (fun _ i _ => (-(intOf i)).toNat)
  case atStart => exact ⟨n, [], z, rfl, HZ.out, Nat.le_refl _, rfl, Own.empty (Nat.le_refl _), (Below.refl _ _).alloc (Nat.le_refl _) _⟩
  case round =>
    obtain ⟨k, l, x, rfl, hx, hk, hd, ho, hb⟩ := hrel
    have hl := decL_len hd (by have := HN.out; omega)
    have HD := hid hd
    clear hd
    have hbs := hb.size
    obtain ⟨A, c, rfl⟩ := ho.form
    have HO := hid ho
    have HB := hid hb
    have HX := hid hx
    have HK := hid hk
    clear ho hb
    by_cases h0 : 0 < k
    · have hkn : (x != 0) = true := by rw [bne_iff_ne]; omega
      have HS := hid (decL_step h0 l)
      have HR := hid (HO.out.rd (by omega))
      have hm : x.tmod 10 = -((k % 10 : Nat) : Int) := by rw [hx]; exact tmod_neg k
      have hq : x.tdiv 10 = -((k / 10 : Nat) : Int) := by rw [hx]; exact tdiv_neg k
      have hdl : k % 10 < 10 := Nat.mod_lt _ (by decide)
      have hkq := Nat.div_lt_self h0 (show 1 < 10 by decide)
      generalize k % 10 = d at hm HS hdl
      generalize k / 10 = q at hq HS hkq
      clear hx hk
      have e1 : IntKind.i64.wrap (x.tmod 10) = x.tmod 10 := by rw [hm]; exact IntWalk.i64_in _ (by omega)
      have e2 : IntKind.i64.wrap (x.tdiv 10) = x.tdiv 10 := by rw [hq]; exact IntWalk.i64_in _ (by have := HK.out; have := HN.out; omega)
      by_cases hd0 : d = 0
      · have hdd : decide (-(d : Int) < 0) = false := decide_eq_false (by omega)
        subst hd0
        go_wp2_with (at_builtin; (refine wpList_appendRd elU8 _ rfl (.tmp 21) (.tmp 22) rfl w.heap.size _ [UInt8.ofNat (48 + 0)] l rfl (own_digit 0 (by omega) _ (by omega) hbs) A c rfl (HR.out.alloc _) (by simp) (le_alloc hbs) ?_); intro v' w' hown' hg' hat'; refine keep_ ?_)
        have hbn := below_own (HB.out.alloc hbs _) (own_digit 0 (by omega) _ (by omega) hbs) hg' (Nat.le_refl _) (le_alloc hbs)
        refine go_ ?_
        go_wp2_with fail
        go_roundw
        case rel => exact ⟨q, UInt8.ofNat (48 + 0) :: l, _, rfl, by have := HK.out; have := HN.out; unfold wrap64; omega, by have := HK.out; omega, by rw [HS.out, HD.out], hown', hbn⟩
        case measure => simp [intOf]; have := HX.out; have := HK.out; have := HN.out; unfold wrap64; omega
      · have hdd : decide (-(d : Int) < 0) = true := decide_eq_true (by omega)
        go_wp2_with (at_builtin; (refine wpList_appendRd elU8 _ rfl (.tmp 21) (.tmp 22) rfl w.heap.size _ [UInt8.ofNat (48 + d)] l rfl (own_digit d (by omega) _ (by omega) hbs) A c rfl (HR.out.alloc _) (by simp) (le_alloc hbs) ?_); intro v' w' hown' hg' hat'; refine keep_ ?_)
        have hbn := below_own (HB.out.alloc hbs _) (own_digit d (by omega) _ (by omega) hbs) hg' (Nat.le_refl _) (le_alloc hbs)
        refine go_ ?_
        go_wp2_with fail
        go_roundw
        case rel => exact ⟨q, UInt8.ofNat (48 + d) :: l, _, rfl, by have := HK.out; have := HN.out; unfold wrap64; omega, by have := HK.out; omega, by rw [HS.out, HD.out], hown', hbn⟩
        case measure => simp [intOf]; have := HX.out; have := HK.out; have := HN.out; unfold wrap64; omega
    · have hk0 : k = 0 := by omega
      subst hk0
      have hx0 : x = 0 := by omega
      subst hx0
      have hdl : l = decL n [] := by have := HD.out; rwa [decL, if_pos rfl] at this
      subst hdl
      have HCV := hid (conv_u8 wr A _ c (HO.out.rd (by omega)))
      have hll : ¬ (decL n []).length = 0 := fun h => by have := decL_len0.1 h; omega
      have hcv := HCV.out
      have hde : decL n [] = Lib.decDigits n := by unfold decL; rw [if_neg (by omega), List.append_nil]
      have HDE := hid hde
      clear hde HD HCV HO hx hk HX HK
      generalize decL n [] = L at *
      generalize hLm : L.length = m at *
      have HLM := hid hLm
      clear hLm
      have hmn : ((m : Int) == 0) = false := by rw [beq_eq_false_iff_ne]; omega
      have hadd : (Op.stringOp .add ⟨#[45]⟩ ⟨L.toArray⟩).run Tryd.prog wr = .ok (.string ⟨(45 :: L).toArray⟩) wr := run_string_add_lists wr [45] L (by simp) (by rw [HLM.out]; omega)
      go_wp2_with fail
      go_ret
      exact ⟨by rw [← HDE.out]; rfl, HB.out⟩
theorem specDec (n : Int) (h0 : -9223372036854775808 ≤ n) (h1 : n ≤ 9223372036854775807) (w : World) :
    Calls Tryd.prog 41 #[.int .i64 n] w fun e w' => e = .returned (.string ⟨(Lib.itoa n).toArray⟩) ∧ Below w.heap.size w w' := by
  by_cases h : 0 ≤ n
  · obtain ⟨m, rfl⟩ : ∃ m : Nat, n = m := ⟨n.toNat, by omega⟩
    exact specDecPos m h1 w
  · obtain ⟨m, rfl⟩ : ∃ m : Nat, n = -(m : Int) := ⟨(-n).toNat, by omega⟩
    exact specDecNeg m (by omega) (by omega) w
theorem itoa_len {n : Int} (h0 : -9223372036854775808 ≤ n) (h1 : n ≤ 9223372036854775807) : (Lib.itoa n).length ≤ 21 := by
  unfold Lib.itoa
  split
  · have := decDigits_len 19 n.natAbs (by omega)
    simp only [List.length_cons]
    omega
  · have := decDigits_len 19 n.toNat (by omega)
    omega
end Go.Proofs.YtampbbknhbhcbaaDoor
