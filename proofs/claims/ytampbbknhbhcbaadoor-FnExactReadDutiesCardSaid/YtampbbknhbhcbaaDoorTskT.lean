/- TaskText. -/
import Derived.Test.YtampbbknhbhcbaaDoorStr
import Derived.Test.YtampbbknhbhcbaaDoorTaskValid
import Derived.Lib.Join
namespace Go.Proofs.YtampbbknhbhcbaaDoor
open Go.RowKit
set_option linter.unusedVariables false
def aftW : List UInt8 := [32, 97, 102, 116, 101, 114, 32]
def headT (d c y : Int) : List UInt8 := (((([100, 97, 121, 115, 32] ++ Lib.itoa d) ++ [32, 99, 111, 115, 116, 32]) ++ Lib.itoa c) ++ [32, 99, 108, 97, 121, 32]) ++ Lib.itoa y
def aftT (H : List UInt8) (l : List Int) (k : Nat) : List UInt8 := if k = 0 then H else H ++ (aftW ++ Lib.join ((l.take k).map Lib.itoa) [44])
def taskText (d c y : Int) (l : List Int) : List UInt8 := if oneB 10 ⟨d, c, y, l⟩ = true then aftT (headT d c y) l l.length else []
theorem join_snoc (ys : List (List UInt8)) (x sep : List UInt8) (h : ys ≠ []) : Lib.join (ys ++ [x]) sep = (Lib.join ys sep ++ sep) ++ x := by
  cases ys with
  | nil => exact absurd rfl h
  | cons y r =>
    rw [List.cons_append, Lib.join_cons, Lib.join_cons]
    simp [Lib.joinTail]
theorem aft_zero {H : List UInt8} {l : List Int} (h : 0 < l.length) : aftT H l 1 = (H ++ aftW) ++ Lib.itoa l[0] := by
  unfold aftT
  rw [if_neg (by omega), take_next (k := 0) h]
  simp [Lib.join_one]
theorem aft_next {H : List UInt8} {l : List Int} {k : Nat} (hk : 0 < k) (h : k < l.length) : aftT H l (k + 1) = (aftT H l k ++ [44]) ++ Lib.itoa l[k] := by
  unfold aftT
  rw [if_neg (by omega), if_neg (by omega), take_next h, List.map_append, List.map_cons, List.map_nil, join_snoc _ _ _ (by
    intro hn
    have := congrArg List.length hn
    rw [List.length_map, List.length_take] at this
    simp only [List.length_nil] at this
    omega)]
  simp [List.append_assoc]
def TaskFit (l : List Int) : Prop := l.length ≤ 11 ∧ ∀ k, (h : k < l.length) → 0 ≤ l[k] ∧ l[k] ≤ 10
theorem rises_fit {l : List Int} (h : risesB 0 10 l = true) : TaskFit l := by
  have key : ∀ k, (hk : k < l.length) → (k : Int) ≤ l[k] := by
    intro k
    induction k with
    | zero => intro hk; exact (rises_at h hk).1.1
    | succ k ih =>
      intro hk
      have i1 := ih (by omega)
      have i2 := (rises_at h hk).2 (by omega) (by omega)
      simp only [Nat.add_sub_cancel] at i2
      omega
  refine ⟨?_, fun k hk => (rises_at h hk).1⟩
  rcases Nat.lt_or_ge 11 l.length with h1 | h1
  · have i1 := key 11 h1
    have i2 := (rises_at h h1).1.2
    omega
  · exact h1
theorem one_parts {d c y : Int} {l : List Int} (h : oneB 10 ⟨d, c, y, l⟩ = true) : aloneB d c y = true ∧ risesB 0 10 l = true ∧ ((1 ≤ d ∧ d ≤ 1000) ∧ (0 ≤ c ∧ c ≤ 1000000) ∧ (0 ≤ y ∧ y ≤ 10000)) ∧ TaskFit l := by
  unfold oneB at h
  rw [Bool.and_eq_true] at h
  obtain ⟨h1, h2⟩ := h
  have h3 := h1
  unfold aloneB at h3
  simp only [Bool.and_eq_true, inB_true] at h3
  exact ⟨h1, h2, ⟨h3.1.1, h3.1.2, h3.2⟩, rises_fit h2⟩
theorem headT_len {d c y : Int} (h : (1 ≤ d ∧ d ≤ 1000) ∧ (0 ≤ c ∧ c ≤ 1000000) ∧ (0 ≤ y ∧ y ≤ 10000)) : (headT d c y).length ≤ 100 := by
  have l1 := itoa_len (n := d) (by omega) (by omega)
  have l2 := itoa_len (n := c) (by omega) (by omega)
  have l3 := itoa_len (n := y) (by omega) (by omega)
  unfold headT
  simp only [List.length_append, List.length_cons, List.length_nil]
  omega
theorem aft_len {H : List UInt8} {l : List Int} (hH : H.length ≤ 100) (hl : TaskFit l) : ∀ k, k ≤ l.length → (aftT H l k).length ≤ 100 + 30 * k
  | 0, _ => by unfold aftT; rw [if_pos rfl]; omega
  | 1, hk => by
    have l1 := itoa_len (n := l[0]) (by have := hl.2 0 hk; omega) (by have := hl.2 0 hk; omega)
    rw [aft_zero hk]
    unfold aftW
    simp only [List.length_append, List.length_cons, List.length_nil]
    omega
  | k + 2, hk => by
    have i1 := aft_len hH hl (k + 1) (by omega)
    have l1 := itoa_len (n := l[k + 1]) (by have := hl.2 (k + 1) hk; omega) (by have := hl.2 (k + 1) hk; omega)
    rw [aft_next (by omega) hk]
    simp only [List.length_append, List.length_cons, List.length_nil]
    omega
/-- The head of the text: its five sums, as facts for a walk. -/
theorem head_cats {d c y : Int} (h : (1 ≤ d ∧ d ≤ 1000) ∧ (0 ≤ c ∧ c ≤ 1000000) ∧ (0 ≤ y ∧ y ≤ 10000)) : ∃ D C Y X1 X2 X3 X4 X5 H : List UInt8, Lib.itoa d = D ∧ Lib.itoa c = C ∧ Lib.itoa y = Y ∧ H = headT d c y ∧
    (∀ w, (Op.stringOp .add ⟨#[100, 97, 121, 115, 32]⟩ ⟨D.toArray⟩).run Tryd.prog w = .ok (.string ⟨X1.toArray⟩) w) ∧
    (∀ w, (Op.stringOp .add ⟨X1.toArray⟩ ⟨#[32, 99, 111, 115, 116, 32]⟩).run Tryd.prog w = .ok (.string ⟨X2.toArray⟩) w) ∧
    (∀ w, (Op.stringOp .add ⟨X2.toArray⟩ ⟨C.toArray⟩).run Tryd.prog w = .ok (.string ⟨X3.toArray⟩) w) ∧
    (∀ w, (Op.stringOp .add ⟨X3.toArray⟩ ⟨#[32, 99, 108, 97, 121, 32]⟩).run Tryd.prog w = .ok (.string ⟨X4.toArray⟩) w) ∧
    (∀ w, (Op.stringOp .add ⟨X4.toArray⟩ ⟨Y.toArray⟩).run Tryd.prog w = .ok (.string ⟨H.toArray⟩) w) := by
  have l1 := itoa_len (n := d) (by omega) (by omega)
  have l2 := itoa_len (n := c) (by omega) (by omega)
  have l3 := itoa_len (n := y) (by omega) (by omega)
  refine ⟨_, _, _, _, _, _, _, [], _, rfl, rfl, rfl, rfl, cat rfl (by simp) (by omega), cat rfl (by simp; omega) (by simp), cat rfl (by simp; omega) (by omega), cat rfl (by simp; omega) (by simp), cat rfl (by simp; omega) (by omega)⟩
set_option maxRecDepth 100000 in
set_option maxHeartbeats 4000000 in
theorem specTaskText (d c y : Int) (A : Option Addr) (q : Nat) (l : List Int) (w : World) (hA : Rd w A l) :
    Calls Tryd.prog 24 #[.agg #[.int .i64 d, .int .i64 c, .int .i64 y, .slice A l.length q]] w fun e w' => e = .returned (.string ⟨(taskText d c y l).toArray⟩) ∧ Below w.heap.size w w' := by
  obtain ⟨R, hR⟩ : ∃ R, taskText d c y l = R := ⟨_, rfl⟩
  rw [hR]
  have HB := hid ((Below.refl w.heap.size w).alloc (Nat.le_refl _) (.cells #[.int .i64 d, .int .i64 c, .int .i64 y, .slice A l.length q] 50))
  have hA0 := hA.below HB.out
  have hn := hA.len
  by_cases hv : oneB 10 ⟨d, c, y, l⟩ = true
  · obtain ⟨g1, g2, g3, g4⟩ := one_parts hv
    have hH := headT_len g3
    have h1 := g4.1
    unfold taskText at hR
    rw [if_pos hv] at hR
    obtain ⟨D, C, Y, X1, X2, X3, X4, X5, H, eD, eC, eY, eH, k1, k2, k3, k4, k5⟩ := head_cats g3
    have DD := specDecE d D (by omega) (by omega) (hid eD)
    have DC := specDecE c C (by omega) (by omega) (hid eC)
    have DY := specDecE y Y (by omega) (by omega) (hid eY)
    rw [← eH] at hR hH
    have HR := hid hR
    clear hR eD eC eY eH X5
    go_enter Tryd.func24, Tryd.ntmps24
    go_wp2_with ((go_at_call 44; refine Calls.mono (specOne _ _ ⟨d, c, y, l⟩ A q 11 _ ?_ ?_ ?_ ?_ hA0 (by omega) (by omega)) ?_; simp [go_sem]; simp [go_sem]; simp [go_sem]; simp [go_sem]; rintro e w' ⟨rfl, hb⟩; rw [show oneB (11 - 1) ⟨d, c, y, l⟩ = true from hv]; obtain ⟨y0, rfl⟩ := below_ex hb; clear hb; refine keep_ ?_))
    refine go_ ?_
    go_wp2_with fail
    refine wp_region_more (by kernel_rfl) (by kernel_rfl) ?_
    repeat (go_big_quiet_step ((go_at_call 41; first | with_reducible exact quiet_below (DD _) | with_reducible exact quiet_below (DC _) | with_reducible exact quiet_below (DY _))))
    refine wpQuiet_nil ?_
    rintro _ ⟨nq, rfl⟩
    clear k1 k2 k3 k4 k5 DD DC DY
    obtain ⟨yz, hyz⟩ : ∃ yz, ((w.alloc (.cells #[.int .i64 d, .int .i64 c, .int .i64 y, .slice A l.length q] 50)).more y0).more nq = (w.alloc (.cells #[.int .i64 d, .int .i64 c, .int .i64 y, .slice A l.length q] 50)).more yz := more_trans
    rw [hyz]
    clear hyz
    go_wp2_with fail
    go_loopw [3, 4] (fun a i wr => ∃ (k : Nat) (L : List UInt8), k ≤ l.length ∧ i = .int .i64 k ∧ a = .string ⟨L.toArray⟩ ∧ L = aftT H l k ∧ ∃ m, wr = (w.alloc (.cells #[.int .i64 d, .int .i64 c, .int .i64 y, .slice A l.length q] 50)).more m) (fun _ i _ => l.length - (intOf i).toNat)
    case atStart => exact ⟨0, H, Nat.zero_le _, rfl, rfl, rfl, _, rfl⟩
    case round =>
      obtain ⟨k, L, hk, rfl, rfl, hL, m, rfl⟩ := hrel
      have hl : L.length ≤ 2000 := by rw [hL]; have := aft_len (H := H) hH g4 k hk; omega
      have HL := hid hL
      clear hL
      by_cases hlt : k < l.length
      · obtain ⟨b, off, rfl, c1⟩ := hA0.int hlt
        have hd := g4.2 k hlt
        have l1 := itoa_len (n := l[k]) (by omega) (by omega)
        obtain ⟨O, hO⟩ : ∃ O, Lib.itoa l[k] = O := ⟨_, rfl⟩
        rw [hO] at l1
        have DO := specDecE l[k] O (by omega) (by omega) (hid hO)
        by_cases h0 : k = 0
        · obtain ⟨P, hP⟩ : ∃ P, L ++ [32, 97, 102, 116, 101, 114, 32] = P := ⟨_, rfl⟩
          have lP : P.length ≤ 3000 := by rw [← hP, List.length_append]; simp; omega
          obtain ⟨Z, hZ⟩ : ∃ Z, P ++ O = Z := ⟨_, rfl⟩
          have HN : Hid (Z = aftT H l (k + 1)) := by
            show Z = _
            rw [← hZ, ← hP, ← hO, HL.out]
            subst h0
            exact (aft_zero hlt).symm
          have k1 := cat hP (by omega) (by simp)
          have k2 := cat hZ (by omega) (by omega)
          have h0' : ((k : Int) == 0) = true := by rw [beq_iff_eq]; omega
          have H0 := hid h0
          clear hO hP hZ hA hA0 h0
          go_wp2_with ((go_at_call 41; refine (DO _).mono ?_; rintro e w' ⟨rfl, hb⟩; obtain ⟨y1, rfl⟩ := below_ex hb; clear hb; refine keep_ ?_))
          refine go_ ?_
          go_wp2_with fail
          go_roundw
          case rel => exact ⟨k + 1, Z, by omega, by go_num, rfl, HN.out, more_trans⟩
          case measure => simp [intOf]; omega
        · obtain ⟨P, hP⟩ : ∃ P, L ++ [44] = P := ⟨_, rfl⟩
          have lP : P.length ≤ 3000 := by rw [← hP, List.length_append]; simp; omega
          obtain ⟨Z, hZ⟩ : ∃ Z, P ++ O = Z := ⟨_, rfl⟩
          have HN : Hid (Z = aftT H l (k + 1)) := by
            show Z = _
            rw [← hZ, ← hP, ← hO, HL.out]
            exact (aft_next (by omega) hlt).symm
          have k1 := cat hP (by omega) (by simp)
          have k2 := cat hZ (by omega) (by omega)
          have h0' : ((k : Int) == 0) = false := by rw [beq_eq_false_iff_ne]; omega
          clear hO hP hZ hA hA0
          go_wp2_with ((go_at_call 41; refine (DO _).mono ?_; rintro e w' ⟨rfl, hb⟩; obtain ⟨y1, rfl⟩ := below_ex hb; clear hb; refine keep_ ?_))
          refine go_ ?_
          go_wp2_with fail
          go_roundw
          case rel => exact ⟨k + 1, Z, by omega, by go_num, rfl, HN.out, more_trans⟩
          case measure => simp [intOf]; omega
      · have hkl : k = l.length := by omega
        subst hkl
        go_wp2_with fail
        go_ret
        exact ⟨by rw [← HR.out, ← HL.out]; rfl, below_go HB.out HB.out.size⟩
  · have hv : oneB 10 ⟨d, c, y, l⟩ = false := by simpa using hv
    have hE : R = [] := by rw [← hR]; unfold taskText; rw [hv]; rfl
    subst hE
    clear hR
    go_enter Tryd.func24, Tryd.ntmps24
    go_wp2_with ((go_at_call 44; refine Calls.mono (specOne _ _ ⟨d, c, y, l⟩ A q 11 _ ?_ ?_ ?_ ?_ hA0 (by omega) (by omega)) ?_; simp [go_sem]; simp [go_sem]; simp [go_sem]; simp [go_sem]; rintro e w' ⟨rfl, hb⟩; rw [show oneB (11 - 1) ⟨d, c, y, l⟩ = false from hv]; obtain ⟨y0, rfl⟩ := below_ex hb; clear hb; refine keep_ ?_))
    refine go_ ?_
    go_wp2_with fail
    go_ret
    exact ⟨rfl, below_go HB.out HB.out.size⟩
end Go.Proofs.YtampbbknhbhcbaaDoor
