/- sort.symMerge_func where one side has one element: walked. -/
import Derived.Test.YtampbbknhbhcbaaSortIns
namespace Go.Proofs.Ytampbbknhbhcbaa
open Go.RowKit Go.Sort Go.Lib
set_option linter.unusedVariables false
set_option linter.unusedSimpArgs false
section
variable {α : Type}
theorem pair_at {R : α → α → Prop} (ht : ∀ a b c, R a b → R b c → R a c) {v : List α} {x : α} {c : Nat} (hc : c ≤ v.length) (hp : v.Pairwise R) (h1 : ∀ (h : 0 < c), R (v[c - 1]'(by omega)) x) (h2 : ∀ (h : c < v.length), R x v[c]) : (v.take c ++ x :: v.drop c).Pairwise R := by
  have hp2 : (v.take c ++ v.drop c).Pairwise R := by rw [List.take_append_drop]; exact hp
  have hg := List.pairwise_iff_getElem.1 hp
  refine pair_ins hp2 (fun z hz => ?_) (fun z hz => ?_)
  · obtain ⟨i, hi, rfl⟩ := List.getElem_of_mem hz
    rw [List.length_take] at hi
    rw [List.getElem_take]
    have hx := h1 (by omega)
    by_cases he : i = c - 1
    · subst he; exact hx
    · exact ht _ _ _ (hg i (c - 1) (by omega) (by omega) (by omega)) hx
  · obtain ⟨i, hi, rfl⟩ := List.getElem_of_mem hz
    rw [List.length_drop] at hi
    rw [List.getElem_drop]
    have hx := h2 (by omega)
    by_cases he : i = 0
    · subst he; exact hx
    · exact ht _ _ _ hx (hg c (c + i) (by omega) (by omega) (by omega))
theorem half_range (i j : Nat) (h : i < j) : i ≤ (i + j) / 2 ∧ (i + j) / 2 < j := by omega
end
section
variable {α : Type} [Inhabited α] {enc : α → Value} {lt : α → α → Bool} {g : Nat} {lb : Array Value} {sf : Nat} {sb : Array Value} {blk off size : Nat} {w0 W : World}
set_option maxRecDepth 100000 in
set_option maxHeartbeats 8000000 in
theorem symMergeL_ (E : SEnv enc lt g lb sf sb blk off size W) (R : α → α → Prop) (ht : ∀ a b c, R a b → R b c → R a c) (p : List α) (x : α) (v r : List α) (a m b : Nat) (hW : SW enc W blk off (p ++ [x] ++ v ++ r).toArray W) (hl : (p ++ [x] ++ v ++ r).length = size)
    (ha : a = p.length) (hm : m = p.length + 1) (hb : b = p.length + 1 + v.length) (hv : v.Pairwise R) (hx : ∀ y ∈ v, Bef lt R x y) :
    Calls Try.prog 88 #[.agg #[.func (.func g) #[] lb, .func (.func sf) #[] sb], .int .i64 a, .int .i64 m, .int .i64 b] W fun e w' =>
      e = .returned (.tuple #[]) ∧ ∃ s', s'.Perm ([x] ++ v) ∧ s'.Pairwise R ∧ SW enc W blk off (p ++ s' ++ r).toArray w' := by
  have hsz := E.le
  have hlt := E.lt
  have hll : p.length + 1 + v.length + r.length = size := by simp only [List.length_append, List.length_cons, List.length_nil] at hl; omega
  have eg := E.eg
  have HE := hid E
  have HT := hid ht
  have HV := hid hv
  have HX := hid hx
  have HL := hid hl
  have HW0 := hid (hW.alloc (.cells #[.func (.func g) #[] lb, .func (.func sf) #[] sb] 97))
  obtain ⟨V0, hV0⟩ : ∃ n, v.length = n := ⟨_, rfl⟩
  have hnn : a + 1 = m ∧ m + V0 = b ∧ b ≤ size := by omega
  have hm1 : (m : Int) - (a : Int) = 1 := by omega
  have HPL : Hid (p.length = a) := ha.symm
  have HVL := hid hV0
  have hlen : ∀ c, c ≤ V0 → (p ++ v.take c ++ x :: v.drop c ++ r).length = size := fun c hc => by
    simp only [List.length_append, List.length_cons, List.length_take, List.length_drop]; omega
  have HLEN := hid hlen
  clear hW hl hll ha hm hb hv hx E ht hV0 hlen
  go_enter Try.func88, Try.ntmps88
  go_wp2_with fail
  go_loopw [8, 9, 10] (fun i j h wr => ∃ iN jN : Nat, i = .int .i64 iN ∧ j = .int .i64 jN ∧ (m ≤ iN ∧ iN ≤ jN ∧ jN ≤ b) ∧ (m < iN → lt (v.getD (iN - 1 - m) x) x = true) ∧ (jN < b → lt (v.getD (jN - m) x) x = false) ∧
      SW enc W blk off (p ++ [x] ++ v ++ r).toArray wr ∧ wr.cell? ⟨W.heap.size, 0, none⟩ = some (.func (.func g) #[] lb) ∧ wr.cell? ⟨W.heap.size, 1, none⟩ = some (.func (.func sf) #[] sb)) (fun i j _ _ => (intOf j - intOf i).toNat)
  case atStart => exact ⟨m, b, rfl, rfl, by omega, fun h => by omega, fun h => by omega, HW0.out, by simp [go_sem], by simp [go_sem]⟩
  case round =>
    obtain ⟨iN, jN, rfl, rfl, hij, he1, he2, hw, hb0, hb1⟩ := hrel
    have HE1 := hid he1
    have HE2 := hid he2
    have HW2 := hid hw
    clear he1 he2 hw
    by_cases hlt2 : iN < jN
    · obtain ⟨H, hH⟩ : ∃ H, (iN + jN) / 2 = H := ⟨_, rfl⟩
      have hHr := half_range iN jN hlt2
      rw [hH] at hHr
      have hHv : H - m < v.length := by have := HVL.out; omega
      have e1 : p ++ [x] ++ v ++ r = (p ++ [x] ++ v.take (H - m)) ++ v[H - m] :: (v.drop (H - m + 1) ++ r) := by
        conv => lhs; rw [← List.take_append_drop (H - m) v, List.drop_eq_getElem_cons hHv]
        simp only [List.append_assoc, List.cons_append, List.nil_append]
      have i1 : H = (p ++ [x] ++ v.take (H - m)).length := by simp only [List.length_append, List.length_cons, List.length_nil, List.length_take]; have := HPL.out; have := HVL.out; omega
      have e2 : p ++ [x] ++ v ++ r = p ++ x :: (v ++ r) := by simp only [List.append_assoc, List.cons_append, List.nil_append]
      have hls := HE.out.lessAt HW2.out HL.out (i := H) (j := a) (by omega) (by omega) (get_at e1 i1) (get_at e2 HPL.out.symm)
      have hgd : v.getD (H - m) x = v[H - m] := by simp [List.getD, hHv]
      rw [← hgd] at hls
      clear e1 i1 e2 hgd
      have hHi : ((iN : Int) + (jN : Int)) / 2 = (H : Int) := by omega
      clear hH
      cases hlv : lt (v.getD (H - m) x) x with
      | true =>
        rw [hlv] at hls
        have HLV := hid hlv
        clear hlv
        go_wp2_with (go_at_fn g; refine hls.mono ?_; rintro e w' ⟨rfl, q, rfl⟩)
        go_roundw
        case rel => exact ⟨H + 1, jN, by go_num, rfl, by omega, fun _ => by rw [show H + 1 - 1 - m = H - m by omega]; exact HLV.out, HE2.out, HW2.out.drewN _, hb0, hb1⟩
        case measure => simp [intOf]; omega
      | false =>
        rw [hlv] at hls
        have HLV := hid hlv
        clear hlv
        go_wp2_with (go_at_fn g; refine hls.mono ?_; rintro e w' ⟨rfl, q, rfl⟩)
        go_roundw
        case rel => exact ⟨iN, H, rfl, rfl, by omega, HE1.out, fun _ => HLV.out, HW2.out.drewN _, hb0, hb1⟩
        case measure => simp [intOf]; omega
    · have hje : jN = iN := by omega
      subst hje
      have hcv : jN - m ≤ v.length := by have := HVL.out; omega
      have hp1 : ∀ (h : 0 < jN - m), R (v[jN - m - 1]'(by omega)) x := fun h => by
        have h1 := HE1.out (by omega)
        rw [show jN - 1 - m = jN - m - 1 by omega] at h1
        have hk : jN - m - 1 < v.length := by omega
        have hgd : v.getD (jN - m - 1) x = v[jN - m - 1] := by simp [List.getD, hk]
        rw [hgd] at h1
        exact (HX.out _ (List.getElem_mem hk)).1 h1
      have hp2 : ∀ (h : jN - m < v.length), R x v[jN - m] := fun h => by
        have h1 := HE2.out (by have := HVL.out; omega)
        have hgd : v.getD (jN - m) x = v[jN - m] := by simp [List.getD, h]
        rw [hgd] at h1
        exact (HX.out _ (List.getElem_mem h)).2 h1
      have HPP := hid (pair_at HT.out hcv HV.out hp1 hp2)
      clear HE1 HE2 hp1 hp2
      go_wp2_with fail
      go_loopw [11] (fun k wr => ∃ t : Nat, k = .int .i64 ((a : Int) + t) ∧ t ≤ jN - m ∧ SW enc W blk off (p ++ v.take t ++ x :: v.drop t ++ r).toArray wr ∧ wr.cell? ⟨W.heap.size, 1, none⟩ = some (.func (.func sf) #[] sb)) (fun k _ => (jN - intOf k).toNat)
      case atStart => exact ⟨0, val_int (by omega), Nat.zero_le _, by have := HW2.out; simpa using this, hb1⟩
      case round =>
        obtain ⟨t, rfl, htc, hw, hc1⟩ := hrel
        have HW3 := hid hw
        clear hw
        by_cases htt : t < jN - m
        · have htv : t < v.length := by omega
          have e1 : p ++ v.take t ++ x :: v.drop t ++ r = (p ++ v.take t) ++ x :: ([] ++ v[t] :: (v.drop (t + 1) ++ r)) := by
            rw [List.drop_eq_getElem_cons htv]; simp only [List.append_assoc, List.cons_append, List.nil_append]
          have e2 : (p ++ v.take t) ++ v[t] :: ([] ++ x :: (v.drop (t + 1) ++ r)) = p ++ v.take (t + 1) ++ x :: v.drop (t + 1) ++ r := by
            rw [List.take_succ_eq_append_getElem htv]; simp only [List.append_assoc, List.cons_append, List.nil_append]
          have i1 : a + t = (p ++ v.take t).length := by rw [List.length_append, List.length_take]; have := HPL.out; omega
          have i2 : a + t + 1 = (p ++ v.take t).length + 1 + ([] : List α).length := by rw [← i1]; simp
          obtain ⟨wz, s1, s2, s3⟩ := HE.out.swapAt HW3.out (HLEN.out t (by have := HVL.out; omega)) e1 i1 i2
          rw [e2] at s2
          have S2 := hid s2
          have C1 := s3 ⟨W.heap.size, 1, none⟩ _ (by show W.heap.size ≠ blk; omega) hc1
          rw [show ((a + t : Nat) : Int) = (a : Int) + t by omega, show ((a + t + 1 : Nat) : Int) = (a : Int) + t + 1 by omega] at s1
          clear e1 e2 i1 i2 s2 s3
          go_wp2_with fail
          go_roundw
          case rel => exact ⟨t + 1, val_int (by omega), by omega, S2.out, C1⟩
          case measure => simp [intOf]; omega
        · have hte : t = jN - m := by omega
          have F1 : Hid ((v.take (jN - m) ++ x :: v.drop (jN - m)).Perm ([x] ++ v)) := by
            have h := List.perm_middle (a := x) (l₁ := v.take (jN - m)) (l₂ := v.drop (jN - m))
            rw [List.take_append_drop] at h
            exact h
          have F2 : Hid (SW enc W blk off (p ++ (v.take (jN - m) ++ x :: v.drop (jN - m)) ++ r).toArray wr) := by
            have := HW3.out
            rw [hte] at this
            rwa [List.append_assoc p] at this
          clear HW3
          go_wp2_with fail
          (try simp only [Exit.inBlock, Exit.then])
          refine bodyPost_ret (results_none rfl _ _ _) rfl ?_
          exact ⟨rfl, _, F1.out, HPP.out, F2.out⟩
set_option maxRecDepth 100000 in
set_option maxHeartbeats 8000000 in
theorem symMergeR_ (E : SEnv enc lt g lb sf sb blk off size W) (R : α → α → Prop) (ht : ∀ a b c, R a b → R b c → R a c) (p : List α) (x : α) (u r : List α) (a m b : Nat) (hW : SW enc W blk off (p ++ u ++ [x] ++ r).toArray W) (hl : (p ++ u ++ [x] ++ r).length = size)
    (ha : a = p.length) (hm : m = p.length + u.length) (hb : b = p.length + u.length + 1) (hu2 : 2 ≤ u.length) (hu : u.Pairwise R) (hx : ∀ y ∈ u, Bef lt R y x) :
    Calls Try.prog 88 #[.agg #[.func (.func g) #[] lb, .func (.func sf) #[] sb], .int .i64 a, .int .i64 m, .int .i64 b] W fun e w' =>
      e = .returned (.tuple #[]) ∧ ∃ s', s'.Perm (u ++ [x]) ∧ s'.Pairwise R ∧ SW enc W blk off (p ++ s' ++ r).toArray w' := by
  have hsz := E.le
  have hlt := E.lt
  have hll : p.length + u.length + 1 + r.length = size := by simp only [List.length_append, List.length_cons, List.length_nil] at hl; omega
  have eg := E.eg
  have HE := hid E
  have HT := hid ht
  have HV := hid hu
  have HX := hid hx
  have HL := hid hl
  have HW0 := hid (hW.alloc (.cells #[.func (.func g) #[] lb, .func (.func sf) #[] sb] 97))
  obtain ⟨U0, hU0⟩ : ∃ n, u.length = n := ⟨_, rfl⟩
  have hnn : a + U0 = m ∧ m + 1 = b ∧ b ≤ size ∧ 2 ≤ U0 := by omega
  have hm1 : (b : Int) - (m : Int) = 1 := by omega
  have HPL : Hid (p.length = a) := ha.symm
  have HVL := hid hU0
  have n1 : ((m : Int) - (a : Int) == 1) = false := by rw [beq_eq_false_iff_ne]; omega
  have hlen : ∀ c, c ≤ U0 → (p ++ u.take c ++ x :: u.drop c ++ r).length = size := fun c hc => by
    simp only [List.length_append, List.length_cons, List.length_take, List.length_drop]; omega
  have HLEN := hid hlen
  clear hW hl hll ha hm hb hu hx E ht hU0 hlen hu2
  go_enter Try.func88, Try.ntmps88
  go_wp2_with fail
  go_loopw [12, 13, 14] (fun i j h wr => ∃ iN jN : Nat, i = .int .i64 iN ∧ j = .int .i64 jN ∧ (a ≤ iN ∧ iN ≤ jN ∧ jN ≤ m) ∧ (a < iN → lt x (u.getD (iN - 1 - a) x) = false) ∧ (jN < m → lt x (u.getD (jN - a) x) = true) ∧
      SW enc W blk off (p ++ u ++ [x] ++ r).toArray wr ∧ wr.cell? ⟨W.heap.size, 0, none⟩ = some (.func (.func g) #[] lb) ∧ wr.cell? ⟨W.heap.size, 1, none⟩ = some (.func (.func sf) #[] sb)) (fun i j _ _ => (intOf j - intOf i).toNat)
  case atStart => exact ⟨a, m, rfl, rfl, by omega, fun h => by omega, fun h => by omega, HW0.out, by simp [go_sem], by simp [go_sem]⟩
  case round =>
    obtain ⟨iN, jN, rfl, rfl, hij, he1, he2, hw, hb0, hb1⟩ := hrel
    have HE1 := hid he1
    have HE2 := hid he2
    have HW2 := hid hw
    clear he1 he2 hw
    by_cases hlt2 : iN < jN
    · obtain ⟨H, hH⟩ : ∃ H, (iN + jN) / 2 = H := ⟨_, rfl⟩
      have hHr := half_range iN jN hlt2
      rw [hH] at hHr
      have hHv : H - a < u.length := by have := HVL.out; omega
      have e1 : p ++ u ++ [x] ++ r = (p ++ u.take (H - a)) ++ u[H - a] :: (u.drop (H - a + 1) ++ [x] ++ r) := by
        conv => lhs; rw [← List.take_append_drop (H - a) u, List.drop_eq_getElem_cons hHv]
        simp only [List.append_assoc, List.cons_append, List.nil_append]
      have i1 : H = (p ++ u.take (H - a)).length := by simp only [List.length_append, List.length_take]; have := HPL.out; have := HVL.out; omega
      have e2 : p ++ u ++ [x] ++ r = (p ++ u) ++ x :: r := by simp only [List.append_assoc, List.cons_append, List.nil_append]
      have hls := HE.out.lessAt HW2.out HL.out (i := m) (j := H) (by omega) (by omega) (get_at e2 (by rw [List.length_append]; have := HPL.out; have := HVL.out; omega)) (get_at e1 i1)
      have hgd : u.getD (H - a) x = u[H - a] := by simp [List.getD, hHv]
      rw [← hgd] at hls
      clear e1 i1 e2 hgd
      have hHi : ((iN : Int) + (jN : Int)) / 2 = (H : Int) := by omega
      clear hH
      cases hlv : lt x (u.getD (H - a) x) with
      | false =>
        rw [hlv] at hls
        have HLV := hid hlv
        clear hlv
        go_wp2_with (go_at_fn g; refine hls.mono ?_; rintro e w' ⟨rfl, q, rfl⟩)
        go_roundw
        case rel => exact ⟨H + 1, jN, by go_num, rfl, by omega, fun _ => by rw [show H + 1 - 1 - a = H - a by omega]; exact HLV.out, HE2.out, HW2.out.drewN _, hb0, hb1⟩
        case measure => simp [intOf]; omega
      | true =>
        rw [hlv] at hls
        have HLV := hid hlv
        clear hlv
        go_wp2_with (go_at_fn g; refine hls.mono ?_; rintro e w' ⟨rfl, q, rfl⟩)
        go_roundw
        case rel => exact ⟨iN, H, rfl, rfl, by omega, HE1.out, fun _ => HLV.out, HW2.out.drewN _, hb0, hb1⟩
        case measure => simp [intOf]; omega
    · have hje : jN = iN := by omega
      subst hje
      have hcv : jN - a ≤ u.length := by have := HVL.out; omega
      have hp1 : ∀ (h : 0 < jN - a), R (u[jN - a - 1]'(by omega)) x := fun h => by
        have h1 := HE1.out (by omega)
        rw [show jN - 1 - a = jN - a - 1 by omega] at h1
        have hk : jN - a - 1 < u.length := by omega
        have hgd : u.getD (jN - a - 1) x = u[jN - a - 1] := by simp [List.getD, hk]
        rw [hgd] at h1
        exact (HX.out _ (List.getElem_mem hk)).2 h1
      have hp2 : ∀ (h : jN - a < u.length), R x u[jN - a] := fun h => by
        have h1 := HE2.out (by have := HVL.out; omega)
        have hgd : u.getD (jN - a) x = u[jN - a] := by simp [List.getD, h]
        rw [hgd] at h1
        exact (HX.out _ (List.getElem_mem h)).1 h1
      have HPP := hid (pair_at HT.out hcv HV.out hp1 hp2)
      clear HE1 HE2 hp1 hp2
      go_wp2_with fail
      go_loopw [15] (fun k wr => ∃ t : Nat, k = .int .i64 ((a : Int) + t) ∧ (jN - a ≤ t ∧ t ≤ U0) ∧ SW enc W blk off (p ++ u.take t ++ x :: u.drop t ++ r).toArray wr ∧ wr.cell? ⟨W.heap.size, 1, none⟩ = some (.func (.func sf) #[] sb)) (fun k _ => (intOf k).toNat)
      case atStart => exact ⟨U0, val_int (by omega), by omega, by have := HW2.out; rw [List.take_of_length_le (by have := HVL.out; omega), List.drop_of_length_le (by have := HVL.out; omega)]; simpa using this, hb1⟩
      case round =>
        obtain ⟨t, rfl, htc, hw, hc1⟩ := hrel
        have HW3 := hid hw
        clear hw
        by_cases htt : jN - a < t
        · obtain ⟨t', rfl⟩ : ∃ t', t = t' + 1 := ⟨t - 1, by omega⟩
          have htv : t' < u.length := by have := HVL.out; omega
          have e1 : p ++ u.take (t' + 1) ++ x :: u.drop (t' + 1) ++ r = (p ++ u.take t') ++ u[t'] :: ([] ++ x :: (u.drop (t' + 1) ++ r)) := by
            rw [List.take_succ_eq_append_getElem htv]; simp only [List.append_assoc, List.cons_append, List.nil_append]
          have e2 : (p ++ u.take t') ++ x :: ([] ++ u[t'] :: (u.drop (t' + 1) ++ r)) = p ++ u.take t' ++ x :: u.drop t' ++ r := by
            rw [List.drop_eq_getElem_cons htv]; simp only [List.append_assoc, List.cons_append, List.nil_append]
          have i1 : a + t' = (p ++ u.take t').length := by rw [List.length_append, List.length_take]; have := HPL.out; omega
          have i2 : a + t' + 1 = (p ++ u.take t').length + 1 + ([] : List α).length := by rw [← i1]; simp
          obtain ⟨wz, s1, s2, s3⟩ := HE.out.swapBack HW3.out (HLEN.out (t' + 1) (by omega)) e1 i1 i2
          rw [e2] at s2
          have S2 := hid s2
          have C1 := s3 ⟨W.heap.size, 1, none⟩ _ (by show W.heap.size ≠ blk; omega) hc1
          rw [show ((a + t' : Nat) : Int) = (a : Int) + t' by omega, show ((a + t' + 1 : Nat) : Int) = (a : Int) + (t' + 1) by omega] at s1
          clear e1 e2 i1 i2 s2 s3
          have hk9 : ((t' + 1 : Nat) : Int) = (t' : Int) + 1 := by omega
          have hk8 : (a : Int) + ((t' : Int) + 1) - 1 = (a : Int) + t' := by omega
          go_wp2_with fail
          go_roundw
          case rel => exact ⟨t', val_int (by omega), by omega, S2.out, C1⟩
          case measure => simp [intOf]; omega
        · have hte : t = jN - a := by omega
          have F1 : Hid ((u.take (jN - a) ++ x :: u.drop (jN - a)).Perm (u ++ [x])) := by
            have h := List.perm_middle (a := x) (l₁ := u.take (jN - a)) (l₂ := u.drop (jN - a))
            rw [List.take_append_drop] at h
            exact h.trans (by have := List.perm_append_comm (l₁ := [x]) (l₂ := u); simpa using this)
          have F2 : Hid (SW enc W blk off (p ++ (u.take (jN - a) ++ x :: u.drop (jN - a)) ++ r).toArray wr) := by
            have := HW3.out
            rw [hte] at this
            rwa [List.append_assoc p] at this
          clear HW3
          go_wp2_with fail
          (try simp only [Exit.inBlock, Exit.then])
          refine bodyPost_ret (results_none rfl _ _ _) rfl ?_
          exact ⟨rfl, _, F1.out, HPP.out, F2.out⟩
end
end Go.Proofs.Ytampbbknhbhcbaa
