/- sort.symMerge_func: walked. -/
import Derived.Test.YtampbbknhbhcbaaSortSym1
namespace Go.Proofs.Ytampbbknhbhcbaa
open Go.RowKit Go.Sort Go.Lib
set_option linter.unusedVariables false
set_option linter.unusedSimpArgs false
section
variable {α : Type}
theorem sym_fin {lt : α → α → Bool} {R : α → α → Prop} (ht : ∀ a b c, R a b → R b c → R a c) {u v s1 s2 : List α} {c1 c2 : Nat} (hc1 : c1 ≤ u.length) (hc2 : c2 ≤ v.length) (hu : u.Pairwise R) (hv : v.Pairwise R)
    (k1 : ∀ (h1 : 0 < c1) (h2 : c2 < v.length), R (u[c1 - 1]'(by omega)) v[c2]) (k2 : ∀ (h1 : 0 < c2) (h2 : c1 < u.length), R (v[c2 - 1]'(by omega)) u[c1])
    (hs1 : s1.Perm (u.take c1 ++ v.take c2)) (hp1 : s1.Pairwise R) (hs2 : s2.Perm (u.drop c1 ++ v.drop c2)) (hp2 : s2.Pairwise R) : (s1 ++ s2).Perm (u ++ v) ∧ (s1 ++ s2).Pairwise R := by
  have gu := List.pairwise_iff_getElem.1 hu
  have gv := List.pairwise_iff_getElem.1 hv
  constructor
  · refine (hs1.append hs2).trans ?_
    have h1 : (u.take c1 ++ v.take c2 ++ (u.drop c1 ++ v.drop c2)).Perm (u.take c1 ++ u.drop c1 ++ (v.take c2 ++ v.drop c2)) := by
      rw [List.append_assoc, List.append_assoc]
      refine List.Perm.append_left _ ?_
      rw [← List.append_assoc, ← List.append_assoc]
      exact List.Perm.append_right _ List.perm_append_comm
    rw [List.take_append_drop, List.take_append_drop] at h1
    exact h1
  · rw [List.pairwise_append]
    refine ⟨hp1, hp2, fun x hx y hy => ?_⟩
    rcases List.mem_append.1 (hs1.mem_iff.1 hx) with hx | hx
    · obtain ⟨i, hi, rfl⟩ := List.getElem_of_mem hx
      rw [List.length_take] at hi
      rw [List.getElem_take]
      rcases List.mem_append.1 (hs2.mem_iff.1 hy) with hy | hy
      · obtain ⟨j, hj, rfl⟩ := List.getElem_of_mem hy
        rw [List.length_drop] at hj
        rw [List.getElem_drop]
        exact gu i (c1 + j) (by omega) (by omega) (by omega)
      · obtain ⟨j, hj, rfl⟩ := List.getElem_of_mem hy
        rw [List.length_drop] at hj
        rw [List.getElem_drop]
        have h1 := k1 (by omega) (by omega)
        have h2 : R u[i] v[c2] := by
          by_cases he : i = c1 - 1
          · subst he; exact h1
          · exact ht _ _ _ (gu i (c1 - 1) (by omega) (by omega) (by omega)) h1
        by_cases he : j = 0
        · subst he; exact h2
        · exact ht _ _ _ h2 (gv c2 (c2 + j) (by omega) (by omega) (by omega))
    · obtain ⟨i, hi, rfl⟩ := List.getElem_of_mem hx
      rw [List.length_take] at hi
      rw [List.getElem_take]
      rcases List.mem_append.1 (hs2.mem_iff.1 hy) with hy | hy
      · obtain ⟨j, hj, rfl⟩ := List.getElem_of_mem hy
        rw [List.length_drop] at hj
        rw [List.getElem_drop]
        have h1 := k2 (by omega) (by omega)
        have h2 : R v[i] u[c1] := by
          by_cases he : i = c2 - 1
          · subst he; exact h1
          · exact ht _ _ _ (gv i (c2 - 1) (by omega) (by omega) (by omega)) h1
        by_cases he : j = 0
        · subst he; exact h2
        · exact ht _ _ _ h2 (gu c1 (c1 + j) (by omega) (by omega) (by omega))
      · obtain ⟨j, hj, rfl⟩ := List.getElem_of_mem hy
        rw [List.length_drop] at hj
        rw [List.getElem_drop]
        exact gv i (c2 + j) (by omega) (by omega) (by omega)
theorem pair_one {R : α → α → Prop} {l1 l2 : List α} (h1 : l1.Pairwise R) (h2 : l2.Pairwise R) (h : l1 = [] ∨ l2 = []) : (l1 ++ l2).Pairwise R := by
  rcases h with rfl | rfl
  · simpa using h2
  · simpa using h1
theorem one_elem {l : List α} (h : l.length = 1) : ∃ x, l = [x] := by
  cases l with
  | nil => simp at h
  | cons x t => cases t with
    | nil => exact ⟨x, rfl⟩
    | cons y t => simp at h
end
section
variable {α : Type} [Inhabited α] {enc : α → Value} {lt : α → α → Bool} {g : Nat} {lb : Array Value} {sf : Nat} {sb : Array Value} {blk off size : Nat} {w0 W : World}
theorem SEnv.keep (E : SEnv enc lt g lb sf sb blk off size w0) {l2 : List α} {w2 : World} (h2 : SW enc W blk off l2.toArray w2) : ∀ (c : Addr) (v : Value), c.block ≠ blk → W.cell? c = some v → w2.cell? c = some v := fun c v hc h => SWx.cell h2 hc h
set_option maxRecDepth 100000 in
set_option maxHeartbeats 32000000 in
theorem symMerge_ (R : α → α → Prop) (ht : ∀ a b c, R a b → R b c → R a c) : ∀ (N : Nat) (p u v r : List α) (a m b : Nat) (W : World), u.length + v.length ≤ N → SEnv enc lt g lb sf sb blk off size W → SW enc W blk off (p ++ u ++ v ++ r).toArray W → (p ++ u ++ v ++ r).length = size →
    a = p.length → m = p.length + u.length → b = p.length + u.length + v.length → 0 < u.length → 0 < v.length → u.Pairwise R → v.Pairwise R → (∀ x ∈ u, ∀ y ∈ v, Bef lt R x y) →
    Calls Try.prog 88 #[.agg #[.func (.func g) #[] lb, .func (.func sf) #[] sb], .int .i64 a, .int .i64 m, .int .i64 b] W fun e w' =>
      e = .returned (.tuple #[]) ∧ ∃ s', s'.Perm (u ++ v) ∧ s'.Pairwise R ∧ SW enc W blk off (p ++ s' ++ r).toArray w' := by
  intro N
  induction N with
  | zero => intro p u v r a m b W hN _ _ _ _ _ _ h1 h2; omega
  | succ N ih =>
    intro p u v r a m b W hN E hW hl ha hm hb hu0 hv0 hu hv hx
    by_cases hu1 : u.length = 1
    · obtain ⟨x, rfl⟩ := one_elem hu1
      exact symMergeL_ E R ht p x v r a m b hW hl ha (by rw [hm]; simp) (by rw [hb]; simp) hv (fun y hy => hx x (by simp) y hy)
    by_cases hv1 : v.length = 1
    · obtain ⟨x, rfl⟩ := one_elem hv1
      exact symMergeR_ E R ht p x u r a m b hW hl ha hm (by rw [hb]; simp) (by omega) hu (fun y hy => hx y hy x (by simp))
    have hsz := E.le
    have hlt := E.lt
    have hll : p.length + u.length + v.length + r.length = size := by simp only [List.length_append] at hl; omega
    have eg := E.eg
    have HE := hid E
    have HT := hid ht
    have HIH := hid ih
    have HU := hid hu
    have HV := hid hv
    have HX := hid hx
    have HL := hid hl
    have HWS := hid hW
    have HW0 := hid (hW.alloc (.cells #[.func (.func g) #[] lb, .func (.func sf) #[] sb] 97))
    obtain ⟨U0, hU0⟩ : ∃ n, u.length = n := ⟨_, rfl⟩
    obtain ⟨V0, hV0⟩ : ∃ n, v.length = n := ⟨_, rfl⟩
    obtain ⟨M, hM⟩ : ∃ M, (a + b) / 2 = M := ⟨_, rfl⟩
    have hnn : a + U0 = m ∧ m + V0 = b ∧ b ≤ size ∧ 2 ≤ U0 ∧ 2 ≤ V0 ∧ U0 + V0 ≤ N + 1 := by omega
    have hMr : 2 * M ≤ a + b ∧ a + b ≤ 2 * M + 1 := by omega
    have HPL : Hid (p.length = a) := ha.symm
    have HUL := hid hU0
    have HVL := hid hV0
    have n1 : ((m : Int) - (a : Int) == 1) = false := by rw [beq_eq_false_iff_ne]; omega
    have n2 : ((b : Int) - (m : Int) == 1) = false := by rw [beq_eq_false_iff_ne]; omega
    have hMi : ((a : Int) + (b : Int)) / 2 = (M : Int) := by omega
    obtain ⟨PP, hPP⟩ : ∃ P, M + m - 1 = P := ⟨_, rfl⟩
    have hPr : PP + 1 = M + m := by omega
    obtain ⟨lo, hi, hcase⟩ : ∃ lo hi : Nat, (M < m ∧ lo + b = M + m ∧ hi = M) ∨ (¬ M < m ∧ lo = a ∧ hi = m) := by
      by_cases h : M < m
      · exact ⟨M + m - b, M, .inl ⟨h, by omega, rfl⟩⟩
      · exact ⟨a, m, .inr ⟨h, rfl, rfl⟩⟩
    have HR9 : Hid (∀ (W2 : World) (s : Nat), SW enc W blk off (p ++ u ++ v ++ r).toArray W2 → (0 < s - a ∧ s < m ∨ s = a ∧ s < m) → a ≤ s → m < M + m - s → M + m - s ≤ b →
        Calls Try.prog 89 #[.agg #[.func (.func g) #[] lb, .func (.func sf) #[] sb], .int .i64 s, .int .i64 m, .int .i64 ((M + m - s : Nat) : Int)] W2 fun e w' =>
          e = .returned (.tuple #[]) ∧ SW enc W blk off (p ++ (u.take (s - a) ++ v.take (M - s)) ++ (u.drop (s - a) ++ v.drop (M - s)) ++ r).toArray w' ∧ ∀ (c : Addr) (v : Value), c.block ≠ blk → W2.cell? c = some v → w'.cell? c = some v) := fun W2 s hw hs has h2 h3 => by
      have e1 : (p ++ u.take (s - a)) ++ u.drop (s - a) ++ v.take (M - s) ++ (v.drop (M - s) ++ r) = p ++ u ++ v ++ r := by
        simp only [List.append_assoc]
        rw [← List.append_assoc (v.take _), List.take_append_drop, ← List.append_assoc (u.take _), List.take_append_drop]
      have h := rotate_ (HE.out.at_ hw HL.out) (p ++ u.take (s - a)) (u.drop (s - a)) (v.take (M - s)) (v.drop (M - s) ++ r) s m (M + m - s) (by rw [e1]; exact HE.out.here hw HL.out) (by rw [e1]; exact HL.out)
        (by rw [List.length_append, List.length_take]; omega) (by simp only [List.length_append, List.length_take, List.length_drop]; omega) (by simp only [List.length_append, List.length_take, List.length_drop]; omega) (by rw [List.length_drop]; omega) (by rw [List.length_take]; omega)
      refine h.mono ?_
      rintro e w' ⟨rfl, h2⟩
      have e2 : (p ++ u.take (s - a)) ++ v.take (M - s) ++ u.drop (s - a) ++ (v.drop (M - s) ++ r) = p ++ (u.take (s - a) ++ v.take (M - s)) ++ (u.drop (s - a) ++ v.drop (M - s)) ++ r := by simp only [List.append_assoc]
      rw [e2] at h2
      exact ⟨rfl, HE.out.then_ hw HL.out h2 (by simp only [List.length_append, List.length_take, List.length_drop]; omega), HE.out.keep h2⟩
    have HM1 : Hid (∀ (W2 : World) (s : Nat), SW enc W blk off (p ++ (u.take (s - a) ++ v.take (M - s)) ++ (u.drop (s - a) ++ v.drop (M - s)) ++ r).toArray W2 → a < s → s ≤ m → s < M → M - s ≤ V0 →
        Calls Try.prog 88 #[.agg #[.func (.func g) #[] lb, .func (.func sf) #[] sb], .int .i64 a, .int .i64 s, .int .i64 M] W2 fun e w' =>
          e = .returned (.tuple #[]) ∧ ∃ s1, s1.Perm (u.take (s - a) ++ v.take (M - s)) ∧ s1.Pairwise R ∧ SW enc W blk off (p ++ s1 ++ (u.drop (s - a) ++ v.drop (M - s)) ++ r).toArray w' ∧ ∀ (c : Addr) (v : Value), c.block ≠ blk → W2.cell? c = some v → w'.cell? c = some v) := fun W2 s hw h1 h2 h3 h4 => by
      have hlen : (p ++ (u.take (s - a) ++ v.take (M - s)) ++ (u.drop (s - a) ++ v.drop (M - s)) ++ r).length = size := by simp only [List.length_append, List.length_take, List.length_drop]; omega
      have e1 : p ++ u.take (s - a) ++ v.take (M - s) ++ (u.drop (s - a) ++ v.drop (M - s) ++ r) = p ++ (u.take (s - a) ++ v.take (M - s)) ++ (u.drop (s - a) ++ v.drop (M - s)) ++ r := by simp only [List.append_assoc]
      have h := ih p (u.take (s - a)) (v.take (M - s)) (u.drop (s - a) ++ v.drop (M - s) ++ r) a s M W2 (by rw [List.length_take, List.length_take]; omega) (HE.out.at_ hw hlen) (by rw [e1]; exact HE.out.here hw hlen) (by rw [e1]; exact hlen)
        ha (by rw [List.length_take]; omega) (by rw [List.length_take, List.length_take]; omega) (by rw [List.length_take]; omega) (by rw [List.length_take]; omega) (hu.sublist (List.take_sublist _ _)) (hv.sublist (List.take_sublist _ _)) (fun x hx1 y hy1 => hx x (List.mem_of_mem_take hx1) y (List.mem_of_mem_take hy1))
      refine h.mono ?_
      rintro e w' ⟨rfl, s1, q1, q2, q3⟩
      have e2 : p ++ s1 ++ (u.drop (s - a) ++ v.drop (M - s) ++ r) = p ++ s1 ++ (u.drop (s - a) ++ v.drop (M - s)) ++ r := by simp only [List.append_assoc]
      rw [e2] at q3
      refine ⟨rfl, s1, q1, q2, HE.out.then_ hw hlen q3 ?_, HE.out.keep q3⟩
      have := q1.length_eq
      simp only [List.length_append, List.length_take, List.length_drop] at this ⊢
      omega
    have HM2 : Hid (∀ (W2 : World) (s : Nat) (s1 : List α), s1.length = M - a → SW enc W blk off (p ++ s1 ++ (u.drop (s - a) ++ v.drop (M - s)) ++ r).toArray W2 → a ≤ s → s < m → s ≤ M → M - s < V0 →
        Calls Try.prog 88 #[.agg #[.func (.func g) #[] lb, .func (.func sf) #[] sb], .int .i64 M, .int .i64 ((M + m - s : Nat) : Int), .int .i64 b] W2 fun e w' =>
          e = .returned (.tuple #[]) ∧ ∃ s2, s2.Perm (u.drop (s - a) ++ v.drop (M - s)) ∧ s2.Pairwise R ∧ SW enc W blk off (p ++ (s1 ++ s2) ++ r).toArray w') := fun W2 s s1 hs1 hw h1 h2 h3 h4 => by
      have hlen : (p ++ s1 ++ (u.drop (s - a) ++ v.drop (M - s)) ++ r).length = size := by simp only [List.length_append, List.length_take, List.length_drop]; omega
      have e1 : p ++ s1 ++ u.drop (s - a) ++ v.drop (M - s) ++ r = p ++ s1 ++ (u.drop (s - a) ++ v.drop (M - s)) ++ r := by simp only [List.append_assoc]
      have h := ih (p ++ s1) (u.drop (s - a)) (v.drop (M - s)) r M (M + m - s) b W2 (by rw [List.length_drop, List.length_drop]; omega) (HE.out.at_ hw hlen) (by rw [e1]; exact HE.out.here hw hlen) (by rw [e1]; exact hlen)
        (by rw [List.length_append]; omega) (by rw [List.length_append, List.length_drop]; omega) (by simp only [List.length_append, List.length_drop]; omega) (by rw [List.length_drop]; omega) (by rw [List.length_drop]; omega) (hu.sublist (List.drop_sublist _ _)) (hv.sublist (List.drop_sublist _ _)) (fun x hx1 y hy1 => hx x (List.mem_of_mem_drop hx1) y (List.mem_of_mem_drop hy1))
      refine h.mono ?_
      rintro e w' ⟨rfl, s2, q1, q2, q3⟩
      have e2 : p ++ s1 ++ s2 ++ r = p ++ (s1 ++ s2) ++ r := by simp only [List.append_assoc]
      rw [e2] at q3
      refine ⟨rfl, s2, q1, q2, HE.out.then_ hw hlen q3 ?_⟩
      have := q1.length_eq
      simp only [List.length_append, List.length_take, List.length_drop] at this ⊢
      omega
    clear hW hl hll ha hm hb hu hv hx E ht hU0 hV0 ih hN hu0 hv0 hu1 hv1 hM hPP
    by_cases hMm : M < m
    case' pos =>
      have hcase' : lo + b = M + m ∧ hi = M := by omega
      have hloi : (M : Int) + (m : Int) - (b : Int) = (lo : Int) := by omega
    case' neg =>
      have hcase' : lo = a ∧ hi = m := by omega
    all_goals
      have hPi : (M : Int) + (m : Int) - 1 = (PP : Int) := by omega
      go_enter Try.func88, Try.ntmps88
      go_wp2_with fail
      go_loopw [18, 19, 21] (fun i j h wr => ∃ iN jN : Nat, i = .int .i64 iN ∧ j = .int .i64 jN ∧ (lo ≤ iN ∧ iN ≤ jN ∧ jN ≤ hi) ∧ (lo < iN → lt (v.getD (PP - (iN - 1) - m) default) (u.getD (iN - 1 - a) default) = false) ∧ (jN < hi → lt (v.getD (PP - jN - m) default) (u.getD (jN - a) default) = true) ∧
          SW enc W blk off (p ++ u ++ v ++ r).toArray wr ∧ wr.cell? ⟨W.heap.size, 0, none⟩ = some (.func (.func g) #[] lb) ∧ wr.cell? ⟨W.heap.size, 1, none⟩ = some (.func (.func sf) #[] sb)) (fun i j _ _ => (intOf j - intOf i).toNat)
      case atStart => exact ⟨lo, hi, by exact val_int (by omega), by exact val_int (by omega), by omega, fun h => by omega, fun h => by omega, HW0.out, by simp [go_sem], by simp [go_sem]⟩
      case round =>
        obtain ⟨iN, jN, rfl, rfl, hij, he1, he2, hw, hb0, hb1⟩ := hrel
        have HE1 := hid he1
        have HE2 := hid he2
        have HW2 := hid hw
        clear he1 he2 hw
        by_cases hlt2 : iN < jN
        · obtain ⟨H, hH⟩ : ∃ H, (iN + jN) / 2 = H := ⟨_, rfl⟩
          have hHr := half_range iN jN hlt2
          rw [hH] at hHr
          have hHb : a ≤ H ∧ H < m ∧ H ≤ PP ∧ m ≤ PP - H ∧ PP - H < b := by omega
          have hHu : H - a < u.length := by have := HUL.out; omega
          have hHv : PP - H - m < v.length := by have := HVL.out; omega
          have e1 : p ++ u ++ v ++ r = (p ++ u ++ v.take (PP - H - m)) ++ v[PP - H - m] :: (v.drop (PP - H - m + 1) ++ r) := by
            conv => lhs; rw [← List.take_append_drop (PP - H - m) v, List.drop_eq_getElem_cons hHv]
            simp only [List.append_assoc, List.cons_append, List.nil_append]
          have i1 : PP - H = (p ++ u ++ v.take (PP - H - m)).length := by simp only [List.length_append, List.length_take]; have := HPL.out; have := HUL.out; have := HVL.out; omega
          have e2 : p ++ u ++ v ++ r = (p ++ u.take (H - a)) ++ u[H - a] :: (u.drop (H - a + 1) ++ v ++ r) := by
            conv => lhs; rw [← List.take_append_drop (H - a) u, List.drop_eq_getElem_cons hHu]
            simp only [List.append_assoc, List.cons_append, List.nil_append]
          have i2 : H = (p ++ u.take (H - a)).length := by simp only [List.length_append, List.length_take]; have := HPL.out; have := HUL.out; omega
          have hls := HE.out.lessAt HW2.out HL.out (i := PP - H) (j := H) (by omega) (by omega) (get_at e1 i1) (get_at e2 i2)
          have hgu : u.getD (H - a) default = u[H - a] := by simp [List.getD, hHu]
          have hgv : v.getD (PP - H - m) default = v[PP - H - m] := by simp [List.getD, hHv]
          rw [← hgu, ← hgv, show ((PP - H : Nat) : Int) = (PP : Int) - (H : Int) by omega] at hls
          clear e1 i1 e2 i2 hgu hgv
          have hHi : ((iN : Int) + (jN : Int)) / 2 = (H : Int) := by omega
          clear hH
          cases hlv : lt (v.getD (PP - H - m) default) (u.getD (H - a) default) with
          | false =>
            rw [hlv] at hls
            have HLV := hid hlv
            clear hlv
            go_wp2_with (go_at_fn g; refine hls.mono ?_; rintro e w' ⟨rfl, q, rfl⟩)
            go_roundw
            case rel => exact ⟨H + 1, jN, by go_num, rfl, by omega, fun _ => by rw [show H + 1 - 1 = H by omega]; exact HLV.out, HE2.out, HW2.out.drewN _, hb0, hb1⟩
            case measure => simp [intOf]; omega
          | true =>
            rw [hlv] at hls
            have HLV := hid hlv
            clear hlv
            go_wp2_with (go_at_fn g; refine hls.mono ?_; rintro e w' ⟨rfl, q, rfl⟩)
            go_roundw
            case rel => exact ⟨iN, H, rfl, rfl, by omega, HE1.out, fun _ => HLV.out, HW2.out.drewN _, hb0, hb1⟩
            case measure => simp [intOf]; omega
        · have hje : jN = iN := by omega
          subst hje
          have hcu : jN - a ≤ u.length := by have := HUL.out; omega
          have hcv : M - jN ≤ v.length := by have := HVL.out; omega
          have HFIN : Hid (∀ s1 s2 : List α, s1.Perm (u.take (jN - a) ++ v.take (M - jN)) → s1.Pairwise R → s2.Perm (u.drop (jN - a) ++ v.drop (M - jN)) → s2.Pairwise R → (s1 ++ s2).Perm (u ++ v) ∧ (s1 ++ s2).Pairwise R) := fun s1 s2 a1 a2 a3 a4 => by
            refine sym_fin (lt := lt) HT.out hcu hcv HU.out HV.out (fun h1 h2 => ?_) (fun h1 h2 => ?_) a1 a2 a3 a4
            · have h3 := HE1.out (by have := HVL.out; omega)
              rw [show PP - (jN - 1) - m = M - jN by omega, show jN - 1 - a = jN - a - 1 by omega] at h3
              have hk : jN - a - 1 < u.length := by omega
              have hgu : u.getD (jN - a - 1) default = u[jN - a - 1] := by simp [List.getD, hk]
              have hgv : v.getD (M - jN) default = v[M - jN] := by simp [List.getD, h2]
              rw [hgu, hgv] at h3
              exact (HX.out _ (List.getElem_mem hk) _ (List.getElem_mem h2)).2 h3
            · have h3 := HE2.out (by have := HUL.out; omega)
              rw [show PP - jN - m = M - jN - 1 by omega] at h3
              have hk : M - jN - 1 < v.length := by omega
              have hgu : u.getD (jN - a) default = u[jN - a] := by simp [List.getD, h2]
              have hgv : v.getD (M - jN - 1) default = v[M - jN - 1] := by simp [List.getD, hk]
              rw [hgu, hgv] at h3
              exact (HX.out _ (List.getElem_mem h2) _ (List.getElem_mem hk)).1 h3
          obtain ⟨EN, hEN⟩ : ∃ EN, M + m - jN = EN := ⟨_, rfl⟩
          have hENr : EN + jN = M + m := by omega
          have hENi : (M : Int) + (m : Int) - (jN : Int) = (EN : Int) := by omega
          have hR0 := HR9.out wr jN HW2.out
          have hM2 := fun W2 s1 => HM2.out W2 jN s1
          rw [hEN] at hR0
          simp only [hEN] at hM2
          have HROT := hid hR0
          have HMB := hid hM2
          have HMA := hid (fun W2 => HM1.out W2 jN)
          have HPU := hid (HU.out.sublist (List.take_sublist (jN - a) u))
          have HPV := hid (HV.out.sublist (List.take_sublist (M - jN) v))
          have HQU := hid (HU.out.sublist (List.drop_sublist (jN - a) u))
          have HQV := hid (HV.out.sublist (List.drop_sublist (M - jN) v))
          clear hR0 hM2 hEN HE1 HE2 HR9 HM1 HM2 HIH HU HV HX
          rcases (show jN ≤ a ∨ (a < jN ∧ jN < m) ∨ m ≤ jN by omega) with qA | qA | qA
          · rcases (show M ≤ jN ∨ (jN < M ∧ M + m < b + jN) ∨ (jN < M ∧ b + jN ≤ M + m) by omega) with qB | qB | qB
            · exfalso; omega
            · first
              | (exfalso; omega)
              | (skip
                 go_wp2_with fail
                 refine (HROT.out (by omega) (by omega) (by omega) (by omega)).mono ?_
                 rintro e w3 ⟨rfl, h3, kp⟩
                 have b0 := kp ⟨W.heap.size, 0, none⟩ _ (by show W.heap.size ≠ blk; omega) hb0
                 have b1 := kp ⟨W.heap.size, 1, none⟩ _ (by show W.heap.size ≠ blk; omega) hb1
                 have H3 := hid h3
                 clear h3 kp hb0 hb1
                 have c0 := b0
                 have c1 := b1
                 obtain ⟨s1, hs1⟩ : ∃ s, u.take (jN - a) ++ v.take (M - jN) = s := ⟨_, rfl⟩
                 have H4 := hid H3.out
                 have P1 : Hid (s1.Perm (u.take (jN - a) ++ v.take (M - jN))) := by rw [hs1]; exact List.Perm.refl _
                 have P2 : Hid (s1.Pairwise R) := by rw [← hs1]; exact pair_one HPU.out HPV.out (.inl (by rw [show jN - a = 0 by omega]; rfl))
                 rw [hs1] at H4
                 clear hs1 b0 b1 H3
                 have hl1 : s1.length = M - a := by have := P1.out.length_eq; rw [List.length_append, List.length_take, List.length_take] at this; have := HUL.out; have := HVL.out; omega
                 have HL1 := hid hl1
                 clear hl1
                 go_wp2_with fail
                 refine (HMB.out _ s1 HL1.out H4.out (by omega) (by omega) (by omega) (by omega)).mono ?_
                 rintro e w5 ⟨rfl, s2, p3, p4, h5⟩
                 obtain ⟨f1, f2⟩ := HFIN.out s1 s2 P1.out P2.out p3 p4
                 have F1 := hid f1
                 have F2 := hid f2
                 have H5 := hid h5
                 clear h5 p3 p4 f1 f2 H4
                 go_wp2_with fail
                 go_end0
                 exact ⟨rfl, _, F1.out, F2.out, H5.out⟩)
            · first
              | (exfalso; omega)
              | (skip
                 go_wp2_with fail
                 refine (HROT.out (by omega) (by omega) (by omega) (by omega)).mono ?_
                 rintro e w3 ⟨rfl, h3, kp⟩
                 have b0 := kp ⟨W.heap.size, 0, none⟩ _ (by show W.heap.size ≠ blk; omega) hb0
                 have b1 := kp ⟨W.heap.size, 1, none⟩ _ (by show W.heap.size ≠ blk; omega) hb1
                 have H3 := hid h3
                 clear h3 kp hb0 hb1
                 have c0 := b0
                 have c1 := b1
                 obtain ⟨s1, hs1⟩ : ∃ s, u.take (jN - a) ++ v.take (M - jN) = s := ⟨_, rfl⟩
                 have H4 := hid H3.out
                 have P1 : Hid (s1.Perm (u.take (jN - a) ++ v.take (M - jN))) := by rw [hs1]; exact List.Perm.refl _
                 have P2 : Hid (s1.Pairwise R) := by rw [← hs1]; exact pair_one HPU.out HPV.out (.inl (by rw [show jN - a = 0 by omega]; rfl))
                 rw [hs1] at H4
                 clear hs1 b0 b1 H3
                 obtain ⟨f1, f2⟩ := HFIN.out s1 _ P1.out P2.out (List.Perm.refl _) (pair_one HQU.out HQV.out (.inr (List.drop_of_length_le (by have := HVL.out; omega))))
                 have F1 := hid f1
                 have F2 := hid f2
                 have h5 := H4.out
                 rw [List.append_assoc p] at h5
                 have H5 := hid h5
                 clear h5
                 clear f1 f2 H4
                 go_wp2_with fail
                 go_end0
                 exact ⟨rfl, _, F1.out, F2.out, H5.out⟩)
          · rcases (show M ≤ jN ∨ (jN < M ∧ M + m < b + jN) ∨ (jN < M ∧ b + jN ≤ M + m) by omega) with qB | qB | qB
            · first
              | (exfalso; omega)
              | (skip
                 have b0 := hb0
                 have b1 := hb1
                 have H3 : Hid (SW enc W blk off (p ++ (u.take (jN - a) ++ v.take (M - jN)) ++ (u.drop (jN - a) ++ v.drop (M - jN)) ++ r).toArray wr) := by
                   have h := HW2.out
                   rw [show M - jN = 0 by omega, List.take_zero, List.drop_zero, List.append_nil]
                   have e : p ++ u.take (jN - a) ++ (u.drop (jN - a) ++ v) ++ r = p ++ u ++ v ++ r := by
                     simp only [List.append_assoc]
                     rw [← List.append_assoc (u.take _), List.take_append_drop]
                   rw [e]; exact h
                 clear hb0 hb1
                 have c0 := b0
                 have c1 := b1
                 obtain ⟨s1, hs1⟩ : ∃ s, u.take (jN - a) ++ v.take (M - jN) = s := ⟨_, rfl⟩
                 have H4 := hid H3.out
                 have P1 : Hid (s1.Perm (u.take (jN - a) ++ v.take (M - jN))) := by rw [hs1]; exact List.Perm.refl _
                 have P2 : Hid (s1.Pairwise R) := by rw [← hs1]; exact pair_one HPU.out HPV.out (.inr (by rw [show M - jN = 0 by omega]; rfl))
                 rw [hs1] at H4
                 clear hs1 b0 b1 H3
                 have hl1 : s1.length = M - a := by have := P1.out.length_eq; rw [List.length_append, List.length_take, List.length_take] at this; have := HUL.out; have := HVL.out; omega
                 have HL1 := hid hl1
                 clear hl1
                 go_wp2_with fail
                 refine (HMB.out _ s1 HL1.out H4.out (by omega) (by omega) (by omega) (by omega)).mono ?_
                 rintro e w5 ⟨rfl, s2, p3, p4, h5⟩
                 obtain ⟨f1, f2⟩ := HFIN.out s1 s2 P1.out P2.out p3 p4
                 have F1 := hid f1
                 have F2 := hid f2
                 have H5 := hid h5
                 clear h5 p3 p4 f1 f2 H4
                 go_wp2_with fail
                 go_end0
                 exact ⟨rfl, _, F1.out, F2.out, H5.out⟩)
            · first
              | (exfalso; omega)
              | (skip
                 go_wp2_with fail
                 refine (HROT.out (by omega) (by omega) (by omega) (by omega)).mono ?_
                 rintro e w3 ⟨rfl, h3, kp⟩
                 have b0 := kp ⟨W.heap.size, 0, none⟩ _ (by show W.heap.size ≠ blk; omega) hb0
                 have b1 := kp ⟨W.heap.size, 1, none⟩ _ (by show W.heap.size ≠ blk; omega) hb1
                 have H3 := hid h3
                 clear h3 kp hb0 hb1
                 go_wp2_with fail
                 refine (HMA.out _ H3.out (by omega) (by omega) (by omega) (by omega)).mono ?_
                 rintro e w4 ⟨rfl, s1, p1, p2, h4, kp⟩
                 have c0 := kp ⟨W.heap.size, 0, none⟩ _ (by show W.heap.size ≠ blk; omega) b0
                 have c1 := kp ⟨W.heap.size, 1, none⟩ _ (by show W.heap.size ≠ blk; omega) b1
                 have H4 := hid h4
                 have P1 := hid p1
                 have P2 := hid p2
                 clear h4 kp b0 b1 H3 p1 p2
                 have hl1 : s1.length = M - a := by have := P1.out.length_eq; rw [List.length_append, List.length_take, List.length_take] at this; have := HUL.out; have := HVL.out; omega
                 have HL1 := hid hl1
                 clear hl1
                 go_wp2_with fail
                 refine (HMB.out _ s1 HL1.out H4.out (by omega) (by omega) (by omega) (by omega)).mono ?_
                 rintro e w5 ⟨rfl, s2, p3, p4, h5⟩
                 obtain ⟨f1, f2⟩ := HFIN.out s1 s2 P1.out P2.out p3 p4
                 have F1 := hid f1
                 have F2 := hid f2
                 have H5 := hid h5
                 clear h5 p3 p4 f1 f2 H4
                 go_wp2_with fail
                 go_end0
                 exact ⟨rfl, _, F1.out, F2.out, H5.out⟩)
            · first
              | (exfalso; omega)
              | (skip
                 go_wp2_with fail
                 refine (HROT.out (by omega) (by omega) (by omega) (by omega)).mono ?_
                 rintro e w3 ⟨rfl, h3, kp⟩
                 have b0 := kp ⟨W.heap.size, 0, none⟩ _ (by show W.heap.size ≠ blk; omega) hb0
                 have b1 := kp ⟨W.heap.size, 1, none⟩ _ (by show W.heap.size ≠ blk; omega) hb1
                 have H3 := hid h3
                 clear h3 kp hb0 hb1
                 go_wp2_with fail
                 refine (HMA.out _ H3.out (by omega) (by omega) (by omega) (by omega)).mono ?_
                 rintro e w4 ⟨rfl, s1, p1, p2, h4, kp⟩
                 have c0 := kp ⟨W.heap.size, 0, none⟩ _ (by show W.heap.size ≠ blk; omega) b0
                 have c1 := kp ⟨W.heap.size, 1, none⟩ _ (by show W.heap.size ≠ blk; omega) b1
                 have H4 := hid h4
                 have P1 := hid p1
                 have P2 := hid p2
                 clear h4 kp b0 b1 H3 p1 p2
                 obtain ⟨f1, f2⟩ := HFIN.out s1 _ P1.out P2.out (List.Perm.refl _) (pair_one HQU.out HQV.out (.inr (List.drop_of_length_le (by have := HVL.out; omega))))
                 have F1 := hid f1
                 have F2 := hid f2
                 have h5 := H4.out
                 rw [List.append_assoc p] at h5
                 have H5 := hid h5
                 clear h5
                 clear f1 f2 H4
                 go_wp2_with fail
                 go_end0
                 exact ⟨rfl, _, F1.out, F2.out, H5.out⟩)
          · rcases (show M ≤ jN ∨ (jN < M ∧ M + m < b + jN) ∨ (jN < M ∧ b + jN ≤ M + m) by omega) with qB | qB | qB
            · first
              | (exfalso; omega)
              | (skip
                 have b0 := hb0
                 have b1 := hb1
                 have H3 : Hid (SW enc W blk off (p ++ (u.take (jN - a) ++ v.take (M - jN)) ++ (u.drop (jN - a) ++ v.drop (M - jN)) ++ r).toArray wr) := by
                   have h := HW2.out
                   rw [show M - jN = 0 by omega, List.take_zero, List.drop_zero, List.append_nil]
                   have e : p ++ u.take (jN - a) ++ (u.drop (jN - a) ++ v) ++ r = p ++ u ++ v ++ r := by
                     simp only [List.append_assoc]
                     rw [← List.append_assoc (u.take _), List.take_append_drop]
                   rw [e]; exact h
                 clear hb0 hb1
                 have c0 := b0
                 have c1 := b1
                 obtain ⟨s1, hs1⟩ : ∃ s, u.take (jN - a) ++ v.take (M - jN) = s := ⟨_, rfl⟩
                 have H4 := hid H3.out
                 have P1 : Hid (s1.Perm (u.take (jN - a) ++ v.take (M - jN))) := by rw [hs1]; exact List.Perm.refl _
                 have P2 : Hid (s1.Pairwise R) := by rw [← hs1]; exact pair_one HPU.out HPV.out (.inr (by rw [show M - jN = 0 by omega]; rfl))
                 rw [hs1] at H4
                 clear hs1 b0 b1 H3
                 obtain ⟨f1, f2⟩ := HFIN.out s1 _ P1.out P2.out (List.Perm.refl _) (pair_one HQU.out HQV.out (.inl (List.drop_of_length_le (by have := HUL.out; omega))))
                 have F1 := hid f1
                 have F2 := hid f2
                 have h5 := H4.out
                 rw [List.append_assoc p] at h5
                 have H5 := hid h5
                 clear h5
                 clear f1 f2 H4
                 go_wp2_with fail
                 go_end0
                 exact ⟨rfl, _, F1.out, F2.out, H5.out⟩)
            · first
              | (exfalso; omega)
              | (skip
                 have b0 := hb0
                 have b1 := hb1
                 have H3 : Hid (SW enc W blk off (p ++ (u.take (jN - a) ++ v.take (M - jN)) ++ (u.drop (jN - a) ++ v.drop (M - jN)) ++ r).toArray wr) := by
                   have h := HW2.out
                   rw [List.take_of_length_le (l := u) (by have := HUL.out; omega), List.drop_of_length_le (l := u) (by have := HUL.out; omega), List.nil_append]
                   have e : p ++ (u ++ v.take (M - jN)) ++ v.drop (M - jN) ++ r = p ++ u ++ v ++ r := by
                     simp only [List.append_assoc]
                     rw [← List.append_assoc (v.take _), List.take_append_drop]
                   rw [e]; exact h
                 clear hb0 hb1
                 go_wp2_with fail
                 refine (HMA.out _ H3.out (by omega) (by omega) (by omega) (by omega)).mono ?_
                 rintro e w4 ⟨rfl, s1, p1, p2, h4, kp⟩
                 have c0 := kp ⟨W.heap.size, 0, none⟩ _ (by show W.heap.size ≠ blk; omega) b0
                 have c1 := kp ⟨W.heap.size, 1, none⟩ _ (by show W.heap.size ≠ blk; omega) b1
                 have H4 := hid h4
                 have P1 := hid p1
                 have P2 := hid p2
                 clear h4 kp b0 b1 H3 p1 p2
                 obtain ⟨f1, f2⟩ := HFIN.out s1 _ P1.out P2.out (List.Perm.refl _) (pair_one HQU.out HQV.out (.inl (List.drop_of_length_le (by have := HUL.out; omega))))
                 have F1 := hid f1
                 have F2 := hid f2
                 have h5 := H4.out
                 rw [List.append_assoc p] at h5
                 have H5 := hid h5
                 clear h5
                 clear f1 f2 H4
                 go_wp2_with fail
                 go_end0
                 exact ⟨rfl, _, F1.out, F2.out, H5.out⟩)
            · first
              | (exfalso; omega)
              | (skip
                 have b0 := hb0
                 have b1 := hb1
                 have H3 : Hid (SW enc W blk off (p ++ (u.take (jN - a) ++ v.take (M - jN)) ++ (u.drop (jN - a) ++ v.drop (M - jN)) ++ r).toArray wr) := by
                   have h := HW2.out
                   rw [List.take_of_length_le (l := u) (by have := HUL.out; omega), List.drop_of_length_le (l := u) (by have := HUL.out; omega), List.nil_append]
                   have e : p ++ (u ++ v.take (M - jN)) ++ v.drop (M - jN) ++ r = p ++ u ++ v ++ r := by
                     simp only [List.append_assoc]
                     rw [← List.append_assoc (v.take _), List.take_append_drop]
                   rw [e]; exact h
                 clear hb0 hb1
                 go_wp2_with fail
                 refine (HMA.out _ H3.out (by omega) (by omega) (by omega) (by omega)).mono ?_
                 rintro e w4 ⟨rfl, s1, p1, p2, h4, kp⟩
                 have c0 := kp ⟨W.heap.size, 0, none⟩ _ (by show W.heap.size ≠ blk; omega) b0
                 have c1 := kp ⟨W.heap.size, 1, none⟩ _ (by show W.heap.size ≠ blk; omega) b1
                 have H4 := hid h4
                 have P1 := hid p1
                 have P2 := hid p2
                 clear h4 kp b0 b1 H3 p1 p2
                 obtain ⟨f1, f2⟩ := HFIN.out s1 _ P1.out P2.out (List.Perm.refl _) (pair_one HQU.out HQV.out (.inl (List.drop_of_length_le (by have := HUL.out; omega))))
                 have F1 := hid f1
                 have F2 := hid f2
                 have h5 := H4.out
                 rw [List.append_assoc p] at h5
                 have H5 := hid h5
                 clear h5
                 clear f1 f2 H4
                 go_wp2_with fail
                 go_end0
                 exact ⟨rfl, _, F1.out, F2.out, H5.out⟩)
end
end Go.Proofs.Ytampbbknhbhcbaa
