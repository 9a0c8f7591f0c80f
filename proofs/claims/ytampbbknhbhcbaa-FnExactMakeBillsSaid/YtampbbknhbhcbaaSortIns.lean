/- sort.insertionSort_func, stable: walked. -/
import Derived.Test.YtampbbknhbhcbaaSortW
namespace Go.Proofs.Ytampbbknhbhcbaa
open Go.RowKit Go.Sort Go.Lib
set_option linter.unusedVariables false
set_option linter.unusedSimpArgs false
section
variable {α : Type}
/-- x stands ahead of y from the start: what 'less' answers of them tells the order. -/
def Bef (lt : α → α → Bool) (R : α → α → Prop) (x y : α) : Prop := (lt y x = true → R y x) ∧ (lt y x = false → R x y)
theorem pair_take_last {R : α → α → Prop} (ht : ∀ a b c, R a b → R b c → R a c) {l : List α} {y x : α} (h : (l ++ [y]).Pairwise R) (hx : R y x) : ∀ z ∈ l ++ [y], R z x := by
  intro z hz
  rcases List.mem_append.1 hz with h1 | h1
  · exact ht _ _ _ ((List.pairwise_append.1 h).2.2 z h1 y (by simp)) hx
  · simp at h1
    subst h1
    exact hx
theorem pair_ins {R : α → α → Prop} {l1 l2 : List α} {x : α} (h : (l1 ++ l2).Pairwise R) (h1 : ∀ z ∈ l1, R z x) (h2 : ∀ z ∈ l2, R x z) : (l1 ++ x :: l2).Pairwise R := by
  rw [List.pairwise_append] at h ⊢
  refine ⟨h.1, List.pairwise_cons.2 ⟨h2, h.2.1⟩, fun a ha b hb => ?_⟩
  rcases List.mem_cons.1 hb with rfl | hb
  · exact h1 a ha
  · exact h.2.2 a ha b hb
end
section
variable {α : Type} [Inhabited α] {enc : α → Value} {lt : α → α → Bool} {g : Nat} {lb : Array Value} {sf : Nat} {sb : Array Value} {blk off size : Nat} {w0 W : World}
set_option maxHeartbeats 1000000 in
theorem insNone_ (p : Nat) (w : World) (hp : p ≤ 1000) :
    Calls Try.prog 87 #[.agg #[.func (.func g) #[] lb, .func (.func sf) #[] sb], .int .i64 p, .int .i64 p] w fun e w' => e = .returned (.tuple #[]) ∧ w' = w.alloc (.cells #[.func (.func g) #[] lb, .func (.func sf) #[] sb] 97) := by
  go_enter Try.func87, Try.ntmps87
  go_wp2_with fail
  refine wp_loop_rounds 1 ?_
  rw [rounds_succ]
  go_wp2_with fail
  go_end0
  exact ⟨rfl, rfl⟩
set_option maxHeartbeats 8000000 in
theorem insertionSort_ (E : SEnv enc lt g lb sf sb blk off size W) (R : α → α → Prop) (ht : ∀ a b c, R a b → R b c → R a c) (p s r : List α) (a b : Nat) (hW : SW enc W blk off (p ++ s ++ r).toArray W) (hl : (p ++ s ++ r).length = size)
    (ha : a = p.length) (hb : b = p.length + s.length) (hs : s.Pairwise (Bef lt R)) (hs0 : 0 < s.length) :
    Calls Try.prog 87 #[.agg #[.func (.func g) #[] lb, .func (.func sf) #[] sb], .int .i64 a, .int .i64 b] W fun e w' =>
      e = .returned (.tuple #[]) ∧ ∃ s', s'.Perm s ∧ s'.Pairwise R ∧ SW enc W blk off (p ++ s' ++ r).toArray w' := by
  have hsz := E.le
  have hlt := E.lt
  have hll : p.length + s.length + r.length = size := by simp only [List.length_append] at hl; omega
  have eg := E.eg
  have HE := hid E
  have HT := hid ht
  have HPS := hid hs
  have HW0 := hid (hW.alloc (.cells #[.func (.func g) #[] lb, .func (.func sf) #[] sb] 97))
  obtain ⟨S0, hS0⟩ : ∃ n, s.length = n := ⟨_, rfl⟩
  obtain ⟨R0, hR0⟩ : ∃ n, r.length = n := ⟨_, rfl⟩
  have hnn : a + S0 = b ∧ b + R0 = size ∧ 0 < S0 := by omega
  have HPL : Hid (p.length = a) := ha.symm
  have HSL := hid hS0
  have HRL := hid hR0
  have hst : ∃ x t, s = x :: t := by cases s with | nil => simp at hs0 | cons x t => exact ⟨x, t, rfl⟩
  obtain ⟨x0, t0, hx0⟩ := hst
  have HX0 := hid hx0
  clear hW hl hll ha hb hs hs0 E ht hS0 hR0 hx0
  go_enter Try.func87, Try.ntmps87
  go_wp2_with fail
  go_loopw [6] (fun i wr => ∃ (k : Nat) (t t' rest : List α), i = .int .i64 k ∧ (a < k ∧ k ≤ b) ∧ t.length + a = k ∧ t'.Perm t ∧ t'.Pairwise R ∧ s = t ++ rest ∧
      SW enc W blk off (p ++ t' ++ rest ++ r).toArray wr ∧ wr.cell? ⟨W.heap.size, 0, none⟩ = some (.func (.func g) #[] lb) ∧ wr.cell? ⟨W.heap.size, 1, none⟩ = some (.func (.func sf) #[] sb)) (fun i _ => b - (intOf i).toNat)
  case atStart => exact ⟨a + 1, [x0], [x0], t0, val_int (by omega), by omega, by simp; omega, List.Perm.refl _, by simp, HX0.out, by have := HW0.out; rw [HX0.out] at this; simpa using this, by simp [go_sem], by simp [go_sem]⟩
  case round =>
    obtain ⟨k, t, t', rest, rfl, hk, htl, htp, htr, hsd, hw, hb0, hb1⟩ := hrel
    have htl' : t'.length = t.length := htp.length_eq
    have HTP := hid htp
    have HTR := hid htr
    have HSD := hid hsd
    have HW2 := hid hw
    have HTL := hid htl
    have HTL' := hid htl'
    clear hw hsd htr htp htl htl' HW0
    by_cases hlt2 : k < b
    · have hrest : ∃ x rest', rest = x :: rest' := by
        cases rest with
        | nil => have := HSD.out; have h2 := HSL.out; rw [this] at h2; simp at h2; have := HTL.out; omega
        | cons x rest' => exact ⟨x, rest', rfl⟩
      obtain ⟨x, rest', rfl⟩ := hrest
      have HBF : Hid (∀ y ∈ t', Bef lt R y x) := fun y hy => by
        have h := HPS.out
        rw [HSD.out] at h
        exact (List.pairwise_append.1 h).2.2 y (HTP.out.mem_iff.1 hy) x (by simp)
      have hlen : ∀ t1 t2 : List α, t1 ++ t2 = t' → (p ++ t1 ++ x :: t2 ++ rest' ++ r).length = size := fun t1 t2 h => by
        have h1 := HTL'.out
        rw [← h] at h1
        have h2 := HSL.out
        rw [HSD.out] at h2
        simp only [List.length_append, List.length_cons] at h1 h2 ⊢
        have := HPL.out; have := HRL.out
        omega
      have HLEN := hid hlen
      clear hlen
      go_wp2_with fail
      go_loopw [7] (fun j wr2 => ∃ (jN : Nat) (t1 t2 : List α), j = .int .i64 jN ∧ (a ≤ jN ∧ jN ≤ k) ∧ t1.length + a = jN ∧ t1 ++ t2 = t' ∧ (∀ y ∈ t2, R x y) ∧
          SW enc W blk off (p ++ t1 ++ x :: t2 ++ rest' ++ r).toArray wr2 ∧ wr2.cell? ⟨W.heap.size, 0, none⟩ = some (.func (.func g) #[] lb) ∧ wr2.cell? ⟨W.heap.size, 1, none⟩ = some (.func (.func sf) #[] sb)) (fun j _ => (intOf j).toNat)
      case atStart => exact ⟨k, t', [], rfl, by omega, by have := HTL.out; have := HTL'.out; omega, by simp, by simp, by have := HW2.out; simpa using this, hb0, hb1⟩
      case round =>
        obtain ⟨jN, t1, t2, rfl, hj, ht1, ht12, hx2, hw2, hc0, hc1⟩ := hrel
        have HW3 := hid hw2
        have HT1 := hid ht1
        have HT12 := hid ht12
        have HX2 := hid hx2
        have hl3 := hid (HLEN.out t1 t2 ht12)
        have hout : (∀ z ∈ t1, R z x) → (t1 ++ x :: t2).Perm (t ++ [x]) ∧ (t1 ++ x :: t2).Pairwise R ∧ (t1 ++ x :: t2).length + a = k + 1 := fun hz => by
          refine ⟨?_, pair_ins (by rw [ht12]; exact HTR.out) hz hx2, ?_⟩
          · refine (List.perm_middle (a := x) (l₁ := t1) (l₂ := t2)).trans ?_
            rw [ht12]
            exact ((List.perm_cons x).2 HTP.out).trans (by have := List.perm_append_comm (l₁ := [x]) (l₂ := t); simpa using this)
          · have h1 := HTL'.out
            rw [← ht12] at h1
            have := HTL.out
            simp only [List.length_append, List.length_cons] at h1 ⊢
            omega
        have HOUT := hid hout
        clear hw2 ht12 hx2 ht1 hout
        rcases List.eq_nil_or_concat t1 with he | ⟨t1', y, he⟩
        · have hja : jN = a := by have := HT1.out; rw [he] at this; simp at this; omega
          obtain ⟨o1, o2, o3⟩ := HOUT.out (by rw [he]; simp)
          have O1 := hid o1
          have O2 := hid o2
          have O3 := hid o3
          clear o1 o2 o3 he
          go_wp2_with fail
          go_roundw
          case rel => exact ⟨k + 1, t ++ [x], t1 ++ x :: t2, rest', by go_num, by omega, by have := HTL.out; simp; omega, O1.out, O2.out, by rw [HSD.out]; simp, by have := HW3.out; simpa using this, hc0, hc1⟩
          case measure => simp [intOf]; omega
        · rw [List.concat_eq_append] at he
          subst he
          have hja : a < jN := by have := HT1.out; simp at this; omega
          have e1 : p ++ (t1' ++ [y]) ++ x :: t2 ++ rest' ++ r = (p ++ t1') ++ y :: ([] ++ x :: (t2 ++ rest' ++ r)) := by simp only [List.append_assoc, List.cons_append, List.nil_append]
          have i1 : jN - 1 = (p ++ t1').length := by rw [List.length_append]; have := HT1.out; simp at this; have := HPL.out; omega
          have i2 : jN = (p ++ t1').length + 1 + ([] : List α).length := by rw [← i1]; simp; omega
          have hls := HE.out.lessAt HW3.out hl3.out (i := jN) (j := jN - 1) (by omega) (by omega) (x := x) (y := y) (get_at (p := p ++ t1' ++ [y]) (s := t2 ++ rest' ++ r) (by rw [e1]; simp only [List.append_assoc, List.cons_append, List.nil_append]) (by rw [List.length_append, ← i1]; simp; omega)) (get_at e1 i1)
          rw [show ((jN - 1 : Nat) : Int) = (jN : Int) - 1 by omega] at hls
          have hby := HBF.out y (by rw [← HT12.out]; simp)
          have HBY := hid hby
          have hpw := HTR.out
          rw [← HT12.out, List.pairwise_append] at hpw
          have HP1 := hid hpw.1
          clear hby hpw
          have EE1 := hid e1
          have II1 := hid i1
          have II2 := hid i2
          clear e1 i1 i2
          cases hlv : lt x y with
          | true =>
            rw [hlv] at hls
            go_wp2_with (go_at_fn g; refine hls.mono ?_; rintro e w' ⟨rfl, q, rfl⟩; refine keep_ ?_)
            have hw4 := HW3.out.drewN q
            obtain ⟨wz, s1, s2, s3⟩ := HE.out.swapBack hw4 hl3.out EE1.out II1.out II2.out
            have S2 := hid s2
            have C0 := s3 ⟨W.heap.size, 0, none⟩ _ (by show W.heap.size ≠ blk; omega) hc0
            have C1 := s3 ⟨W.heap.size, 1, none⟩ _ (by show W.heap.size ≠ blk; omega) hc1
            rw [show ((jN - 1 : Nat) : Int) = (jN : Int) - 1 by omega] at s1
            have hrx := HBY.out.1 hlv
            have HRX := hid hrx
            clear s2 s3 hw4 hls hlv hrx
            refine go_ ?_
            go_wp2_with fail
            go_roundw
            case rel => exact ⟨jN - 1, t1', y :: t2, by exact val_int (by omega), by omega, by have := HT1.out; simp at this; omega, by have := HT12.out; simpa using this, fun z hz => by rcases List.mem_cons.1 hz with rfl | hz; exact HRX.out; exact HX2.out z hz, by have := S2.out; simpa using this, C0, C1⟩
            case measure => simp [intOf]; omega
          | false =>
            rw [hlv] at hls
            have hrx := HBY.out.2 hlv
            obtain ⟨o1, o2, o3⟩ := HOUT.out (pair_take_last HT.out HP1.out hrx)
            have O1 := hid o1
            have O2 := hid o2
            have O3 := hid o3
            clear o1 o2 o3 hrx hlv
            go_wp2_with (go_at_fn g; refine hls.mono ?_; rintro e w' ⟨rfl, q, rfl⟩)
            go_roundw
            case rel => exact ⟨k + 1, t ++ [x], t1' ++ [y] ++ x :: t2, rest', by go_num, by omega, by have := HTL.out; simp; omega, O1.out, O2.out, by rw [HSD.out]; simp, by have := HW3.out.drewN q; simpa using this, hc0, hc1⟩
            case measure => simp [intOf]; omega
    · have hke : rest = [] := by
        have := HSD.out; have h2 := HSL.out; rw [this] at h2; simp at h2; have := HTL.out
        cases rest with
        | nil => rfl
        | cons x l => simp at h2; omega
      subst hke
      have F1 : Hid (t'.Perm s) := by have := HSD.out; rw [List.append_nil] at this; rw [this]; exact HTP.out
      have F2 : Hid (SW enc W blk off (p ++ t' ++ r).toArray wr) := by have := HW2.out; rwa [List.append_nil] at this
      go_wp2_with fail
      go_end0
      exact ⟨rfl, t', F1.out, HTR.out, F2.out⟩
end
end Go.Proofs.Ytampbbknhbhcbaa
