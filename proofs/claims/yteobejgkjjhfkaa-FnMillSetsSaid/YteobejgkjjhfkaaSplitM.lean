/- BestSplit walked. -/
import Derived.Test.YteobejgkjjhfkaaSplit
import Derived.Laws.EntriesVeiled
namespace Go.Proofs.Yteobejgkjjhfkaa
open Go.RowKit
set_option linter.unusedVariables false
set_option linter.unusedSimpArgs false
theorem splitAll {gm gn gr g : Nat} {V : Option Addr} {c : Nat} {R : Option Addr} {rc : Nat} {rs : List Int} {base : Nat} (h1 : gm ≠ g ∧ gm ≠ g + 1) (h2 : gn ≠ g ∧ gn ≠ g + 1) (h3 : gr ≠ g ∧ gr ≠ g + 1)
    (hrr : ∀ r ∈ rs, 0 ≤ r ∧ r ≤ 1000) (hn8 : rs.length ≤ 8) (hRa : Apart (.slice R rs.length rc) g) : ∀ d, SplitDo gm gn gr g V c R rc rs base d
  | 0 => splitZero h1 h2 h3 hrr hn8 hRa
  | d + 1 => splitStep h1 h2 h3 hrr hn8 hRa (splitAll h1 h2 h3 hrr hn8 hRa d)
/-- The world in which the closure is called first. -/
def boxed (w2 : World) (gm : Nat) (R : Option Addr) (n rq : Nat) (ea eb : TypeId) : World :=
  ((((((w2.alloc (.cells #[.slice R n rq] ea)).alloc (.cells #[] 2)).alloc (.cells #[.slice (some ⟨w2.heap.size + 1, 0, none⟩) 0 0] ea)).alloc (.cells #[.int .i64 (-1)] 2)).alloc (.cells #[splitFn gm (w2.heap.size + 1 + 1 + 1 + 1) w2.heap.size (w2.heap.size + 1 + 1)] eb)).alloc (.cells #[] 2))
theorem boxed_ok (w2 : World) (gm base : Nat) (A R : Option Addr) (c n rq : Nat) (rs : List Int) (ea eb : TypeId) (hgm : w2.cell? ⟨gm, 0, none⟩ = some (.slice A n c)) (hR : Own w2 base 2 (.slice R n rq) rs) (hbase : base ≤ w2.heap.size) :
    Below w2.heap.size w2 (boxed w2 gm R n rq ea eb) ∧ Bx (boxed w2 gm R n rq ea eb) gm (w2.heap.size + 1 + 1 + 1 + 1) w2.heap.size (w2.heap.size + 1 + 1) A c n R rq (splitFn gm (w2.heap.size + 1 + 1 + 1 + 1) w2.heap.size (w2.heap.size + 1 + 1)) (.slice (some ⟨w2.heap.size + 1, 0, none⟩) 0 0) (-1) ∧
      Own (boxed w2 gm R n rq ea eb) base 2 (.slice (some ⟨w2.heap.size + 1, 0, none⟩) 0 0) ([] : List Int) ∧ Own (boxed w2 gm R n rq ea eb) base 2 (.slice (some ⟨w2.heap.size + 1 + 1 + 1 + 1 + 1, 0, none⟩) 0 0) ([] : List Int) ∧
      Own (boxed w2 gm R n rq ea eb) base 2 (.slice R n rq) rs ∧ base ≤ (boxed w2 gm R n rq ea eb).heap.size := by
  have hb : Below w2.heap.size w2 (boxed w2 gm R n rq ea eb) :=
    ((((((Below.refl _ _).alloc (Nat.le_refl _) _).alloc (by simp) _).alloc (by simp; omega) _).alloc (by simp; omega) _).alloc (by simp; omega) _).alloc (by simp; omega) _
  refine ⟨hb, ⟨box_cell hb hgm, ?_, ?_, ?_, ?_, ?_, ?_⟩, ?_, ?_, hR.below hb, Nat.le_trans hbase hb.size⟩
  · unfold boxed; simp [go_sem]
  · unfold boxed; simp [go_sem]
  · unfold boxed; simp [go_sem]
  · unfold boxed; simp [go_sem]
  · unfold boxed; simp [go_sem]
  · unfold boxed; simp [go_sem]
  · have h := (((((Own.empty (α := Int) (w := w2.alloc (.cells #[.slice R n rq] ea)) (base := base) (e := 2) (by simp; omega)).alloc (.cells #[.slice (some ⟨w2.heap.size + 1, 0, none⟩) 0 0] ea)).alloc (.cells #[.int .i64 (-1)] 2)).alloc (.cells #[splitFn gm (w2.heap.size + 1 + 1 + 1 + 1) w2.heap.size (w2.heap.size + 1 + 1)] eb)).alloc (.cells #[] 2))
    unfold boxed
    simpa using h
  · have h := Own.empty (α := Int) (w := (((((w2.alloc (.cells #[.slice R n rq] ea)).alloc (.cells #[] 2)).alloc (.cells #[.slice (some ⟨w2.heap.size + 1, 0, none⟩) 0 0] ea)).alloc (.cells #[.int .i64 (-1)] 2)).alloc (.cells #[splitFn gm (w2.heap.size + 1 + 1 + 1 + 1) w2.heap.size (w2.heap.size + 1 + 1)] eb))) (base := base) (e := 2) (by simp; omega)
    unfold boxed
    simpa using h
set_option maxRecDepth 100000 in
set_option maxHeartbeats 8000000 in
theorem implSplit (A : Option Addr) (ms : List Mill) (c : Nat) (f : Int) (w : World) (hx : Rd w A ms) (hok : MillsOk ms) (hf : 0 ≤ f ∧ f ≤ 12) :
    Calls Try.prog 53 #[.slice A ms.length c, .int .i64 f] w fun e w' => ∃ u best most two, e = .returned (.tuple #[u, .int .i64 most, .int .i64 two]) ∧ Own w' w.heap.size 2 u best ∧
      ((ms.length = 1 ∧ two = 6) ∨ (2 ≤ ms.length ∧ two = 0 ∧ SplitOk (ms.map (rateM f)) best most)) ∧ Below w.heap.size w w' := by
  have hm5 := hok.1
  have HOK := hid hok
  have H1 : Hid (inB f 0 12 = true) := inB_lit hf
  have HRR := hid (rates_range hok f)
  have hrl : (ms.map (rateM f)).length = ms.length := List.length_map _
  obtain ⟨rs, hrs⟩ : ∃ rs, ms.map (rateM f) = rs := ⟨_, rfl⟩
  rw [hrs] at HRR hrl ⊢
  have HRS := hid hrs
  have HRL := hid hrl
  have hb0 : Below w.heap.size w (w.alloc (.cells #[.slice A ms.length c] 79)) := (Below.refl _ _).alloc (Nat.le_refl _) _
  have HX := hid (hx.below hb0)
  have HB0 := hid hb0
  have D0 : Hid ((w.alloc (.cells #[.slice A ms.length c] 79)).cell? ⟨w.heap.size, 0, none⟩ = some (.slice A ms.length c)) := by
    show (w.alloc (.cells #[.slice A ms.length c] 79)).cell? ⟨w.heap.size, 0, none⟩ = some (.slice A ms.length c)
    simp [go_sem]
  have Z0 : Hid (w.heap.size < (w.alloc (.cells #[.slice A ms.length c] 79)).heap.size) := by show _ < _; simp
  clear hx hok hrs hrl hb0
  go_enter Try.func53, Try.ntmps53
  go_wp2_with fail
  refine (areMills_ _ _ _ _ HX.out HOK.out).mono ?_
  rintro e w1 ⟨rfl, hb⟩
  have HX1 := hid (HX.out.below hb)
  have HB1 := hid (HB0.out.trans (hb.mono HB0.out.size))
  have d1 := box_cell hb D0.out
  have hz1 : w.heap.size < w1.heap.size := Nat.lt_of_lt_of_le Z0.out hb.size
  clear hb HX HB0 D0 Z0
  by_cases hm1 : ms.length = 1
  · have l1 : ((ms.length : Int) == 1) = true := by simp [hm1]
    have HM := hid hm1
    clear hm1
    go_wp2_with (go_at_call 76; refine (isForce_ _ _).mono ?_; rintro e w' ⟨rfl, rfl⟩; rw [H1.out])
    go_ret3
    exact ⟨_, [], _, 6, rfl, Own.empty HB1.out.size, .inl ⟨HM.out, rfl⟩, HB1.out.alloc HB1.out.size _⟩
  · have l1 : ((ms.length : Int) == 1) = false := by rw [beq_eq_false_iff_ne]; omega
    go_wp2_with (go_at_call 76; refine (isForce_ _ _).mono ?_; rintro e w' ⟨rfl, rfl⟩; rw [H1.out])
    refine (millRates_ A ms c f _ HX1.out HOK.out hf).mono ?_
    rintro e w2 ⟨u, rfl, ho, hb⟩
    rw [HRS.out] at ho
    obtain ⟨R, rq, rfl⟩ := ho.form
    have d2 := box_cell hb d1
    have HR := hid (ho.mono (by omega : w.heap.size ≤ w1.heap.size))
    have HB2 := hid (HB1.out.trans (hb.mono HB1.out.size))
    have hz2 : w.heap.size < w2.heap.size := Nat.lt_of_lt_of_le hz1 hb.size
    have HRB := hid (fun b hb' => (ho.block b hb').2)
    clear ho hb d1 HX1 HB1
    have hgm : w2.cell? ⟨w.heap.size, 0, none⟩ = some (.slice A rs.length c) := by rw [HRL.out]; exact d2
    have HOK2 := hid (boxed_ok w2 w.heap.size w.heap.size A R c rs.length rq rs 24 127 hgm HR.out (by omega))
    have HRA : Hid (Apart (.slice R rs.length rq) (w2.heap.size + 1 + 1)) := fun b hb => .inl (by have := HRB.out b hb; omega)
    have HCALL : Hid (Calls Try.prog 105 #[.slice (some ⟨w2.heap.size + 1 + 1 + 1 + 1 + 1, 0, none⟩) 0 0, .pointer (some ⟨w.heap.size, 0, none⟩), .pointer (some ⟨w2.heap.size + 1 + 1 + 1 + 1, 0, none⟩), .pointer (some ⟨w2.heap.size, 0, none⟩), .pointer (some ⟨w2.heap.size + 1 + 1 + 1, 0, none⟩), .pointer (some ⟨w2.heap.size + 1 + 1, 0, none⟩)] (boxed w2 w.heap.size R rs.length rq 24 127) fun e w' =>
      e = .returned (.tuple #[]) ∧ ∃ B', Bx w' w.heap.size (w2.heap.size + 1 + 1 + 1 + 1) w2.heap.size (w2.heap.size + 1 + 1) A c rs.length R rq (splitFn w.heap.size (w2.heap.size + 1 + 1 + 1 + 1) w2.heap.size (w2.heap.size + 1 + 1)) B' (goS rs rs.length [] ([], -1)).2 ∧ Own w' w.heap.size 2 B' (goS rs rs.length [] ([], -1)).1 ∧ Apart B' (w2.heap.size + 1 + 1) ∧ Span (boxed w2 w.heap.size R rs.length rq 24 127) w' (w2.heap.size + 1 + 1) (w2.heap.size + 1 + 1 + 2)) := by
      obtain ⟨k1, k2, k3, k4, k5, k6⟩ := HOK2.out
      exact splitAll (by omega) (by omega) (by omega) HRR.out (by have := HRL.out; omega) HRA.out rs.length [] _ _ _ ([], -1) _ (by simp) (fun x hx => absurd hx (by simp)) (by simp) k6 k2 k5 k3 (fun b hb => by simp [Value.ownBlock] at hb; omega) k4 (fun b hb => by simp [Value.ownBlock] at hb; omega)
    have HSP := hid (split_ok HRR.out (by have := HRL.out; omega))
    have HM2 : Hid (2 ≤ ms.length) := by show 2 ≤ ms.length; omega
    generalize goS rs rs.length [] ([], -1) = r at HCALL HSP
    unfold boxed splitFn at HCALL
    go_wp2_with (go_at_call 105; refine HCALL.out.mono ?_; rintro e w3 ⟨rfl, B', hx3, ho3, ha3, hs3⟩; refine keep_ ?_)
    have cb := hx3.best
    have cm := hx3.most
    have HO3 := hid ho3
    have HB3 := hid (below_span (HB2.out.trans (HOK2.out.1.mono HB2.out.size)) hs3 (by omega) HOK2.out.2.2.2.2.2)
    clear hx3 ho3 ha3 hs3 HCALL
    refine go_ ?_
    go_wp2_with fail
    go_quiet (fail)
    go_wp2_with fail
    go_ret3
    exact ⟨B', r.1, r.2, 0, rfl, HO3.out.drewN _, .inr ⟨HM2.out, rfl, HSP.out⟩, HB3.out.drewN _⟩
end Go.Proofs.Yteobejgkjjhfkaa
