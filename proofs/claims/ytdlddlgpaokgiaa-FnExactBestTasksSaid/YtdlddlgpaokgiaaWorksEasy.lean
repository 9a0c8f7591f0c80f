/- ProjectDays, EarliestStarts: the walks. -/
import Derived.Test.YtdlddlgpaokgiaaWorks
import Derived.Test.YtdlddlgpaokgiaaTaskRec
namespace Go.Proofs.Ytdlddlgpaokgiaa
open Go.RowKit
set_option linter.unusedVariables false
def projF (t : List Task) : Int × Int := if validT t = true then ((early t t.length).2, 0) else (0, 1)
def earlyF (t : List Task) : List Int := if validT t = true then (early t t.length).1 else []
def codeV (t : List Task) : Int := if validT t = true then 0 else 1
theorem valid_len {t : List Task} (h : validT t = true) : t.length ≤ 12 := (eok_valid h).1
theorem earlyF_len (t : List Task) : (earlyF t).length ≤ 1048576 := by
  unfold earlyF
  split
  · rename_i h
    rw [early_len (Nat.le_refl _)]
    have := valid_len h
    omega
  · simp
theorem ret_two {k k' : IntKind} {p : Int × Int} {a b : Int} (h : p = (a, b)) : Ending.returned (.tuple #[.int k a, .int k' b]) = .returned (.tuple #[.int k p.1, .int k' p.2]) := by rw [h]

set_option maxHeartbeats 1000000 in
theorem implProjectDays (v : Value) (t : List Task) (w : World) (h : RdTaskS w v t) :
    Calls Try.prog 19 #[v] w fun e w' => e = .returned (.tuple #[.int .i64 (projF t).1, .int .i64 (projF t).2]) ∧ Below w.heap.size w w' := by
  obtain ⟨A, c, rfl, hx⟩ := h
  by_cases hv : validT t = true
  · have HF : Hid (projF t = ((early t t.length).2, 0)) := by unfold projF; rw [if_pos hv]; exact rfl
    go_enter Try.func19, Try.ntmps19
    go_wp2_with fail
    refine (implValidTasks _ _ _ _ hx).mono ?_
    rintro e w1 ⟨rfl, hb⟩
    rw [hv]
    go_wp2_with fail
    refine (implStarts _ _ _ _ (hx.below hb) (eok_valid hv)).mono ?_
    rintro e w2 ⟨u, rfl, ho, hb2⟩
    have HQ := hid (hb.trans (hb2.mono hb.size))
    generalize (early t t.length).2 = z at HF ⊢
    clear hx ho hb hb2
    go_wp2_with fail
    go_ret2
    exact ⟨ret_two HF.out, HQ.out⟩
  · have HF : Hid (projF t = (0, 1)) := by unfold projF; rw [if_neg hv]; exact rfl
    rw [Bool.not_eq_true] at hv
    go_enter Try.func19, Try.ntmps19
    go_wp2_with fail
    refine (implValidTasks _ _ _ _ hx).mono ?_
    rintro e w1 ⟨rfl, hb⟩
    rw [hv]
    go_wp2_with fail
    go_ret2
    exact ⟨ret_two HF.out, hb⟩


set_option maxHeartbeats 1000000 in
theorem implEarliest (v : Value) (t : List Task) (w : World) (h : RdTaskS w v t) :
    Calls Try.prog 17 #[v] w fun e w' => ∃ u, e = .returned (.tuple #[u, .int .i64 (codeV t)]) ∧ Own w' w.heap.size 2 u (earlyF t) ∧ Below w.heap.size w w' := by
  obtain ⟨A, c, rfl, hx⟩ := h
  by_cases hv : validT t = true
  · have HF : Hid (earlyF t = (early t t.length).1) := by unfold earlyF; rw [if_pos hv]; exact rfl
    have HC : Hid (codeV t = 0) := by unfold codeV; rw [if_pos hv]; exact rfl
    go_enter Try.func17, Try.ntmps17
    go_wp2_with fail
    refine (implValidTasks _ _ _ _ hx).mono ?_
    rintro e w1 ⟨rfl, hb⟩
    rw [hv]
    go_wp2_with fail
    refine (implStarts _ _ _ _ (hx.below hb) (eok_valid hv)).mono ?_
    rintro e w2 ⟨u, rfl, ho, hb2⟩
    have HO := hid (ho.mono hb.size)
    have HQ := hid (hb.trans (hb2.mono hb.size))
    clear hx ho hb hb2
    go_wp2_with fail
    go_ret2
    exact ⟨u, by rw [HC.out]; rfl, by rw [HF.out]; exact HO.out, HQ.out⟩
  · have HF : Hid (earlyF t = []) := by unfold earlyF; rw [if_neg hv]; exact rfl
    have HC : Hid (codeV t = 1) := by unfold codeV; rw [if_neg hv]; exact rfl
    rw [Bool.not_eq_true] at hv
    go_enter Try.func17, Try.ntmps17
    go_wp2_with fail
    refine (implValidTasks _ _ _ _ hx).mono ?_
    rintro e w1 ⟨rfl, hb⟩
    rw [hv]
    go_wp2_with fail
    go_ret2
    exact ⟨_, by rw [HC.out]; rfl, by rw [HF.out]; exact Own.empty hb.size, hb.alloc hb.size _⟩

end Go.Proofs.Ytdlddlgpaokgiaa
