/- LatestStarts: the walks. -/
import Derived.Test.YtdlddlgpaokgiaaLate
namespace Go.Proofs.Ytdlddlgpaokgiaa
open Go.RowKit
set_option linter.unusedVariables false
def lateF (t : List Task) : List Int := if validT t = true then late t (early t t.length).2 else []
theorem lateF_len (t : List Task) : (lateF t).length ≤ 1048576 := by
  unfold lateF
  split
  · rename_i h
    rw [late_len]
    have := valid_len h
    omega
  · simp

set_option maxHeartbeats 1000000 in
theorem implLatestStarts (v : Value) (t : List Task) (w : World) (h : RdTaskS w v t) :
    Calls Try.prog 18 #[v] w fun e w' => ∃ u, e = .returned (.tuple #[u, .int .i64 (codeV t)]) ∧ Own w' w.heap.size 2 u (lateF t) ∧ Below w.heap.size w w' := by
  obtain ⟨A, c, rfl, hx⟩ := h
  by_cases hv : validT t = true
  · have HF : Hid (lateF t = late t (early t t.length).2) := by unfold lateF; rw [if_pos hv]; exact rfl
    have HC : Hid (codeV t = 0) := by unfold codeV; rw [if_pos hv]; exact rfl
    go_enter Try.func18, Try.ntmps18
    go_wp2_with fail
    refine (implValidTasks _ _ _ _ hx).mono ?_
    rintro e w1 ⟨rfl, hb⟩
    rw [hv]
    go_wp2_with fail
    refine (implLatest _ _ _ _ (hx.below hb) (eok_valid hv)).mono ?_
    rintro e w2 ⟨u, rfl, ho, hb2⟩
    have HO := hid (ho.mono hb.size)
    have HQ := hid (hb.trans (hb2.mono hb.size))
    clear hx ho hb hb2
    go_wp2_with fail
    go_ret2
    exact ⟨u, by rw [HC.out]; rfl, by rw [HF.out]; exact HO.out, HQ.out⟩
  · have HF : Hid (lateF t = []) := by unfold lateF; rw [if_neg hv]; exact rfl
    have HC : Hid (codeV t = 1) := by unfold codeV; rw [if_neg hv]; exact rfl
    rw [Bool.not_eq_true] at hv
    go_enter Try.func18, Try.ntmps18
    go_wp2_with fail
    refine (implValidTasks _ _ _ _ hx).mono ?_
    rintro e w1 ⟨rfl, hb⟩
    rw [hv]
    go_wp2_with fail
    go_ret2
    exact ⟨_, by rw [HC.out]; rfl, by rw [HF.out]; exact Own.empty hb.size, hb.alloc hb.size _⟩

end Go.Proofs.Ytdlddlgpaokgiaa
