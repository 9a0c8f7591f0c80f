/- DelayTask: the walks. -/
import Derived.Test.YtdlddlgpaokgiaaClay
import Derived.Deep.CutBlock
namespace Go.Proofs.Ytdlddlgpaokgiaa
open Go.RowKit
set_option linter.unusedVariables false
def delayL (t : List Task) (k : Nat) (d : Int) : List Task := match t[k]? with | some x => t.set k { x with days := x.days + d } | none => t
theorem delayL_eq {t : List Task} {k : Nat} (h : k < t.length) (d : Int) : delayL t k d = t.set k { t[k] with days := t[k].days + d } := by simp [delayL, List.getElem?_eq_getElem h]
theorem delayL_len (t : List Task) (k : Nat) (d : Int) : (delayL t k d).length = t.length := by unfold delayL; split <;> simp
theorem delay_ok {t : List Task} (h : validT t = true) {k : Nat} (hk : k < t.length) {d : Int} (h0 : 0 ≤ d) (h1 : d ≤ 1000) : EOk (delayL t k d) := by
  have hE := eok_valid h
  refine ⟨by rw [delayL_len]; exact hE.1, fun i hi => ?_⟩
  have hi' : i < t.length := by rw [delayL_len] at hi; exact hi
  have hv := valid_at h hi'
  have he := hE.2 i hi'
  simp only [delayL_eq hk]
  by_cases hik : k = i
  · subst hik
    rw [List.getElem_set_self]
    exact ⟨by simp only; omega, he.2⟩
  · rw [List.getElem_set_ne hik]
    exact he
def codeL (t : List Task) (k d : Int) : Int := if validT t = true then (if inB k 0 ((t.length : Int) - 1) = true ∧ inB d 0 1000 = true then 0 else 2) else 1
def delayF (t : List Task) (k d : Int) : Int × Int := if codeL t k d = 0 then ((early (delayL t k.toNat d) t.length).2, 0) else (0, codeL t k d)
theorem codeL_ok {t : List Task} {k d : Int} (h : codeL t k d = 0) : validT t = true ∧ (0 ≤ k ∧ k ≤ (t.length : Int) - 1) ∧ (0 ≤ d ∧ d ≤ 1000) := by
  unfold codeL at h
  split at h
  · rename_i h1
    split at h
    · rename_i h2; exact ⟨h1, inB_true.1 h2.1, inB_true.1 h2.2⟩
    · omega
  · omega
theorem Tks.delay {w : World} {ts : List TaskC} {t : List Task} (h : Tks w ts t) {k : Nat} (hk : k < ts.length) (hk' : k < t.length) (d : Int) : Tks w (ts.set k { ts[k] with d := t[k].days + d }) (delayL t k d) := by
  rw [delayL_eq hk']
  refine ⟨by simpa using h.1, fun i h1 h2 => ?_⟩
  have g1 : i < ts.length := by simpa using h1
  have g2 : i < t.length := by simpa using h2
  obtain ⟨e1, e2, e3, e4, e5⟩ := h.2 i g1 g2
  by_cases hik : k = i
  · subst hik
    simp only [List.getElem_set_self]
    exact ⟨trivial, e2, e3, e4, e5⟩
  · simp only [List.getElem_set_ne hik]
    exact ⟨e1, e2, e3, e4, e5⟩
set_option maxHeartbeats 400000 in
theorem sizeTasks1 (A : Option Addr) (n c : Nat) (w : World) (hn : n ≤ 1048576) : Calls Try.prog 37 #[.slice A n c] w fun e w' => e = .returned (.int .i64 n) ∧ w = w' := by
  go_enter Try.func37, Try.ntmps37
  go_wp2
  go_ret
  exact ⟨rfl, rfl⟩

set_option maxHeartbeats 1000000 in
theorem cloneTask (A : Option Addr) (ts : List TaskC) (n c : Nat) (w : World) (hx : Rd w A ts) (hn : ts.length = n) :
    Calls Try.prog 47 #[.slice A n c] w fun e w' => ∃ v, e = .returned v ∧ Own w' w.heap.size 44 v ts ∧ Below w.heap.size w w' := by
  subst hn
  go_enter Try.func47, Try.ntmps47
  go_wp2_with (at_builtin; refine wpList_appendRd elTask0 _ rfl (.tmp 3) (.tmp 4) rfl w.heap.size _ [] ts rfl (Own.empty (Nat.le_refl _)) A c rfl (hx.alloc _) (by simp) (le_alloc (Nat.le_refl _)) ?_; intro v' w' hown' hg' hat'; have hbn := below_own ((Below.refl _ _).alloc (Nat.le_refl _) _) (Own.empty (α := TaskC) (e := 44) (Nat.le_refl _)) hg' (Nat.le_refl _) (le_alloc (Nat.le_refl _)))
  go_ret
  exact ⟨_, rfl, by simpa using hown', hbn⟩


set_option maxHeartbeats 2000000 in
theorem implDelay (v : Value) (t : List Task) (k d : Int) (w : World) (h : RdTaskS w v t) (bk : -9223372036854775808 ≤ k ∧ k ≤ 9223372036854775807) (bd : -9223372036854775808 ≤ d ∧ d ≤ 9223372036854775807) :
    Calls Try.prog 24 #[v, .int .i64 k, .int .i64 d] w fun e w' => e = .returned (.tuple #[.int .i64 (delayF t k d).1, .int .i64 (delayF t k d).2]) ∧ Below w.heap.size w w' := by
  obtain ⟨A, c, rfl, hx⟩ := h
  have hn20 := hx.len
  by_cases h1 : codeL t k d = 0
  · obtain ⟨hv, hk, hd⟩ := codeL_ok h1
    have g1 : inB k 0 ((t.length : Int) - 1) = true := inB_true.2 hk
    have g2 : inB d 0 1000 = true := inB_true.2 hd
    have hkn : k.toNat < t.length := by omega
    have h12 := valid_len hv
    have hva := (valid_at hv hkn).1
    have hEk := delay_ok hv hkn hd.1 hd.2
    have HDL := hid (delayL_len t k.toNat d)
    have HF : Hid (delayF t k d = ((early (delayL t k.toNat d) t.length).2, 0)) := by unfold delayF; rw [if_pos h1]; exact rfl
    go_enter Try.func24, Try.ntmps24
    go_wp2_with fail
    refine (implValidTasks _ _ _ _ hx).mono ?_
    rintro e w1 ⟨rfl, hb⟩
    rw [hv]
    have HB := hid hb
    obtain ⟨ts, hrd, htk⟩ := hx.below hb
    have HTL := hid htk.1
    have hkt : k.toNat < ts.length := by rw [HTL.out]; exact hkn
    clear hx hb h1
    go_wp2_with (first | (go_at_call 37; refine (sizeTasks1 _ _ _ _ hn20).mono ?_; rintro e w' ⟨rfl, rfl⟩) | (go_at_call 35; refine (implIn _ _ _ _).mono ?_; rintro e w' ⟨rfl, rfl⟩; first | rw [g1] | rw [g2]))
    refine (cloneTask _ ts _ _ _ hrd HTL.out).mono ?_
    rintro e w2 ⟨u, rfl, ho, hb2⟩
    obtain ⟨V, q, hV⟩ := ho.form
    rw [HTL.out] at hV
    subst hV
    obtain ⟨g, hA2, hgb, hgs⟩ := ho.addr (A := V) (n := t.length) (c := q) hkt
    subst hA2
    obtain ⟨⟨d1, d2, d3, d4⟩, f1, f2, f3, f4⟩ := ho.task hkt
    have hset := ho.set (j := 0) (u := .int .i64 (t[k.toNat].days + d)) (y := { ts[k.toNat] with d := t[k.toNat].days + d }) hkt (by decide) rfl
    have hb3 := hb2.setCell (p := ⟨g, k.toNat * Enc.size TaskC + 0, none⟩) hgb (.int .i64 (t[k.toNat].days + d))
    have htk3 : Tks (w2.setCell ⟨g, k.toNat * Enc.size TaskC + 0, none⟩ (.int .i64 (t[k.toNat].days + d))) ts t := htk.below hb3
    have htd := htk3.delay hkt hkn d
    have HSET := hid hset
    have HB3 := hid hb3
    have HTD := hid htd
    obtain ⟨w3, hw3⟩ : ∃ x, w2.setCell ⟨g, k.toNat * 4, none⟩ (.int .i64 (t[k.toNat].days + d)) = x := ⟨_, rfl⟩
    have e4 : Enc.size TaskC = 4 := rfl
    have hset2 : Own (α := TaskC) w3 w1.heap.size 44 (.slice (some ⟨g, 0, none⟩) t.length q) (ts.set k.toNat { ts[k.toNat] with d := t[k.toNat].days + d }) := by rw [← hw3]; exact hset
    have hb32 : Below w1.heap.size w1 w3 := by rw [← hw3]; exact hb3
    have htd2 : Tks w3 (ts.set k.toNat { ts[k.toNat] with d := t[k.toNat].days + d }) (delayL t k.toNat d) := by rw [← hw3]; exact htd
    have hrt : RdT w3 (some ⟨g, 0, none⟩) (delayL t k.toNat d) := ⟨_, hset2.rd (by rw [List.length_set, HTL.out]; exact hn20), htd2⟩
    have HW := hid hw3
    have hdd := htk.2 k.toNat hkt hkn
    rw [hdd.1] at d1
    have HRT := hid hrt
    have HB32 := hid hb32
    clear hset hb3 htk3 htd HSET HB3 HTD hw3 e4 hset2 hb32 htd2 hrt ho hb2 hrd htk
    go_upto_region 7 with fail
    rw [HW.out]
    clear HW
    have hrt := HRT.out
    have hst := implStarts _ _ q _ hrt hEk
    rw [HDL.out] at hst
    go_wp2_with fail
    refine hst.mono ?_
    rintro e w4 ⟨u2, rfl, ho4, hb4⟩
    have HQ := hid (HB.out.trans ((HB32.out.trans (hb4.mono HB32.out.size)).mono HB.out.size))
    generalize (early (delayL t k.toNat d) t.length).2 = z at HF ⊢
    clear hst hrt ho4 hb4 hEk
    go_wp2_with fail
    go_ret2
    exact ⟨ret_two HF.out, HQ.out⟩
  · have HF : Hid (delayF t k d = (0, codeL t k d)) := by unfold delayF; rw [if_neg h1]; exact rfl
    by_cases hv : validT t = true
    · have HC : Hid (codeL t k d = 2) := by
        unfold codeL at h1 ⊢
        rw [if_pos hv] at h1 ⊢
        by_cases hh : inB k 0 ((t.length : Int) - 1) = true ∧ inB d 0 1000 = true
        · rw [if_pos hh] at h1; exact absurd rfl h1
        · rw [if_neg hh]; exact rfl
      have hh : ¬ (inB k 0 ((t.length : Int) - 1) = true ∧ inB d 0 1000 = true) := fun hh => h1 (by unfold codeL; rw [if_pos hv, if_pos hh])
      by_cases g1 : inB k 0 ((t.length : Int) - 1) = true
      · have g2 : inB d 0 1000 = false := by rw [← Bool.not_eq_true]; exact fun g2 => hh ⟨g1, g2⟩
        clear hh h1
        go_enter Try.func24, Try.ntmps24
        go_wp2_with fail
        refine (implValidTasks _ _ _ _ hx).mono ?_
        rintro e w1 ⟨rfl, hb⟩
        rw [hv]
        have HB := hid hb
        clear hx hb
        go_wp2_with (first | (go_at_call 37; refine (sizeTasks1 _ _ _ _ hn20).mono ?_; rintro e w' ⟨rfl, rfl⟩) | (go_at_call 35; refine (implIn _ _ _ _).mono ?_; rintro e w' ⟨rfl, rfl⟩; first | rw [g1] | rw [g2]))
        go_ret2
        exact ⟨ret_two (by rw [HF.out, HC.out]), HB.out⟩
      · rw [Bool.not_eq_true] at g1
        have g2 := g1
        clear hh h1
        go_enter Try.func24, Try.ntmps24
        go_wp2_with fail
        refine (implValidTasks _ _ _ _ hx).mono ?_
        rintro e w1 ⟨rfl, hb⟩
        rw [hv]
        have HB := hid hb
        clear hx hb
        go_wp2_with (first | (go_at_call 37; refine (sizeTasks1 _ _ _ _ hn20).mono ?_; rintro e w' ⟨rfl, rfl⟩) | (go_at_call 35; refine (implIn _ _ _ _).mono ?_; rintro e w' ⟨rfl, rfl⟩; first | rw [g1] | rw [g2]))
        go_ret2
        exact ⟨ret_two (by rw [HF.out, HC.out]), HB.out⟩
    · have HC : Hid (codeL t k d = 1) := by unfold codeL; rw [if_neg hv]; exact rfl
      rw [Bool.not_eq_true] at hv
      clear h1
      go_enter Try.func24, Try.ntmps24
      go_wp2_with fail
      refine (implValidTasks _ _ _ _ hx).mono ?_
      rintro e w1 ⟨rfl, hb⟩
      rw [hv]
      go_wp2_with fail
      go_ret2
      exact ⟨ret_two (by rw [HF.out, HC.out]), hb⟩

end Go.Proofs.Ytdlddlgpaokgiaa
