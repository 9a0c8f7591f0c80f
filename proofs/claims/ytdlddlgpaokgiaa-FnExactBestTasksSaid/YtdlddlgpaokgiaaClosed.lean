/- IsClosedSet: the walks. -/
import Derived.Test.YtdlddlgpaokgiaaWorksEasy
import Derived.Test.YtdlddlgpaokgiaaHas
namespace Go.Proofs.Ytdlddlgpaokgiaa
open Go.RowKit
set_option linter.unusedVariables false
def afterAt (t : List Task) (i : Int) : List Int := match t[i.toNat]? with | some x => x.after | none => []
theorem afterAt_eq {t : List Task} {i : Int} (h : i.toNat < t.length) : afterAt t i = t[i.toNat].after := by simp [afterAt, List.getElem?_eq_getElem h]
def closedB (t : List Task) (some : List Int) : Bool := some.all fun i => (afterAt t i).all fun k => hasB some k
def codeC (t : List Task) (some : List Int) : Int := if validT t = true then (if risesB 0 ((t.length : Int) - 1) some = true then 0 else 2) else 1
def closedF (t : List Task) (some : List Int) : Bool × Int := if codeC t some = 0 then (closedB t some, 0) else (false, codeC t some)
theorem codeC_ok {t : List Task} {s : List Int} (h : codeC t s = 0) : validT t = true ∧ risesB 0 ((t.length : Int) - 1) s = true := by
  unfold codeC at h
  split at h
  · rename_i h1
    split at h
    · rename_i h2; exact ⟨h1, h2⟩
    · omega
  · omega
theorem rises_mem {n : Nat} {s : List Int} (h : risesB 0 ((n : Int) - 1) s = true) : ∀ x ∈ s, 0 ≤ x ∧ x.toNat < n := fun x hx => by
  obtain ⟨i, hi, rfl⟩ := List.getElem_of_mem hx
  have := (rises_at h hi).1
  omega
theorem ret_bi {k : IntKind} {p : Bool × Int} {a : Bool} {b : Int} (h : p = (a, b)) : Ending.returned (.tuple #[.bool a, .int k b]) = .returned (.tuple #[.bool p.1, .int k p.2]) := by rw [h]
set_option maxHeartbeats 1000000 in
theorem implAll_In (q0 : Value) (A : Option Addr) (xs : List Int) (c : Nat) (p : Int → Bool) (w : World) (hx : Rd w A xs)
    (hcl : ∀ x ∈ xs, ∀ w', Below w.heap.size w w' → Calls Try.prog 57 #[.int .i64 x, q0] w' fun e w'' => e = .returned (.bool (p x)) ∧ Below w'.heap.size w' w'') :
    Calls Try.prog 33 #[.slice A xs.length c, .func (.func 57) #[] #[q0]] w fun e w' => e = .returned (.bool (xs.all p)) ∧ Below w.heap.size w w' := by
  have hn := hx.len
  go_enter Try.func33, Try.ntmps33
  go_wp2
  go_loopw [9] (fun i wr => ∃ k : Nat, k ≤ xs.length ∧ i = .int .i64 k ∧ (xs.take k).all p = true ∧ ∃ q, wr = w.more q) (fun i _ => xs.length - (intOf i).toNat)
  case atStart => exact ⟨0, Nat.zero_le _, rfl, rfl, more_self⟩
  case round =>
    obtain ⟨k, hk, rfl, ht, q, rfl⟩ := hrel
    have Ht := hid ht
    clear ht
    by_cases hlt : k < xs.length
    · obtain ⟨b, off, rfl, c1⟩ := hx.int hlt
      have hc := hcl _ (List.getElem_mem hlt) (w.more q) more_below
      have hmem := List.getElem_mem hlt
      have HT : Hid ((xs.take (k + 1)).all p = p xs[k]) := by
        show (xs.take (k + 1)).all p = p xs[k]
        rw [take_next hlt, List.all_append, Ht.out]; simp
      have HF : Hid (p xs[k] = false → xs.all p = false) := fun h => by
        rw [List.all_eq_false]
        exact ⟨xs[k], hmem, by simp [h]⟩
      generalize xs[k] = x at c1 hc HT HF
      clear hx hcl hmem
      by_cases h1 : p x = true
      · go_wp2_with (go_at_call 57; refine hc.mono ?_; rintro e w' ⟨rfl, hb⟩; rw [h1])
        go_roundw
        case rel => exact ⟨k + 1, by omega, by go_num, by rw [HT.out]; exact h1, below_ex (more_below.trans (hb.mono more_size))⟩
        case measure => simp [intOf]; omega
      · rw [Bool.not_eq_true] at h1
        go_wp2_with (go_at_call 57; refine hc.mono ?_; rintro e w' ⟨rfl, hb⟩; rw [h1])
        go_ret
        exact ⟨ret_bool (HF.out h1).symm, more_below.trans (hb.mono more_size)⟩
    · have HE : Hid (xs.all p = true) := by
        have := Ht.out
        rw [List.take_of_length_le (by omega)] at this
        exact this
      clear hx hcl
      go_wp2
      go_ret
      exact ⟨ret_bool HE.out.symm, more_below⟩

set_option maxHeartbeats 1000000 in
theorem implAll_Out (q0 q1 : Value) (A : Option Addr) (xs : List Int) (c : Nat) (p : Int → Bool) (w : World) (hx : Rd w A xs)
    (hcl : ∀ x ∈ xs, ∀ w', Below w.heap.size w w' → Calls Try.prog 56 #[.int .i64 x, q0, q1] w' fun e w'' => e = .returned (.bool (p x)) ∧ Below w'.heap.size w' w'') :
    Calls Try.prog 33 #[.slice A xs.length c, .func (.func 56) #[] #[q0, q1]] w fun e w' => e = .returned (.bool (xs.all p)) ∧ Below w.heap.size w w' := by
  have hn := hx.len
  go_enter Try.func33, Try.ntmps33
  go_wp2
  go_loopw [9] (fun i wr => ∃ k : Nat, k ≤ xs.length ∧ i = .int .i64 k ∧ (xs.take k).all p = true ∧ ∃ q, wr = w.more q) (fun i _ => xs.length - (intOf i).toNat)
  case atStart => exact ⟨0, Nat.zero_le _, rfl, rfl, more_self⟩
  case round =>
    obtain ⟨k, hk, rfl, ht, q, rfl⟩ := hrel
    have Ht := hid ht
    clear ht
    by_cases hlt : k < xs.length
    · obtain ⟨b, off, rfl, c1⟩ := hx.int hlt
      have hc := hcl _ (List.getElem_mem hlt) (w.more q) more_below
      have hmem := List.getElem_mem hlt
      have HT : Hid ((xs.take (k + 1)).all p = p xs[k]) := by
        show (xs.take (k + 1)).all p = p xs[k]
        rw [take_next hlt, List.all_append, Ht.out]; simp
      have HF : Hid (p xs[k] = false → xs.all p = false) := fun h => by
        rw [List.all_eq_false]
        exact ⟨xs[k], hmem, by simp [h]⟩
      generalize xs[k] = x at c1 hc HT HF
      clear hx hcl hmem
      by_cases h1 : p x = true
      · go_wp2_with (go_at_call 56; refine hc.mono ?_; rintro e w' ⟨rfl, hb⟩; rw [h1])
        go_roundw
        case rel => exact ⟨k + 1, by omega, by go_num, by rw [HT.out]; exact h1, below_ex (more_below.trans (hb.mono more_size))⟩
        case measure => simp [intOf]; omega
      · rw [Bool.not_eq_true] at h1
        go_wp2_with (go_at_call 56; refine hc.mono ?_; rintro e w' ⟨rfl, hb⟩; rw [h1])
        go_ret
        exact ⟨ret_bool (HF.out h1).symm, more_below.trans (hb.mono more_size)⟩
    · have HE : Hid (xs.all p = true) := by
        have := Ht.out
        rw [List.take_of_length_le (by omega)] at this
        exact this
      clear hx hcl
      go_wp2
      go_ret
      exact ⟨ret_bool HE.out.symm, more_below⟩

set_option maxHeartbeats 400000 in
theorem closedInner (x : Int) (g : Nat) (V : Option Addr) (s : List Int) (q : Nat) (w : World) (h1 : w.cell? ⟨g, 0, none⟩ = some (.slice V s.length q)) (hs : Rd w V s) :
    Calls Try.prog 57 #[.int .i64 x, .pointer (some ⟨g, 0, none⟩)] w fun e w' => e = .returned (.bool (hasB s x)) ∧ Below w.heap.size w w' := by
  go_enter Try.func57, Try.ntmps57
  go_wp2_with fail
  refine (implHas _ _ _ _ _ hs).mono ?_
  rintro e w' ⟨rfl, rfl⟩
  go_wp2_with fail
  go_ret
  exact ⟨rfl, Below.refl _ _⟩

set_option maxHeartbeats 1000000 in
theorem closedOuter (x : Int) (g1 g2 : Nat) (A V : Option Addr) (t : List Task) (s : List Int) (c q : Nat) (w : World) (h1 : w.cell? ⟨g1, 0, none⟩ = some (.slice A t.length c)) (h2 : w.cell? ⟨g2, 0, none⟩ = some (.slice V s.length q))
    (hx : RdT w A t) (hs : Rd w V s) (h0 : 0 ≤ x) (hk : x.toNat < t.length) :
    Calls Try.prog 56 #[.int .i64 x, .pointer (some ⟨g1, 0, none⟩), .pointer (some ⟨g2, 0, none⟩)] w fun e w' => e = .returned (.bool ((afterAt t x).all fun k => hasB s k)) ∧ Below w.heap.size w w' := by
  obtain ⟨b, off, P, p, rfl, c1, c2, c3, c4, hP⟩ := hx.at_ hk
  have HA : Hid (afterAt t x = t[x.toNat].after) := afterAt_eq hk
  rw [HA.out]
  have hmf : ∀ (fn : Fn) (first cap : Array Value) (w : World), (Instr.makeFunc fn first cap).run Try.prog w = .ok (.func fn first cap) w := fun _ _ _ _ => rfl
  have hn := hx.len
  have hxl : x < t.length := by omega
  have HS := hid hs
  have H2 := hid h2
  clear hx hs h2
  go_enter Try.func56, Try.ntmps56
  go_wp2_with fail
  refine (implAll_In (.pointer (some ⟨g2, 0, none⟩)) _ _ _ (fun k => hasB s k) _ hP fun y hy w' hb => ?_).mono ?_
  · exact closedInner y g2 V s q w' (box_cell hb H2.out) (HS.out.below hb)
  · rintro e w1 ⟨rfl, hb⟩
    clear hmf
    go_wp2_with fail
    go_ret
    exact ⟨rfl, hb⟩

set_option maxHeartbeats 1000000 in
theorem implClosed (A V : Option Addr) (t : List Task) (s : List Int) (c q : Nat) (w : World) (hx : RdT w A t) (hs : Rd w V s) (hr : risesB 0 ((t.length : Int) - 1) s = true) :
    Calls Try.prog 38 #[.slice A t.length c, .slice V s.length q] w fun e w' => e = .returned (.bool (closedB t s)) ∧ Below w.heap.size w w' := by
  have hmf : ∀ (fn : Fn) (first cap : Array Value) (w : World), (Instr.makeFunc fn first cap).run Try.prog w = .ok (.func fn first cap) w := fun _ _ _ _ => rfl
  have HRm := hid (rises_mem hr)
  have hb0 : Below w.heap.size w ((w.alloc (.cells #[.slice A t.length c] 27)).alloc (.cells #[.slice V s.length q] 23)) := ((Below.refl _ _).alloc (Nat.le_refl _) _).alloc (by simp) _
  obtain ⟨w0, hw0⟩ : ∃ x, (w.alloc (.cells #[.slice A t.length c] 27)).alloc (.cells #[.slice V s.length q] 23) = x := ⟨_, rfl⟩
  have k1 : w0.cell? ⟨w.heap.size, 0, none⟩ = some (.slice A t.length c) := by rw [← hw0]; simp [go_sem]
  have k2 : w0.cell? ⟨w.heap.size + 1, 0, none⟩ = some (.slice V s.length q) := by rw [← hw0]; simp [go_sem]
  rw [hw0] at hb0
  have HX := hid (hx.below hb0)
  have HS := hid (hs.below hb0)
  have HB0 := hid hb0
  have HW := hid hw0
  have HK1 := hid k1
  clear hw0 hx hs hb0 k1
  go_enter Try.func38, Try.ntmps38
  go_upto_region 1 with fail
  rw [HW.out]
  clear HW
  go_wp2_with fail
  refine (implAll_Out (.pointer (some ⟨w.heap.size, 0, none⟩)) (.pointer (some ⟨w.heap.size + 1, 0, none⟩)) _ _ _ (fun i => (afterAt t i).all fun k => hasB s k) _ HS.out fun y hy w' hb => ?_).mono ?_
  · exact closedOuter y _ _ A V t s c q w' (box_cell hb HK1.out) (box_cell hb k2) (HX.out.below hb) (HS.out.below hb) (HRm.out y hy).1 (HRm.out y hy).2
  · rintro e w1 ⟨rfl, hb⟩
    have HQ := hid (HB0.out.trans (hb.mono HB0.out.size))
    clear hmf hb k2
    go_wp2_with fail
    go_ret
    exact ⟨rfl, HQ.out⟩

theorem all_step {α : Type} {p : α → Bool} {xs : List α} {k : Nat} (hk : k < xs.length) (h : (xs.take k).all p = true) (h1 : p xs[k] = true) : (xs.take (k + 1)).all p = true := by
  rw [take_next hk, List.all_append, h]; simpa using h1
theorem all_end {α : Type} {p : α → Bool} {xs : List α} {k : Nat} (hk : ¬ k < xs.length) (h : (xs.take k).all p = true) : xs.all p = true := by
  rwa [List.take_of_length_le (by omega)] at h
theorem all_bad {α : Type} {p : α → Bool} {xs : List α} {k : Nat} (hk : k < xs.length) (h1 : p xs[k] = false) : xs.all p = false := by
  rw [List.all_eq_false]; exact ⟨xs[k], List.getElem_mem hk, by simp [h1]⟩
set_option maxHeartbeats 2000000 in
theorem specClosed (A V : Option Addr) (t : List Task) (s : List Int) (c q : Nat) (w : World) (hx : RdT w A t) (hs : Rd w V s) (hr : risesB 0 ((t.length : Int) - 1) s = true) :
    Calls Try.prog 29 #[.slice A t.length c, .slice V s.length q] w fun e w' => e = .returned (.bool (closedB t s)) ∧ w = w' := by
  have hn := hs.len
  have hn2 := hx.len
  have HRm := hid (rises_mem hr)
  have HD : Hid (closedB t s = s.all fun i => (afterAt t i).all fun k => hasB s k) := rfl
  generalize closedB t s = R at HD ⊢
  go_enter Try.func29, Try.ntmps29
  go_wp2_with fail
  go_loop [5] (fun i => ∃ k : Nat, k ≤ s.length ∧ i = .int .i64 k ∧ ((s.take k).all fun i => (afterAt t i).all fun k => hasB s k) = true) (fun i => s.length - (intOf i).toNat)
  case atStart => exact ⟨0, Nat.zero_le _, rfl, rfl⟩
  case round =>
    obtain ⟨k, hk, rfl, hall⟩ := hrel
    have HA := hid hall
    clear hall
    by_cases hlt : k < s.length
    · obtain ⟨vb, voff, rfl, e1⟩ := hs.int hlt
      have hm := HRm.out _ (List.getElem_mem hlt)
      obtain ⟨b, off, P, p, rfl, c1, c2, c3, c4, hP⟩ := hx.at_ hm.2
      have HST := hid fun h => all_step (p := fun i => (afterAt t i).all fun k => hasB s k) hlt HA.out h
      have HBD := hid fun h => all_bad (p := fun i => (afterAt t i).all fun k => hasB s k) hlt h
      have HAT := hid (afterAt_eq hm.2)
      have hm1 : s[k] < t.length := by omega
      have hm0 := hm.1
      generalize s[k] = y at e1 hm c4 hP HST HBD HAT hm1 hm0
      have hpn := hP.len
      have HSr := hid hs
      clear hs hx
      go_wp2_with fail
      go_loop [7] (fun i => ∃ j : Nat, j ≤ t[y.toNat].after.length ∧ i = .int .i64 j ∧ ((t[y.toNat].after.take j).all fun k => hasB s k) = true) (fun i => t[y.toNat].after.length - (intOf i).toNat)
      case atStart => exact ⟨0, Nat.zero_le _, rfl, rfl⟩
      case round =>
        obtain ⟨j, hj, rfl, hin⟩ := hrel
        have HI := hid hin
        clear hin
        by_cases hjt : j < t[y.toNat].after.length
        · obtain ⟨pb, poff, rfl, e2⟩ := hP.int hjt
          have HS2 := hid fun h => all_step (p := fun k => hasB s k) hjt HI.out h
          have HB2 := hid fun h => all_bad (p := fun k => hasB s k) hjt h
          have HSl := HSr.out
          generalize t[y.toNat].after[j] = z at e2 HS2 HB2
          clear hP
          by_cases h1 : hasB s z = true
          · go_wp2_with fail
            refine (specHas _ _ _ _ _ HSl).mono ?_
            rintro e w' ⟨rfl, rfl⟩
            rw [h1]
            go_wp2_with fail
            go_round
            case rel => exact ⟨j + 1, by omega, by go_num, HS2.out h1⟩
            case measure => simp [intOf]; omega
          · rw [Bool.not_eq_true] at h1
            go_wp2_with fail
            refine (specHas _ _ _ _ _ HSl).mono ?_
            rintro e w' ⟨rfl, rfl⟩
            rw [h1]
            go_wp2_with fail
            go_ret
            exact ⟨ret_bool (by rw [HD.out, HBD.out (by rw [HAT.out]; exact HB2.out h1)]), rfl⟩
        · have HE := hid (all_end (p := fun k => hasB s k) hjt HI.out)
          clear hP
          go_wp2_with fail
          go_round
          case rel => exact ⟨k + 1, by omega, by go_num, HST.out (by rw [HAT.out]; exact HE.out)⟩
          case measure => simp [intOf]; omega
    · have HE := hid (all_end (p := fun i => (afterAt t i).all fun k => hasB s k) hlt HA.out)
      clear hs hx
      go_wp2_with fail
      go_ret
      exact ⟨ret_bool (by rw [HD.out, HE.out]), rfl⟩

set_option maxHeartbeats 400000 in
theorem sizeTasks0 (A : Option Addr) (n c : Nat) (w : World) (hn : n ≤ 1048576) : Calls Try.prog 37 #[.slice A n c] w fun e w' => e = .returned (.int .i64 n) ∧ w = w' := by
  go_enter Try.func37, Try.ntmps37
  go_wp2
  go_ret
  exact ⟨rfl, rfl⟩



end Go.Proofs.Ytdlddlgpaokgiaa
