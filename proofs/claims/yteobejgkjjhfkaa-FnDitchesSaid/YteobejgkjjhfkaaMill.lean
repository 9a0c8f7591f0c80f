/- Mills and stages: what they are in cells; valid; rates: walked. -/
import Derived.Test.YteobejgkjjhfkaaSpells
namespace Go.Proofs.Yteobejgkjjhfkaa
open Go.RowKit
set_option linter.unusedVariables false
structure Mill where
  l : Int
  r : Int
  a : Int
  b : Int
instance : Enc Mill := ⟨4, fun d => [.int .i64 d.l, .int .i64 d.r, .int .i64 d.a, .int .i64 d.b], fun _ => rfl, fun _ u h => by simp at h; rcases h with rfl | rfl | rfl | rfl <;> rfl⟩
theorem Rd.mill {w : World} {A : Option Addr} {xs : List Mill} (h : Rd w A xs) {k : Nat} (hk : k < xs.length) : ∃ b off, A = some ⟨b, off, none⟩ ∧
    w.cell? ⟨b, off + k * 4, none⟩ = some (.int .i64 xs[k].l) ∧ w.cell? ⟨b, off + k * 4 + 1, none⟩ = some (.int .i64 xs[k].r) ∧ w.cell? ⟨b, off + k * 4 + 2, none⟩ = some (.int .i64 xs[k].a) ∧ w.cell? ⟨b, off + k * 4 + 3, none⟩ = some (.int .i64 xs[k].b) := by
  obtain ⟨b, off, hA, hc⟩ := h.2 k hk
  exact ⟨b, off, hA, hc 0 _ rfl, hc 1 _ rfl, hc 2 _ rfl, hc 3 _ rfl⟩
theorem elMill : El Try.prog 79 84 (⟨0, 0, 0, 0⟩ : Mill) :=
  El.mk' (z := .agg #[.int .i64 0, .int .i64 0, .int .i64 0, .int .i64 0]) (bytes := 32) Try.underlying79 (by kernel_rfl) (by decide) rfl (by decide)
/-- A mill that is drawn. -/
def MillOk (m : Mill) : Prop := (1 ≤ m.l ∧ m.l ≤ 500) ∧ (1 ≤ m.r ∧ m.r ≤ 1000) ∧ 1 ≤ m.a ∧ m.a ≤ m.b ∧ m.b ≤ 12
def MillsOk (ms : List Mill) : Prop := (1 ≤ ms.length ∧ ms.length ≤ 5) ∧ ∀ m ∈ ms, MillOk m
def rateM (f : Int) (m : Mill) : Int := if m.a ≤ f ∧ f ≤ m.b then m.r * (f - m.a + 1) / (m.b - m.a + 1) else 0
theorem rateM_range {m : Mill} (h : MillOk m) (f : Int) : 0 ≤ rateM f m ∧ rateM f m ≤ 1000 := by
  unfold rateM
  split
  · rename_i hf
    obtain ⟨_, h2, h3, h4, h5⟩ := h
    have e1 : 0 ≤ m.r * (f - m.a + 1) := Int.mul_nonneg (by omega) (by omega)
    have e2 : m.r * (f - m.a + 1) ≤ 1000 * (m.b - m.a + 1) := Int.mul_le_mul (by omega) (by omega) (by omega) (by omega)
    refine ⟨Int.ediv_nonneg e1 (by omega), ?_⟩
    have := Int.ediv_le_ediv (show 0 < m.b - m.a + 1 by omega) e2
    rwa [Int.mul_ediv_cancel _ (by omega)] at this
  · omega
set_option maxHeartbeats 1000000 in
theorem validMill_ (m : Mill) (h : MillOk m) (w : World) : Calls Try.prog 133 #[.agg #[.int .i64 m.l, .int .i64 m.r, .int .i64 m.a, .int .i64 m.b]] w fun e w' => e = .returned (.bool true) ∧ Below w.heap.size w w' := by
  obtain ⟨h1, h2, h3, h4, h5⟩ := h
  have H1 : Hid (inB m.l 1 500 = true) := inB_lit h1
  have H2 : Hid (inB m.r 1 10000 = true) := inB_lit (by omega)
  obtain ⟨l, r, a, b⟩ := m
  simp only at *
  go_enter Try.func133, Try.ntmps133
  go_wp2_with (go_at_call 59; refine (implIn _ _ _ _).mono ?_; rintro e w' ⟨rfl, rfl⟩; first | rw [H1.out] | rw [H2.out])
  go_ret
  exact ⟨by first | rfl | exact ret_bool (by simp; omega), (Below.refl _ _).alloc (Nat.le_refl _) _⟩
set_option maxHeartbeats 1000000 in
theorem rate_ (m : Mill) (f : Int) (h : MillOk m) (hf : 0 ≤ f ∧ f ≤ 12) (w : World) : Calls Try.prog 134 #[.agg #[.int .i64 m.l, .int .i64 m.r, .int .i64 m.a, .int .i64 m.b], .int .i64 f] w fun e w' => e = .returned (.int .i64 (rateM f m)) ∧ Below w.heap.size w w' := by
  obtain ⟨h1, h2, h3, h4, h5⟩ := h
  obtain ⟨R, hR⟩ : ∃ R, rateM f m = R := ⟨_, rfl⟩
  rw [hR]
  unfold rateM at hR
  obtain ⟨l, r, a, b⟩ := m
  simp only at *
  by_cases hc : a ≤ f ∧ f ≤ b
  · have H1 : Hid (inB f a b = true) := inB_lit hc
    have e1 : 0 ≤ r * (f - a + 1) := Int.mul_nonneg (by omega) (by omega)
    have e2 : r * (f - a + 1) ≤ 1000 * 12 := Int.mul_le_mul (by omega) (by omega) (by omega) (by omega)
    rw [if_pos hc] at hR
    have e3 : 0 ≤ r * (f - a + 1) / (b - a + 1) := Int.ediv_nonneg e1 (by omega)
    have e4 : r * (f - a + 1) / (b - a + 1) ≤ r * (f - a + 1) := Int.ediv_le_self _ e1
    have HR := hid hR
    clear hR
    go_enter Try.func134, Try.ntmps134
    go_wp2_with (go_at_call 59; refine (implIn _ _ _ _).mono ?_; rintro e w' ⟨rfl, rfl⟩; rw [H1.out])
    go_ret
    exact ⟨ret_int HR.out, (Below.refl _ _).alloc (Nat.le_refl _) _⟩
  · have H1 : Hid (inB f a b = false) := by
      show inB f a b = false
      rw [← Bool.not_eq_true, inB_true]
      exact hc
    rw [if_neg hc] at hR
    subst hR
    go_enter Try.func134, Try.ntmps134
    go_wp2_with (go_at_call 59; refine (implIn _ _ _ _).mono ?_; rintro e w' ⟨rfl, rfl⟩; rw [H1.out])
    go_ret
    exact ⟨rfl, (Below.refl _ _).alloc (Nat.le_refl _) _⟩
set_option maxHeartbeats 1000000 in
theorem allMill_ (A : Option Addr) (xs : List Mill) (c : Nat) (w : World) (hx : Rd w A xs) (hok : ∀ m ∈ xs, MillOk m) :
    Calls Try.prog 132 #[.slice A xs.length c, .func (.func 133) #[] #[]] w fun e w' => e = .returned (.bool true) ∧ Below w.heap.size w w' := by
  have hn := hx.len
  have HX := hid hx
  have HOK := hid hok
  clear hx hok
  go_enter Try.func132, Try.ntmps132
  go_wp2_with fail
  go_loopw [9] (fun i wr => ∃ k : Nat, k ≤ xs.length ∧ i = .int .i64 k ∧ Below w.heap.size w wr) (fun i _ => xs.length - (intOf i).toNat)
  case atStart => exact ⟨0, Nat.zero_le _, rfl, Below.refl _ _⟩
  case round =>
    obtain ⟨k, hk, rfl, hq⟩ := hrel
    obtain ⟨wo, rfl⟩ : ∃ wo : World, wo = wr := ⟨_, rfl⟩
    have HQ := hid hq
    have hqs := hq.size
    have HX2 := hid (HX.out.below hq)
    clear hq
    by_cases hlt : k < xs.length
    · obtain ⟨b, off, rfl, c1, c2, c3, c4⟩ := HX2.out.mill hlt
      have HM := hid (HOK.out _ (List.getElem_mem hlt))
      generalize xs[k] = m at c1 c2 c3 c4 HM
      go_wp2_with (go_at_call 133; refine (validMill_ m HM.out _).mono ?_; rintro e w' ⟨rfl, hb⟩; have HB := hid hb; clear hb)
      go_roundw
      case rel => exact ⟨k + 1, by omega, by go_num, (HQ.out.alloc HQ.out.size _).trans (HB.out.mono (le_alloc HQ.out.size))⟩
      case measure => simp [intOf]; omega
    · go_wp2_with fail
      go_ret
      exact ⟨rfl, HQ.out⟩
theorem sizeMills (A : Option Addr) (n c : Nat) (w : World) (hn : n ≤ 1048576) : Calls Try.prog 101 #[.slice A n c] w fun e w' => e = .returned (.int .i64 n) ∧ w = w' := by
  go_enter Try.func101, Try.ntmps101
  go_wp2_with fail
  go_ret
  exact ⟨rfl, rfl⟩
set_option maxHeartbeats 1000000 in
theorem areMills_ (A : Option Addr) (xs : List Mill) (c : Nat) (w : World) (hx : Rd w A xs) (hok : MillsOk xs) :
    Calls Try.prog 98 #[.slice A xs.length c] w fun e w' => e = .returned (.bool true) ∧ Below w.heap.size w w' := by
  have hn := hx.len
  have HX := hid hx
  have HOK := hid hok.2
  have h1 : inB (xs.length : Int) 1 8 = true := inB_lit (by have := hok.1; omega)
  have H1 := hid h1
  clear hx hok h1
  go_enter Try.func98, Try.ntmps98
  go_wp2_with (first | (go_at_call 101; refine (sizeMills _ _ _ _ hn).mono ?_; rintro e w' ⟨rfl, rfl⟩) | (go_at_call 59; refine (implIn _ _ _ _).mono ?_; rintro e w' ⟨rfl, rfl⟩; rw [H1.out]))
  refine (allMill_ _ _ _ _ HX.out HOK.out).mono ?_
  rintro e w2 ⟨rfl, hb⟩
  have HB := hid hb
  clear hb
  go_wp2_with fail
  go_ret
  exact ⟨rfl, HB.out⟩
/-- Stages: a slice of slices of mills. -/
def MsAll (w : World) : List SlC → List (List Mill) → Prop
  | [], [] => True
  | s :: ss, p :: ps => (s.n = p.length ∧ Rd w s.A p) ∧ MsAll w ss ps
  | _, _ => False
theorem MsAll.len {w : World} : ∀ {ss : List SlC} {ps : List (List Mill)}, MsAll w ss ps → ss.length = ps.length
  | [], [], _ => rfl
  | s :: ss, p :: ps, h => by simp [MsAll.len h.2]
  | [], p :: ps, h => h.elim
  | s :: ss, [], h => h.elim
theorem MsAll.below {w w' : World} (hb : Below w.heap.size w w') : ∀ {ss : List SlC} {ps : List (List Mill)}, MsAll w ss ps → MsAll w' ss ps
  | [], [], _ => trivial
  | s :: ss, p :: ps, h => ⟨⟨h.1.1, h.1.2.below hb⟩, MsAll.below hb h.2⟩
  | [], p :: ps, h => h.elim
  | s :: ss, [], h => h.elim
theorem MsAll.at_ {w : World} : ∀ {ss : List SlC} {ps : List (List Mill)}, MsAll w ss ps → ∀ k, (h1 : k < ss.length) → (h2 : k < ps.length) → ss[k].n = ps[k].length ∧ Rd w ss[k].A ps[k]
  | s :: ss, p :: ps, h, 0, _, _ => h.1
  | s :: ss, p :: ps, h, k + 1, h1, h2 => MsAll.at_ h.2 k (by simpa using h1) (by simpa using h2)
  | [], [], _, k, h1, _ => absurd h1 (by simp)
  | [], p :: ps, h, _, _, _ => h.elim
  | s :: ss, [], h, _, _, _ => h.elim
def RdS (w : World) (A : Option Addr) (st : List (List Mill)) : Prop := ∃ ss : List SlC, Rd w A ss ∧ MsAll w ss st
theorem RdS.below {w w' : World} {A : Option Addr} {ps : List (List Mill)} (h : RdS w A ps) (hb : Below w.heap.size w w') : RdS w' A ps := by
  obtain ⟨ss, h1, h2⟩ := h
  exact ⟨ss, h1.below hb, h2.below hb⟩
theorem RdS.at_ {w : World} {A : Option Addr} {ps : List (List Mill)} (h : RdS w A ps) {k : Nat} (hk : k < ps.length) : ∃ b off g q, A = some ⟨b, off, none⟩ ∧
    w.cell? ⟨b, off + k, none⟩ = some (.slice g ps[k].length q) ∧ Rd w g ps[k] := by
  obtain ⟨ss, h1, h2⟩ := h
  have hk' : k < ss.length := by rw [h2.len]; exact hk
  obtain ⟨b, off, hA, hc⟩ := h1.slc hk'
  obtain ⟨e1, e2⟩ := h2.at_ k hk' hk
  exact ⟨b, off, ss[k].A, ss[k].c, hA, by rw [hc, e1], e2⟩
def StOk (st : List (List Mill)) : Prop := (1 ≤ st.length ∧ st.length ≤ 3) ∧ ∀ ms ∈ st, MillsOk ms
set_option maxHeartbeats 1000000 in
theorem allStages_ (A : Option Addr) (xs : List (List Mill)) (c : Nat) (w : World) (hx : RdS w A xs) (hok : StOk xs) :
    Calls Try.prog 117 #[.slice A xs.length c, .func (.func 98) #[] #[]] w fun e w' => e = .returned (.bool true) ∧ Below w.heap.size w w' := by
  have hn : xs.length ≤ 3 := hok.1.2
  have HX := hid hx
  have HOK := hid hok.2
  clear hx hok
  go_enter Try.func117, Try.ntmps117
  go_wp2_with fail
  go_loopw [9] (fun i wr => ∃ k : Nat, k ≤ xs.length ∧ i = .int .i64 k ∧ Below w.heap.size w wr) (fun i _ => xs.length - (intOf i).toNat)
  case atStart => exact ⟨0, Nat.zero_le _, rfl, Below.refl _ _⟩
  case round =>
    obtain ⟨k, hk, rfl, hq⟩ := hrel
    obtain ⟨wo, rfl⟩ : ∃ wo : World, wo = wr := ⟨_, rfl⟩
    have HQ := hid hq
    have HX2 := hid (HX.out.below hq)
    clear hq
    by_cases hlt : k < xs.length
    · obtain ⟨b, off, g, q, rfl, c1, hms⟩ := HX2.out.at_ hlt
      have HM := hid (HOK.out _ (List.getElem_mem hlt))
      have HMS := hid hms
      clear hms
      generalize xs[k] = ms at c1 HMS HM
      go_wp2_with fail
      refine (areMills_ _ _ _ _ HMS.out HM.out).mono ?_
      rintro e w' ⟨rfl, hb⟩
      have HB := hid hb
      clear hb
      go_wp2_with fail
      go_roundw
      case rel => exact ⟨k + 1, by omega, by go_num, HQ.out.trans (HB.out.mono HQ.out.size)⟩
      case measure => simp [intOf]; omega
    · go_wp2_with fail
      go_ret
      exact ⟨rfl, HQ.out⟩
theorem sizeStages (A : Option Addr) (n c : Nat) (w : World) (hn : n ≤ 1048576) : Calls Try.prog 116 #[.slice A n c] w fun e w' => e = .returned (.int .i64 n) ∧ w = w' := by
  go_enter Try.func116, Try.ntmps116
  go_wp2_with fail
  go_ret
  exact ⟨rfl, rfl⟩
set_option maxHeartbeats 1000000 in
theorem validStages_ (A : Option Addr) (xs : List (List Mill)) (c : Nat) (w : World) (hx : RdS w A xs) (hok : StOk xs) :
    Calls Try.prog 74 #[.slice A xs.length c] w fun e w' => e = .returned (.bool true) ∧ Below w.heap.size w w' := by
  have HX := hid hx
  have HOK := hid hok
  have h3 := hok.1
  have h1 : inB (xs.length : Int) 1 4 = true := inB_lit (by omega)
  have H1 := hid h1
  clear hx hok h1
  go_enter Try.func74, Try.ntmps74
  go_wp2_with (first | (go_at_call 116; refine (sizeStages _ _ _ _ (by omega)).mono ?_; rintro e w' ⟨rfl, rfl⟩) | (go_at_call 59; refine (implIn _ _ _ _).mono ?_; rintro e w' ⟨rfl, rfl⟩; rw [H1.out]))
  refine (allStages_ _ _ _ _ HX.out HOK.out).mono ?_
  rintro e w2 ⟨rfl, hb⟩
  have HB := hid hb
  clear hb
  go_wp2_with fail
  go_ret
  exact ⟨rfl, HB.out⟩
set_option maxHeartbeats 2000000 in
theorem millRates_ (A : Option Addr) (xs : List Mill) (c : Nat) (f : Int) (w : World) (hx : Rd w A xs) (hok : MillsOk xs) (hf : 0 ≤ f ∧ f ≤ 12) :
    Calls Try.prog 99 #[.slice A xs.length c, .int .i64 f] w fun e w' => ∃ u, e = .returned u ∧ Own w' w.heap.size 2 u (xs.map (rateM f)) ∧ Below w.heap.size w w' := by
  have hx5 := hok.1
  have HX := hid hx
  have HOK := hid hok.2
  obtain ⟨F, hF⟩ : ∃ F, xs.map (rateM f) = F := ⟨_, rfl⟩
  rw [hF]
  have HF : Hid ([] ++ (xs.drop 0).map (rateM f) = F) := by rw [List.drop_zero]; exact hF
  clear hx hok hF
  go_enter Try.func99, Try.ntmps99
  go_wp2_with fail
  go_loopw [5, 11] (fun ov i wr => ∃ (k : Nat) (os : List Int), k ≤ xs.length ∧ i = .int .i64 k ∧ os.length = k ∧ os ++ (xs.drop k).map (rateM f) = F ∧ Own wr w.heap.size 2 ov os ∧ Below w.heap.size w wr) (fun _ i _ => xs.length - (intOf i).toNat)
  case atStart => exact ⟨0, [], Nat.zero_le _, rfl, rfl, HF.out, Own.empty (Nat.le_refl _), (Below.refl _ _).alloc (Nat.le_refl _) _⟩
  case round =>
    obtain ⟨k, os, hk, rfl, hol, hrl, ho, hq⟩ := hrel
    obtain ⟨wo, rfl⟩ : ∃ wo : World, wo = wr := ⟨_, rfl⟩
    have HQ := hid hq
    have HOO := hid ho
    have HX2 := hid (HX.out.below hq)
    obtain ⟨V, vq, rfl⟩ := ho.form
    have hos : os.length ≤ 1048576 := by omega
    have HOL := hid hol
    clear ho hq hol
    by_cases hlt : k < xs.length
    · obtain ⟨b, off, rfl, c1, c2, c3, c4⟩ := HX2.out.mill hlt
      have HM := hid (HOK.out _ (List.getElem_mem hlt))
      rw [List.drop_eq_getElem_cons hlt, List.map_cons] at hrl
      generalize xs[k] = m at c1 c2 c3 c4 HM hrl
      have HRL := hid hrl
      clear hrl
      go_wp2_with (first | fail | (go_at_call 134; refine (rate_ m f HM.out hf _).mono ?_; rintro e w' ⟨rfl, hb⟩; have HB := hid hb; clear hb; refine keep_ ?_))
      have HO2 := hid ((HOO.out.alloc _).below HB.out)
      have HQ2 := hid ((HQ.out.alloc HQ.out.size (.cells #[.int .i64 m.l, .int .i64 m.r, .int .i64 m.a, .int .i64 m.b] 84)).trans (HB.out.mono (le_alloc HQ.out.size)))
      refine go_ ?_
      go_wp2_with (first | fail | (at_builtin; refine wpList_push elInt _ rfl (.tmp 15) (.tmp 19) rfl w.heap.size _ os (rateM f m) rfl (HO2.out.alloc _) _ rfl (heap_alloc_new _ _) hos (le_alloc HQ2.out.size) ?_; intro v' w' hown' hg' hat'; refine keep_ ?_))
      have hbn := below_own (HQ2.out.alloc HQ2.out.size _) (HO2.out.alloc _) hg' (Nat.le_refl _) (le_alloc HQ2.out.size)
      have Z1 := hid hbn
      have Z2 := hid hown'
      clear hbn hown' hg' hat'
      refine go_ ?_
      go_wp2_with fail
      go_roundw
      case rel => exact ⟨k + 1, os ++ [rateM f m], by omega, by go_num, by rw [List.length_append, HOL.out]; rfl, by rw [List.append_assoc]; exact HRL.out, Z2.out, Z1.out⟩
      case measure => simp [intOf]; omega
    · rw [List.drop_eq_nil_of_le (by omega)] at hrl
      simp only [List.map_nil, List.append_nil] at hrl
      have E1 := hid hrl
      clear hrl
      go_wp2_with fail
      go_ret
      exact ⟨_, rfl, by rw [← E1.out]; exact HOO.out, HQ.out⟩
end Go.Proofs.Yteobejgkjjhfkaa
