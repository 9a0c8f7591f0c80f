/- sort.stable_func: walked. -/
import Derived.Test.YtampbbknhbhcbaaSortSym
namespace Go.Proofs.Ytampbbknhbhcbaa
open Go.RowKit Go.Sort Go.Lib
set_option linter.unusedVariables false
set_option linter.unusedSimpArgs false
section
variable {α : Type}
/-- Full blocks, each sorted. -/
inductive Full (R : α → α → Prop) (bs : Nat) : List α → List α → Prop
  | nil : Full R bs [] []
  | cons {c c0 l l0 : List α} : c.length = bs → c.Pairwise R → c.Perm c0 → Full R bs l l0 → Full R bs (c ++ l) (c0 ++ l0)
theorem Full.snoc {R : α → α → Prop} {bs : Nat} {l l0 c c0 : List α} (h : Full R bs l l0) (h1 : c.length = bs) (h2 : c.Pairwise R) (h3 : c.Perm c0) : Full R bs (l ++ c) (l0 ++ c0) := by
  induction h with
  | nil => have := Full.cons h1 h2 h3 Full.nil; simpa using this
  | cons g1 g2 g3 g4 ih => rw [List.append_assoc, List.append_assoc]; exact Full.cons g1 g2 g3 ih
theorem Full.perm {R : α → α → Prop} {bs : Nat} {l l0 : List α} (h : Full R bs l l0) : l.Perm l0 := by
  induction h with
  | nil => exact List.Perm.refl _
  | cons g1 g2 g3 g4 ih => exact g3.append ih
theorem Full.mult {R : α → α → Prop} {bs : Nat} {l l0 : List α} (h : Full R bs l l0) : l = [] ∨ bs ≤ l.length := by
  cases h with
  | nil => exact .inl rfl
  | cons g1 g2 g3 g4 => right; rw [List.length_append]; omega
theorem Full.un {R : α → α → Prop} {bs : Nat} {l l0 : List α} (h : Full R bs l l0) (hl : 0 < l.length) : ∃ c c0 l' l0', l = c ++ l' ∧ l0 = c0 ++ l0' ∧ c.length = bs ∧ c.Pairwise R ∧ c.Perm c0 ∧ Full R bs l' l0' := by
  cases h with
  | nil => simp at hl
  | cons g1 g2 g3 g4 => exact ⟨_, _, _, _, rfl, rfl, g1, g2, g3, g4⟩
/-- Full blocks and a lesser one behind them. -/
def Ch (R : α → α → Prop) (bs : Nat) (l l0 : List α) : Prop := ∃ s s0 c c0, l = s ++ c ∧ l0 = s0 ++ c0 ∧ Full R bs s s0 ∧ c.length < bs ∧ c.Pairwise R ∧ c.Perm c0
theorem Ch.perm {R : α → α → Prop} {bs : Nat} {l l0 : List α} (h : Ch R bs l l0) : l.Perm l0 := by
  obtain ⟨s, s0, c, c0, rfl, rfl, h1, _, _, h4⟩ := h
  exact h1.perm.append h4
theorem Ch.done {R : α → α → Prop} {bs : Nat} {l l0 : List α} (h : Ch R bs l l0) (hl : l.length ≤ bs) (hb : 0 < bs) : l.Pairwise R := by
  obtain ⟨s, s0, c, c0, rfl, rfl, h1, h2, h3, h4⟩ := h
  rw [List.length_append] at hl
  by_cases hs : s.length = 0
  · have : s = [] := List.eq_nil_of_length_eq_zero hs
    subst this
    simpa using h3
  · obtain ⟨d, d0, l', l0', rfl, rfl, g1, g2, g3, g4⟩ := h1.un (by omega)
    rw [List.length_append] at hl
    have e1 : l' = [] := List.eq_nil_of_length_eq_zero (by omega)
    have e2 : c = [] := List.eq_nil_of_length_eq_zero (by omega)
    subst e1 e2
    simpa using g2
theorem bef_perm {lt : α → α → Bool} {R : α → α → Prop} {c d c0 d0 : List α} (h : (c0 ++ d0).Pairwise (Bef lt R)) (hc : c.Perm c0) (hd : d.Perm d0) : ∀ x ∈ c, ∀ y ∈ d, Bef lt R x y := fun x hx y hy =>
  (List.pairwise_append.1 h).2.2 x (hc.mem_iff.1 hx) y (hd.mem_iff.1 hy)
end
section
variable {α : Type} [Inhabited α] {enc : α → Value} {lt : α → α → Bool} {g : Nat} {lb : Array Value} {sf : Nat} {sb : Array Value} {blk off size : Nat} {w0 W : World}
set_option maxRecDepth 100000 in
set_option maxHeartbeats 16000000 in
theorem stable_ (E : SEnv enc lt g lb sf sb blk off size W) (R : α → α → Prop) (ht : ∀ a b c, R a b → R b c → R a c) (l0 : List α) (hW : SW enc W blk off l0.toArray W) (hl : l0.length = size) (hb : l0.Pairwise (Bef lt R)) :
    Calls Try.prog 76 #[.agg #[.func (.func g) #[] lb, .func (.func sf) #[] sb], .int .i64 size] W fun e w' =>
      e = .returned (.tuple #[]) ∧ ∃ l' : List α, l'.Perm l0 ∧ l'.Pairwise R ∧ SW enc W blk off l'.toArray w' := by
  have hsz := E.le
  have hlt := E.lt
  have HE := hid E
  have HT := hid ht
  have HB := hid hb
  have HL := hid hl
  have HW0 := hid (hW.alloc (.cells #[.func (.func g) #[] lb, .func (.func sf) #[] sb] 97))
  clear hW hl hb E ht
  go_enter Try.func76, Try.ntmps76
  go_wp2_with fail
  go_loopw [5, 6] (fun x y wr => ∃ (a : Nat) (s s0 rest : List α), x = .int .i64 a ∧ y = .int .i64 ((a : Int) + 20) ∧ a ≤ size ∧ s.length = a ∧ Full R 20 s s0 ∧ l0 = s0 ++ rest ∧ SW enc W blk off (s ++ rest).toArray wr ∧
      wr.cell? ⟨W.heap.size, 0, none⟩ = some (.func (.func g) #[] lb) ∧ wr.cell? ⟨W.heap.size, 1, none⟩ = some (.func (.func sf) #[] sb)) (fun x _ _ => (size - intOf x).toNat)
  case atStart => exact ⟨0, [], [], l0, rfl, by exact val_int (by omega), by omega, rfl, Full.nil, rfl, HW0.out, by simp [go_sem], by simp [go_sem]⟩
  case round =>
    obtain ⟨a, s, s0, rest, rfl, rfl, has, hsl, hfu, hl0, hw, hb0, hb1⟩ := hrel
    have hrl : s0.length = s.length := hfu.perm.length_eq.symm
    have hlr : a + rest.length = size := by have := HL.out; rw [hl0, List.length_append] at this; omega
    have HW2 := hid hw
    have HFU := hid hfu
    have HL0 := hid hl0
    have HSL := hid hsl
    have HLR := hid hlr
    have hlen : (s ++ rest).length = size := by rw [List.length_append]; omega
    have HLEN := hid hlen
    have hbr : rest.Pairwise (Bef lt R) := by have := HB.out; rw [hl0] at this; exact (List.pairwise_append.1 this).2.1
    have HBR := hid hbr
    clear hw hfu hl0 hsl hrl hlr HW0 hlen hbr
    by_cases h20 : a + 20 ≤ size
    · have hc : Calls Try.prog 87 #[.agg #[.func (.func g) #[] lb, .func (.func sf) #[] sb], .int .i64 a, .int .i64 ((a : Int) + 20)] wr fun e w' =>
          e = .returned (.tuple #[]) ∧ ∃ s' : List α, s'.Perm (rest.take 20) ∧ s'.Pairwise R ∧ SW enc wr blk off (s ++ s' ++ rest.drop 20).toArray w' := by
        have e1 : s ++ rest.take 20 ++ rest.drop 20 = s ++ rest := by rw [List.append_assoc, List.take_append_drop]
        have h := insertionSort_ (HE.out.at_ HW2.out HLEN.out) R HT.out s (rest.take 20) (rest.drop 20) a (a + 20) (by rw [e1]; exact HE.out.here HW2.out HLEN.out) (by rw [e1]; exact HLEN.out) HSL.out.symm (by rw [List.length_take]; have := HSL.out; have := HLR.out; omega) (HBR.out.sublist (List.take_sublist _ _)) (by rw [List.length_take]; have := HLR.out; omega)
        rw [show ((a + 20 : Nat) : Int) = (a : Int) + 20 by omega] at h
        exact h
      have HC := hid hc
      clear hc
      go_wp2_with (go_at_call 87; refine HC.out.mono ?_; rintro e w3 ⟨rfl, s', p1, p2, h3⟩; refine keep_ ?_)
      have c0 := HE.out.keep h3 ⟨W.heap.size, 0, none⟩ _ (by show W.heap.size ≠ blk; omega) hb0
      have c1 := HE.out.keep h3 ⟨W.heap.size, 1, none⟩ _ (by show W.heap.size ≠ blk; omega) hb1
      have hs' : s'.length = 20 := by have := p1.length_eq; rw [List.length_take] at this; have := HLR.out; omega
      have hl3 : (s ++ s' ++ rest.drop 20).length = size := by simp only [List.length_append, List.length_drop]; have := HLR.out; have := HSL.out; omega
      have H3 := hid (HE.out.then_ HW2.out HLEN.out h3 hl3)
      have F3 := hid (HFU.out.snoc hs' p2 p1)
      have L3 : Hid ((s ++ s').length = a + 20) := by show _ = _; rw [List.length_append]; have := HSL.out; omega
      clear hb0 hb1 h3 hl3 hs' p1 p2
      refine go_ ?_
      go_wp2_with fail
      go_roundw
      case rel => exact ⟨a + 20, s ++ s', s0 ++ rest.take 20, rest.drop 20, by exact val_int (by omega), by exact val_int (by omega), by omega, L3.out, F3.out, by rw [List.append_assoc, List.take_append_drop]; exact HL0.out, H3.out, c0, c1⟩
      case measure => simp [intOf]; omega
    · -- the rest
      have hst : Calls Try.prog 87 #[.agg #[.func (.func g) #[] lb, .func (.func sf) #[] sb], .int .i64 a, .int .i64 size] wr fun e w' =>
          e = .returned (.tuple #[]) ∧ ∃ s' : List α, s'.Perm rest ∧ s'.Pairwise R ∧ SW enc wr blk off (s ++ s').toArray w' := by
        by_cases hr0 : rest.length = 0
        · have hrn : rest = [] := List.eq_nil_of_length_eq_zero hr0
          have hae : a = size := by have := HLR.out; omega
          rw [hrn, ← hae]
          refine (insNone_ a wr (by omega)).mono ?_
          rintro e w' ⟨rfl, rfl⟩
          have hh := HE.out.here HW2.out HLEN.out
          rw [hrn] at hh
          exact ⟨rfl, [], List.Perm.refl _, by simp, hh.alloc _⟩
        · have h := insertionSort_ (HE.out.at_ HW2.out HLEN.out) R HT.out s rest [] a size (by rw [List.append_nil]; exact HE.out.here HW2.out HLEN.out) (by rw [List.append_nil]; exact HLEN.out) HSL.out.symm (by have := HSL.out; have := HLR.out; omega) HBR.out (by omega)
          refine h.mono ?_
          rintro e w' ⟨rfl, s', p1, p2, h3⟩
          rw [List.append_nil] at h3
          exact ⟨rfl, s', p1, p2, h3⟩
      have HST := hid hst
      clear hst
      go_wp2_with (go_at_call 87; refine HST.out.mono ?_; rintro e w3 ⟨rfl, s', p1, p2, h3⟩; refine keep_ ?_)
      have c0 := HE.out.keep h3 ⟨W.heap.size, 0, none⟩ _ (by show W.heap.size ≠ blk; omega) hb0
      have c1 := HE.out.keep h3 ⟨W.heap.size, 1, none⟩ _ (by show W.heap.size ≠ blk; omega) hb1
      have hl3 : (s ++ s').length = size := by rw [List.length_append, p1.length_eq]; have := HLR.out; have := HSL.out; omega
      have H3 := hid (HE.out.then_ HW2.out HLEN.out h3 hl3)
      have HCH : Hid (Ch R 20 (s ++ s') l0) := ⟨s, s0, s', rest, rfl, HL0.out, HFU.out, by rw [p1.length_eq]; have := HLR.out; omega, p2, p1⟩
      have HLN := hid hl3
      clear hb0 hb1 h3 hl3 p1 p2 HW2 HFU HL0 HSL HLR HLEN HBR HST h20
      generalize s ++ s' = lc at H3 HCH HLN
      refine go_ ?_
      go_wp2_with fail
      go_loopw [4, 5, 6, 7] (fun x4 x5 x6 x7 wr => ∃ (bs : Nat) (l : List α), x4 = .int .i64 bs ∧ (20 ≤ bs ∧ bs ≤ 2000) ∧ Ch R bs l l0 ∧ l.length = size ∧ SW enc W blk off l.toArray wr ∧
          wr.cell? ⟨W.heap.size, 0, none⟩ = some (.func (.func g) #[] lb) ∧ wr.cell? ⟨W.heap.size, 1, none⟩ = some (.func (.func sf) #[] sb)) (fun x4 _ _ _ _ => (size - intOf x4).toNat)
      case atStart => exact ⟨20, lc, rfl, by omega, HCH.out, HLN.out, H3.out, c0, c1⟩
      case round =>
        clear H3 HCH HLN c0 c1
        obtain ⟨bs, l, rfl, hbs, hch, hln, hw, hb0, hb1⟩ := hrel
        have HCH := hid hch
        have HLN := hid hln
        have HW2 := hid hw
        clear hch hln hw
        by_cases hlt3 : bs < size
        · obtain ⟨s1, s10, c, cc0, g1, g2, g3, g4, g5, g6⟩ := HCH.out
          have G1 : Hid (SW enc W blk off ([] ++ (s1 ++ c)).toArray wr) := by have := HW2.out; rw [g1] at this; exact hid (by simpa using this)
          have G2 : Hid (l0 = [] ++ (s10 ++ cc0)) := g2
          have G3 := hid g3
          have G5 := hid g5
          have G6 := hid g6
          have GL : Hid (([] ++ (s1 ++ c) : List α).length = size) := by have := HLN.out; rw [g1] at this; exact hid (by simpa using this)
          clear g1 g2 g3 g5 g6 HW2 HCH HLN
          go_wp2_with fail
          go_loopw [5, 6] (fun x5 x6 wr => ∃ (a : Nat) (d d0 s s0 : List α), x5 = .int .i64 a ∧ x6 = .int .i64 ((a : Int) + 2 * (bs : Int)) ∧ d.length = a ∧ Full R (2 * bs) d d0 ∧ Full R bs s s0 ∧ l0 = d0 ++ (s0 ++ cc0) ∧ (d ++ (s ++ c)).length = size ∧ SW enc W blk off (d ++ (s ++ c)).toArray wr ∧
              wr.cell? ⟨W.heap.size, 0, none⟩ = some (.func (.func g) #[] lb) ∧ wr.cell? ⟨W.heap.size, 1, none⟩ = some (.func (.func sf) #[] sb)) (fun x5 _ _ => (size - intOf x5).toNat)
          case atStart => exact ⟨0, [], [], s1, s10, rfl, by exact val_int (by omega), rfl, Full.nil, G3.out, G2.out, GL.out, G1.out, hb0, hb1⟩
          case round =>
            clear G1 G2 G3 GL hb0 hb1
            obtain ⟨a, d, d0, s, s0, rfl, rfl, hda, hfd, hfs, hl0, hln, hw, hb0, hb1⟩ := hrel
            have hlens : a + s.length + c.length = size := by simp only [List.length_append] at hln; omega
            have HFD := hid hfd
            have HL0 := hid hl0
            have HW3 := hid hw
            have HLN := hid hln
            have HDA := hid hda
            have HBF : Hid ((d0 ++ (s0 ++ cc0)).Pairwise (Bef lt R)) := by have := HB.out; rwa [hl0] at this
            by_cases h2 : a + 2 * bs ≤ size
            · obtain ⟨x1, x10, s2, s20, e1, e2, f1, f2, f3, f4⟩ := hfs.un (by omega)
              obtain ⟨y1, y10, s3, s30, e3, e4, f5, f6, f7, f8⟩ := f4.un (by rw [e1, List.length_append] at hlens; omega)
              subst e1 e2 e3 e4
              have hbx : ∀ x ∈ x1, ∀ y ∈ y1, Bef lt R x y := bef_perm (List.Pairwise.sublist (by rw [List.append_assoc, List.append_assoc]; exact (List.Sublist.trans (List.append_sublist_append_left _ |>.2 (List.sublist_append_left _ _)) (List.sublist_append_right _ _))) HBF.out) f3 f7
              have hlw : a + bs + bs + s3.length + c.length = size := by simp only [List.length_append] at hlens; omega
              have e5 : d ++ x1 ++ y1 ++ (s3 ++ c) = d ++ (x1 ++ (y1 ++ s3) ++ c) := by simp only [List.append_assoc]
              have hcl : Calls Try.prog 88 #[.agg #[.func (.func g) #[] lb, .func (.func sf) #[] sb], .int .i64 a, .int .i64 ((a : Int) + (bs : Int)), .int .i64 ((a : Int) + 2 * (bs : Int))] wr fun e w' =>
                  e = .returned (.tuple #[]) ∧ ∃ s' : List α, s'.Perm (x1 ++ y1) ∧ s'.Pairwise R ∧ SW enc wr blk off (d ++ s' ++ (s3 ++ c)).toArray w' := by
                have h := symMerge_ (lt := lt) R HT.out (2 * bs) d x1 y1 (s3 ++ c) a (a + bs) (a + 2 * bs) wr (by omega) (HE.out.at_ HW3.out HLN.out) (by rw [e5]; exact HE.out.here HW3.out HLN.out) (by rw [e5]; exact HLN.out) HDA.out.symm (by have := HDA.out; omega) (by have := HDA.out; omega) (by omega) (by omega) f2 f6 hbx
                rw [show ((a + bs : Nat) : Int) = (a : Int) + (bs : Int) by omega, show ((a + 2 * bs : Nat) : Int) = (a : Int) + 2 * (bs : Int) by omega] at h
                exact h
              have HCL := hid hcl
              have F1 := hid (f3.append f7)
              have F8 := hid f8
              have HLW := hid hlw
              have HL09 := hid (hl0.trans (show d0 ++ (x10 ++ (y10 ++ s30) ++ cc0) = d0 ++ (x10 ++ y10) ++ (s30 ++ cc0) by simp only [List.append_assoc]))
              have hxy : x1.length + y1.length = 2 * bs := by omega
              have HXY := hid hxy
              clear hcl hbx f1 f2 f3 f4 f5 f6 f7 f8 hfd hfs hl0 hln hw hlw hlens e5 HL0 hda hxy
              go_wp2_with (go_at_call 88; refine HCL.out.mono ?_; rintro e w3 ⟨rfl, s', p1, p2, h3⟩; refine keep_ ?_)
              have c0 := HE.out.keep h3 ⟨W.heap.size, 0, none⟩ _ (by show W.heap.size ≠ blk; omega) hb0
              have c1 := HE.out.keep h3 ⟨W.heap.size, 1, none⟩ _ (by show W.heap.size ≠ blk; omega) hb1
              have hs' : s'.length = 2 * bs := by have := p1.length_eq; rw [List.length_append] at this; have := HXY.out; omega
              have hl3 : (d ++ s' ++ (s3 ++ c)).length = size := by simp only [List.length_append]; have := HLW.out; have := HDA.out; omega
              have H3 := hid (HE.out.then_ HW3.out HLN.out h3 hl3)
              have F3 := hid (HFD.out.snoc hs' p2 (p1.trans F1.out))
              have L3 : Hid ((d ++ s').length = a + 2 * bs) := by show _ = _; rw [List.length_append]; have := HDA.out; omega
              have HL3 := hid hl3
              clear hb0 hb1 h3 hl3 hs' p1 p2
              refine go_ ?_
              go_wp2_with fail
              go_roundw
              case rel => exact ⟨a + 2 * bs, d ++ s', d0 ++ (x10 ++ y10), s3, s30, by exact val_int (by omega), by exact val_int (by omega), L3.out, F3.out, F8.out, HL09.out, HL3.out, H3.out, c0, c1⟩
              case measure => simp [intOf]; omega
            · -- the last ones
              have hs9 : s = [] ∨ bs ≤ s.length := hfs.mult
              by_cases hs0 : s.length = 0
              · have hsn : s = [] := List.eq_nil_of_length_eq_zero hs0
                have hs0n : s0 = [] := by have := hfs.perm.length_eq; exact List.eq_nil_of_length_eq_zero (by omega)
                subst hsn hs0n
                have hch : Ch R (2 * bs) (d ++ ([] ++ c)) l0 := ⟨d, d0, c, cc0, by simp, by rw [hl0]; simp, hfd, by omega, G5.out, G6.out⟩
                have HCH2 := hid hch
                have hms : size ≤ a + bs ∧ a ≤ 1000 := by simp at hlens; omega
                clear hch hfd hfs hl0 hln hw hlens hs9 hs0 hda
                go_wp2_with fail
                go_roundw
                case rel => exact ⟨2 * bs, _, by exact val_int (by omega), by omega, HCH2.out, HLN.out, HW3.out, hb0, hb1⟩
                case measure => simp [intOf]; omega
              · obtain ⟨x1, x10, s2, s20, e1, e2, f1, f2, f3, f4⟩ := hfs.un (by omega)
                have hs2 : s2 = [] := by
                  rcases f4.mult with h | h
                  · exact h
                  · rw [e1, List.length_append] at hlens; omega
                have hs20 : s20 = [] := by have := f4.perm.length_eq; rw [hs2] at this; exact List.eq_nil_of_length_eq_zero this.symm
                subst hs2 hs20
                rw [List.append_nil] at e1 e2
                subst e1 e2
                by_cases hc0 : c.length = 0
                · have hcn : c = [] := List.eq_nil_of_length_eq_zero hc0
                  have hcc : cc0 = [] := by have := G6.out.length_eq; exact List.eq_nil_of_length_eq_zero (by omega)
                  subst hcn hcc
                  have hch : Ch R (2 * bs) (d ++ (s ++ [])) l0 := ⟨d, d0, s, s0, by simp, by rw [hl0]; simp, hfd, by omega, f2, f3⟩
                  have HCH2 := hid hch
                  have hms : size ≤ a + bs ∧ a ≤ 1000 := by simp at hlens; omega
                  clear hch hfd hfs hl0 hln hw hlens hs9 hs0 hc0 f1 f2 f3 f4 hda
                  go_wp2_with fail
                  go_roundw
                  case rel => exact ⟨2 * bs, _, by exact val_int (by omega), by omega, HCH2.out, HLN.out, HW3.out, hb0, hb1⟩
                  case measure => simp [intOf]; omega
                · have hbx : ∀ x ∈ s, ∀ y ∈ c, Bef lt R x y := bef_perm (List.Pairwise.sublist (List.sublist_append_right _ _) HBF.out) f3 G6.out
                  have e5 : d ++ s ++ c ++ [] = d ++ (s ++ c) := by simp only [List.append_assoc, List.append_nil]
                  have hcl : Calls Try.prog 88 #[.agg #[.func (.func g) #[] lb, .func (.func sf) #[] sb], .int .i64 a, .int .i64 ((a : Int) + (bs : Int)), .int .i64 size] wr fun e w' =>
                      e = .returned (.tuple #[]) ∧ ∃ s' : List α, s'.Perm (s ++ c) ∧ s'.Pairwise R ∧ SW enc wr blk off (d ++ s').toArray w' := by
                    have h := symMerge_ (lt := lt) R HT.out (2 * bs) d s c [] a (a + bs) size wr (by omega) (HE.out.at_ HW3.out HLN.out) (by rw [e5]; exact HE.out.here HW3.out HLN.out) (by rw [e5]; exact HLN.out) HDA.out.symm (by have := HDA.out; omega) (by have := HDA.out; omega) (by omega) (by omega) f2 G5.out hbx
                    rw [show ((a + bs : Nat) : Int) = (a : Int) + (bs : Int) by omega] at h
                    refine h.mono ?_
                    rintro e w' ⟨rfl, s', p1, p2, h3⟩
                    rw [List.append_nil] at h3
                    exact ⟨rfl, s', p1, p2, h3⟩
                  have HCL := hid hcl
                  have hms : a + bs < size := by omega
                  have hsc : s.length + c.length < 2 * bs := by omega
                  have F3 := hid (f3.append G6.out)
                  clear hcl hbx f1 f2 f3 f4 hfd hfs hln hw e5 hs9 hs0 hc0 hl0 hda
                  go_wp2_with (go_at_call 88; refine HCL.out.mono ?_; rintro e w3 ⟨rfl, s', p1, p2, h3⟩; refine keep_ ?_)
                  have c0 := HE.out.keep h3 ⟨W.heap.size, 0, none⟩ _ (by show W.heap.size ≠ blk; omega) hb0
                  have c1 := HE.out.keep h3 ⟨W.heap.size, 1, none⟩ _ (by show W.heap.size ≠ blk; omega) hb1
                  have hs' : s'.length = s.length + c.length := by have := p1.length_eq; rwa [List.length_append] at this
                  have hl3 : (d ++ s').length = size := by rw [List.length_append]; have := HDA.out; omega
                  have H3 := hid (HE.out.then_ HW3.out HLN.out h3 hl3)
                  have HCH2 : Hid (Ch R (2 * bs) (d ++ s') l0) := ⟨d, d0, s', s0 ++ cc0, rfl, HL0.out, HFD.out, by omega, p2, p1.trans F3.out⟩
                  have HL3 := hid hl3
                  clear hb0 hb1 h3 hl3 hs' p1 p2 hlens hsc
                  refine go_ ?_
                  go_wp2_with fail
                  go_roundw
                  case rel => exact ⟨2 * bs, _, by exact val_int (by omega), by omega, HCH2.out, HL3.out, H3.out, c0, c1⟩
                  case measure => simp [intOf]; omega
        · have hfin := HCH.out.done (by have := HLN.out; omega) (by omega)
          have HF1 := hid hfin
          have HF2 := hid HCH.out.perm
          clear hfin HCH HLN
          go_wp2_with fail
          go_end0
          exact ⟨rfl, l, HF2.out, HF1.out, HW2.out⟩
end
end Go.Proofs.Ytampbbknhbhcbaa
