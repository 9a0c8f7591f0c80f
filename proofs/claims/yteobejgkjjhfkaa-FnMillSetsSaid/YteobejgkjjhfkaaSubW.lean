/- All strictly rising lists below n: impl.subsets walked. -/
import Derived.Test.YteobejgkjjhfkaaSubP
import Derived.Test.YteobejgkjjhfkaaMarkInt
import Derived.Deep.RegionWith
namespace Go.Proofs.Yteobejgkjjhfkaa
open Go.RowKit
set_option linter.unusedVariables false
/-- A slice value as an element. -/
structure RowC where
  A : Option Addr
  n : Nat
  q : Nat
instance : Enc RowC := ⟨1, fun s => [.slice s.A s.n s.q], fun _ => rfl, fun _ u h => by simp at h; subst h; rfl⟩
theorem elRow : El Try.prog 32 24 (⟨none, 0, 0⟩ : RowC) :=
  El.mk' (z := .slice none 0 0) (bytes := 24) Try.underlying32 (by kernel_rfl) (by decide) rfl (by decide)
/-- A slice of rows of the call's own, each row of its own too and apart from the outer one. -/
structure Rws (w : World) (base : Nat) (v : Value) (cs : List RowC) (L : List (List Int)) : Prop where
  own : Own w base 24 v cs
  len : cs.length = L.length
  all : ∀ k, (h : k < cs.length) → (h' : k < L.length) → cs[k].n = L[k].length ∧ Own w base 2 (.slice cs[k].A cs[k].n cs[k].q) L[k] ∧
    ∀ b, (Value.slice cs[k].A cs[k].n cs[k].q).ownBlock = some b → v.ownBlock ≠ some b
section
variable {w w' : World} {base : Nat} {v : Value} {cs : List RowC} {L : List (List Int)}
theorem Rws.form (h : Rws w base v cs L) : ∃ A c, v = .slice A L.length c := by
  rw [← h.len]; exact h.own.form
theorem Rws.below (h : Rws w base v cs L) (hb : Below w.heap.size w w') : Rws w' base v cs L :=
  ⟨h.own.below hb, h.len, fun k h1 h2 => ⟨(h.all k h1 h2).1, (h.all k h1 h2).2.1.below hb, (h.all k h1 h2).2.2⟩⟩
theorem Rws.mono {b : Nat} (h : Rws w base v cs L) (hb : b ≤ base) : Rws w b v cs L :=
  ⟨h.own.mono hb, h.len, fun k h1 h2 => ⟨(h.all k h1 h2).1, (h.all k h1 h2).2.1.mono hb, (h.all k h1 h2).2.2⟩⟩
theorem Rws.row {A : Option Addr} {n c : Nat} (h : Rws w base (.slice A n c) cs L) (hl : L.length ≤ 1048576) {k : Nat} (hk : k < L.length) (hi : L[k].length ≤ 1048576) :
    ∃ b off P q, A = some ⟨b, off, none⟩ ∧ w.cell? ⟨b, off + k, none⟩ = some (.slice P L[k].length q) ∧ Rd w P L[k] := by
  have hk' : k < cs.length := by rw [h.len]; exact hk
  obtain ⟨e1, e2, _⟩ := h.all k hk' hk
  obtain ⟨b, off, hA, hc⟩ := (h.own.rd (by rw [h.len]; exact hl)).2 k hk'
  refine ⟨b, off, cs[k].A, cs[k].q, hA, ?_, e2.rd hi⟩
  rw [← e1]
  simpa [Enc.size] using hc 0 _ rfl
/-- A row is added: 'wa' is the old world with new blocks, among them the row. -/
theorem Rws.push {lo : Nat} {v' : Value} {x : List Int} {t : RowC} (h : Rws w base v cs L) (hlow : ∀ b, v.ownBlock = some b → b < lo) (ht : t.n = x.length)
    (ho : Own w base 2 (.slice t.A t.n t.q) x) (hlo : ∀ b, (Value.slice t.A t.n t.q).ownBlock = some b → lo ≤ b)
    (hown : Own w' base 24 v' (cs ++ [t])) (hg : w.grownBy w' v.ownBlock) (hat : v'.ownBlock = v.ownBlock ∨ v'.ownBlock = some w.heap.size) : Rws w' base v' (cs ++ [t]) (L ++ [x]) := by
  have hne : ∀ b, (Value.slice t.A t.n t.q).ownBlock = some b → v.ownBlock ≠ some b := fun b hb e => by
    have := hlow b e
    have := hlo b hb
    omega
  have key : ∀ (s : RowC) (l : List Int), Own w base 2 (.slice s.A s.n s.q) l → (∀ b, (Value.slice s.A s.n s.q).ownBlock = some b → v.ownBlock ≠ some b) →
      Own w' base 2 (.slice s.A s.n s.q) l ∧ ∀ b, (Value.slice s.A s.n s.q).ownBlock = some b → v'.ownBlock ≠ some b := fun s l h1 h2 => by
    refine ⟨h1.grown hg ?_, fun b hb e => ?_⟩
    · cases hs : (Value.slice s.A s.n s.q).ownBlock with
      | none => exact .inl rfl
      | some b => exact .inr fun e => h2 b hs e.symm
    · rcases hat with e' | e'
      · rw [e'] at e; exact h2 b hb e
      · rw [e'] at e
        injection e with e
        have := (h1.block b hb).2
        omega
  refine ⟨hown, by simp [h.len], fun k h1 h2 => ?_⟩
  by_cases hk : k < cs.length
  · have hk' : k < L.length := by rw [← h.len]; exact hk
    rw [List.getElem_append_left hk, List.getElem_append_left hk']
    obtain ⟨e1, e2, e3⟩ := h.all k hk hk'
    exact ⟨e1, key _ _ e2 e3⟩
  · have hk' : k = cs.length := by simp at h1; omega
    subst hk'
    have e1 : (cs ++ [t])[cs.length] = t := by simp
    have e2 : (L ++ [x])[cs.length] = x := by simp [h.len]
    rw [e1, e2]
    exact ⟨ht, key _ _ ho hne⟩
end
set_option maxHeartbeats 1000000 in
theorem cloneInts (A : Option Addr) (xs : List Int) (n c : Nat) (w : World) (hx : Rd w A xs) (hn : xs.length = n) :
    Calls Try.prog 106 #[.slice A n c] w fun e w' => ∃ v, e = .returned v ∧ Own w' w.heap.size 2 v xs ∧ Below w.heap.size w w' := by
  subst hn
  go_enter Try.func106, Try.ntmps106
  go_wp2_with (at_builtin; refine wpList_appendRd elInt _ rfl (.tmp 3) (.tmp 4) rfl w.heap.size _ [] xs rfl (Own.empty (Nat.le_refl _)) A c rfl (hx.alloc _) (by simp) (le_alloc (Nat.le_refl _)) ?_; intro v' w' hown' hg' hat'; have hbn := below_own ((Below.refl _ _).alloc (Nat.le_refl _) _) (Own.empty (α := Int) (e := 2) (Nat.le_refl _)) hg' (Nat.le_refl _) (le_alloc (Nat.le_refl _)))
  go_ret
  exact ⟨_, rfl, by simpa using hown', hbn⟩
set_option maxHeartbeats 400000 in
theorem lastInt (A : Option Addr) (xs : List Int) (c : Nat) (w : World) (hx : Rd w A xs) (h : 0 < xs.length) :
    Calls Try.prog 135 #[.slice A xs.length c] w fun e w' => e = .returned (.int .i64 (nx xs - 1)) ∧ w = w' := by
  have hl := hx.len
  obtain ⟨b, off, rfl, c1⟩ := hx.int (k := xs.length - 1) (by omega)
  have he : nx xs - 1 = xs[xs.length - 1] := by
    unfold nx
    rw [List.getLast?_eq_getElem?, List.getElem?_eq_getElem (by omega)]
    simp only
    omega
  rw [he]
  generalize xs[xs.length - 1] = x at c1
  clear hx he
  go_enter Try.func135, Try.ntmps135
  go_wp2
  go_ret
  exact ⟨rfl, rfl⟩
/-- Where the outer loop stands. -/
def SubAt (n : Nat) (L : List (List Int)) (i : Nat) : Prop := (i = L.length ∧ SubAll n L) ∨ ∃ h : i < L.length, Sub n L i (nx L[i])
theorem SubAt.len {n : Nat} {L : List (List Int)} {i : Nat} (h : SubAt n L i) : L.length ≤ 2 ^ n ∧ i ≤ L.length := by
  rcases h with ⟨h1, h2⟩ | ⟨h1, h2⟩
  · exact ⟨h2.len, by omega⟩
  · exact ⟨h2.len, by omega⟩
theorem SubAt.start (n : Nat) : SubAt n [[]] 0 := .inr ⟨by simp, Sub.start n⟩
theorem Sub.step {n : Nat} {L : List (List Int)} {i : Nat} {x : Int} (h : Sub n L i x) (hx : x = n) : SubAt n L (i + 1) := by
  have := h.lt
  by_cases hi : i + 1 < L.length
  · exact .inr ⟨hi, h.next hx hi⟩
  · exact .inl ⟨by omega, h.done hx (by omega)⟩
theorem upTo_len {n : Nat} {l : List Int} (h : UpTo (n : Int) l) : l.length ≤ n := by
  have key : ∀ (l : List Int) (a : Int), (∀ b ∈ l, a ≤ b ∧ b < n) → l.Pairwise (· < ·) → a ≤ n → (l.length : Int) ≤ n - a := by
    intro l
    induction l with
    | nil => intro a _ _ ha; simp; omega
    | cons x l ih =>
      intro a hb hp ha
      have hx := hb x (by simp)
      have hp := List.pairwise_cons.1 hp
      have := ih (x + 1) (fun b hb' => by have := hp.1 b hb'; have := hb b (by simp [hb']); omega) hp.2 (by omega)
      rw [List.length_cons]
      omega
  have := key l 0 (fun b hb => h.1 b hb) h.2 (by omega)
  omega
theorem Rws.start (w : World) : Rws ((w.alloc (.cells #[] 2)).alloc (.cells #[.slice (some ⟨w.heap.size, 0, none⟩) 0 0] 24)) w.heap.size (.slice (some ⟨w.heap.size + 1, 0, none⟩) 1 1) [⟨some ⟨w.heap.size, 0, none⟩, 0, 0⟩] [[]] := by
  refine ⟨?_, rfl, fun k h1 h2 => ?_⟩
  · have h := Own.one (w := w.alloc (.cells #[] 2)) (base := w.heap.size) (e := 24) (⟨some ⟨w.heap.size, 0, none⟩, 0, 0⟩ : RowC) (by simp)
    simpa [Enc.enc] using h
  · have hk : k = 0 := by simpa using h1
    subst hk
    refine ⟨rfl, (Own.empty (Nat.le_refl _)).alloc _, fun b hb => ?_⟩
    simp [Value.ownBlock] at hb ⊢
    omega
set_option maxRecDepth 100000 in
set_option maxHeartbeats 8000000 in
theorem implSubsets (n : Nat) (w : World) (hn : n ≤ 12) :
    Calls Try.prog 100 #[.int .i64 (n : Int)] w fun e w' => ∃ u cs L, e = .returned u ∧ Rws w' w.heap.size u cs L ∧ SubAll n L ∧ Below w.heap.size w w' := by
  have hp : (2 : Nat) ^ n ≤ 4096 := Nat.pow_le_pow_right (n := 2) (by decide) hn
  go_enter Try.func100, Try.ntmps100
  go_wp2_with fail
  go_loopw [3, 4] (fun u i wr => ∃ (m : Nat) (cs : List RowC) (L : List (List Int)), i = .int .i64 m ∧ Rws wr w.heap.size u cs L ∧ SubAt n L m ∧ Below w.heap.size w wr) (fun _ i _ => 4096 - (intOf i).toNat)
  case atStart => exact ⟨0, _, [[]], rfl, Rws.start w, SubAt.start n, ((Below.refl _ _).alloc (Nat.le_refl _) _).alloc (by simp) _⟩
  case round =>
    obtain ⟨m, cs, L, rfl, hR, hA, hb⟩ := hrel
    obtain ⟨wo, rfl⟩ : ∃ wo : World, wo = wr := ⟨_, rfl⟩
    have hlen := hA.len
    obtain ⟨A, c, rfl⟩ := hR.form
    have HR := hid hR
    have HB := hid hb
    clear hR hb
    by_cases hlt : m < L.length
    · have hsub : Sub n L m (nx L[m]) := by
        rcases hA with ⟨h1, _⟩ | ⟨_, h⟩
        · omega
        · exact h
      have hup := hsub.up _ (List.getElem_mem hlt)
      have hul := upTo_len hup
      have hnx := nx_le hup
      have hn0 := nx_nonneg hup
      obtain ⟨b, off, P, q, rfl, c1, hr⟩ := HR.out.row (by omega) hlt (by omega)
      have HRR := hid hr
      have HSUB := hid hsub
      have HL0 : Hid (∃ h : m < L.length, L[m] = L[m]) := ⟨hlt, rfl⟩
      have HLX : Hid (∃ h : m < L.length, L[m]'h = L[m]'hlt) := ⟨hlt, rfl⟩
      clear hsub hr hA hup HL0
      generalize L[m] = l at c1 HRR HSUB HLX hul hnx hn0
      by_cases hl0 : 0 < l.length
      · have e1 : nx l - 1 + 1 = nx l := by omega
        go_wp2_with (go_at_call 135; refine (lastInt P l q _ HRR.out hl0).mono ?_; rintro e w' ⟨rfl, rfl⟩; refine keep_ ?_)
        refine go_ ?_
        go_wp2_with fail
        go_loopw [3, 5] (fun u x wi => ∃ (y : Int) (cr : List RowC) (M : List (List Int)), x = .int .i64 y ∧ Rws wi w.heap.size u cr M ∧ (∃ h : m < M.length, M[m] = l) ∧ Sub n M m y ∧ nx l ≤ y ∧ y ≤ n ∧ Below w.heap.size w wi) (fun _ x _ => ((n : Int) - intOf x).toNat)
        case atStart => exact ⟨_, cs, L, rfl, HR.out, HLX.out, HSUB.out, by omega, by omega, HB.out⟩
        case round =>
          obtain ⟨y, cr, M, rfl, hR2, hM, hS2, hy0, hy1, hb2⟩ := hrel
          obtain ⟨wi, rfl⟩ : ∃ wi : World, wi = wr := ⟨_, rfl⟩
          obtain ⟨A2, c2, rfl⟩ := hR2.form
          obtain ⟨hmM, hMl⟩ := hM
          have hlen2 := hS2.len
          obtain ⟨b2, off2, P2, q2, rfl, c12, hr2⟩ := hR2.row (by omega) hmM (by rw [hMl]; omega)
          have HR2 := hid hR2
          have HS2 := hid hS2
          have HB2 := hid hb2
          rw [hMl] at c12 hr2
          have HRR2 := hid hr2
          have HMl := hid hMl
          have hst : Hid (y < n → Sub n (M ++ [l ++ [y]]) m (y + 1)) := fun h => by
            have := hS2.push hmM (by omega) (by rw [hMl]; exact hy0) h
            rw [hMl] at this
            exact this
          clear hR2 hS2 hb2 hr2 hMl c1 HRR HR HB HSUB
          by_cases hyn : y < n
          · go_wp2_with (go_at_call 106; refine (cloneInts P2 l _ q2 _ HRR2.out rfl).mono ?_; rintro e w1 ⟨v, rfl, ho, hb⟩; have HO := hid ho; have HB3 := hid hb; have hz := hb.size; obtain ⟨Q, k, rfl⟩ := ho.form; clear ho hb; refine keep_ ?_)
            refine go_ ?_
            go_wp2_with (at_builtin; refine wpList_push elInt _ rfl (.tmp 36) (.tmp 38) rfl wi.heap.size _ l y rfl (HO.out.alloc _) _ rfl (heap_alloc_new _ _) (by omega) (le_alloc hz) ?_; intro v' w' hown' hg' hat'; refine keep_ ?_)
            obtain ⟨l2, hl2⟩ : ∃ l2, l ++ [y] = l2 := ⟨_, rfl⟩
            rw [hl2] at hown'
            have HST := hid (hl2 ▸ hst.out)
            obtain ⟨Q2, k2, rfl⟩ := hown'.form
            have HB4 := hid (below_own (HB3.out.alloc hz (.cells #[.int .i64 y] 2)) (HO.out.alloc _) hg' (Nat.le_refl _) (le_alloc hz))
            have HO4 := hid hown'
            have hz4 : wi.heap.size ≤ w'.heap.size := HB4.out.size
            clear hown' hg' hat' hl2 HO HB3
            refine go_ ?_
            go_wp2_with (at_builtin; refine wpList_push elRow _ rfl (.tmp 31) (.tmp 40) rfl w.heap.size _ cr (⟨Q2, l2.length, k2⟩ : RowC) rfl (((HR2.out.below HB4.out).own).alloc _) _ rfl (heap_alloc_new _ _) (by have := HR2.out.len; omega) (le_alloc (Nat.le_trans HB2.out.size hz4)) ?_; intro v' w2 hown' hg' hat'; refine keep_ ?_)
            have HN := hid (Rws.push (lo := wi.heap.size) (x := l2) (t := (⟨Q2, l2.length, k2⟩ : RowC)) ((HR2.out.below HB4.out).below ((Below.refl _ _).alloc (Nat.le_refl _) _)) (fun b hb => (HR2.out.own.block b hb).2) rfl ((HO4.out.alloc _).mono HB2.out.size) (fun b hb => (HO4.out.block b hb).1) hown' hg' hat')
            have HB5 := hid (below_own ((HB2.out.trans (HB4.out.mono HB2.out.size)).alloc (Nat.le_trans HB2.out.size hz4) (.cells #[.slice Q2 l2.length k2] 24)) (((HR2.out.below HB4.out).own).alloc _) hg' (Nat.le_refl _) (le_alloc (Nat.le_trans HB2.out.size hz4)))
            clear hown' hg' hat'
            refine go_ ?_
            go_wp2_with fail
            go_roundw
            case rel => exact ⟨y + 1, _, _, by go_num, HN.out, ⟨by simp; omega, by rw [List.getElem_append_left hmM]; exact HMl.out⟩, HST.out hyn, by omega, by omega, HB5.out⟩
            case measure => simp [intOf]; omega
          · have hyn2 : y = n := by omega
            go_wp2_with fail
            go_roundw
            case rel => exact ⟨m + 1, _, _, by go_num, HR2.out, HS2.out.step hyn2, HB2.out⟩
            case measure => simp [intOf]; omega
      · have hln : l = [] := List.eq_nil_of_length_eq_zero (by omega)
        have hnx0 : nx l = 0 := by rw [hln]; rfl
        have HN0 := hid hnx0
        clear hln
        go_wp2_with fail
        go_loopw [3, 5] (fun u x wi => ∃ (y : Int) (cr : List RowC) (M : List (List Int)), x = .int .i64 y ∧ Rws wi w.heap.size u cr M ∧ (∃ h : m < M.length, M[m] = l) ∧ Sub n M m y ∧ nx l ≤ y ∧ y ≤ n ∧ Below w.heap.size w wi) (fun _ x _ => ((n : Int) - intOf x).toNat)
        case atStart => exact ⟨_, cs, L, rfl, HR.out, HLX.out, (by have := HSUB.out; rw [HN0.out] at this; exact this), by omega, by omega, HB.out⟩
        case round =>
          obtain ⟨y, cr, M, rfl, hR2, hM, hS2, hy0, hy1, hb2⟩ := hrel
          obtain ⟨wi, rfl⟩ : ∃ wi : World, wi = wr := ⟨_, rfl⟩
          obtain ⟨A2, c2, rfl⟩ := hR2.form
          obtain ⟨hmM, hMl⟩ := hM
          have hlen2 := hS2.len
          obtain ⟨b2, off2, P2, q2, rfl, c12, hr2⟩ := hR2.row (by omega) hmM (by rw [hMl]; omega)
          have HR2 := hid hR2
          have HS2 := hid hS2
          have HB2 := hid hb2
          rw [hMl] at c12 hr2
          have HRR2 := hid hr2
          have HMl := hid hMl
          have hst : Hid (y < n → Sub n (M ++ [l ++ [y]]) m (y + 1)) := fun h => by
            have := hS2.push hmM (by omega) (by rw [hMl]; exact hy0) h
            rw [hMl] at this
            exact this
          clear hR2 hS2 hb2 hr2 hMl c1 HRR HR HB HSUB
          by_cases hyn : y < n
          · go_wp2_with (go_at_call 106; refine (cloneInts P2 l _ q2 _ HRR2.out rfl).mono ?_; rintro e w1 ⟨v, rfl, ho, hb⟩; have HO := hid ho; have HB3 := hid hb; have hz := hb.size; obtain ⟨Q, k, rfl⟩ := ho.form; clear ho hb; refine keep_ ?_)
            refine go_ ?_
            go_wp2_with (at_builtin; refine wpList_push elInt _ rfl (.tmp 36) (.tmp 38) rfl wi.heap.size _ l y rfl (HO.out.alloc _) _ rfl (heap_alloc_new _ _) (by omega) (le_alloc hz) ?_; intro v' w' hown' hg' hat'; refine keep_ ?_)
            obtain ⟨l2, hl2⟩ : ∃ l2, l ++ [y] = l2 := ⟨_, rfl⟩
            rw [hl2] at hown'
            have HST := hid (hl2 ▸ hst.out)
            obtain ⟨Q2, k2, rfl⟩ := hown'.form
            have HB4 := hid (below_own (HB3.out.alloc hz (.cells #[.int .i64 y] 2)) (HO.out.alloc _) hg' (Nat.le_refl _) (le_alloc hz))
            have HO4 := hid hown'
            have hz4 : wi.heap.size ≤ w'.heap.size := HB4.out.size
            clear hown' hg' hat' hl2 HO HB3
            refine go_ ?_
            go_wp2_with (at_builtin; refine wpList_push elRow _ rfl (.tmp 31) (.tmp 40) rfl w.heap.size _ cr (⟨Q2, l2.length, k2⟩ : RowC) rfl (((HR2.out.below HB4.out).own).alloc _) _ rfl (heap_alloc_new _ _) (by have := HR2.out.len; omega) (le_alloc (Nat.le_trans HB2.out.size hz4)) ?_; intro v' w2 hown' hg' hat'; refine keep_ ?_)
            have HN := hid (Rws.push (lo := wi.heap.size) (x := l2) (t := (⟨Q2, l2.length, k2⟩ : RowC)) ((HR2.out.below HB4.out).below ((Below.refl _ _).alloc (Nat.le_refl _) _)) (fun b hb => (HR2.out.own.block b hb).2) rfl ((HO4.out.alloc _).mono HB2.out.size) (fun b hb => (HO4.out.block b hb).1) hown' hg' hat')
            have HB5 := hid (below_own ((HB2.out.trans (HB4.out.mono HB2.out.size)).alloc (Nat.le_trans HB2.out.size hz4) (.cells #[.slice Q2 l2.length k2] 24)) (((HR2.out.below HB4.out).own).alloc _) hg' (Nat.le_refl _) (le_alloc (Nat.le_trans HB2.out.size hz4)))
            clear hown' hg' hat'
            refine go_ ?_
            go_wp2_with fail
            go_roundw
            case rel => exact ⟨y + 1, _, _, by go_num, HN.out, ⟨by simp; omega, by rw [List.getElem_append_left hmM]; exact HMl.out⟩, HST.out hyn, by omega, by omega, HB5.out⟩
            case measure => simp [intOf]; omega
          · have hyn2 : y = n := by omega
            go_wp2_with fail
            go_roundw
            case rel => exact ⟨m + 1, _, _, by go_num, HR2.out, HS2.out.step hyn2, HB2.out⟩
            case measure => simp [intOf]; omega
    · have hall : SubAll n L := by
        rcases hA with ⟨_, h⟩ | ⟨h, _⟩
        · exact h
        · exact absurd h hlt
      go_wp2_with fail
      go_ret
      exact ⟨_, cs, L, rfl, HR.out, hall, HB.out⟩
end Go.Proofs.Yteobejgkjjhfkaa
