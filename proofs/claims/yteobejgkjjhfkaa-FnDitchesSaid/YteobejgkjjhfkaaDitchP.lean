/- Flows in ditches: the plain law (no program in sight). -/
import Derived.Test.YteobejgkjjhfkaaDitch
namespace Go.Proofs.Yteobejgkjjhfkaa
open Go.RowKit
set_option linter.unusedVariables false
set_option linter.unusedSimpArgs false
def indT (T : Int → Bool) (j : Int) : Int := if T j = true then 1 else 0
/-- What flows out of some junctions less what flows into them. -/
def netT (T : Int → Bool) : List Ditch → List Int → Int
  | d :: ds, f :: fs => f * (indT T d.a - indT T d.b) + netT T ds fs
  | _, _ => 0
def cut1 (T : Int → Bool) (d : Ditch) : Int := if T d.a = true ∧ T d.b = false then d.c else 0
def cutT (T : Int → Bool) : List Ditch → Int
  | [] => 0
  | d :: ds => cut1 T d + cutT T ds
def Bd : List Ditch → List Int → Prop
  | [], [] => True
  | d :: ds, f :: fs => (0 ≤ f ∧ f ≤ d.c) ∧ Bd ds fs
  | _, _ => False
def ClosedT (T : Int → Bool) : List Ditch → List Int → Prop
  | d :: ds, f :: fs => ((T d.a = true → f < d.c → T d.b = true) ∧ (T d.b = true → 0 < f → T d.a = true)) ∧ ClosedT T ds fs
  | _, _ => True
theorem Bd.len : ∀ {ds : List Ditch} {fs : List Int}, Bd ds fs → fs.length = ds.length
  | [], [], _ => rfl
  | d :: ds, f :: fs, h => by simp [Bd.len h.2]
  | [], f :: fs, h => h.elim
  | d :: ds, [], h => h.elim
theorem Bd.at_ : ∀ {ds : List Ditch} {fs : List Int}, Bd ds fs → ∀ k (h1 : k < ds.length) (h2 : k < fs.length), 0 ≤ fs[k] ∧ fs[k] ≤ ds[k].c
  | [], _, _, k, h1, _ => absurd h1 (by simp)
  | d :: ds, f :: fs, h, 0, _, _ => h.1
  | d :: ds, f :: fs, h, k + 1, h1, h2 => Bd.at_ h.2 k (by simpa using h1) (by simpa using h2)
  | d :: ds, [], h, _, _, h2 => h.elim
theorem Bd.set : ∀ {ds : List Ditch} {fs : List Int}, Bd ds fs → ∀ k (h1 : k < ds.length) (v : Int), 0 ≤ v → v ≤ ds[k].c → Bd ds (fs.set k v)
  | [], _, _, k, h1, _, _, _ => absurd h1 (by simp)
  | d :: ds, f :: fs, h, 0, _, v, v0, v1 => ⟨⟨v0, v1⟩, h.2⟩
  | d :: ds, f :: fs, h, k + 1, h1, v, v0, v1 => ⟨h.1, Bd.set h.2 k (by simpa using h1) v v0 (by simpa using v1)⟩
  | d :: ds, [], h, _, _, _, _, _ => h.elim
theorem net1 (T : Int → Bool) (d : Ditch) (f : Int) (h : 0 ≤ f ∧ f ≤ d.c) : f * (indT T d.a - indT T d.b) ≤ cut1 T d := by
  unfold indT cut1
  cases h1 : T d.a <;> cases h2 : T d.b <;> simp <;> omega
theorem net1_eq (T : Int → Bool) (d : Ditch) (f : Int) (h : 0 ≤ f ∧ f ≤ d.c) : f * (indT T d.a - indT T d.b) = cut1 T d ↔ ((T d.a = true → f < d.c → T d.b = true) ∧ (T d.b = true → 0 < f → T d.a = true)) := by
  unfold indT cut1
  cases h1 : T d.a <;> cases h2 : T d.b <;> simp <;> omega
theorem net_le (T : Int → Bool) : ∀ {ds : List Ditch} {fs : List Int}, Bd ds fs → netT T ds fs ≤ cutT T ds
  | [], [], _ => Int.le_refl _
  | d :: ds, f :: fs, h => by
    have := net_le T h.2
    have := net1 T d f h.1
    simp only [netT, cutT]
    omega
  | [], f :: fs, h => h.elim
  | d :: ds, [], h => h.elim
theorem net_eq (T : Int → Bool) : ∀ {ds : List Ditch} {fs : List Int}, Bd ds fs → (netT T ds fs = cutT T ds ↔ ClosedT T ds fs)
  | [], [], _ => by simp [netT, cutT, ClosedT]
  | d :: ds, f :: fs, h => by
    have h1 := net_le T h.2
    have h2 := net1 T d f h.1
    have h3 := net_eq T h.2
    have h4 := net1_eq T d f h.1
    simp only [netT, cutT, ClosedT]
    rw [← h3, ← h4]
    constructor
    · intro h; constructor <;> omega
    · intro ⟨a, b⟩; omega
  | [], f :: fs, h => h.elim
  | d :: ds, [], h => h.elim
theorem net_set (T : Int → Bool) : ∀ {ds : List Ditch} {fs : List Int} (k : Nat) (h1 : k < ds.length) (h2 : k < fs.length) (v : Int),
    netT T ds (fs.set k v) = netT T ds fs + (v - fs[k]) * (indT T ds[k].a - indT T ds[k].b)
  | [], _, k, h1, _, _ => absurd h1 (by simp)
  | _, [], k, _, h2, _ => absurd h2 (by simp)
  | d :: ds, f :: fs, 0, _, _, v => by
    simp only [List.set_cons_zero, netT, List.getElem_cons_zero]
    rw [Int.sub_mul]
    omega
  | d :: ds, f :: fs, k + 1, h1, h2, v => by
    have := net_set T (ds := ds) (fs := fs) k (by simpa using h1) (by simpa using h2) v
    simp only [List.set_cons_succ, netT, List.getElem_cons_succ]
    omega
theorem net_zero (T : Int → Bool) : ∀ (ds : List Ditch) (n : Nat), netT T ds (List.replicate n 0) = 0
  | [], n => by cases n <;> rfl
  | d :: ds, 0 => rfl
  | d :: ds, n + 1 => by
    simp only [List.replicate_succ, netT, net_zero T ds n]
    omega
/-- Flows that are as great as they can be. -/
def MaxP (ds : List Ditch) (fr : Int) (fs : List Int) (tot : Int) : Prop :=
  Bd ds fs ∧ (∀ T : Int → Bool, T fr = true → T 0 = false → netT T ds fs = tot) ∧ ∃ T : Int → Bool, T fr = true ∧ T 0 = false ∧ ClosedT T ds fs
theorem MaxP.le {ds : List Ditch} {fr : Int} {fs : List Int} {tot : Int} (h : MaxP ds fr fs tot) {T : Int → Bool} (h1 : T fr = true) (h2 : T 0 = false) : tot ≤ cutT T ds := by
  rw [← h.2.1 T h1 h2]
  exact net_le T h.1
theorem MaxP.cut {ds : List Ditch} {fr : Int} {fs : List Int} {tot : Int} (h : MaxP ds fr fs tot) {T : Int → Bool} (h1 : T fr = true) (h2 : T 0 = false) : cutT T ds = tot ↔ ClosedT T ds fs := by
  rw [← net_eq T h.1, h.2.1 T h1 h2]
  exact eq_comm
theorem MaxP.same {ds : List Ditch} {fr : Int} {fs fs' : List Int} {tot tot' : Int} (h : MaxP ds fr fs tot) (h' : MaxP ds fr fs' tot') : tot = tot' := by
  obtain ⟨T, t1, t2, t3⟩ := h.2.2
  obtain ⟨T', t1', t2', t3'⟩ := h'.2.2
  have a := h'.le t1 t2
  rw [(h.cut t1 t2).2 t3] at a
  have b := h.le t1' t2'
  rw [(h'.cut t1' t2').2 t3'] at b
  omega
/-! the tree of junctions that are reached -/
def Edge (ds : List Ditch) (fs : List Int) (u v k : Int) : Prop :=
  0 ≤ k ∧ ∃ d f, ds[k.toNat]? = some d ∧ fs[k.toNat]? = some f ∧ ((d.a = u ∧ d.b = v ∧ f < d.c) ∨ (d.b = u ∧ d.a = v ∧ 0 < f))
structure Tree (ds : List Ditch) (fs : List Int) (fr : Int) (bl : List (Int × Int)) : Prop where
  first : bl[0]? = some (fr, -1)
  more : ∀ p v k, bl[p]? = some (v, k) → p = 0 ∨ ∃ q u j, q < p ∧ bl[q]? = some (u, j) ∧ Edge ds fs u v k
  nodup : (bl.map Prod.fst).Nodup
theorem closed_edge : ∀ {ds : List Ditch} {fs : List Int} {T : Int → Bool}, ClosedT T ds fs → ∀ (k : Nat) (d : Ditch) (f : Int), ds[k]? = some d → fs[k]? = some f → (T d.a = true → f < d.c → T d.b = true) ∧ (T d.b = true → 0 < f → T d.a = true)
  | [], _, _, _, k, d, f, h1, _ => by simp at h1
  | _ :: _, [], _, _, k, d, f, _, h2 => by simp at h2
  | d' :: ds, f' :: fs, T, h, 0, d, f, h1, h2 => by
    simp only [List.getElem?_cons_zero, Option.some.injEq] at h1 h2
    subst h1 h2
    exact h.1
  | d' :: ds, f' :: fs, T, h, k + 1, d, f, h1, h2 => closed_edge h.2 k d f (by simpa using h1) (by simpa using h2)
theorem edge_closed : ∀ {ds : List Ditch} {fs : List Int} {T : Int → Bool}, (∀ (k : Nat) (d : Ditch) (f : Int), ds[k]? = some d → fs[k]? = some f → (T d.a = true → f < d.c → T d.b = true) ∧ (T d.b = true → 0 < f → T d.a = true)) → ClosedT T ds fs
  | [], _, _, _ => by simp [ClosedT]
  | _ :: _, [], _, _ => by simp [ClosedT]
  | d' :: ds, f' :: fs, T, h => ⟨h 0 d' f' rfl rfl, edge_closed fun k d f h1 h2 => h (k + 1) d f (by simpa using h1) (by simpa using h2)⟩
/-- Who is reached lies in every closed set with the first. -/
theorem Tree.inside {ds : List Ditch} {fs : List Int} {fr : Int} {bl : List (Int × Int)} (h : Tree ds fs fr bl) {T : Int → Bool} (h1 : T fr = true) (hc : ClosedT T ds fs) :
    ∀ (p : Nat) (v k : Int), bl[p]? = some (v, k) → T v = true := by
  intro p
  induction p using Nat.strongRecOn with
  | ind p ih =>
    intro v k hp
    rcases h.more p v k hp with rfl | ⟨q, u, j, hq, hu, h0, d, f, hd, hf, he⟩
    · rw [h.first] at hp
      injection hp with hp
      injection hp with hp1 hp2
      rw [← hp1]
      exact h1
    · have hT := ih q hq u j hu
      have := closed_edge hc k.toNat d f hd hf
      rcases he with ⟨e1, e2, e3⟩ | ⟨e1, e2, e3⟩
      · rw [← e2]; exact this.1 (by rw [e1]; exact hT) e3
      · rw [← e2]; exact this.2 (by rw [e1]; exact hT) e3
theorem Tree.one {ds : List Ditch} {fs : List Int} {fr : Int} : Tree ds fs fr [(fr, -1)] :=
  ⟨rfl, fun p v k h => by cases p with
    | zero => exact .inl rfl
    | succ p => simp at h, by simp⟩
theorem Tree.snoc {ds : List Ditch} {fs : List Int} {fr : Int} {bl : List (Int × Int)} (h : Tree ds fs fr bl) {q : Nat} {u j v k : Int} (hq : bl[q]? = some (u, j)) (he : Edge ds fs u v k) (hn : v ∉ bl.map Prod.fst) :
    Tree ds fs fr (bl ++ [(v, k)]) := by
  have hql : q < bl.length := (List.getElem?_eq_some_iff.1 hq).1
  refine ⟨?_, fun p v' k' hp => ?_, ?_⟩
  · rw [List.getElem?_append_left (by omega)]; exact h.first
  · by_cases hp2 : p < bl.length
    · rw [List.getElem?_append_left hp2] at hp
      rcases h.more p v' k' hp with h0 | ⟨q', u', j', h1, h2, h3⟩
      · exact .inl h0
      · exact .inr ⟨q', u', j', h1, by rw [List.getElem?_append_left (by omega)]; exact h2, h3⟩
    · rw [List.getElem?_append_right (by omega)] at hp
      have : p - bl.length = 0 := by
        have := (List.getElem?_eq_some_iff.1 hp).1
        simp at this
        omega
      rw [this] at hp
      simp only [List.getElem?_cons_zero, Option.some.injEq, Prod.mk.injEq] at hp
      obtain ⟨rfl, rfl⟩ := hp
      exact .inr ⟨q, u, j, by omega, by rw [List.getElem?_append_left hql]; exact hq, he⟩
  · rw [List.map_append, List.nodup_append]
    refine ⟨h.nodup, by simp, fun a ha b hb => ?_⟩
    simp only [List.map_cons, List.map_nil, List.mem_singleton] at hb
    subst hb
    exact fun e => hn (e ▸ ha)
theorem Tree.inj {ds : List Ditch} {fs : List Int} {fr : Int} {bl : List (Int × Int)} (h : Tree ds fs fr bl) {p q : Nat} {v j k : Int} (h1 : bl[p]? = some (v, j)) (h2 : bl[q]? = some (v, k)) : p = q := by
  have l1 := (List.getElem?_eq_some_iff.1 h1).1
  have l2 := (List.getElem?_eq_some_iff.1 h2).1
  have e1 : (bl.map Prod.fst)[p]'(by simpa using l1) = (bl.map Prod.fst)[q]'(by simpa using l2) := by
    simp only [List.getElem_map]
    rw [(List.getElem?_eq_some_iff.1 h1).2, (List.getElem?_eq_some_iff.1 h2).2]
  have hp := List.pairwise_iff_getElem.1 h.nodup
  rcases Nat.lt_trichotomy p q with hl | hl | hl
  · exact absurd e1 (hp p q (by simpa using l1) (by simpa using l2) hl)
  · exact hl
  · exact absurd e1.symm (hp q p (by simpa using l2) (by simpa using l1) hl)
/-- A ditch reaches one junction. -/
theorem Tree.uniq {ds : List Ditch} {fs : List Int} {fr : Int} {bl : List (Int × Int)} (h : Tree ds fs fr bl) {p q : Nat} {v v' k : Int} (h1 : bl[p]? = some (v, k)) (h2 : bl[q]? = some (v', k)) (p0 : p ≠ 0) (q0 : q ≠ 0) : p = q := by
  rcases h.more p v k h1 with e | ⟨a, u, j, ha, hu, k0, d, f, hd, hf, he⟩
  · exact absurd e p0
  rcases h.more q v' k h2 with e | ⟨b, u', j', hb, hu', k0', d', f', hd', hf', he'⟩
  · exact absurd e q0
  rw [hd] at hd'
  injection hd' with hd'
  subst hd'
  by_cases hv : v = v'
  · subst hv
    exact h.inj h1 h2
  · exfalso
    have e1 : u = v' ∧ u' = v := by
      rcases he with ⟨x1, x2, _⟩ | ⟨x1, x2, _⟩ <;> rcases he' with ⟨y1, y2, _⟩ | ⟨y1, y2, _⟩
      · exact absurd (x2.symm.trans y2) hv
      · exact ⟨x1.symm.trans y2, y1.symm.trans x2⟩
      · exact ⟨x1.symm.trans y2, y1.symm.trans x2⟩
      · exact absurd (x2.symm.trans y2) hv
    obtain ⟨rfl, rfl⟩ := e1
    have i1 := h.inj hu h2
    have i2 := h.inj hu' h1
    omega
/-! one more cubic metre -/
/-- The flows when the way has been led back to the p-th junction. -/
structure PushP (ds : List Ditch) (fs0 fs : List Int) (bl : List (Int × Int)) (p : Nat) (at_ : Int) : Prop where
  bd : Bd ds fs
  same : ∀ q v k, q ≠ 0 → q ≤ p → bl[q]? = some (v, k) → fs[k.toNat]? = fs0[k.toNat]?
  net : ∀ T : Int → Bool, netT T ds fs = netT T ds fs0 + indT T at_ - indT T 0
theorem PushP.start {ds : List Ditch} {fs0 : List Int} {bl : List (Int × Int)} {p : Nat} (h : Bd ds fs0) : PushP ds fs0 fs0 bl p 0 :=
  ⟨h, fun _ _ _ _ _ _ => rfl, fun T => by omega⟩
theorem PushP.step {ds : List Ditch} {fs0 fs : List Int} {fr : Int} {bl : List (Int × Int)} {p : Nat} {v k : Int} (ht : Tree ds fs0 fr bl) (h : PushP ds fs0 fs bl p v) (hp : bl[p]? = some (v, k)) (p0 : p ≠ 0) :
    0 ≤ k ∧ ∃ (h1 : k.toNat < ds.length) (h2 : k.toNat < fs.length) (q : Nat) (u j : Int), q < p ∧ bl[q]? = some (u, j) ∧
      ((ds[k.toNat].a = u ∧ ds[k.toNat].b = v ∧ PushP ds fs0 (fs.set k.toNat (fs[k.toNat] + 1)) bl q u) ∨ (ds[k.toNat].b = u ∧ ds[k.toNat].a = v ∧ PushP ds fs0 (fs.set k.toNat (fs[k.toNat] - 1)) bl q u)) := by
  rcases ht.more p v k hp with e | ⟨q, u, j, hq, hu, k0, d, f, hd, hf, he⟩
  · exact absurd e p0
  have hs := h.same p v k p0 (Nat.le_refl _) hp
  rw [hf] at hs
  obtain ⟨h1, rfl⟩ := List.getElem?_eq_some_iff.1 hd
  obtain ⟨h2, rfl⟩ := List.getElem?_eq_some_iff.1 hs
  have hb := h.bd.at_ k.toNat h1 h2
  have hsame : ∀ x, ∀ q' v' k', q' ≠ 0 → q' ≤ q → bl[q']? = some (v', k') → (fs.set k.toNat x)[k'.toNat]? = fs0[k'.toNat]? := fun x q' v' k' n0 hle hq' => by
    have hne : k.toNat ≠ k'.toNat := fun e => by
      rcases ht.more q' v' k' hq' with e' | ⟨_, _, _, _, _, k0', _⟩
      · exact n0 e'
      · have : k' = k := by omega
        subst this
        have := ht.uniq hq' hp n0 p0
        omega
    rw [List.getElem?_set_ne hne]
    exact h.same q' v' k' n0 (by omega) hq'
  refine ⟨k0, h1, h2, q, u, j, hq, hu, ?_⟩
  rcases he with ⟨e1, e2, e3⟩ | ⟨e1, e2, e3⟩
  · refine .inl ⟨e1, e2, h.bd.set _ h1 _ (by omega) (by omega), hsame _, fun T => ?_⟩
    rw [net_set T _ h1 h2, h.net T, e1, e2, show fs[k.toNat] + 1 - fs[k.toNat] = 1 by omega]
    omega
  · refine .inr ⟨e1, e2, h.bd.set _ h1 _ (by omega) (by omega), hsame _, fun T => ?_⟩
    rw [net_set T _ h1 h2, h.net T, e1, e2, show fs[k.toNat] - 1 - fs[k.toNat] = -1 by omega]
    omega
/-- How far the ditches have been looked at. -/
def Done (ds : List Ditch) (fs : List Int) (bl : List (Int × Int)) (i k : Nat) : Prop :=
  ∀ q u j, bl[q]? = some (u, j) → ∀ kk d f, ds[kk]? = some d → fs[kk]? = some f → (q < i ∨ (q = i ∧ kk < k)) → (d.a = u → f < d.c → d.b ∈ bl.map Prod.fst) ∧ (d.b = u → 0 < f → d.a ∈ bl.map Prod.fst)
theorem Done.closed {ds : List Ditch} {fs : List Int} {bl : List (Int × Int)} {i : Nat} (h : Done ds fs bl i 0) (hi : bl.length ≤ i) : ClosedT (fun j => decide (j ∈ bl.map Prod.fst)) ds fs := by
  refine edge_closed fun k d f hd hf => ?_
  simp only [decide_eq_true_eq]
  constructor
  · intro hm hlt
    obtain ⟨⟨u, j⟩, hx, rfl⟩ := List.mem_map.1 hm
    obtain ⟨q, hq, he⟩ := List.mem_iff_getElem.1 hx
    exact (h q d.a j (by rw [List.getElem?_eq_getElem hq, he]) k d f hd hf (.inl (by omega))).1 rfl hlt
  · intro hm hlt
    obtain ⟨⟨u, j⟩, hx, rfl⟩ := List.mem_map.1 hm
    obtain ⟨q, hq, he⟩ := List.mem_iff_getElem.1 hx
    exact (h q d.b j (by rw [List.getElem?_eq_getElem hq, he]) k d f hd hf (.inl (by omega))).2 rfl hlt
theorem Done.row {ds : List Ditch} {fs : List Int} {bl : List (Int × Int)} {i k : Nat} (h : Done ds fs bl i k) (hk : ds.length ≤ k) : Done ds fs bl (i + 1) 0 := fun q u j hq kk d f hd hf hor => by
  refine h q u j hq kk d f hd hf ?_
  have := (List.getElem?_eq_some_iff.1 hd).1
  rcases hor with h1 | ⟨h1, h2⟩
  · by_cases e : q = i
    · exact .inr ⟨e, by omega⟩
    · exact .inl (by omega)
  · omega
/-- What one ditch adds. -/
theorem Done.step {ds : List Ditch} {fs : List Int} {bl bl' : List (Int × Int)} {i k : Nat} {u j : Int} {d : Ditch} {f : Int} (h : Done ds fs bl i k) (hi : bl[i]? = some (u, j)) (hd : ds[k]? = some d) (hf : fs[k]? = some f)
    (hp : ∃ t, bl' = bl ++ t) (h1 : d.a = u → f < d.c → d.b ∈ bl'.map Prod.fst) (h2 : d.b = u → 0 < f → d.a ∈ bl'.map Prod.fst) : Done ds fs bl' i (k + 1) := fun q u' j' hq kk d' f' hd' hf' hor => by
  obtain ⟨t, rfl⟩ := hp
  have hil := (List.getElem?_eq_some_iff.1 hi).1
  have hql : q < bl.length := by rcases hor with h | ⟨h, _⟩ <;> omega
  rw [List.getElem?_append_left hql] at hq
  by_cases e : q = i ∧ kk = k
  · obtain ⟨rfl, rfl⟩ := e
    rw [hi] at hq
    rw [hd] at hd'
    rw [hf] at hf'
    injection hq with hq
    injection hq with hq1 hq2
    injection hd' with hd'
    injection hf' with hf'
    subst hq1 hd' hf'
    exact ⟨h1, h2⟩
  · have := h q u' j' hq kk d' f' hd' hf' (by rcases hor with h | ⟨h, h'⟩; exact .inl h; exact .inr ⟨h, by have : ¬ kk = k := fun e2 => e ⟨h, e2⟩; omega⟩)
    simp only [List.map_append, List.mem_append]
    exact ⟨fun a b => .inl (this.1 a b), fun a b => .inl (this.2 a b)⟩
end Go.Proofs.Yteobejgkjjhfkaa
