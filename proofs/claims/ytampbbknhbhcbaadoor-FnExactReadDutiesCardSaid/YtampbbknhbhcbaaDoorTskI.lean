/- TaskText: the program. -/
import Derived.Test.YtampbbknhbhcbaaDoorTskT
namespace Go.Proofs.YtampbbknhbhcbaaDoor
open Go.RowKit
set_option linter.unusedVariables false
instance : Enc ByteArray := ⟨1, fun s => [.string s], fun _ => rfl, fun _ u h => by simp at h; subst h; rfl⟩
theorem elStr : El Tryd.prog 62 9 (⟨#[]⟩ : ByteArray) :=
  El.mk' (z := .string ⟨#[]⟩) (bytes := 16) Tryd.underlying62 (by kernel_rfl) (by decide) rfl (by decide)
def wordsB (l : List Int) (k : Nat) : List ByteArray := (l.take k).map fun a => ⟨(Lib.itoa a).toArray⟩
theorem wordsB_len {l : List Int} {k : Nat} (h : k ≤ l.length) : (wordsB l k).length = k := by simp [wordsB]; omega
theorem wordsB_next {l : List Int} {k : Nat} (h : k < l.length) : wordsB l (k + 1) = wordsB l k ++ [⟨(Lib.itoa l[k]).toArray⟩] := by
  unfold wordsB
  rw [take_next h, List.map_append]
  rfl
theorem wordsB_join (l : List Int) : (wordsB l l.length).map (·.data.toList) = l.map Lib.itoa := by
  unfold wordsB
  rw [List.take_length, List.map_map]
  rfl
theorem join_len (sep : List UInt8) (m : Nat) : ∀ xs : List (List UInt8), (∀ x ∈ xs, x.length ≤ m) → (Lib.join xs sep).length ≤ xs.length * (m + sep.length)
  | [], _ => by simp [Lib.join_nil]
  | x :: r, h => by
    rw [Lib.join_cons, List.length_append]
    have h1 := h x (by simp)
    have h2 : (Lib.joinTail sep r).length ≤ r.length * (m + sep.length) := by
      clear h1
      unfold Lib.joinTail
      induction r with
      | nil => simp
      | cons y r ih =>
        have i1 := ih (fun z hz => h z (by
          rcases List.mem_cons.1 hz with rfl | hz
          · simp
          · simp [hz]))
        have i2 := h y (by simp)
        simp only [List.map_cons, List.flatten_cons, List.length_append, List.length_cons]
        rw [Nat.succ_mul]
        omega
    simp only [List.length_cons]
    rw [Nat.succ_mul]
    omega
set_option maxHeartbeats 2000000 in
theorem implJoin (A : Option Addr) (q : Nat) (l : List Int) (w : World) (hA : Rd w A l) (hf : TaskFit l) (ht : Tab w) :
    Calls Tryd.prog 48 #[.slice A l.length q, .string ⟨#[44]⟩] w fun e w' => e = .returned (.string ⟨(Lib.join (l.map Lib.itoa) [44]).toArray⟩) ∧ Below w.heap.size w w' := by
  obtain ⟨R, hR⟩ : ∃ R, Lib.join (l.map Lib.itoa) [44] = R := ⟨_, rfl⟩
  have lR : R.length ≤ 1000 := by
    rw [← hR]
    have i1 := join_len [44] 21 (l.map Lib.itoa) (fun x hx => by
      obtain ⟨a, ha, rfl⟩ := List.mem_map.1 hx
      obtain ⟨k, hk, rfl⟩ := List.getElem_of_mem ha
      exact itoa_len (by have := hf.2 k hk; omega) (by have := hf.2 k hk; omega))
    have i2 := hf.1
    rw [List.length_map] at i1
    simp only [List.length_cons, List.length_nil] at i1
    omega
  have hn := hA.len
  rw [hR]
  go_enter Tryd.func48, Tryd.ntmps48
  go_wp2_with fail
  go_loopw [5, 11] (fun v i wr => ∃ (k : Nat), k ≤ l.length ∧ i = .int .i64 k ∧ Own wr w.heap.size 9 v (wordsB l k) ∧ Below w.heap.size w wr) (fun _ i _ => l.length - (intOf i).toNat)
  case atStart => exact ⟨0, Nat.zero_le _, rfl, Own.empty (Nat.le_refl _), (Below.refl _ _).alloc (Nat.le_refl _) _⟩
  case round =>
    obtain ⟨k, hk, rfl, ho, hb⟩ := hrel
    obtain ⟨wo, rfl⟩ : ∃ wo : World, wo = wr := ⟨_, rfl⟩
    have hwl := wordsB_len hk
    by_cases hlt : k < l.length
    · have hA1 := hA.below hb
      obtain ⟨b, off, rfl, c1⟩ := hA1.int hlt
      have hd := hf.2 k hlt
      obtain ⟨O, hO⟩ : ∃ O, Lib.itoa l[k] = O := ⟨_, rfl⟩
      have DO := implDecE l[k] O (by omega) (by omega) (hid hO) wo (ht.below hb)
      have HN := hid (wordsB_next hlt)
      rw [hO] at HN
      obtain ⟨V, vq, rfl⟩ := ho.form
      generalize wordsB l k = L at ho HN hwl
      have HO := hid ho
      have HB := hid hb
      have HKL := hid hwl
      clear ho hb hwl hO hA hA1
      go_wp2_with (first | (go_at_call 32; refine DO.mono ?_; rintro e w1 ⟨rfl, hb1⟩; have HB1 := hid (HB.out.trans (hb1.mono HB.out.size)); have HO1 := hid (HO.out.below hb1); clear hb1) | (at_builtin; refine wpList_push elStr _ rfl (.tmp 15) (.tmp 18) rfl w.heap.size _ L (⟨O.toArray⟩ : ByteArray) rfl (HO1.out.alloc _) _ rfl (heap_alloc_new _ _) (by have := HKL.out; omega) (le_alloc HB1.out.size) ?_; intro v' w' hown' hg' hat'; have hbn := below_own (HB1.out.alloc HB1.out.size _) (HO1.out.alloc _) hg' (Nat.le_refl _) (le_alloc HB1.out.size); have HO2 := hid hown'; have HBN := hid hbn; clear hown' hg' hat' hbn))
      go_roundw
      case rel => exact ⟨k + 1, by omega, by go_num, by rw [HN.out]; exact HO2.out, HBN.out⟩
      case measure => simp [intOf]; omega
    · have hkl : k = l.length := by omega
      subst hkl
      obtain ⟨V, vq, rfl⟩ := ho.form
      rw [hwl] at ho ⊢
      have hbs := hb.size
      by_cases hz : l.length = 0
      · have hl : l = [] := List.length_eq_zero_iff.1 hz
        subst hl
        have hRe : R = [] := by rw [← hR]; rfl
        subst hRe
        have HB := hid hb
        clear hb ho hR hA hwl
        go_wp2_with (refine (Tryd.strings_Join_none V vq ⟨#[44]⟩ _).mono ?_; rintro e w' ⟨rfl, rfl⟩; refine keep_ ?_)
        refine go_ ?_
        go_wp2_with fail
        go_ret
        exact ⟨rfl, HB.out⟩
      · obtain ⟨g, rfl, hg1, hg2⟩ := ho.addr (k := 0) (by rw [hwl]; omega)
        have hcap : (wordsB l l.length).length ≤ vq := by
          rcases ho.2 with ⟨h1, _⟩ | ⟨g', cap, cur, h1, _, _, h2, _⟩
          · cases h1
          · injection h1 with _ _ h3
            omega
        have hJ := hid (Tryd.strings_Join g 0 vq (wordsB l l.length) ⟨#[44]⟩ wo (fun j x hx => by
          have hj := (List.getElem?_eq_some_iff.1 hx).1
          have := ho.cell (k := j) (j := 0) hj (u := .string x) (by rw [(List.getElem?_eq_some_iff.1 hx).2]; rfl)
          simpa [Enc.size] using this) hg2 (by omega) hcap (by rw [wordsB_join, show (ByteArray.mk #[44]).data.toList = [44] from rfl, hR]; omega))
        rw [wordsB_join, show (ByteArray.mk #[44]).data.toList = [44] from rfl, hR, hwl] at hJ
        have HB := hid hb
        clear hb ho hR hA hwl hcap hg1 hg2
        go_wp2_with (refine hJ.out.mono ?_; rintro e w' ⟨rfl, hb2⟩; have HB2 := hid (HB.out.trans (hb2.mono HB.out.size)); clear hb2; refine keep_ ?_)
        refine go_ ?_
        go_wp2_with fail
        go_ret
        exact ⟨rfl, HB2.out⟩
set_option maxRecDepth 100000 in
set_option maxHeartbeats 4000000 in
theorem implTaskText (d c y : Int) (A : Option Addr) (q : Nat) (l : List Int) (w : World) (hA : Rd w A l) (ht : Tab w) :
    Calls Tryd.prog 26 #[.agg #[.int .i64 d, .int .i64 c, .int .i64 y, .slice A l.length q]] w fun e w' => e = .returned (.string ⟨(taskText d c y l).toArray⟩) ∧ Below w.heap.size w w' := by
  obtain ⟨R, hR⟩ : ∃ R, taskText d c y l = R := ⟨_, rfl⟩
  rw [hR]
  have HB := hid ((Below.refl w.heap.size w).alloc (Nat.le_refl _) (.cells #[.int .i64 d, .int .i64 c, .int .i64 y, .slice A l.length q] 50))
  have hA0 := hA.below HB.out
  have HT := hid (ht.below HB.out)
  have hn := hA.len
  by_cases g1 : aloneB d c y = true
  · by_cases g2 : risesB 0 10 l = true
    · have hv : oneB 10 ⟨d, c, y, l⟩ = true := by unfold oneB; rw [g1, g2]; rfl
      obtain ⟨-, -, g3, g4⟩ := one_parts hv
      have hH := headT_len g3
      have h1 := g4.1
      unfold taskText at hR
      rw [if_pos hv] at hR
      obtain ⟨D, C, Y, X1, X2, X3, X4, X5, H, eD, eC, eY, eH, k1, k2, k3, k4, k5⟩ := head_cats g3
      have DD := implDecE d D (by omega) (by omega) (hid eD)
      have DC := implDecE c C (by omega) (by omega) (hid eC)
      have DY := implDecE y Y (by omega) (by omega) (hid eY)
      rw [← eH] at hR hH
      have HR := hid hR
      clear hR eD eC eY eH X5
      go_enter Tryd.func26, Tryd.ntmps26
      go_wp2_with (first | (go_at_call 46; refine (implAlone d c y _ _).mono ?_; rintro e w' ⟨rfl, hb⟩; rw [g1]; obtain ⟨y0, rfl⟩ := below_ex hb; clear hb) | (go_at_call 47; refine (implRises A l q 0 10 _ hA0.more).mono ?_; rintro e w' ⟨rfl, rfl⟩; rw [g2]; refine keep_ ?_))
      refine go_ ?_
      have HT0 := hid (HT.out.more (x := y0))
      go_wp2_with fail
      refine wp_region_more (by kernel_rfl) (by kernel_rfl) ?_
      repeat (go_big_quiet_step ((go_at_call 32; first | with_reducible exact quiet_below (DD _ HT0.out.more) | with_reducible exact quiet_below (DC _ HT0.out.more) | with_reducible exact quiet_below (DY _ HT0.out.more))))
      refine wpQuiet_nil ?_
      rintro _ ⟨nq, rfl⟩
      clear k1 k2 k3 k4 k5 DD DC DY
      obtain ⟨yz, hyz⟩ : ∃ yz, ((w.alloc (.cells #[.int .i64 d, .int .i64 c, .int .i64 y, .slice A l.length q] 50)).more y0).more nq = (w.alloc (.cells #[.int .i64 d, .int .i64 c, .int .i64 y, .slice A l.length q] 50)).more yz := more_trans
      rw [hyz]
      clear hyz HT0
      by_cases hz : l.length = 0
      · have hl : l = [] := List.length_eq_zero_iff.1 hz
        subst hl
        have hRe : R = H := by rw [← HR.out]; rfl
        subst hRe
        clear HR hA hA0
        have e0 : ([] : List Int).length = 0 := rfl
        rw [e0]
        go_wp2_with fail
        go_ret
        exact ⟨rfl, below_go HB.out HB.out.size⟩
      · have hJ := hid (implJoin A q l _ (hA0.more (x := yz)) g4 (HT.out.more (x := yz)))
        have lJ : (Lib.join (l.map Lib.itoa) [44]).length ≤ 1000 := by
          have i1 := join_len [44] 21 (l.map Lib.itoa) (fun x hx => by
            obtain ⟨a, ha, rfl⟩ := List.mem_map.1 hx
            obtain ⟨k, hk, rfl⟩ := List.getElem_of_mem ha
            exact itoa_len (by have := g4.2 k hk; omega) (by have := g4.2 k hk; omega))
          rw [List.length_map] at i1
          simp only [List.length_cons, List.length_nil] at i1
          omega
        have hRe := HR.out
        unfold aftT at hRe
        rw [if_neg hz, List.take_length] at hRe
        generalize Lib.join (l.map Lib.itoa) [44] = J at hJ lJ hRe
        obtain ⟨P, hP⟩ : ∃ P, aftW ++ J = P := ⟨_, rfl⟩
        rw [hP] at hRe
        unfold aftW at hP
        have lP : P.length ≤ 2000 := by rw [← hP, List.length_append]; simp; omega
        have k1 := cat hP (by simp) (by omega)
        have k2 := cat hRe (by omega) (by omega)
        have hg : decide ((0 : Int) < (l.length : Int)) = true := decide_eq_true (by omega)
        clear hP hRe HR hA hA0
        go_wp2_with ((go_at_call 48; refine hJ.out.mono ?_; rintro e w' ⟨rfl, hb⟩; obtain ⟨y1, rfl⟩ := below_ex hb; clear hb; refine keep_ ?_))
        refine go_ ?_
        go_wp2_with fail
        go_ret
        exact ⟨rfl, below_go (below_go HB.out HB.out.size) (le_more HB.out.size)⟩
    · have g2 : risesB 0 10 l = false := by simpa using g2
      have hE : R = [] := by rw [← hR]; unfold taskText oneB; rw [g2]; simp
      subst hE
      clear hR
      go_enter Tryd.func26, Tryd.ntmps26
      go_wp2_with (first | (go_at_call 46; refine (implAlone d c y _ _).mono ?_; rintro e w' ⟨rfl, hb⟩; rw [g1]; obtain ⟨y0, rfl⟩ := below_ex hb; clear hb) | (go_at_call 47; refine (implRises A l q 0 10 _ hA0.more).mono ?_; rintro e w' ⟨rfl, rfl⟩; rw [g2]; refine keep_ ?_))
      refine go_ ?_
      go_wp2_with fail
      go_ret
      exact ⟨rfl, below_go HB.out HB.out.size⟩
  · have g1 : aloneB d c y = false := by simpa using g1
    have hE : R = [] := by rw [← hR]; unfold taskText oneB; simp only [g1]; rfl
    subst hE
    clear hR
    go_enter Tryd.func26, Tryd.ntmps26
    go_wp2_with (first | (go_at_call 46; refine (implAlone d c y _ _).mono ?_; rintro e w' ⟨rfl, hb⟩; rw [g1]; obtain ⟨y0, rfl⟩ := below_ex hb; clear hb; refine keep_ ?_))
    refine go_ ?_
    go_wp2_with fail
    go_ret
    exact ⟨rfl, below_go HB.out HB.out.size⟩
end Go.Proofs.YtampbbknhbhcbaaDoor
