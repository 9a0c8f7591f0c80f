/- Latest starts: the walks. -/
import Derived.Test.YtdlddlgpaokgiaaLatePlain
import Derived.Test.YtdlddlgpaokgiaaWorksEasy
import Derived.Test.YtdlddlgpaokgiaaHas
import Derived.Deep.RegionWith
namespace Go.Proofs.Ytdlddlgpaokgiaa
open Go.RowKit
set_option linter.unusedVariables false
theorem lateL_next (xs : List Task) (tot : Int) (m : Nat) : lateL xs tot (m + 1) = (lateL xs tot m).set (xs.length - 1 - m) (endTo xs tot (lateL xs tot m) ((xs.length - 1 - m : Nat) : Int) xs.length - daysAt xs ((xs.length - 1 - m : Nat) : Int)) := rfl
theorem early_tot {t : List Task} (h : EOk t) : 0 ≤ (early t t.length).2 ∧ (early t t.length).2 ≤ 48000 := by
  have h1 := (early_bound h (Nat.le_refl t.length)).2
  have h2 := h.1
  omega
set_option maxHeartbeats 4000000 in
theorem implLatest (A : Option Addr) (t : List Task) (c : Nat) (w : World) (hx : RdT w A t) (hE : EOk t) :
    Calls Try.prog 44 #[.slice A t.length c] w fun e w' => ∃ v, e = .returned v ∧ Own w' w.heap.size 2 v (late t (early t t.length).2) ∧ Below w.heap.size w w' := by
  have hn := hx.len
  have h12 := hE.1
  have htt := early_tot hE
  obtain ⟨tot, htot⟩ : ∃ tot, (early t t.length).2 = tot := ⟨_, rfl⟩
  rw [htot] at htt ⊢
  have HT0 := hid htot
  clear htot
  go_enter Try.func44, Try.ntmps44
  go_wp2_with fail
  refine (implStarts _ _ _ _ hx hE).mono ?_
  rintro e w1 ⟨u, rfl, ho, hb⟩
  have HB := hid hb
  have hx1 := hx.below hb
  rw [HT0.out]
  clear hx ho hb
  go_wp2_with (at_make; refine wpList_make' elInt _ rfl _ _ rfl w1.heap.size .i64 .i64 _ _ t.length rfl rfl rfl rfl hn (Nat.le_refl _) ?_; intro w2 hown hb1)
  have hx2 := hx1.below hb1
  go_loopw [6] (fun i wr => ∃ m : Nat, m ≤ t.length ∧ i = .int .i64 ((t.length : Int) - 1 - m) ∧ Own wr w1.heap.size 2 (.slice (some ⟨w1.heap.size, 0, none⟩) t.length t.length) (lateL t tot m) ∧ Below w1.heap.size w1 wr) (fun i _ => (intOf i + 1).toNat)
  case atStart => exact ⟨0, Nat.zero_le _, by go_num, hown, hb1⟩
  case round =>
    obtain ⟨m, hm, rfl, ho, hq⟩ := hrel
    obtain ⟨wo, rfl⟩ : ∃ wo : World, wo = wr := ⟨_, rfl⟩
    clear hown hb1 hx2
    by_cases hlt : m < t.length
    · have hxo := hx1.below hq
      have HQ := hid hq
      have HO := hid ho
      have hlb := lateL_bound hE htt.1 m
      have hln := lateL_len t tot m
      have HN := hid (lateL_next t tot m)
      obtain ⟨i, hi⟩ : ∃ i : Nat, i = t.length - 1 - m := ⟨_, rfl⟩
      rw [← hi] at HN
      have hit : i < t.length := by omega
      have e1 : ((t.length : Int) - 1 - m) = i := by omega
      rw [e1]
      have hi1 : i + 1 + m = t.length := by omega
      have HI := hid hi1
      have E1 := hid e1
      clear hi e1 hi1
      generalize lateL t tot m = L at HO hlb hln HN
      have ho := HO.out
      have hge : decide ((0 : Int) ≤ (i : Int)) = true := decide_eq_true (by omega)
      go_wp2_with fail
      go_loopw [7, 28] (fun e k wi => ∃ j : Nat, j ≤ t.length ∧ k = .int .i64 j ∧ e = .int .i64 (endTo t tot L i j) ∧ ∃ q, wi = wo.more q) (fun _ k _ => t.length - (intOf k).toNat)
      case atStart => exact ⟨0, Nat.zero_le _, rfl, rfl, more_self⟩
      case round =>
        obtain ⟨j, hj, rfl, rfl, q, rfl⟩ := hrel
        have heb := endTo_bound (xs := t) (tot := tot) (L := L) (b := -2000 * (m : Int)) (i : Int) j (by omega) (fun k => (hlb k).1)
        by_cases hjt : j < t.length
        · obtain ⟨b, off, P, p, rfl, c1, c2, c3, c4, hP⟩ := (hxo.more (x := q)).at_ hjt
          obtain ⟨d1, _⟩ := (ho.more (x := q)).int (k := j) (by omega)
          have hs := endTo_next t tot L i j
          unfold endStep at hs
          rw [behind_eq hjt] at hs
          have hLj : L.getD j 0 = L[j]'(by omega) := by simp [show j < L.length by omega]
          rw [hLj, show decide ((i : Int) ∈ t[j].after) = hasB t[j].after i from rfl] at hs
          generalize endTo t tot L i j = e at hs heb ⊢
          clear hxo
          by_cases hh : hasB t[j].after (i : Int) = true
          · rw [if_pos hh] at hs
            have HS := hid hs
            clear hs
            go_wp2_with fail
            refine (implHas _ _ _ _ _ (hP.alloc _)).mono ?_
            rintro e' w3 ⟨rfl, rfl⟩
            rw [hh]
            go_wp2_with fail
            go_roundw
            case rel => exact ⟨j + 1, by omega, by go_num, by rw [HS.out]; exact val_int (min_if _ _), below_ex (more_below.alloc more_size _)⟩
            case measure => simp [intOf]; omega
          · have hh' : hasB t[j].after (i : Int) = false := by simpa using hh
            rw [if_neg hh] at hs
            have HS := hid hs
            clear hs hh
            go_wp2_with fail
            refine (implHas _ _ _ _ _ (hP.alloc _)).mono ?_
            rintro e' w3 ⟨rfl, rfl⟩
            rw [hh']
            go_wp2_with fail
            go_roundw
            case rel => exact ⟨j + 1, by omega, by go_num, by rw [HS.out], below_ex (more_below.alloc more_size _)⟩
            case measure => simp [intOf]; omega
        · have hjl : j = t.length := by omega
          rw [hjl] at heb ⊢
          have hoq := ho.more (x := q)
          obtain ⟨b, off, P, p, rfl, c1, c2, c3, c4, hP⟩ := (hxo.more (x := q)).at_ hit
          obtain ⟨d1, d2⟩ := hoq.int (k := i) (by omega)
          have hdd := (hE.2 i hit).1
          have hset := hoq.intSet (k := i) (by omega) (endTo t tot L i t.length - t[i].days)
          rw [show endTo t tot L i t.length - t[i].days = endTo t tot L i t.length - daysAt t i by rw [daysAt_eq (by simpa using hit)]; simp] at hset
          rw [← HN.out] at hset
          rw [show endTo t tot L i t.length - daysAt t i = endTo t tot L i t.length - t[i].days by rw [daysAt_eq (by simpa using hit)]; simp] at hset
          have HT := hid hset
          have HC : Hid (Below w1.heap.size w1 ((wo.more q).setCell ⟨w1.heap.size, i, none⟩ (.int .i64 (endTo t tot L i t.length - t[i].days)))) := (HQ.out.trans (more_below.mono HQ.out.size)).setCell (Nat.le_refl _) _
          generalize endTo t tot L i t.length = e at heb HT HC ⊢
          generalize L[i]'(by omega) = old at d1
          clear hset hoq hxo hP ho HO
          go_wp2_with fail
          go_roundw
          case rel => exact ⟨m + 1, by omega, val_int (by have := HI.out; omega), HT.out, HC.out⟩
          case measure => simp [intOf]
    · have hml : m = t.length := by omega
      subst hml
      have HO := hid ho
      have HQ := hid hq
      have hge : decide ((0 : Int) ≤ (t.length : Int) - 1 - t.length) = false := decide_eq_false (by omega)
      clear ho hx1 hq
      go_wp2_with fail
      go_ret
      exact ⟨.slice (some ⟨w1.heap.size, 0, none⟩) t.length t.length, rfl, HO.out.mono HB.out.size, HB.out.trans (HQ.out.mono HB.out.size)⟩


theorem relax_next (o : Int) (l E : List Int) {j : Nat} (hj : j < l.length) : (l.take (j + 1)).foldl (relax o) E = relax o ((l.take j).foldl (relax o) E) l[j] := foldl_take' _ _ hj
theorem relax_bound {o b c : Int} (l : List Int) {E : List Int} (ho : b ≤ o ∧ o ≤ c) (h0 : b ≤ 0 ∧ 0 ≤ c) (hE : ∀ k, b ≤ E.getD k 0 ∧ E.getD k 0 ≤ c) : ∀ k, b ≤ (l.foldl (relax o) E).getD k 0 ∧ (l.foldl (relax o) E).getD k 0 ≤ c := by
  induction l generalizing E with
  | nil => exact hE
  | cons a l ih =>
    rw [List.foldl_cons]
    refine ih fun k => ?_
    unfold relax
    rw [getD_set]
    have := hE k
    have := hE a.toNat
    split <;> omega

end Go.Proofs.Ytdlddlgpaokgiaa
