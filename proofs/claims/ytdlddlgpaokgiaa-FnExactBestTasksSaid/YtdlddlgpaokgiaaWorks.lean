/- Earliest starts: the walks. -/
import Derived.Test.YtdlddlgpaokgiaaWorksPlain
import Derived.Deep.CutBlock
namespace Go.Proofs.Ytdlddlgpaokgiaa
open Go.RowKit
set_option linter.unusedVariables false


set_option maxHeartbeats 2000000 in
theorem implStarts (A : Option Addr) (xs : List Task) (c : Nat) (w : World) (hx : RdT w A xs) (hE : EOk xs) :
    Calls Try.prog 43 #[.slice A xs.length c] w fun e w' => ∃ v, e = .returned (.tuple #[v, .int .i64 (early xs xs.length).2]) ∧ Own w' w.heap.size 2 v (early xs xs.length).1 ∧ Below w.heap.size w w' := by
  have hn := hx.len
  have h12 := hE.1
  go_enter Try.func43, Try.ntmps43
  go_wp2_with fail
  go_loopw [4, 5, 14] (fun v t i wr => ∃ k : Nat, k ≤ xs.length ∧ i = .int .i64 k ∧ t = .int .i64 (early xs k).2 ∧ Own wr w.heap.size 2 v (early xs k).1 ∧ Below w.heap.size w wr) (fun _ _ i _ => xs.length - (intOf i).toNat)
  case atStart => exact ⟨0, Nat.zero_le _, rfl, rfl, Own.empty (Nat.le_refl _), (Below.refl _ _).alloc (Nat.le_refl _) _⟩
  case round =>
    obtain ⟨k, hk, rfl, rfl, ho, hb⟩ := hrel
    obtain ⟨wo, rfl⟩ : ∃ wo : World, wo = wr := ⟨_, rfl⟩
    by_cases hlt : k < xs.length
    · have hx2 := hx.below hb
      obtain ⟨b, off, P, p, rfl, c1, c2, c3, c4, hP⟩ := hx2.at_ hlt
      have hbd := early_bound hE (k := k) hk
      have hlen := early_len (xs := xs) hk
      have hda := (hE.2 k hlt)
      have hsb := startOf_bound hE hbd.1 xs[k].after 0 (by omega) (by omega)
      have HN := hid (early_next hlt)
      have HB := hid hbd
      have HL := hid hlen
      have hd1 : 0 ≤ xs[k].days := hda.1.1
      have hd2 : xs[k].days ≤ 2000 := hda.1.2
      have t1 : 0 ≤ (early xs k).2 := hbd.2.1
      have t2 : (early xs k).2 ≤ 48000 := by omega
      clear hbd hlen
      have ha12 : xs[k].after.length ≤ 1048576 := hP.len
      generalize he1 : (early xs k).1 = out at HB HL ho hsb
      generalize he2 : (early xs k).2 = tot at HB t1 t2
      have HE1 := hid he1
      have HE2 := hid he2
      clear he1 he2
      have hbs := hb.size
      obtain ⟨V, vq, rfl⟩ := ho.form
      obtain ⟨w1, hw1⟩ : ∃ x, wo.alloc (.cells #[.int .i64 xs[k].days, .int .i64 xs[k].cost, .int .i64 xs[k].clay, .slice P xs[k].after.length p] 44) = x := ⟨_, rfl⟩
      have hb1 : Below w.heap.size w w1 := by rw [← hw1]; exact hb.alloc hbs _
      have hbo1 : Below wo.heap.size wo w1 := by rw [← hw1]; exact (Below.refl _ _).alloc (Nat.le_refl _) _
      have k0 : w1.cell? ⟨wo.heap.size, 0, none⟩ = some (.int .i64 xs[k].days) := by rw [← hw1]; simp [go_sem]
      have k3 : w1.cell? ⟨wo.heap.size, 3, none⟩ = some (.slice P xs[k].after.length p) := by rw [← hw1]; simp [go_sem]
      have hlt1 : wo.heap.size < w1.heap.size := by rw [← hw1]; simp
      have HW := hid hw1
      have ho1 := ho.below hbo1
      have HOB := hid ho.block
      have hP1 := hP.below hbo1
      have hx3 := hx.below hb1
      clear hw1 hP
      go_upto_region 6 with fail
      rw [HW.out]
      clear HW c1 c2 c3 c4 ho hb hx2
      go_wp2_with fail
      go_loopw [8, 21] (fun s j wi => ∃ m : Nat, m ≤ xs[k].after.length ∧ j = .int .i64 m ∧ s = .int .i64 ((xs[k].after.take m).foldl (startStep xs out) 0) ∧ ∃ q, wi = w1.more q) (fun _ j _ => xs[k].after.length - (intOf j).toNat)
      case atStart => exact ⟨0, Nat.zero_le _, rfl, rfl, more_self⟩
      case round =>
        obtain ⟨m, hm, rfl, rfl, q, rfl⟩ := hrel
        by_cases hmt : m < xs[k].after.length
        · obtain ⟨b2, off2, rfl, e1⟩ := hP1.int hmt
          have ha := hda.2 _ (List.getElem_mem hmt)
          have hsm := startOf_bound hE HB.out.1 (xs[k].after.take m) 0 (by omega) (by omega)
          have HS := hid (foldl_take' (startStep xs out) 0 hmt)
          generalize (xs[k].after.take m).foldl (startStep xs out) 0 = s at HS hsm ⊢
          generalize xs[k].after[m] = a at HS ha e1
          have hak : a.toNat < out.length := by rw [HL.out]; omega
          obtain ⟨g, rfl, hgb, hgs⟩ := ho1.addr hak
          obtain ⟨d1, _⟩ := ho1.int hak
          have hax : a.toNat < xs.length := by omega
          obtain ⟨b3, off3, P3, p3, hA3, f1, f2, f3, f4, _⟩ := hx3.at_ hax
          injection hA3 with hA3
          injection hA3 with i1 i2
          subst i1 i2
          have ho1 := (HB.out.1 a.toNat)
          have ho2 : out.getD a.toNat 0 = out[a.toNat] := by simp [hak]
          have hd3 := daysAt_bound hE a
          have hd4 := daysAt_eq hax
          rw [ho2] at ho1
          rw [hd4] at hd3
          have ha0 : 0 ≤ a := ha.1
          have ha1 : a < 12 := by omega
          have o1 : 0 ≤ out[a.toNat] := ho1.1
          have o2 : out[a.toNat] ≤ 24000 := by omega
          have o3 : 0 ≤ xs[a.toNat].days := hd3.1
          have o4 : xs[a.toNat].days ≤ 2000 := hd3.2
          have s1 : 0 ≤ s := hsm.1
          have s2 : s ≤ 50000 := by omega
          have HS2 : Hid (List.foldl (startStep xs out) 0 (xs[k].after.take (m + 1)) = max s (out[a.toNat] + xs[a.toNat].days)) := by
            rw [HS.out]; unfold Hid startStep; rw [ho2, hd4]
          have hal : (a : Int) < out.length := by omega
          have hal2 : (a : Int) < xs.length := by omega
          clear hx hx3 hP1 ho1 ho2 hd3 hd4 hsm ha hda hsb
          go_wp2_with fail
          go_quiet (fail)
          go_wp2_with fail
          go_roundw
          case rel => exact ⟨m + 1, by omega, by go_num, by rw [HS2.out]; exact val_int (max_if _ _), below_ex (more_below.drewN _)⟩
          case measure => simp [intOf]; omega
        · have hmt2 : xs[k].after.take m = xs[k].after := List.take_of_length_le (by omega)
          rw [hmt2]
          have HSt : Hid (startOf xs out xs[k].after = List.foldl (startStep xs out) 0 xs[k].after) := rfl
          generalize List.foldl (startStep xs out) 0 xs[k].after = s at HSt hsb ⊢
          have s1 : 0 ≤ s := hsb.1
          have s2 : s ≤ 50000 := by omega
          have hol : out.length ≤ 1048576 := by rw [HL.out]; omega
          have HN2 : Hid (early xs (k + 1) = (out ++ [s], max tot (s + xs[k].days))) := by
            rw [HN.out]; unfold Hid estep; rw [HE1.out, HE2.out, HSt.out]
          have hsum : 0 ≤ s + xs[k].days ∧ s + xs[k].days ≤ 60000 := by omega
          have hbo : Below w.heap.size w (w1.more q) := below_go hb1 hb1.size
          have hbk : Below w1.heap.size w1 (w1.more q) := more_below
          clear hx hx3 hP1 hsb hda
          go_wp2_with (first | fail | (at_builtin; refine wpList_push elInt _ rfl (.tmp 38) (.tmp 40) rfl w.heap.size (.slice V out.length vq) out s rfl (ho1.more.alloc _) _ rfl (heap_alloc_new _ _) hol (le_alloc (le_more hb1.size)) ?_; intro v' w' hown' hg' hat'; refine keep_ ?_))
          have hbn := below_own (hbo.alloc hbo.size _) (ho1.more.alloc _) hg' (Nat.le_refl _) (le_alloc hbo.size)
          have k0n : w'.cell? ⟨wo.heap.size, 0, none⟩ = some (.int .i64 xs[k].days) := grown_cell hg' (by simp [go_sem, k0]) (fun g hg => by have := (HOB.out g hg).2; simp only; omega)
          have HO := hid hown'
          have HBN := hid hbn
          clear hown' hg' hat' hbn
          refine go_ ?_
          go_wp2_with fail
          go_roundw
          case rel => exact ⟨k + 1, by omega, by go_num, by rw [HN2.out]; exact val_int (max_if _ _), by rw [HN2.out]; exact HO.out, HBN.out⟩
          case measure => simp [intOf]; omega
    · have hkl : Hid (k = xs.length) := by show k = xs.length; omega
      have HO := hid ho
      clear ho hx
      go_wp2_with fail
      go_ret2
      exact ⟨_, by rw [hkl.out]; rfl, by rw [← hkl.out]; exact HO.out, hb⟩

end Go.Proofs.Ytdlddlgpaokgiaa
