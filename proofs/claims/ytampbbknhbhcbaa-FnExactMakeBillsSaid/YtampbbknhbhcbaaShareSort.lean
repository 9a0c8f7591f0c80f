/- The order of impl.shareOut is sorted: by the contract of sort.SliceStable. -/
import Derived.Test.YtampbbknhbhcbaaShareLess
namespace Go.Proofs.Ytampbbknhbhcbaa
open Go.RowKit Go.Sort Go.Lib Go.Shelf
set_option linter.unusedVariables false
set_option linter.unusedSimpArgs false
theorem val_finRange (n : Nat) : (List.finRange n).map (fun x => x.val) = List.range n := by
  apply List.ext_getElem
  · simp
  · intro i h1 h2
    simp
theorem span_grow (w : World) (os : Array Obj) (lo hi : Nat) : Span w (grow w os) lo hi := by
  refine ⟨rfl, rfl, rfl, by rw [size_grow]; omega, fun k hk _ => ?_⟩
  unfold grow
  simp only
  rw [Array.getElem?_append_left hk]
theorem ordL_single (f : Nat → Int) : ordL f 1 = [0] := rfl
set_option maxHeartbeats 4000000 in
theorem sortOrder_ (b off g2 c q2 b2 b3 b5 b7 : Nat) (ws : List Int) (T S : Int) (wo : World) (hok : ShOk T S ws) (hx : ∀ j (hj : j < ws.length), wo.cell? ⟨b, off + j, none⟩ = some (.int .i64 ws[j]))
    (hrow : ∀ j, j < ws.length → wo.cell? ⟨g2, j, none⟩ = some (.int .i64 (j : Int)) ∧ wo.frozen? ⟨g2, j, none⟩ = false)
    (k2 : wo.cell? ⟨b2, 0, none⟩ = some (.int .i64 T)) (k3 : wo.cell? ⟨b3, 0, none⟩ = some (.slice (some ⟨b, off, none⟩) ws.length c)) (k7 : wo.cell? ⟨b7, 0, none⟩ = some (.slice (some ⟨g2, 0, none⟩) ws.length q2)) (k5 : wo.cell? ⟨b5, 0, none⟩ = some (.int .i64 S))
    (hb : b ≠ g2) (h2 : b2 ≠ g2) (h3 : b3 ≠ g2) (h5 : b5 ≠ g2) (h7 : b7 ≠ g2) :
    Calls Try.prog 60 #[.iface 81 (.slice (some ⟨g2, 0, none⟩) ws.length q2), .func (.func 61) #[] #[.pointer (some ⟨b2, 0, none⟩), .pointer (some ⟨b3, 0, none⟩), .pointer (some ⟨b7, 0, none⟩), .pointer (some ⟨b5, 0, none⟩)]] wo fun e w' =>
      e = .returned (.tuple #[]) ∧ (∀ j (hj : j < (ordL (remAt T S ws) ws.length).length), w'.cell? ⟨g2, j, none⟩ = some (.int .i64 ((ordL (remAt T S ws) ws.length)[j] : Nat))) ∧ Span wo w' g2 (g2 + 1) := by
  have hn := hok.len
  have hblk : g2 < wo.heap.size := World.block_lt_of_cell? wo _ (hrow 0 (by omega)).1
  by_cases h1 : ws.length = 1
  · have ht := Any.sort_SliceStable_tiny Try.laysGt8 81 3 siT siE (by kernel_rfl) (by kernel_rfl) (by kernel_rfl) (by kernel_rfl) 2 (fun _ => by kernel_rfl) (some ⟨g2, 0, none⟩) 1 q2 (by omega) 79 (by kernel_rfl) (.func 61) #[] #[.pointer (some ⟨b2, 0, none⟩), .pointer (some ⟨b3, 0, none⟩), .pointer (some ⟨b7, 0, none⟩), .pointer (some ⟨b5, 0, none⟩)] wo
    rw [h1]
    refine Calls.mono ht ?_
    rintro e w' ⟨rfl, os, rfl⟩
    refine ⟨rfl, fun j hj => ?_, span_grow _ _ _ _⟩
    rw [ordL_len] at hj
    have hj0 : j = 0 := by omega
    subst hj0
    rw [cell?_grow _ _ _ hblk]
    have := (hrow 0 (by omega)).1
    simpa [ordL_single] using this
  · have hn2 : 2 ≤ ws.length := by omega
    letI : Inhabited (Fin ws.length) := ⟨⟨0, by omega⟩⟩
    have hgd : ∀ (x : Fin ws.length), ws.getD x.val 0 = ws[x.val]'(x.isLt) := fun x => getD_int (x.isLt)
    have hH : Holds (fun x : Fin ws.length => Value.int .i64 (x.val : Int)) wo g2 0 (List.finRange ws.length).toArray := by
      intro j hj
      have hj' : j < ws.length := by simpa using hj
      have hr := hrow j hj'
      rw [Nat.zero_add]
      refine ⟨?_, hr.2⟩
      rw [hr.1]
      simp [hj']
    have hless : LessReads Try.prog 61 #[.pointer (some ⟨b2, 0, none⟩), .pointer (some ⟨b3, 0, none⟩), .pointer (some ⟨b7, 0, none⟩), .pointer (some ⟨b5, 0, none⟩)] (fun x : Fin ws.length => Value.int .i64 (x.val : Int)) (fun x y => ltR (remAt T S ws) x.val y.val) g2 0 (List.finRange ws.length).length wo := by
      intro m os dk hs i j hi hj
      have hi' : i < ws.length := by simpa using hi
      have hj' : j < ws.length := by simpa using hj
      have hdk : dk.size = ws.length := by rw [hs]; simp
      have hW : SW (fun x : Fin ws.length => Value.int .i64 (x.val : Int)) wo g2 0 dk (sortWorld (fun x : Fin ws.length => Value.int .i64 (x.val : Int)) wo g2 0 m dk os) := ⟨m, os, rfl⟩
      have hh := hW.holds hblk hH (by rw [hdk]; simp)
      have ci := (hh i (by omega)).1
      have cj := (hh j (by omega)).1
      obtain ⟨pu, -, -⟩ := hok.at_ (k := (dk[i]!).val) ((dk[i]!).isLt)
      obtain ⟨pv, -, -⟩ := hok.at_ (k := (dk[j]!).val) ((dk[j]!).isLt)
      rw [hgd] at pu pv
      have hl := lessShare_ b2 b3 b7 b5 b off g2 0 ws.length c q2 i j (dk[i]!).val (dk[j]!).val T S _ _ _ hi' hj' (dk[i]!).isLt (dk[j]!).isLt (by omega) hok.pos.1 pu pv
        (SWx.cell hW h2 k2) (SWx.cell hW h3 k3) (SWx.cell hW h7 k7) (SWx.cell hW h5 k5) ci cj
        (SWx.cell hW hb (hx _ ((dk[i]!).isLt))) (SWx.cell hW hb (hx _ ((dk[j]!).isLt)))
      have e : ltR (remAt T S ws) (dk[i]!).val (dk[j]!).val = decide ((T * ws[(dk[j]!).val]'((dk[j]!).isLt)) % S < (T * ws[(dk[i]!).val]'((dk[i]!).isLt)) % S) := by
        unfold ltR remAt
        rw [hgd, hgd]
      show Calls _ _ _ _ fun e w' => e = .returned (.bool (ltR (remAt T S ws) (dk[i]!).val (dk[j]!).val)) ∧ _
      rw [e]
      exact hl
    have hbef : (List.finRange ws.length).Pairwise (Bef (fun x y : Fin ws.length => ltR (remAt T S ws) x.val y.val) (fun x y => befR (remAt T S ws) x.val y.val)) := by
      have h := bef_range (remAt T S ws) ws.length
      rw [← val_finRange, List.pairwise_map] at h
      exact h
    have hs := sliceStable_ (fun x : Fin ws.length => Value.int .i64 (x.val : Int)) (fun _ => rfl) (fun x y => ltR (remAt T S ws) x.val y.val) (fun x y => befR (remAt T S ws) x.val y.val) (fun a b c => befR_trans (remAt T S ws) a.val b.val c.val) 61 _
      (enters_of Try.func61 (by kernel_rfl) rfl) g2 0 q2 (List.finRange ws.length) (by simp; omega) hbef wo hless hH hblk
    have el : (List.finRange ws.length).length = ws.length := by simp
    rw [el] at hs
    refine Calls.mono hs ?_
    rintro e w' ⟨rfl, l', p1, p2, h3⟩
    have hl' : l'.map (fun x => x.val) = ordL (remAt T S ws) ws.length := by
      refine ordL_one ?_ ?_
      · have := p1.map (fun x : Fin ws.length => x.val)
        rwa [val_finRange] at this
      · rw [List.pairwise_map]; exact p2
    refine ⟨rfl, fun j hj => ?_, SWx.span h3⟩
    have hjl : j < l'.length := by rw [p1.length_eq]; rw [ordL_len] at hj; simpa using hj
    have := SWx.cells h3 hblk hH (by rw [p1.length_eq]) hjl
    rw [Nat.zero_add] at this
    rw [this]
    have hg : (ordL (remAt T S ws) ws.length)[j] = (l'[j]).val := by
      simp only [← hl', List.getElem_map]
    rw [hg]
end Go.Proofs.Ytampbbknhbhcbaa
