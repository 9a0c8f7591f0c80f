/- Numbers in a text: the program's walks. -/
import Derived.Test.YtampbbknhbhcbaaDoorReadW
namespace Go.Proofs.YtampbbknhbhcbaaDoor
open Go.RowKit
set_option linter.unusedVariables false
set_option linter.unusedSimpArgs false
/-- What the library's variables hold. -/
structure Tabs (w : World) : Prop where
  tab : Tab w
  es : ∃ tp p, w.var? Tryd.prog "strconv.ErrSyntax" = some #[.iface tp p]
  er : ∃ tp p, w.var? Tryd.prog "strconv.ErrRange" = some #[.iface tp p]
theorem var_below {w w' : World} (hb : Below w.heap.size w w') {n : String} {cs : Array Value} (h : w.var? Tryd.prog n = some cs) : w'.var? Tryd.prog n = some cs := by
  unfold World.var? at h ⊢
  cases hg : Tryd.prog.globalNamed n with
  | none => rw [hg] at h; cases h
  | some g =>
    rw [hg] at h
    simp only [Option.bind_some] at h ⊢
    have hlt : g < w.heap.size := by
      rcases Nat.lt_or_ge g w.heap.size with h' | h'
      · exact h'
      · rw [Array.getElem?_eq_none h'] at h; cases h
    rw [hb.block g hlt]
    exact h
theorem Tabs.below {w w' : World} (h : Tabs w) (hb : Below w.heap.size w w') : Tabs w' := by
  obtain ⟨t1, p1, h1⟩ := h.es
  obtain ⟨t2, p2, h2⟩ := h.er
  exact ⟨h.tab.below hb, ⟨t1, p1, var_below hb h1⟩, ⟨t2, p2, var_below hb h2⟩⟩
theorem parse_range {l : List UInt8} {v : Int} (h : Lib.parseIntB 64 l = .ok v) : -9223372036854775808 ≤ v ∧ v ≤ 9223372036854775807 := by
  unfold Lib.parseIntB at h
  split at h
  · cases h
  · rename_i c r
    simp only at h
    split at h
    · cases h
    · cases h
    · rename_i u hu
      split at h
      · cases h
      · split at h
        · cases h
        · rename_i h1 h2
          injection h with h
          simp only [show (2 : Nat) ^ (64 - 1) = 9223372036854775808 by decide] at h1 h2
          by_cases hn : c.toNat = 45
          · rw [if_pos hn] at h; omega
          · rw [if_neg hn] at h; omega
theorem numR_not {s : List UInt8} (h : ∀ n, numO s ≠ some n) : numR s = (0, false) := by
  unfold numR
  cases hn : numO s with
  | none => rfl
  | some n => exact absurd hn (h n)
theorem numR_parse {s : List UInt8} {v : Int} (hp : Lib.parseIntB 64 s = .ok v) : numR s = if Lib.itoa v = s ∧ (stripM s).length ≤ 18 then (v, true) else (0, false) := by
  by_cases h : Lib.itoa v = s ∧ (stripM s).length ≤ 18
  · rw [if_pos h]
    unfold numR
    rw [numO_of_parse h.1 h.2]
  · rw [if_neg h]
    refine numR_not fun n hn => h ?_
    obtain ⟨h1, h2⟩ := numO_some hn
    have h3 := parse_itoa h2
    rw [h1, hp] at h3
    injection h3 with h3
    subst h3
    refine ⟨h1, ?_⟩
    rw [← h1, strip_itoa]
    unfold Small at h2
    exact (dec_len18 (by omega)).2
theorem numR_fail {s : List UInt8} (hp : ∀ v, Lib.parseIntB 64 s ≠ .ok v) : numR s = (0, false) := numR_not fun n hn => by
  obtain ⟨h1, h2⟩ := numO_some hn
  have h3 := parse_itoa h2
  rw [h1] at h3
  exact hp n h3
theorem below_bytes (w : World) (e : TypeId) (t : ByteArray) : Below w.heap.size w (Lib.bytesWorld w e t) := Lib.bytesWorld_below _ _ _
set_option maxRecDepth 100000 in
set_option maxHeartbeats 2000000 in
theorem implReadDec (s : List UInt8) (w : World) (hs : s.length ≤ 1048576) (ht : Tabs w) :
    Calls Tryd.prog 61 #[.string ⟨s.toArray⟩] w fun e w' => e = .returned (.tuple #[.int .i64 (numR s).1, .bool (numR s).2]) ∧ Below w.heap.size w w' := by
  have hsz : (⟨s.toArray⟩ : ByteArray).size = s.length := mk_size s
  have hd : (⟨s.toArray⟩ : ByteArray).data.toList = s := rfl
  cases hp : Lib.parseIntB 64 s with
  | ok v =>
    have hr := parse_range hp
    have HN := hid (numR_parse hp)
    have HC := hid (Tryd.strconv_ParseInt_10_at64_ok ⟨s.toArray⟩ (by rw [hsz]; omega) v (by rw [hd]; exact hp) w)
    have HT := hid ht
    obtain ⟨D, hD⟩ : ∃ D, Lib.itoa v = D := ⟨_, rfl⟩
    have HD := hid hD
    rw [HD.out] at HN
    have HTP := hid (fun x => Tryd.strings_TrimPrefix ⟨s.toArray⟩ ⟨#[45]⟩ x)
    simp only [hd, show (⟨#[45]⟩ : ByteArray).data.toList = [45] from rfl, trim_strip] at HTP
    clear hsz hd hp ht hD
    by_cases he : D = s
    · have he3 : (D == s) = true := by rw [he]; simp
      have HE := hid he
      clear he
      obtain ⟨t, htt⟩ : ∃ t, stripM s = t := ⟨_, rfl⟩
      rw [htt] at HTP HN
      clear htt
      by_cases h18 : t.length ≤ 18
      · have HR := hid (HN.out.trans (if_pos ⟨HE.out, h18⟩))
        go_enter Tryd.func61, Tryd.ntmps61
        go_wp2_with (first | (go_at_call 69; refine HC.out.mono ?_; rintro e w1 ⟨rfl, hw⟩; have hb : Below w.heap.size w w1 := (by rcases hw with rfl | ⟨t, rfl⟩; exact Below.refl _ _; exact below_bytes _ _ _); have HB1 := hid hb; clear hb hw) | (go_at_call 32; refine (implDecE v D (by omega) (by omega) HD _ (HT.out.below HB1.out).tab).mono ?_; rintro e w2 ⟨rfl, hb⟩; have HB2 := hid (HB1.out.trans (hb.mono HB1.out.size)); clear hb) | (go_at_call 70; refine (HTP.out _).mono ?_; rintro e w' ⟨rfl, rfl⟩; refine keep_ ?_))
        refine go_ ?_
        go_wp2_with fail
        go_ret2
        exact ⟨ret_num HR.out, HB2.out⟩
      · have HR := hid (HN.out.trans (if_neg fun h => h18 h.2))
        go_enter Tryd.func61, Tryd.ntmps61
        go_wp2_with (first | (go_at_call 69; refine HC.out.mono ?_; rintro e w1 ⟨rfl, hw⟩; have hb : Below w.heap.size w w1 := (by rcases hw with rfl | ⟨t, rfl⟩; exact Below.refl _ _; exact below_bytes _ _ _); have HB1 := hid hb; clear hb hw) | (go_at_call 32; refine (implDecE v D (by omega) (by omega) HD _ (HT.out.below HB1.out).tab).mono ?_; rintro e w2 ⟨rfl, hb⟩; have HB2 := hid (HB1.out.trans (hb.mono HB1.out.size)); clear hb) | (go_at_call 70; refine (HTP.out _).mono ?_; rintro e w' ⟨rfl, rfl⟩; refine keep_ ?_))
        refine go_ ?_
        go_wp2_with fail
        go_ret2
        exact ⟨ret_num HR.out, HB2.out⟩
    · have he3 : (D == s) = false := by rw [beq_eq_false_iff_ne]; exact he
      have HR := hid (HN.out.trans (if_neg fun h => he h.1))
      go_enter Tryd.func61, Tryd.ntmps61
      go_wp2_with (first | (go_at_call 69; refine HC.out.mono ?_; rintro e w1 ⟨rfl, hw⟩; have hb : Below w.heap.size w w1 := (by rcases hw with rfl | ⟨t, rfl⟩; exact Below.refl _ _; exact below_bytes _ _ _); have HB1 := hid hb; clear hb hw) | (go_at_call 32; refine (implDecE v D (by omega) (by omega) HD _ (HT.out.below HB1.out).tab).mono ?_; rintro e w2 ⟨rfl, hb⟩; have HB2 := hid (HB1.out.trans (hb.mono HB1.out.size)); clear hb; refine keep_ ?_))
      refine go_ ?_
      go_wp2_with fail
      go_ret2
      exact ⟨ret_num HR.out, HB2.out⟩
  | range =>
    have HR := hid (numR_fail (s := s) fun v h => by rw [hp] at h; cases h)
    obtain ⟨tp, p, hv⟩ := ht.er
    have HC := hid (Tryd.strconv_ParseInt_10_at64_range_var ⟨s.toArray⟩ (by rw [hsz]; omega) (by rw [hd]; exact hp) tp p w hv)
    clear hsz hd hp hv ht
    go_enter Tryd.func61, Tryd.ntmps61
    go_wp2_with (go_at_call 69; refine HC.out.mono ?_; rintro e w1 ⟨N, rfl, _, _, hb⟩; have HB1 := hid hb; clear hb; refine keep_ ?_)
    refine go_ ?_
    go_wp2_with fail
    go_ret2
    exact ⟨ret_num HR.out, HB1.out⟩
  | _ =>
    have HR := hid (numR_fail (s := s) fun v h => by rw [hp] at h; cases h)
    obtain ⟨tp, p, hv⟩ := ht.es
    have HC := hid (Tryd.strconv_ParseInt_10_at64_syntax_var ⟨s.toArray⟩ (by rw [hsz]; omega) (by rw [hd]; exact hp) tp p w hv)
    clear hsz hd hp hv ht
    go_enter Tryd.func61, Tryd.ntmps61
    go_wp2_with (go_at_call 69; refine HC.out.mono ?_; rintro e w1 ⟨N, rfl, _, _, hb⟩; have HB1 := hid hb; clear hb; refine keep_ ?_)
    refine go_ ?_
    go_wp2_with fail
    go_ret2
    exact ⟨ret_num HR.out, HB1.out⟩
end Go.Proofs.YtampbbknhbhcbaaDoor
