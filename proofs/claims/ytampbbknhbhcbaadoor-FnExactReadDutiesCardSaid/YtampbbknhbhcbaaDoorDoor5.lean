/- What the reading rows of this seat give their walk: the table and the two errors' variables. -/
import Derived.Test.YtampbbknhbhcbaaDoorReadI
import Derived.Test.YtampbbknhbhcbaaDoorDoor
namespace Go.Proofs.YtampbbknhbhcbaaDoor
open Go.RowKit
def laid5 : List (String × DataW Unit) := [("math/bits.deBruijn32tab", Rows.laid_math_bits_deBruijn32tab), ("math/bits.deBruijn64tab", Rows.laid_math_bits_deBruijn64tab), ("internal/strconv.uint64pow10", Rows.laid_internal_strconv_uint64pow10), ("strconv.ErrRange", Rows.laid_strconv_ErrRange), ("strconv.ErrSyntax", Rows.laid_strconv_ErrSyntax)]
theorem starErr : "*" ++ "errors.errorString" = "*errors.errorString" := by decide
theorem rowErr (u : TypeId) (h : Tryd.prog.typeName? 3 u = some "*errors.errorString") : u = 139 :=
  typeName_ptr_named (nm := "errors.errorString") (by rw [starErr]; kernel_rfl) (by kernel_rfl) (by decide) u (by rw [starErr]; exact h)
theorem globOf {n : String} {t : TypeId} (h : (Tryd.prog.globalNamed n).bind (fun g => (Tryd.prog.globals[g]?).map (·.type)) = some t) : ∃ g, Tryd.prog.globalNamed n = some g ∧ (Tryd.prog.globals[g]?).map (·.type) = some t := by
  cases hg : Tryd.prog.globalNamed n with
  | none => rw [hg] at h; cases h
  | some g => rw [hg] at h; exact ⟨g, rfl, h⟩
theorem errVar {n : String} {text : List UInt8} {r : List (String × DataW Unit)} {W : World} (hn : (Tryd.prog.globalNamed n).bind (fun g => (Tryd.prog.globals[g]?).map (·.type)) = some 93)
    (h : laidMet Tryd.prog ((n, .iface "*errors.errorString" (.ptr (.agg [.lit (.string text)]))) :: r) W) : ∃ tp p, W.var? Tryd.prog n = some #[.iface tp p] := by
  obtain ⟨g, hg, ht⟩ := globOf hn
  obtain ⟨a0, s0, hv0, -, -, -⟩ := laid_sentinel h hg ht Tryd.underlying93 rowErr Tryd.underlying139 Tryd.underlying141 rfl rfl Tryd.underlying9 (by kernel_rfl) (by kernel_rfl)
  exact ⟨_, _, hv0⟩
theorem tabs_of_laid5 {W : World} (h : laidMetH Tryd.prog laid5 W) : Tabs W := by
  rw [MakeChecks.laidMetH_plain _ _ _ (by kernel_rfl)] at h
  have h3 := laidMet.tail (laidMet.tail h)
  exact ⟨tab_of_tail h3, errVar (by kernel_rfl) (laidMet.tail (laidMet.tail h3)), errVar (by kernel_rfl) (laidMet.tail h3)⟩
theorem met5 (os : Os) (args : Array Value) : laidMetH Tryd.prog laid5 ((World.laidAll Tryd.prog os laid5).forCall (fun _ _ => 0) ⟨#[], args, []⟩).memory := by
  rw [MakeChecks.laidMetH_plain _ _ _ (by kernel_rfl)]
  exact laidMet_laidAll _ (by kernel_rfl) (by kernel_rfl)
theorem shaped5 (os : Os) : (World.laidAll Tryd.prog os laid5).Shaped Tryd.prog := World.shaped_of_ZipB (by kernel_rfl) (by kernel_rfl)
end Go.Proofs.YtampbbknhbhcbaaDoor
