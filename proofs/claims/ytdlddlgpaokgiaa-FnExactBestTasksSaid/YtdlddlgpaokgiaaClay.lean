/- The clay on a day: the walks. -/
import Derived.Test.YtdlddlgpaokgiaaWorksClay
import Derived.Deep.CutBlock
namespace Go.Proofs.Ytdlddlgpaokgiaa
open Go.RowKit
set_option linter.unusedVariables false
theorem daysAt_k {xs : List Task} {k : Nat} (h : k < xs.length) : daysAt xs (k : Int) = xs[k].days := by simp [daysAt, h]




end Go.Proofs.Ytdlddlgpaokgiaa
