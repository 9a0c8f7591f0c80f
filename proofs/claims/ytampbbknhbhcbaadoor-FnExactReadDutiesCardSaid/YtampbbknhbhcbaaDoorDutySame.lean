/- SameDuties, of the program and of the reference. -/
import Derived.Test.YtampbbknhbhcbaaDoorDuty
namespace Go.Proofs.YtampbbknhbhcbaaDoor
open Go.RowKit
end Go.Proofs.YtampbbknhbhcbaaDoor
