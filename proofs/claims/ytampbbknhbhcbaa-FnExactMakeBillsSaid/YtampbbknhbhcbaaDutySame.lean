/- SameDuties, of the program and of the reference. -/
import Derived.Test.YtampbbknhbhcbaaDuty
namespace Go.Proofs.Ytampbbknhbhcbaa
open Go.RowKit
end Go.Proofs.Ytampbbknhbhcbaa
