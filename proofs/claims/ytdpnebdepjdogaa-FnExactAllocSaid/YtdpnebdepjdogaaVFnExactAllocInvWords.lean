/- What the walks of the law FnExactAlloc lean on, out of the words of the print. No conditions. -/
import Derived.Test.YtdpnebdepjdogaaVFnExactAllocInv
import Derived.Test.YtdpnebdepjdogaaVFnExactAllocFootNe
namespace Go.Proofs.YtdpnebdepjdogaaW.PrintWords
open Go.RowKit
end Go.Proofs.YtdpnebdepjdogaaW.PrintWords
namespace Go.Proofs.YtdpnebdepjdogaaW.PrintLast
section
variable {ops : Array Oper} {a : Act} {o og : Oper} {g : Nat} {t : Tmp} {u : Bool}
end
end Go.Proofs.YtdpnebdepjdogaaW.PrintLast
