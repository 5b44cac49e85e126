/- What the walks of the law FnExactAlloc lean on, out of the words of the print. No conditions. -/
import Derived.Test.YtdpnebdepjdogaaVFnExactAllocTab
namespace Go.Proofs.YtdpnebdepjdogaaW.PrintLast
section
variable {P : Program} {ops : Array Oper} {Q : Exit → Act → World → Prop} {md : Region.Mode} {S : World → Prop} {ds : List Nat} {T : Bool × List (List Nat × List Nat)}
end
end Go.Proofs.YtdpnebdepjdogaaW.PrintLast
