/- What the walks of the law FnExactAlloc lean on, out of the words of the print. No conditions. -/
import Derived.Test.YtdpnebdepjdogaaVFnExactAllocWords
import Derived.Laws.StructEq
namespace Go.Proofs.YtdpnebdepjdogaaW.PrintWords
open Go.RowKit
section
variable {P : Program} {d : Nat} {xs ys : Array Value} {f : Field} {fs : List Field} {a b : Value} {r s : Bool} {w : World}
end
end Go.Proofs.YtdpnebdepjdogaaW.PrintWords
