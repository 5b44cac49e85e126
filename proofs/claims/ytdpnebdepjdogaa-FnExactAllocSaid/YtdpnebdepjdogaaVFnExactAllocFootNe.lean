/- What the walks of the law FnExactAlloc lean on, out of the words of the print. No conditions. -/
import Derived.Test.YtdpnebdepjdogaaVFnExactAllocN
namespace Go.Proofs.YtdpnebdepjdogaaW.PrintWords
open Go.RowKit
namespace Kd
section
variable {α : Type} {d : Kd α} {W : World} {g n : Nat} {S ok : Nat → Prop} {A : Option Addr} {ad : Addr} {xs : List α}
end
end Kd
end Go.Proofs.YtdpnebdepjdogaaW.PrintWords
