/- What the walks of the law FnExactAlloc lean on, out of the words of the print. No conditions. -/
import Derived.Test.YtdpnebdepjdogaaVFnExactAllocApart
import Derived.Test.YtdpnebdepjdogaaVFnExactAllocArr
namespace Go.Proofs.YtdpnebdepjdogaaW.PrintWords
open Go.RowKit
section
variable {P : Program}
end
namespace Kd
section
variable {P : Program} {ops : Array Oper} {rest : List Oper} {o : Oper} {a : Act} {Q : Exit → Act → World → Prop} {Kc : Act → World → Prop} {α : Type}
end
section
variable {α : Type} {d : Kd α} {e : Nat} {w : World} {base : Nat} {ok : Nat → Prop} {v : Value} {xs : List α}
end
section
variable {P : Program} {ops : Array Oper} {rest : List Oper} {o : Oper} {a : Act} {Q : Exit → Act → World → Prop} {Kc : Act → World → Prop} {α : Type}
end
end Kd
end Go.Proofs.YtdpnebdepjdogaaW.PrintWords
