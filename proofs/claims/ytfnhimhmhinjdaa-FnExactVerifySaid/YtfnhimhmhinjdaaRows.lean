/-
  NARROWER THAN 'FOR EVERY INPUT', by the rows' own cells (each row's printed sentence says how): FnExactGen: loops.
  DERIVED. THE GIVEN ROWS OF THIS SEAT. 6 by the template 'for every input the law returns true; each argument reads behind the call as it read before'; 0 by the template 'total and deterministic' (their statements: YtfnhimhmhinjdaaTotals.lean).
  GIVEN WITH THE SEED: the statements are not yours to turn. If you find one false, say at which input.
  Laid BY PROGRAM, IN A SANDBOX (cutbox-rows.mjs): the forced cells as the released guide's own fill.sh prints them over the translation 7ea64b78d8b7a79b… (all of the seat's roots in one cut). By AI agents, Wed Nov 11 2026. No macro, syntax, notation, axiom, sorry.
-/
import Derived.Test.YtfnhimhmhinjdaaChecked
import GoSem.Claim
import GoSem.ClaimJoined
import GoSem.ClaimMapViews
import Derived.JoinedTies
import Derived.KernelRfl
namespace Go.Proofs.Ytfnhimhmhinjdaa
/- THE CELL 'sum', in the pinned program and in every row, IS THE sha256 OF THE DUMP (.gsa) THAT YtfnhimhmhinjdaaProg.lean LOADS. Nothing in Lean hashes anything: it is a label: what it is worth is what the hold of that sum in a sandbox is worth. -/
noncomputable def Try.pinned : Pinned := { name := "ytfnhimhmhinjdaa", sum := "7ea64b78d8b7a79bdacd10f04a220c98e97b1339707a426912b1d67478dab829", checked := Try.checked }
namespace Rows
def none {H : Type} : Left H := { results := [], args := [] }

/-- 'laws.FnExactFunsBytes': WHATEVER THE INPUT: true; the input reads as it did. -/
def fnExactFunsBytesSpec : ChangeSpec := { name := "fnExactFunsBytes", fn := fun _ => fun
  | [d] => { results := [.lit (.bool true)], args := [d] }
  | _ => none }
def fnExactFunsBytesRow : OpenClaim := { program := "ytfnhimhmhinjdaa", sum := "7ea64b78d8b7a79bdacd10f04a220c98e97b1339707a426912b1d67478dab829", func := "loop.example/g00396/laws.FnExactFunsBytes", spec := "fnExactFunsBytes", unfollowed := true, recurses := true, apart := false }
def FnExactFunsBytesSaid : Prop := fnExactFunsBytesRow.holds Try.pinned (OpenSpec.ofChange fnExactFunsBytesSpec)

/-- ITS FALSE NEIGHBOUR: 'it returns false'. Refute it at one input. -/
def fnExactFunsBytesWrong : ChangeSpec := { name := "fnExactFunsBytes", fn := fun _ => fun
  | [d] => { results := [.lit (.bool false)], args := [d] }
  | _ => none }
def FnExactFunsBytesWrongFalsely : Prop := fnExactFunsBytesRow.holds Try.pinned (OpenSpec.ofChange fnExactFunsBytesWrong)

/-- 'laws.FnExactFunsOf': WHATEVER THE INPUT: true; the input reads as it did. -/
def fnExactFunsOfSpec : ChangeSpec := { name := "fnExactFunsOf", fn := fun _ => fun
  | [d] => { results := [.lit (.bool true)], args := [d] }
  | _ => none }
def fnExactFunsOfRow : OpenClaim := { program := "ytfnhimhmhinjdaa", sum := "7ea64b78d8b7a79bdacd10f04a220c98e97b1339707a426912b1d67478dab829", func := "loop.example/g00396/laws.FnExactFunsOf", spec := "fnExactFunsOf", unfollowed := true, recurses := true, apart := false }
def FnExactFunsOfSaid : Prop := fnExactFunsOfRow.holds Try.pinned (OpenSpec.ofChange fnExactFunsOfSpec)

/-- ITS FALSE NEIGHBOUR: 'it returns false'. Refute it at one input. -/
def fnExactFunsOfWrong : ChangeSpec := { name := "fnExactFunsOf", fn := fun _ => fun
  | [d] => { results := [.lit (.bool false)], args := [d] }
  | _ => none }
def FnExactFunsOfWrongFalsely : Prop := fnExactFunsOfRow.holds Try.pinned (OpenSpec.ofChange fnExactFunsOfWrong)

/-- 'laws.FnExactVerify': WHATEVER THE INPUT: true; the input reads as it did. -/
def fnExactVerifySpec : ChangeSpec := { name := "fnExactVerify", fn := fun _ => fun
  | [d] => { results := [.lit (.bool true)], args := [d] }
  | _ => none }
def fnExactVerifyRow : OpenClaim := { program := "ytfnhimhmhinjdaa", sum := "7ea64b78d8b7a79bdacd10f04a220c98e97b1339707a426912b1d67478dab829", func := "loop.example/g00396/laws.FnExactVerify", spec := "fnExactVerify", unfollowed := true, recurses := true, apart := false }
def FnExactVerifySaid : Prop := fnExactVerifyRow.holds Try.pinned (OpenSpec.ofChange fnExactVerifySpec)

/-- ITS FALSE NEIGHBOUR: 'it returns false'. Refute it at one input. -/
def fnExactVerifyWrong : ChangeSpec := { name := "fnExactVerify", fn := fun _ => fun
  | [d] => { results := [.lit (.bool false)], args := [d] }
  | _ => none }
def FnExactVerifyWrongFalsely : Prop := fnExactVerifyRow.holds Try.pinned (OpenSpec.ofChange fnExactVerifyWrong)

/-- 'laws.FnExactDepths': WHATEVER THE INPUT: true; the input reads as it did. -/
def fnExactDepthsSpec : ChangeSpec := { name := "fnExactDepths", fn := fun _ => fun
  | [d1, d2] => { results := [.lit (.bool true)], args := [d1, d2] }
  | _ => none }
def fnExactDepthsRow : OpenClaim := { program := "ytfnhimhmhinjdaa", sum := "7ea64b78d8b7a79bdacd10f04a220c98e97b1339707a426912b1d67478dab829", func := "loop.example/g00396/laws.FnExactDepths", spec := "fnExactDepths", unfollowed := true, recurses := true, apart := false }
def FnExactDepthsSaid : Prop := fnExactDepthsRow.holds Try.pinned (OpenSpec.ofChange fnExactDepthsSpec)

/-- ITS FALSE NEIGHBOUR: 'it returns false'. Refute it at one input. -/
def fnExactDepthsWrong : ChangeSpec := { name := "fnExactDepths", fn := fun _ => fun
  | [d1, d2] => { results := [.lit (.bool false)], args := [d1, d2] }
  | _ => none }
def FnExactDepthsWrongFalsely : Prop := fnExactDepthsRow.holds Try.pinned (OpenSpec.ofChange fnExactDepthsWrong)

/-- 'laws.FnExactGen': WHATEVER THE INPUT: true; the input reads as it did. -/
def fnExactGenSpec : ChangeSpec := { name := "fnExactGen", fn := fun _ => fun
  | [d] => { results := [.lit (.bool true)], args := [d] }
  | _ => none }
def fnExactGenRow : OpenClaim := { program := "ytfnhimhmhinjdaa", sum := "7ea64b78d8b7a79bdacd10f04a220c98e97b1339707a426912b1d67478dab829", func := "loop.example/g00396/laws.FnExactGen", spec := "fnExactGen", unfollowed := true, recurses := true, loops := true, apart := false }
def FnExactGenSaid : Prop := fnExactGenRow.holds Try.pinned (OpenSpec.ofChange fnExactGenSpec)

/-- ITS FALSE NEIGHBOUR: 'it returns false'. Refute it at one input. -/
def fnExactGenWrong : ChangeSpec := { name := "fnExactGen", fn := fun _ => fun
  | [d] => { results := [.lit (.bool false)], args := [d] }
  | _ => none }
def FnExactGenWrongFalsely : Prop := fnExactGenRow.holds Try.pinned (OpenSpec.ofChange fnExactGenWrong)

/-- 'laws.FnExactVmNew': WHATEVER THE INPUT: true; the input reads as it did. -/
def fnExactVmNewSpec : ChangeSpec := { name := "fnExactVmNew", fn := fun _ => fun
  | [d1, d2, d3] => { results := [.lit (.bool true)], args := [d1, d2, d3] }
  | _ => none }
def fnExactVmNewRow : OpenClaim := { program := "ytfnhimhmhinjdaa", sum := "7ea64b78d8b7a79bdacd10f04a220c98e97b1339707a426912b1d67478dab829", func := "loop.example/g00396/laws.FnExactVmNew", spec := "fnExactVmNew", unfollowed := true, recurses := true, apart := false }
def FnExactVmNewSaid : Prop := fnExactVmNewRow.holds Try.pinned (OpenSpec.ofChange fnExactVmNewSpec)

/-- ITS FALSE NEIGHBOUR: 'it returns false'. Refute it at one input. -/
def fnExactVmNewWrong : ChangeSpec := { name := "fnExactVmNew", fn := fun _ => fun
  | [d1, d2, d3] => { results := [.lit (.bool false)], args := [d1, d2, d3] }
  | _ => none }
def FnExactVmNewWrongFalsely : Prop := fnExactVmNewRow.holds Try.pinned (OpenSpec.ofChange fnExactVmNewWrong)

/- THE SECOND FORM. 'bulk': how many values and letters a reading holds, each counted each time it is reached (what is shared counts as often as it is met; a slice's spare places count too). A statement '..UptoSaid' is the law's where the arguments, and the package variables that the reading takes, are together of bulk at most 1048576: NARROWER than '..Said'. Prove '..Said' where nothing that the law and all that it calls make is longer than what came in: it says more and counts as full. Else prove '..UptoSaid'. A law counts once. -/
mutual
def uptoBulk {H : Type} : DataW H → Nat
  | .lit (.string bytes) => bytes.length + 1
  | .lit _ => 1
  | .nil => 1
  | .ptr d => uptoBulk d + 1
  | .slice elems spare => uptoBulkAll elems + uptoBulkAll spare + 1
  | .agg parts => uptoBulkAll parts + 1
  | .iface _ d => uptoBulk d + 1
  | .map entries => uptoBulkEntries entries + 1
  | .held _ => 1
def uptoBulkAll {H : Type} : List (DataW H) → Nat
  | [] => 0
  | d :: r => uptoBulk d + uptoBulkAll r
def uptoBulkEntries {H : Type} : List (Lit × DataW H) → Nat
  | [] => 0
  | x :: r => uptoBulkEntry x + uptoBulkEntries r
def uptoBulkEntry {H : Type} : Lit × DataW H → Nat
  | (.string bytes, d) => bytes.length + uptoBulk d + 1
  | (_, d) => uptoBulk d + 1
 end
def uptoSmall : (H : Type) → List (DataW H) → Bool := fun _ ds => decide (uptoBulkAll ds ≤ 1048576)
def OpenSpec.upto (s : _root_.Go.ChangeSpec) : _root_.Go.OpenSpec := { _root_.Go.OpenSpec.ofChange s with cond := some uptoSmall }

/-- 'laws.FnExactFunsBytes', WHERE WHAT IT READS IS OF BULK AT MOST 1048576: true; the input reads as it did. -/
def fnExactFunsBytesUptoRow : OpenClaim := { program := "ytfnhimhmhinjdaa", sum := "7ea64b78d8b7a79bdacd10f04a220c98e97b1339707a426912b1d67478dab829", func := "loop.example/g00396/laws.FnExactFunsBytes", spec := "fnExactFunsBytes", unfollowed := true, recurses := true, apart := false, narrowed := true }
def FnExactFunsBytesUptoSaid : Prop := fnExactFunsBytesUptoRow.holds Try.pinned (OpenSpec.upto fnExactFunsBytesSpec)

/-- 'laws.FnExactFunsOf', WHERE WHAT IT READS IS OF BULK AT MOST 1048576: true; the input reads as it did. -/
def fnExactFunsOfUptoRow : OpenClaim := { program := "ytfnhimhmhinjdaa", sum := "7ea64b78d8b7a79bdacd10f04a220c98e97b1339707a426912b1d67478dab829", func := "loop.example/g00396/laws.FnExactFunsOf", spec := "fnExactFunsOf", unfollowed := true, recurses := true, apart := false, narrowed := true }
def FnExactFunsOfUptoSaid : Prop := fnExactFunsOfUptoRow.holds Try.pinned (OpenSpec.upto fnExactFunsOfSpec)

/-- 'laws.FnExactVerify', WHERE WHAT IT READS IS OF BULK AT MOST 1048576: true; the input reads as it did. -/
def fnExactVerifyUptoRow : OpenClaim := { program := "ytfnhimhmhinjdaa", sum := "7ea64b78d8b7a79bdacd10f04a220c98e97b1339707a426912b1d67478dab829", func := "loop.example/g00396/laws.FnExactVerify", spec := "fnExactVerify", unfollowed := true, recurses := true, apart := false, narrowed := true }
def FnExactVerifyUptoSaid : Prop := fnExactVerifyUptoRow.holds Try.pinned (OpenSpec.upto fnExactVerifySpec)

/-- 'laws.FnExactDepths', WHERE WHAT IT READS IS OF BULK AT MOST 1048576: true; the input reads as it did. -/
def fnExactDepthsUptoRow : OpenClaim := { program := "ytfnhimhmhinjdaa", sum := "7ea64b78d8b7a79bdacd10f04a220c98e97b1339707a426912b1d67478dab829", func := "loop.example/g00396/laws.FnExactDepths", spec := "fnExactDepths", unfollowed := true, recurses := true, apart := false, narrowed := true }
def FnExactDepthsUptoSaid : Prop := fnExactDepthsUptoRow.holds Try.pinned (OpenSpec.upto fnExactDepthsSpec)

/-- 'laws.FnExactGen', WHERE WHAT IT READS IS OF BULK AT MOST 1048576: true; the input reads as it did. -/
def fnExactGenUptoRow : OpenClaim := { program := "ytfnhimhmhinjdaa", sum := "7ea64b78d8b7a79bdacd10f04a220c98e97b1339707a426912b1d67478dab829", func := "loop.example/g00396/laws.FnExactGen", spec := "fnExactGen", unfollowed := true, recurses := true, loops := true, apart := false, narrowed := true }
def FnExactGenUptoSaid : Prop := fnExactGenUptoRow.holds Try.pinned (OpenSpec.upto fnExactGenSpec)

/-- 'laws.FnExactVmNew', WHERE WHAT IT READS IS OF BULK AT MOST 1048576: true; the input reads as it did. -/
def fnExactVmNewUptoRow : OpenClaim := { program := "ytfnhimhmhinjdaa", sum := "7ea64b78d8b7a79bdacd10f04a220c98e97b1339707a426912b1d67478dab829", func := "loop.example/g00396/laws.FnExactVmNew", spec := "fnExactVmNew", unfollowed := true, recurses := true, apart := false, narrowed := true }
def FnExactVmNewUptoSaid : Prop := fnExactVmNewUptoRow.holds Try.pinned (OpenSpec.upto fnExactVmNewSpec)

end Rows
end Go.Proofs.Ytfnhimhmhinjdaa
