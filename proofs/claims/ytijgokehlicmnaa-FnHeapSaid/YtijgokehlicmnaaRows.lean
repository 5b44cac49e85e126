/-
  NARROWER THAN 'FOR EVERY INPUT', by the rows' own cells (each row's printed sentence says how): FnExactGen: loops.
  DERIVED. THE GIVEN ROWS OF THIS SEAT. 9 by the template 'for every input the law returns true; each argument reads behind the call as it read before'; 0 by the template 'total and deterministic' (their statements: YtijgokehlicmnaaTotals.lean).
  GIVEN WITH THE SEED: the statements are not yours to turn. If you find one false, say at which input.
  Laid BY PROGRAM, IN A SANDBOX (cutbox-rows.mjs): the forced cells as the released guide's own fill.sh prints them over the translation 94672c07a9b93bfd… (all of the seat's roots in one cut). By AI agents, Wed Nov 11 2026. No macro, syntax, notation, axiom, sorry.
-/
import Derived.Test.YtijgokehlicmnaaChecked
import GoSem.Claim
import GoSem.ClaimJoined
import GoSem.ClaimMapViews
import Derived.JoinedTies
import Derived.KernelRfl
namespace Go.Proofs.Ytijgokehlicmnaa
/- THE CELL 'sum', in the pinned program and in every row, IS THE sha256 OF THE DUMP (.gsa) THAT YtijgokehlicmnaaProg.lean LOADS. Nothing in Lean hashes anything: it is a label: what it is worth is what the hold of that sum in a sandbox is worth. -/
noncomputable def Try.pinned : Pinned := { name := "ytijgokehlicmnaa", sum := "94672c07a9b93bfd4e42a67e31bb0fce163b4930b19eee739e55d04b2ed3b37f", checked := Try.checked }
namespace Rows
def none {H : Type} : Left H := { results := [], args := [] }

/-- 'laws.FnExactBack': WHATEVER THE INPUT: true; the input reads as it did. -/
def fnExactBackSpec : ChangeSpec := { name := "fnExactBack", fn := fun _ => fun
  | [d1, d2] => { results := [.lit (.bool true)], args := [d1, d2] }
  | _ => none }
def fnExactBackRow : OpenClaim := { program := "ytijgokehlicmnaa", sum := "94672c07a9b93bfd4e42a67e31bb0fce163b4930b19eee739e55d04b2ed3b37f", func := "loop.example/g00396/laws.FnExactBack", spec := "fnExactBack", recurses := true, apart := false }
def FnExactBackSaid : Prop := fnExactBackRow.holds Try.pinned (OpenSpec.ofChange fnExactBackSpec)

/-- ITS FALSE NEIGHBOUR: 'it returns false'. Refute it at one input. -/
def fnExactBackWrong : ChangeSpec := { name := "fnExactBack", fn := fun _ => fun
  | [d1, d2] => { results := [.lit (.bool false)], args := [d1, d2] }
  | _ => none }
def FnExactBackWrongFalsely : Prop := fnExactBackRow.holds Try.pinned (OpenSpec.ofChange fnExactBackWrong)

/-- 'laws.FnExactCollect': WHATEVER THE INPUT: true; the input reads as it did. -/
def fnExactCollectSpec : ChangeSpec := { name := "fnExactCollect", fn := fun _ => fun
  | [d1, d2] => { results := [.lit (.bool true)], args := [d1, d2] }
  | _ => none }
def fnExactCollectRow : OpenClaim := { program := "ytijgokehlicmnaa", sum := "94672c07a9b93bfd4e42a67e31bb0fce163b4930b19eee739e55d04b2ed3b37f", func := "loop.example/g00396/laws.FnExactCollect", spec := "fnExactCollect", unfollowed := true, recurses := true, apart := false }
def FnExactCollectSaid : Prop := fnExactCollectRow.holds Try.pinned (OpenSpec.ofChange fnExactCollectSpec)

/-- ITS FALSE NEIGHBOUR: 'it returns false'. Refute it at one input. -/
def fnExactCollectWrong : ChangeSpec := { name := "fnExactCollect", fn := fun _ => fun
  | [d1, d2] => { results := [.lit (.bool false)], args := [d1, d2] }
  | _ => none }
def FnExactCollectWrongFalsely : Prop := fnExactCollectRow.holds Try.pinned (OpenSpec.ofChange fnExactCollectWrong)

/-- 'laws.FnHeap': WHATEVER THE INPUT: true; the input reads as it did. -/
def fnHeapSpec : ChangeSpec := { name := "fnHeap", fn := fun _ => fun
  | [d] => { results := [.lit (.bool true)], args := [d] }
  | _ => none }
def fnHeapRow : OpenClaim := { program := "ytijgokehlicmnaa", sum := "94672c07a9b93bfd4e42a67e31bb0fce163b4930b19eee739e55d04b2ed3b37f", func := "loop.example/g00396/laws.FnHeap", spec := "fnHeap", apart := false }
def FnHeapSaid : Prop := fnHeapRow.holds Try.pinned (OpenSpec.ofChange fnHeapSpec)

/-- ITS FALSE NEIGHBOUR: 'it returns false'. Refute it at one input. -/
def fnHeapWrong : ChangeSpec := { name := "fnHeap", fn := fun _ => fun
  | [d] => { results := [.lit (.bool false)], args := [d] }
  | _ => none }
def FnHeapWrongFalsely : Prop := fnHeapRow.holds Try.pinned (OpenSpec.ofChange fnHeapWrong)

/-- 'laws.FnExactVmOk': WHATEVER THE INPUT: true; the input reads as it did. -/
def fnExactVmOkSpec : ChangeSpec := { name := "fnExactVmOk", fn := fun _ => fun
  | [d] => { results := [.lit (.bool true)], args := [d] }
  | _ => none }
def fnExactVmOkRow : OpenClaim := { program := "ytijgokehlicmnaa", sum := "94672c07a9b93bfd4e42a67e31bb0fce163b4930b19eee739e55d04b2ed3b37f", func := "loop.example/g00396/laws.FnExactVmOk", spec := "fnExactVmOk", unfollowed := true, recurses := true, apart := false }
def FnExactVmOkSaid : Prop := fnExactVmOkRow.holds Try.pinned (OpenSpec.ofChange fnExactVmOkSpec)

/-- ITS FALSE NEIGHBOUR: 'it returns false'. Refute it at one input. -/
def fnExactVmOkWrong : ChangeSpec := { name := "fnExactVmOk", fn := fun _ => fun
  | [d] => { results := [.lit (.bool false)], args := [d] }
  | _ => none }
def FnExactVmOkWrongFalsely : Prop := fnExactVmOkRow.holds Try.pinned (OpenSpec.ofChange fnExactVmOkWrong)

/-- 'laws.FnExactKin': WHATEVER THE INPUT: true; the input reads as it did. -/
def fnExactKinSpec : ChangeSpec := { name := "fnExactKin", fn := fun _ => fun
  | [d] => { results := [.lit (.bool true)], args := [d] }
  | _ => none }
def fnExactKinRow : OpenClaim := { program := "ytijgokehlicmnaa", sum := "94672c07a9b93bfd4e42a67e31bb0fce163b4930b19eee739e55d04b2ed3b37f", func := "loop.example/g00396/laws.FnExactKin", spec := "fnExactKin", unfollowed := true, recurses := true, apart := false }
def FnExactKinSaid : Prop := fnExactKinRow.holds Try.pinned (OpenSpec.ofChange fnExactKinSpec)

/-- ITS FALSE NEIGHBOUR: 'it returns false'. Refute it at one input. -/
def fnExactKinWrong : ChangeSpec := { name := "fnExactKin", fn := fun _ => fun
  | [d] => { results := [.lit (.bool false)], args := [d] }
  | _ => none }
def FnExactKinWrongFalsely : Prop := fnExactKinRow.holds Try.pinned (OpenSpec.ofChange fnExactKinWrong)

/-- 'laws.FnExactOutcome': WHATEVER THE INPUT: true; the input reads as it did. -/
def fnExactOutcomeSpec : ChangeSpec := { name := "fnExactOutcome", fn := fun _ => fun
  | [d] => { results := [.lit (.bool true)], args := [d] }
  | _ => none }
def fnExactOutcomeRow : OpenClaim := { program := "ytijgokehlicmnaa", sum := "94672c07a9b93bfd4e42a67e31bb0fce163b4930b19eee739e55d04b2ed3b37f", func := "loop.example/g00396/laws.FnExactOutcome", spec := "fnExactOutcome", recurses := true, apart := false }
def FnExactOutcomeSaid : Prop := fnExactOutcomeRow.holds Try.pinned (OpenSpec.ofChange fnExactOutcomeSpec)

/-- ITS FALSE NEIGHBOUR: 'it returns false'. Refute it at one input. -/
def fnExactOutcomeWrong : ChangeSpec := { name := "fnExactOutcome", fn := fun _ => fun
  | [d] => { results := [.lit (.bool false)], args := [d] }
  | _ => none }
def FnExactOutcomeWrongFalsely : Prop := fnExactOutcomeRow.holds Try.pinned (OpenSpec.ofChange fnExactOutcomeWrong)

/-- 'laws.FnExactGen': WHATEVER THE INPUT: true; the input reads as it did. -/
def fnExactGenSpec : ChangeSpec := { name := "fnExactGen", fn := fun _ => fun
  | [d] => { results := [.lit (.bool true)], args := [d] }
  | _ => none }
def fnExactGenRow : OpenClaim := { program := "ytijgokehlicmnaa", sum := "94672c07a9b93bfd4e42a67e31bb0fce163b4930b19eee739e55d04b2ed3b37f", func := "loop.example/g00396/laws.FnExactGen", spec := "fnExactGen", unfollowed := true, recurses := true, loops := true, apart := false }
def FnExactGenSaid : Prop := fnExactGenRow.holds Try.pinned (OpenSpec.ofChange fnExactGenSpec)

/-- ITS FALSE NEIGHBOUR: 'it returns false'. Refute it at one input. -/
def fnExactGenWrong : ChangeSpec := { name := "fnExactGen", fn := fun _ => fun
  | [d] => { results := [.lit (.bool false)], args := [d] }
  | _ => none }
def FnExactGenWrongFalsely : Prop := fnExactGenRow.holds Try.pinned (OpenSpec.ofChange fnExactGenWrong)

/-- 'laws.FnExactReach': WHATEVER THE INPUT: true; the input reads as it did. -/
def fnExactReachSpec : ChangeSpec := { name := "fnExactReach", fn := fun _ => fun
  | [d1, d2] => { results := [.lit (.bool true)], args := [d1, d2] }
  | _ => none }
def fnExactReachRow : OpenClaim := { program := "ytijgokehlicmnaa", sum := "94672c07a9b93bfd4e42a67e31bb0fce163b4930b19eee739e55d04b2ed3b37f", func := "loop.example/g00396/laws.FnExactReach", spec := "fnExactReach", unfollowed := true, recurses := true, apart := false }
def FnExactReachSaid : Prop := fnExactReachRow.holds Try.pinned (OpenSpec.ofChange fnExactReachSpec)

/-- ITS FALSE NEIGHBOUR: 'it returns false'. Refute it at one input. -/
def fnExactReachWrong : ChangeSpec := { name := "fnExactReach", fn := fun _ => fun
  | [d1, d2] => { results := [.lit (.bool false)], args := [d1, d2] }
  | _ => none }
def FnExactReachWrongFalsely : Prop := fnExactReachRow.holds Try.pinned (OpenSpec.ofChange fnExactReachWrong)

/-- 'laws.FnExactVmNew': WHATEVER THE INPUT: true; the input reads as it did. -/
def fnExactVmNewSpec : ChangeSpec := { name := "fnExactVmNew", fn := fun _ => fun
  | [d1, d2, d3] => { results := [.lit (.bool true)], args := [d1, d2, d3] }
  | _ => none }
def fnExactVmNewRow : OpenClaim := { program := "ytijgokehlicmnaa", sum := "94672c07a9b93bfd4e42a67e31bb0fce163b4930b19eee739e55d04b2ed3b37f", func := "loop.example/g00396/laws.FnExactVmNew", spec := "fnExactVmNew", unfollowed := true, recurses := true, apart := false }
def FnExactVmNewSaid : Prop := fnExactVmNewRow.holds Try.pinned (OpenSpec.ofChange fnExactVmNewSpec)

/-- ITS FALSE NEIGHBOUR: 'it returns false'. Refute it at one input. -/
def fnExactVmNewWrong : ChangeSpec := { name := "fnExactVmNew", fn := fun _ => fun
  | [d1, d2, d3] => { results := [.lit (.bool false)], args := [d1, d2, d3] }
  | _ => none }
def FnExactVmNewWrongFalsely : Prop := fnExactVmNewRow.holds Try.pinned (OpenSpec.ofChange fnExactVmNewWrong)

/- THE SECOND FORM. 'bulk': how many values and letters a reading holds, each counted each time it is reached (what is shared counts as often as it is met; a slice's spare places count too). A statement '..UptoSaid' is the law's where the arguments, and the package variables that the reading takes, are together of bulk at most 1048576: NARROWER than '..Said'. Prove '..Said' where nothing that the law and all that it calls make is longer than what came in: it says more and counts as full. Else prove '..UptoSaid'. A law counts once. -/
mutual
def uptoBulk {H : Type} : DataW H → Nat
  | .lit (.string bytes) => bytes.length + 1
  | .lit _ => 1
  | .nil => 1
  | .ptr d => uptoBulk d + 1
  | .slice elems spare => uptoBulkAll elems + uptoBulkAll spare + 1
  | .agg parts => uptoBulkAll parts + 1
  | .iface _ d => uptoBulk d + 1
  | .map entries => uptoBulkEntries entries + 1
  | .held _ => 1
def uptoBulkAll {H : Type} : List (DataW H) → Nat
  | [] => 0
  | d :: r => uptoBulk d + uptoBulkAll r
def uptoBulkEntries {H : Type} : List (Lit × DataW H) → Nat
  | [] => 0
  | x :: r => uptoBulkEntry x + uptoBulkEntries r
def uptoBulkEntry {H : Type} : Lit × DataW H → Nat
  | (.string bytes, d) => bytes.length + uptoBulk d + 1
  | (_, d) => uptoBulk d + 1
 end
def uptoSmall : (H : Type) → List (DataW H) → Bool := fun _ ds => decide (uptoBulkAll ds ≤ 1048576)
def OpenSpec.upto (s : _root_.Go.ChangeSpec) : _root_.Go.OpenSpec := { _root_.Go.OpenSpec.ofChange s with cond := some uptoSmall }

/-- 'laws.FnExactBack', WHERE WHAT IT READS IS OF BULK AT MOST 1048576: true; the input reads as it did. -/
def fnExactBackUptoRow : OpenClaim := { program := "ytijgokehlicmnaa", sum := "94672c07a9b93bfd4e42a67e31bb0fce163b4930b19eee739e55d04b2ed3b37f", func := "loop.example/g00396/laws.FnExactBack", spec := "fnExactBack", recurses := true, apart := false, narrowed := true }
def FnExactBackUptoSaid : Prop := fnExactBackUptoRow.holds Try.pinned (OpenSpec.upto fnExactBackSpec)

/-- 'laws.FnExactCollect', WHERE WHAT IT READS IS OF BULK AT MOST 1048576: true; the input reads as it did. -/
def fnExactCollectUptoRow : OpenClaim := { program := "ytijgokehlicmnaa", sum := "94672c07a9b93bfd4e42a67e31bb0fce163b4930b19eee739e55d04b2ed3b37f", func := "loop.example/g00396/laws.FnExactCollect", spec := "fnExactCollect", unfollowed := true, recurses := true, apart := false, narrowed := true }
def FnExactCollectUptoSaid : Prop := fnExactCollectUptoRow.holds Try.pinned (OpenSpec.upto fnExactCollectSpec)

/-- 'laws.FnHeap', WHERE WHAT IT READS IS OF BULK AT MOST 1048576: true; the input reads as it did. -/
def fnHeapUptoRow : OpenClaim := { program := "ytijgokehlicmnaa", sum := "94672c07a9b93bfd4e42a67e31bb0fce163b4930b19eee739e55d04b2ed3b37f", func := "loop.example/g00396/laws.FnHeap", spec := "fnHeap", apart := false, narrowed := true }
def FnHeapUptoSaid : Prop := fnHeapUptoRow.holds Try.pinned (OpenSpec.upto fnHeapSpec)

/-- 'laws.FnExactVmOk', WHERE WHAT IT READS IS OF BULK AT MOST 1048576: true; the input reads as it did. -/
def fnExactVmOkUptoRow : OpenClaim := { program := "ytijgokehlicmnaa", sum := "94672c07a9b93bfd4e42a67e31bb0fce163b4930b19eee739e55d04b2ed3b37f", func := "loop.example/g00396/laws.FnExactVmOk", spec := "fnExactVmOk", unfollowed := true, recurses := true, apart := false, narrowed := true }
def FnExactVmOkUptoSaid : Prop := fnExactVmOkUptoRow.holds Try.pinned (OpenSpec.upto fnExactVmOkSpec)

/-- 'laws.FnExactKin', WHERE WHAT IT READS IS OF BULK AT MOST 1048576: true; the input reads as it did. -/
def fnExactKinUptoRow : OpenClaim := { program := "ytijgokehlicmnaa", sum := "94672c07a9b93bfd4e42a67e31bb0fce163b4930b19eee739e55d04b2ed3b37f", func := "loop.example/g00396/laws.FnExactKin", spec := "fnExactKin", unfollowed := true, recurses := true, apart := false, narrowed := true }
def FnExactKinUptoSaid : Prop := fnExactKinUptoRow.holds Try.pinned (OpenSpec.upto fnExactKinSpec)

/-- 'laws.FnExactOutcome', WHERE WHAT IT READS IS OF BULK AT MOST 1048576: true; the input reads as it did. -/
def fnExactOutcomeUptoRow : OpenClaim := { program := "ytijgokehlicmnaa", sum := "94672c07a9b93bfd4e42a67e31bb0fce163b4930b19eee739e55d04b2ed3b37f", func := "loop.example/g00396/laws.FnExactOutcome", spec := "fnExactOutcome", recurses := true, apart := false, narrowed := true }
def FnExactOutcomeUptoSaid : Prop := fnExactOutcomeUptoRow.holds Try.pinned (OpenSpec.upto fnExactOutcomeSpec)

/-- 'laws.FnExactGen', WHERE WHAT IT READS IS OF BULK AT MOST 1048576: true; the input reads as it did. -/
def fnExactGenUptoRow : OpenClaim := { program := "ytijgokehlicmnaa", sum := "94672c07a9b93bfd4e42a67e31bb0fce163b4930b19eee739e55d04b2ed3b37f", func := "loop.example/g00396/laws.FnExactGen", spec := "fnExactGen", unfollowed := true, recurses := true, loops := true, apart := false, narrowed := true }
def FnExactGenUptoSaid : Prop := fnExactGenUptoRow.holds Try.pinned (OpenSpec.upto fnExactGenSpec)

/-- 'laws.FnExactReach', WHERE WHAT IT READS IS OF BULK AT MOST 1048576: true; the input reads as it did. -/
def fnExactReachUptoRow : OpenClaim := { program := "ytijgokehlicmnaa", sum := "94672c07a9b93bfd4e42a67e31bb0fce163b4930b19eee739e55d04b2ed3b37f", func := "loop.example/g00396/laws.FnExactReach", spec := "fnExactReach", unfollowed := true, recurses := true, apart := false, narrowed := true }
def FnExactReachUptoSaid : Prop := fnExactReachUptoRow.holds Try.pinned (OpenSpec.upto fnExactReachSpec)

/-- 'laws.FnExactVmNew', WHERE WHAT IT READS IS OF BULK AT MOST 1048576: true; the input reads as it did. -/
def fnExactVmNewUptoRow : OpenClaim := { program := "ytijgokehlicmnaa", sum := "94672c07a9b93bfd4e42a67e31bb0fce163b4930b19eee739e55d04b2ed3b37f", func := "loop.example/g00396/laws.FnExactVmNew", spec := "fnExactVmNew", unfollowed := true, recurses := true, apart := false, narrowed := true }
def FnExactVmNewUptoSaid : Prop := fnExactVmNewUptoRow.holds Try.pinned (OpenSpec.upto fnExactVmNewSpec)

end Rows
end Go.Proofs.Ytijgokehlicmnaa
