/-
  No cell of these rows narrows 'for every input' (looked for: loops, veiled, ifaces, maps, wideKeys, modest, calm, conditions, laid).
  DERIVED. THE GIVEN ROWS OF THIS SEAT. 12 by the template 'for every input the law returns true; each argument reads behind the call as it read before'; 0 by the template 'total and deterministic' (their statements: YtmoaonpggckbiaaTotals.lean).
  GIVEN WITH THE SEED: the statements are not yours to turn. If you find one false, say at which input.
  Laid BY PROGRAM, IN A SANDBOX (cutbox-rows.mjs): the forced cells as the released guide's own fill.sh prints them over the translation 6f70d560d9e977e9… (all of the seat's roots in one cut). By AI agents, Wed Nov 11 2026. No macro, syntax, notation, axiom, sorry.
-/
import Derived.Test.YtmoaonpggckbiaaChecked
import GoSem.Claim
import GoSem.ClaimJoined
import GoSem.ClaimMapViews
import Derived.JoinedTies
import Derived.KernelRfl
namespace Go.Proofs.Ytmoaonpggckbiaa
/- THE CELL 'sum', in the pinned program and in every row, IS THE sha256 OF THE DUMP (.gsa) THAT YtmoaonpggckbiaaProg.lean LOADS. Nothing in Lean hashes anything: it is a label: what it is worth is what the hold of that sum in a sandbox is worth. -/
noncomputable def Try.pinned : Pinned := { name := "ytmoaonpggckbiaa", sum := "6f70d560d9e977e9900097d005dae802c80e3c840f5ca00de3105dba8d52373f", checked := Try.checked }
namespace Rows
def none {H : Type} : Left H := { results := [], args := [] }

/-- 'laws.FnExactIsRef': WHATEVER THE INPUT: true; the input reads as it did. -/
def fnExactIsRefSpec : ChangeSpec := { name := "fnExactIsRef", fn := fun _ => fun
  | [d] => { results := [.lit (.bool true)], args := [d] }
  | _ => none }
def fnExactIsRefRow : OpenClaim := { program := "ytmoaonpggckbiaa", sum := "6f70d560d9e977e9900097d005dae802c80e3c840f5ca00de3105dba8d52373f", func := "loop.example/g00396/laws.FnExactIsRef", spec := "fnExactIsRef", apart := false }
def FnExactIsRefSaid : Prop := fnExactIsRefRow.holds Try.pinned (OpenSpec.ofChange fnExactIsRefSpec)

/-- ITS FALSE NEIGHBOUR: 'it returns false'. Refute it at one input. -/
def fnExactIsRefWrong : ChangeSpec := { name := "fnExactIsRef", fn := fun _ => fun
  | [d] => { results := [.lit (.bool false)], args := [d] }
  | _ => none }
def FnExactIsRefWrongFalsely : Prop := fnExactIsRefRow.holds Try.pinned (OpenSpec.ofChange fnExactIsRefWrong)

/-- 'laws.FnExactWordInt': WHATEVER THE INPUT: true; the input reads as it did. -/
def fnExactWordIntSpec : ChangeSpec := { name := "fnExactWordInt", fn := fun _ => fun
  | [d] => { results := [.lit (.bool true)], args := [d] }
  | _ => none }
def fnExactWordIntRow : OpenClaim := { program := "ytmoaonpggckbiaa", sum := "6f70d560d9e977e9900097d005dae802c80e3c840f5ca00de3105dba8d52373f", func := "loop.example/g00396/laws.FnExactWordInt", spec := "fnExactWordInt", apart := false }
def FnExactWordIntSaid : Prop := fnExactWordIntRow.holds Try.pinned (OpenSpec.ofChange fnExactWordIntSpec)

/-- ITS FALSE NEIGHBOUR: 'it returns false'. Refute it at one input. -/
def fnExactWordIntWrong : ChangeSpec := { name := "fnExactWordInt", fn := fun _ => fun
  | [d] => { results := [.lit (.bool false)], args := [d] }
  | _ => none }
def FnExactWordIntWrongFalsely : Prop := fnExactWordIntRow.holds Try.pinned (OpenSpec.ofChange fnExactWordIntWrong)

/-- 'laws.FnExactWordRef': WHATEVER THE INPUT: true; the input reads as it did. -/
def fnExactWordRefSpec : ChangeSpec := { name := "fnExactWordRef", fn := fun _ => fun
  | [d] => { results := [.lit (.bool true)], args := [d] }
  | _ => none }
def fnExactWordRefRow : OpenClaim := { program := "ytmoaonpggckbiaa", sum := "6f70d560d9e977e9900097d005dae802c80e3c840f5ca00de3105dba8d52373f", func := "loop.example/g00396/laws.FnExactWordRef", spec := "fnExactWordRef", apart := false }
def FnExactWordRefSaid : Prop := fnExactWordRefRow.holds Try.pinned (OpenSpec.ofChange fnExactWordRefSpec)

/-- ITS FALSE NEIGHBOUR: 'it returns false'. Refute it at one input. -/
def fnExactWordRefWrong : ChangeSpec := { name := "fnExactWordRef", fn := fun _ => fun
  | [d] => { results := [.lit (.bool false)], args := [d] }
  | _ => none }
def FnExactWordRefWrongFalsely : Prop := fnExactWordRefRow.holds Try.pinned (OpenSpec.ofChange fnExactWordRefWrong)

/-- 'laws.FnExactRefWord': WHATEVER THE INPUT: true; the input reads as it did. -/
def fnExactRefWordSpec : ChangeSpec := { name := "fnExactRefWord", fn := fun _ => fun
  | [d] => { results := [.lit (.bool true)], args := [d] }
  | _ => none }
def fnExactRefWordRow : OpenClaim := { program := "ytmoaonpggckbiaa", sum := "6f70d560d9e977e9900097d005dae802c80e3c840f5ca00de3105dba8d52373f", func := "loop.example/g00396/laws.FnExactRefWord", spec := "fnExactRefWord", apart := false }
def FnExactRefWordSaid : Prop := fnExactRefWordRow.holds Try.pinned (OpenSpec.ofChange fnExactRefWordSpec)

/-- ITS FALSE NEIGHBOUR: 'it returns false'. Refute it at one input. -/
def fnExactRefWordWrong : ChangeSpec := { name := "fnExactRefWord", fn := fun _ => fun
  | [d] => { results := [.lit (.bool false)], args := [d] }
  | _ => none }
def FnExactRefWordWrongFalsely : Prop := fnExactRefWordRow.holds Try.pinned (OpenSpec.ofChange fnExactRefWordWrong)

/-- 'laws.FnExactIntWord': WHATEVER THE INPUT: true; the input reads as it did. -/
def fnExactIntWordSpec : ChangeSpec := { name := "fnExactIntWord", fn := fun _ => fun
  | [d] => { results := [.lit (.bool true)], args := [d] }
  | _ => none }
def fnExactIntWordRow : OpenClaim := { program := "ytmoaonpggckbiaa", sum := "6f70d560d9e977e9900097d005dae802c80e3c840f5ca00de3105dba8d52373f", func := "loop.example/g00396/laws.FnExactIntWord", spec := "fnExactIntWord", apart := false }
def FnExactIntWordSaid : Prop := fnExactIntWordRow.holds Try.pinned (OpenSpec.ofChange fnExactIntWordSpec)

/-- ITS FALSE NEIGHBOUR: 'it returns false'. Refute it at one input. -/
def fnExactIntWordWrong : ChangeSpec := { name := "fnExactIntWord", fn := fun _ => fun
  | [d] => { results := [.lit (.bool false)], args := [d] }
  | _ => none }
def FnExactIntWordWrongFalsely : Prop := fnExactIntWordRow.holds Try.pinned (OpenSpec.ofChange fnExactIntWordWrong)

/-- 'laws.FnExactEffect': WHATEVER THE INPUT: true; the input reads as it did. -/
def fnExactEffectSpec : ChangeSpec := { name := "fnExactEffect", fn := fun _ => fun
  | [d] => { results := [.lit (.bool true)], args := [d] }
  | _ => none }
def fnExactEffectRow : OpenClaim := { program := "ytmoaonpggckbiaa", sum := "6f70d560d9e977e9900097d005dae802c80e3c840f5ca00de3105dba8d52373f", func := "loop.example/g00396/laws.FnExactEffect", spec := "fnExactEffect", apart := false }
def FnExactEffectSaid : Prop := fnExactEffectRow.holds Try.pinned (OpenSpec.ofChange fnExactEffectSpec)

/-- ITS FALSE NEIGHBOUR: 'it returns false'. Refute it at one input. -/
def fnExactEffectWrong : ChangeSpec := { name := "fnExactEffect", fn := fun _ => fun
  | [d] => { results := [.lit (.bool false)], args := [d] }
  | _ => none }
def FnExactEffectWrongFalsely : Prop := fnExactEffectRow.holds Try.pinned (OpenSpec.ofChange fnExactEffectWrong)

/-- 'laws.FnExactPutNum': WHATEVER THE INPUT: true; the input reads as it did. -/
def fnExactPutNumSpec : ChangeSpec := { name := "fnExactPutNum", fn := fun _ => fun
  | [d] => { results := [.lit (.bool true)], args := [d] }
  | _ => none }
def fnExactPutNumRow : OpenClaim := { program := "ytmoaonpggckbiaa", sum := "6f70d560d9e977e9900097d005dae802c80e3c840f5ca00de3105dba8d52373f", func := "loop.example/g00396/laws.FnExactPutNum", spec := "fnExactPutNum", apart := false }
def FnExactPutNumSaid : Prop := fnExactPutNumRow.holds Try.pinned (OpenSpec.ofChange fnExactPutNumSpec)

/-- ITS FALSE NEIGHBOUR: 'it returns false'. Refute it at one input. -/
def fnExactPutNumWrong : ChangeSpec := { name := "fnExactPutNum", fn := fun _ => fun
  | [d] => { results := [.lit (.bool false)], args := [d] }
  | _ => none }
def FnExactPutNumWrongFalsely : Prop := fnExactPutNumRow.holds Try.pinned (OpenSpec.ofChange fnExactPutNumWrong)

/-- 'laws.FnExactGetNum': WHATEVER THE INPUT: true; the input reads as it did. -/
def fnExactGetNumSpec : ChangeSpec := { name := "fnExactGetNum", fn := fun _ => fun
  | [d1, d2] => { results := [.lit (.bool true)], args := [d1, d2] }
  | _ => none }
def fnExactGetNumRow : OpenClaim := { program := "ytmoaonpggckbiaa", sum := "6f70d560d9e977e9900097d005dae802c80e3c840f5ca00de3105dba8d52373f", func := "loop.example/g00396/laws.FnExactGetNum", spec := "fnExactGetNum", apart := false }
def FnExactGetNumSaid : Prop := fnExactGetNumRow.holds Try.pinned (OpenSpec.ofChange fnExactGetNumSpec)

/-- ITS FALSE NEIGHBOUR: 'it returns false'. Refute it at one input. -/
def fnExactGetNumWrong : ChangeSpec := { name := "fnExactGetNum", fn := fun _ => fun
  | [d1, d2] => { results := [.lit (.bool false)], args := [d1, d2] }
  | _ => none }
def FnExactGetNumWrongFalsely : Prop := fnExactGetNumRow.holds Try.pinned (OpenSpec.ofChange fnExactGetNumWrong)

/-- 'laws.FnExactHeapNew': WHATEVER THE INPUT: true; the input reads as it did. -/
def fnExactHeapNewSpec : ChangeSpec := { name := "fnExactHeapNew", fn := fun _ => fun
  | [d] => { results := [.lit (.bool true)], args := [d] }
  | _ => none }
def fnExactHeapNewRow : OpenClaim := { program := "ytmoaonpggckbiaa", sum := "6f70d560d9e977e9900097d005dae802c80e3c840f5ca00de3105dba8d52373f", func := "loop.example/g00396/laws.FnExactHeapNew", spec := "fnExactHeapNew", apart := false }
def FnExactHeapNewSaid : Prop := fnExactHeapNewRow.holds Try.pinned (OpenSpec.ofChange fnExactHeapNewSpec)

/-- ITS FALSE NEIGHBOUR: 'it returns false'. Refute it at one input. -/
def fnExactHeapNewWrong : ChangeSpec := { name := "fnExactHeapNew", fn := fun _ => fun
  | [d] => { results := [.lit (.bool false)], args := [d] }
  | _ => none }
def FnExactHeapNewWrongFalsely : Prop := fnExactHeapNewRow.holds Try.pinned (OpenSpec.ofChange fnExactHeapNewWrong)

/-- 'laws.FnWords': WHATEVER THE INPUT: true; the input reads as it did. -/
def fnWordsSpec : ChangeSpec := { name := "fnWords", fn := fun _ => fun
  | [d] => { results := [.lit (.bool true)], args := [d] }
  | _ => none }
def fnWordsRow : OpenClaim := { program := "ytmoaonpggckbiaa", sum := "6f70d560d9e977e9900097d005dae802c80e3c840f5ca00de3105dba8d52373f", func := "loop.example/g00396/laws.FnWords", spec := "fnWords", apart := false }
def FnWordsSaid : Prop := fnWordsRow.holds Try.pinned (OpenSpec.ofChange fnWordsSpec)

/-- ITS FALSE NEIGHBOUR: 'it returns false'. Refute it at one input. -/
def fnWordsWrong : ChangeSpec := { name := "fnWords", fn := fun _ => fun
  | [d] => { results := [.lit (.bool false)], args := [d] }
  | _ => none }
def FnWordsWrongFalsely : Prop := fnWordsRow.holds Try.pinned (OpenSpec.ofChange fnWordsWrong)

/-- 'laws.FnExactPlaces': WHATEVER THE INPUT: true; the input reads as it did. -/
def fnExactPlacesSpec : ChangeSpec := { name := "fnExactPlaces", fn := fun _ => fun
  | [d] => { results := [.lit (.bool true)], args := [d] }
  | _ => none }
def fnExactPlacesRow : OpenClaim := { program := "ytmoaonpggckbiaa", sum := "6f70d560d9e977e9900097d005dae802c80e3c840f5ca00de3105dba8d52373f", func := "loop.example/g00396/laws.FnExactPlaces", spec := "fnExactPlaces", apart := false }
def FnExactPlacesSaid : Prop := fnExactPlacesRow.holds Try.pinned (OpenSpec.ofChange fnExactPlacesSpec)

/-- ITS FALSE NEIGHBOUR: 'it returns false'. Refute it at one input. -/
def fnExactPlacesWrong : ChangeSpec := { name := "fnExactPlaces", fn := fun _ => fun
  | [d] => { results := [.lit (.bool false)], args := [d] }
  | _ => none }
def FnExactPlacesWrongFalsely : Prop := fnExactPlacesRow.holds Try.pinned (OpenSpec.ofChange fnExactPlacesWrong)

/-- 'laws.FnExactHeapOk': WHATEVER THE INPUT: true; the input reads as it did. -/
def fnExactHeapOkSpec : ChangeSpec := { name := "fnExactHeapOk", fn := fun _ => fun
  | [d] => { results := [.lit (.bool true)], args := [d] }
  | _ => none }
def fnExactHeapOkRow : OpenClaim := { program := "ytmoaonpggckbiaa", sum := "6f70d560d9e977e9900097d005dae802c80e3c840f5ca00de3105dba8d52373f", func := "loop.example/g00396/laws.FnExactHeapOk", spec := "fnExactHeapOk", apart := false }
def FnExactHeapOkSaid : Prop := fnExactHeapOkRow.holds Try.pinned (OpenSpec.ofChange fnExactHeapOkSpec)

/-- ITS FALSE NEIGHBOUR: 'it returns false'. Refute it at one input. -/
def fnExactHeapOkWrong : ChangeSpec := { name := "fnExactHeapOk", fn := fun _ => fun
  | [d] => { results := [.lit (.bool false)], args := [d] }
  | _ => none }
def FnExactHeapOkWrongFalsely : Prop := fnExactHeapOkRow.holds Try.pinned (OpenSpec.ofChange fnExactHeapOkWrong)

/- THE SECOND FORM. 'bulk': how many values and letters a reading holds, each counted each time it is reached (what is shared counts as often as it is met; a slice's spare places count too). A statement '..UptoSaid' is the law's where the arguments, and the package variables that the reading takes, are together of bulk at most 1048576: NARROWER than '..Said'. Prove '..Said' where nothing that the law and all that it calls make is longer than what came in: it says more and counts as full. Else prove '..UptoSaid'. A law counts once. -/
mutual
def uptoBulk {H : Type} : DataW H → Nat
  | .lit (.string bytes) => bytes.length + 1
  | .lit _ => 1
  | .nil => 1
  | .ptr d => uptoBulk d + 1
  | .slice elems spare => uptoBulkAll elems + uptoBulkAll spare + 1
  | .agg parts => uptoBulkAll parts + 1
  | .iface _ d => uptoBulk d + 1
  | .map entries => uptoBulkEntries entries + 1
  | .held _ => 1
def uptoBulkAll {H : Type} : List (DataW H) → Nat
  | [] => 0
  | d :: r => uptoBulk d + uptoBulkAll r
def uptoBulkEntries {H : Type} : List (Lit × DataW H) → Nat
  | [] => 0
  | x :: r => uptoBulkEntry x + uptoBulkEntries r
def uptoBulkEntry {H : Type} : Lit × DataW H → Nat
  | (.string bytes, d) => bytes.length + uptoBulk d + 1
  | (_, d) => uptoBulk d + 1
 end
def uptoSmall : (H : Type) → List (DataW H) → Bool := fun _ ds => decide (uptoBulkAll ds ≤ 1048576)
def OpenSpec.upto (s : _root_.Go.ChangeSpec) : _root_.Go.OpenSpec := { _root_.Go.OpenSpec.ofChange s with cond := some uptoSmall }

/-- 'laws.FnExactIsRef', WHERE WHAT IT READS IS OF BULK AT MOST 1048576: true; the input reads as it did. -/
def fnExactIsRefUptoRow : OpenClaim := { program := "ytmoaonpggckbiaa", sum := "6f70d560d9e977e9900097d005dae802c80e3c840f5ca00de3105dba8d52373f", func := "loop.example/g00396/laws.FnExactIsRef", spec := "fnExactIsRef", apart := false, narrowed := true }
def FnExactIsRefUptoSaid : Prop := fnExactIsRefUptoRow.holds Try.pinned (OpenSpec.upto fnExactIsRefSpec)

/-- 'laws.FnExactWordInt', WHERE WHAT IT READS IS OF BULK AT MOST 1048576: true; the input reads as it did. -/
def fnExactWordIntUptoRow : OpenClaim := { program := "ytmoaonpggckbiaa", sum := "6f70d560d9e977e9900097d005dae802c80e3c840f5ca00de3105dba8d52373f", func := "loop.example/g00396/laws.FnExactWordInt", spec := "fnExactWordInt", apart := false, narrowed := true }
def FnExactWordIntUptoSaid : Prop := fnExactWordIntUptoRow.holds Try.pinned (OpenSpec.upto fnExactWordIntSpec)

/-- 'laws.FnExactWordRef', WHERE WHAT IT READS IS OF BULK AT MOST 1048576: true; the input reads as it did. -/
def fnExactWordRefUptoRow : OpenClaim := { program := "ytmoaonpggckbiaa", sum := "6f70d560d9e977e9900097d005dae802c80e3c840f5ca00de3105dba8d52373f", func := "loop.example/g00396/laws.FnExactWordRef", spec := "fnExactWordRef", apart := false, narrowed := true }
def FnExactWordRefUptoSaid : Prop := fnExactWordRefUptoRow.holds Try.pinned (OpenSpec.upto fnExactWordRefSpec)

/-- 'laws.FnExactRefWord', WHERE WHAT IT READS IS OF BULK AT MOST 1048576: true; the input reads as it did. -/
def fnExactRefWordUptoRow : OpenClaim := { program := "ytmoaonpggckbiaa", sum := "6f70d560d9e977e9900097d005dae802c80e3c840f5ca00de3105dba8d52373f", func := "loop.example/g00396/laws.FnExactRefWord", spec := "fnExactRefWord", apart := false, narrowed := true }
def FnExactRefWordUptoSaid : Prop := fnExactRefWordUptoRow.holds Try.pinned (OpenSpec.upto fnExactRefWordSpec)

/-- 'laws.FnExactIntWord', WHERE WHAT IT READS IS OF BULK AT MOST 1048576: true; the input reads as it did. -/
def fnExactIntWordUptoRow : OpenClaim := { program := "ytmoaonpggckbiaa", sum := "6f70d560d9e977e9900097d005dae802c80e3c840f5ca00de3105dba8d52373f", func := "loop.example/g00396/laws.FnExactIntWord", spec := "fnExactIntWord", apart := false, narrowed := true }
def FnExactIntWordUptoSaid : Prop := fnExactIntWordUptoRow.holds Try.pinned (OpenSpec.upto fnExactIntWordSpec)

/-- 'laws.FnExactEffect', WHERE WHAT IT READS IS OF BULK AT MOST 1048576: true; the input reads as it did. -/
def fnExactEffectUptoRow : OpenClaim := { program := "ytmoaonpggckbiaa", sum := "6f70d560d9e977e9900097d005dae802c80e3c840f5ca00de3105dba8d52373f", func := "loop.example/g00396/laws.FnExactEffect", spec := "fnExactEffect", apart := false, narrowed := true }
def FnExactEffectUptoSaid : Prop := fnExactEffectUptoRow.holds Try.pinned (OpenSpec.upto fnExactEffectSpec)

/-- 'laws.FnExactPutNum', WHERE WHAT IT READS IS OF BULK AT MOST 1048576: true; the input reads as it did. -/
def fnExactPutNumUptoRow : OpenClaim := { program := "ytmoaonpggckbiaa", sum := "6f70d560d9e977e9900097d005dae802c80e3c840f5ca00de3105dba8d52373f", func := "loop.example/g00396/laws.FnExactPutNum", spec := "fnExactPutNum", apart := false, narrowed := true }
def FnExactPutNumUptoSaid : Prop := fnExactPutNumUptoRow.holds Try.pinned (OpenSpec.upto fnExactPutNumSpec)

/-- 'laws.FnExactGetNum', WHERE WHAT IT READS IS OF BULK AT MOST 1048576: true; the input reads as it did. -/
def fnExactGetNumUptoRow : OpenClaim := { program := "ytmoaonpggckbiaa", sum := "6f70d560d9e977e9900097d005dae802c80e3c840f5ca00de3105dba8d52373f", func := "loop.example/g00396/laws.FnExactGetNum", spec := "fnExactGetNum", apart := false, narrowed := true }
def FnExactGetNumUptoSaid : Prop := fnExactGetNumUptoRow.holds Try.pinned (OpenSpec.upto fnExactGetNumSpec)

/-- 'laws.FnExactHeapNew', WHERE WHAT IT READS IS OF BULK AT MOST 1048576: true; the input reads as it did. -/
def fnExactHeapNewUptoRow : OpenClaim := { program := "ytmoaonpggckbiaa", sum := "6f70d560d9e977e9900097d005dae802c80e3c840f5ca00de3105dba8d52373f", func := "loop.example/g00396/laws.FnExactHeapNew", spec := "fnExactHeapNew", apart := false, narrowed := true }
def FnExactHeapNewUptoSaid : Prop := fnExactHeapNewUptoRow.holds Try.pinned (OpenSpec.upto fnExactHeapNewSpec)

/-- 'laws.FnWords', WHERE WHAT IT READS IS OF BULK AT MOST 1048576: true; the input reads as it did. -/
def fnWordsUptoRow : OpenClaim := { program := "ytmoaonpggckbiaa", sum := "6f70d560d9e977e9900097d005dae802c80e3c840f5ca00de3105dba8d52373f", func := "loop.example/g00396/laws.FnWords", spec := "fnWords", apart := false, narrowed := true }
def FnWordsUptoSaid : Prop := fnWordsUptoRow.holds Try.pinned (OpenSpec.upto fnWordsSpec)

/-- 'laws.FnExactPlaces', WHERE WHAT IT READS IS OF BULK AT MOST 1048576: true; the input reads as it did. -/
def fnExactPlacesUptoRow : OpenClaim := { program := "ytmoaonpggckbiaa", sum := "6f70d560d9e977e9900097d005dae802c80e3c840f5ca00de3105dba8d52373f", func := "loop.example/g00396/laws.FnExactPlaces", spec := "fnExactPlaces", apart := false, narrowed := true }
def FnExactPlacesUptoSaid : Prop := fnExactPlacesUptoRow.holds Try.pinned (OpenSpec.upto fnExactPlacesSpec)

/-- 'laws.FnExactHeapOk', WHERE WHAT IT READS IS OF BULK AT MOST 1048576: true; the input reads as it did. -/
def fnExactHeapOkUptoRow : OpenClaim := { program := "ytmoaonpggckbiaa", sum := "6f70d560d9e977e9900097d005dae802c80e3c840f5ca00de3105dba8d52373f", func := "loop.example/g00396/laws.FnExactHeapOk", spec := "fnExactHeapOk", apart := false, narrowed := true }
def FnExactHeapOkUptoSaid : Prop := fnExactHeapOkUptoRow.holds Try.pinned (OpenSpec.upto fnExactHeapOkSpec)

end Rows
end Go.Proofs.Ytmoaonpggckbiaa
