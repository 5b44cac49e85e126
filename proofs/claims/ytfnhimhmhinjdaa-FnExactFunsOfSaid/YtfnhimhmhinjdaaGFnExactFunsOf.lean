/- The pure programs of the functions that the law FnExactFunsOf reaches, out of the compiled code. No conditions. -/
import Derived.Test.YtfnhimhmhinjdaaRows
import Derived.Test.YtfnhimhmhinjdaaRscZn
namespace Go.Proofs.Ytfnhimhmhinjdaa.GFnExactFunsOf
open Go Go.Rsc Go.Proofs.Ytfnhimhmhinjdaa
set_option maxRecDepth 100000
set_option linter.unusedVariables false
def sg : FuncId → Option Sig := fun f => match f with
  | 108 => some { ps := [PM.ro (SD.sc (SD.int (IntKind.i64)) (SD.sc (SD.int (IntKind.i64)) (SD.sc (SD.int (IntKind.i64)) (SD.sn)))), PM.ro (SD.sc (SD.int (IntKind.i64)) (SD.sc (SD.int (IntKind.i64)) (SD.sc (SD.int (IntKind.i64)) (SD.sn))))], rs := [RM.v (SD.bool)] }
  | 50 => some { ps := [PM.ro (SD.bor 71), PM.ro (SD.int (IntKind.i64))], rs := [RM.v (SD.int (IntKind.i64))] }
  | 47 => some { ps := [PM.mut (SD.own 71 false), PM.ro (SD.int (IntKind.i64))], rs := [RM.v (SD.int (IntKind.i64))] }
  | 4143 => some { ps := [PM.mv (SD.own 71 false), PM.ro (SD.int (IntKind.i64))], rs := [RM.v (SD.int (IntKind.i64))] }
  | 16 => some { ps := [PM.mut (SD.own 5 false), PM.ro (SD.int (IntKind.i64))], rs := [RM.v (SD.int (IntKind.i64))] }
  | 4112 => some { ps := [PM.mv (SD.own 5 false), PM.ro (SD.int (IntKind.i64))], rs := [RM.v (SD.int (IntKind.i64))] }
  | 13 => some { ps := [PM.ro (SD.bor 5), PM.ro (SD.bor 5)], rs := [RM.v (SD.bool)] }
  | 51 => some { ps := [PM.ro (SD.int (IntKind.i64)), PM.ro (SD.int (IntKind.i64)), PM.ro (SD.int (IntKind.i64))], rs := [RM.v (SD.bool)] }
  | 54 => some { ps := [PM.ro (SD.int (IntKind.i64)), PM.ro (SD.int (IntKind.i64)), PM.ro (SD.int (IntKind.i64))], rs := [RM.v (SD.bool)] }
  | 85 => some { ps := [PM.ro (SD.bor 5), PM.ro (SD.int (IntKind.i64))], rs := [RM.v (SD.int (IntKind.i64)), RM.v (SD.int (IntKind.i64)), RM.v (SD.bool)] }
  | 19 => some { ps := [PM.ro (SD.bor 5)], rs := [RM.v (SD.own 5 false)] }
  | 107 => some { ps := [PM.ro (SD.int (IntKind.i64)), PM.rp (SD.sc (SD.int (IntKind.i64)) (SD.sc (SD.bor 71) (SD.sn)))], rs := [RM.v (SD.bool)] }
  | 105 => some { ps := [PM.ro (SD.int (IntKind.i64))], rs := [RM.v (SD.bool)] }
  | 102 => some { ps := [PM.ro (SD.int (IntKind.i64))], rs := [RM.v (SD.bool)] }
  | 21 => some { ps := [PM.ro (SD.bor 69), PM.ro (SD.int (IntKind.i64))], rs := [RM.v (SD.int (IntKind.i64))] }
  | 101 => some { ps := [PM.ro (SD.int (IntKind.i64))], rs := [RM.v (SD.bool)] }
  | 15 => some { ps := [PM.mut (SD.own 69 true), PM.ro (SD.int (IntKind.i64))], rs := [RM.v (SD.int (IntKind.i64))] }
  | 4111 => some { ps := [PM.mv (SD.own 69 true), PM.ro (SD.int (IntKind.i64))], rs := [RM.v (SD.int (IntKind.i64))] }
  | 86 => some { ps := [PM.ro (SD.bor 5), PM.ro (SD.int (IntKind.i64))], rs := [RM.v (SD.int (IntKind.i64)), RM.v (SD.int (IntKind.i64)), RM.v (SD.bool)] }
  | 84 => some { ps := [PM.ro (SD.bor 71), PM.ro (SD.bor 71)], rs := [RM.v (SD.bool)] }
  | 48 => some { ps := [PM.ref 77 (SD.sc (SD.bor 5) (SD.sc (SD.int (IntKind.i64)) (SD.sc (SD.bool) (SD.sn)))) (SD.sc (SD.bor 5) (SD.sc (SD.int (IntKind.i64)) (SD.sc (SD.bool) (SD.sn))))], rs := [RM.v (SD.int (IntKind.i64))] }
  | 4144 => some { ps := [PM.ref 77 (SD.sc (SD.own 5 false) (SD.sc (SD.int (IntKind.i64)) (SD.sc (SD.bool) (SD.sn)))) (SD.sc (SD.own 5 false) (SD.sc (SD.int (IntKind.i64)) (SD.sc (SD.bool) (SD.sn))))], rs := [RM.v (SD.int (IntKind.i64))] }
  | 49 => some { ps := [PM.ref 81 (SD.sc (SD.bor 5) (SD.sc (SD.int (IntKind.i64)) (SD.sc (SD.bool) (SD.sn)))) (SD.sc (SD.bor 5) (SD.sc (SD.int (IntKind.i64)) (SD.sc (SD.bool) (SD.sn))))], rs := [RM.v (SD.int (IntKind.i64))] }
  | 4145 => some { ps := [PM.ref 81 (SD.sc (SD.own 5 false) (SD.sc (SD.int (IntKind.i64)) (SD.sc (SD.bool) (SD.sn)))) (SD.sc (SD.own 5 false) (SD.sc (SD.int (IntKind.i64)) (SD.sc (SD.bool) (SD.sn))))], rs := [RM.v (SD.int (IntKind.i64))] }
  | 46 => some { ps := [PM.ro (SD.sc (SD.int (IntKind.i64)) (SD.sc (SD.bor 71) (SD.sn))), PM.ro (SD.sc (SD.int (IntKind.i64)) (SD.sc (SD.bor 71) (SD.sn)))], rs := [RM.v (SD.bool)] }
  | 83 => some { ps := [PM.ro (SD.bor 69), PM.ro (SD.sc (SD.int (IntKind.i64)) (SD.sc (SD.bor 71) (SD.sn))), PM.ro (SD.int (IntKind.i64)), PM.ro (SD.sc (SD.int (IntKind.i64)) (SD.sc (SD.int (IntKind.i64)) (SD.sc (SD.int (IntKind.i64)) (SD.sn))))], rs := [RM.v (SD.bool)] }
  | 14 => some { ps := [PM.ro (SD.bor 69), PM.ro (SD.bor 69)], rs := [RM.v (SD.bool)] }
  | 81 => some { ps := [PM.ro (SD.bor 69), PM.ro (SD.int (IntKind.i64)), PM.ro (SD.sc (SD.int (IntKind.i64)) (SD.sc (SD.int (IntKind.i64)) (SD.sc (SD.int (IntKind.i64)) (SD.sn))))], rs := [RM.v (SD.bool)] }
  | 44 => some { ps := [PM.ro (SD.bor 69)], rs := [RM.v (SD.bool)] }
  | 41 => some { ps := [PM.ro (SD.bor 69)], rs := [RM.v (SD.bool)] }
  | 18 => some { ps := [PM.ro (SD.bor 5)], rs := [RM.v (SD.own 69 true), RM.v (SD.bool)] }
  | 20 => some { ps := [PM.ro (SD.bor 5)], rs := [RM.v (SD.own 69 true), RM.v (SD.bool)] }
  | 4 => some { ps := [PM.ro (SD.bor 5)], rs := [RM.v (SD.bool)] }
  | _ => none
/-! laws.eqOp -/
def F108 (I : Interp) (n : Nat) (a : List PV) : Option (List PV) :=
  (iff (neI ((nth a 0).fld 0).toInt ((nth a 1).fld 0).toInt)
  (some [(PV.bool false)])
  (iff (neI ((nth a 0).fld 1).toInt ((nth a 1).fld 1).toInt)
  (some [(PV.bool false)])
  (iff (neI ((nth a 0).fld 2).toInt ((nth a 1).fld 2).toInt)
  (some [(PV.bool false)])
  (some [(PV.bool true)]))))
theorem e108 : ∀ I n a, (compF Try.prog sg 108).map (fun d => d.ev I n a) = some (F108 I n a) := fun I n a => by kernel_rfl
/-! laws.heldOpS -/
def L50_0 (I : Interp) (n : Nat) (p0 : List PV) : Option (Ex × List PV) :=
  (iff (ltI (nth p0 0).toInt ((nth p0 1).toList.length : Int))
  (iff (geI (nth p0 0).toInt (0 : Int))
  (iff (ltI (nth p0 0).toInt ((nth p0 1).toList.length : Int))
  (iff (neI ((nth (nth p0 1).toList (nth p0 0).toInt.toNat).fld 0).toInt (nth p0 2).toInt)
  (some (Ex.r, [(PV.int (-1 : Int))]))
  (iff (geI (nth p0 0).toInt (0 : Int))
  (iff (ltI (nth p0 0).toInt ((nth p0 1).toList.length : Int))
  (iff (neI ((nth (nth p0 1).toList (nth p0 0).toInt.toNat).fld 1).toInt (IntKind.i64.wrap ((nth p0 2).toInt + (1 : Int))))
  (some (Ex.r, [(PV.int (-1 : Int))]))
  (iff (geI (nth p0 0).toInt (0 : Int))
  (iff (ltI (nth p0 0).toInt ((nth p0 1).toList.length : Int))
  (iff (neI ((nth (nth p0 1).toList (nth p0 0).toInt.toNat).fld 2).toInt (IntKind.i64.wrap ((IntKind.i64.wrap ((nth p0 2).toInt + (1 : Int))) + (1 : Int))))
  (some (Ex.r, [(PV.int (-1 : Int))]))
  (some (Ex.n, [(PV.int (IntKind.i64.wrap ((nth p0 0).toInt + (1 : Int)))), (nth p0 1), (PV.int (IntKind.i64.wrap ((IntKind.i64.wrap ((IntKind.i64.wrap ((nth p0 2).toInt + (1 : Int))) + (1 : Int))) + (1 : Int))))])))
  none)
  none))
  none)
  none))
  none)
  none)
  (some (Ex.x 0, [(nth p0 2)])))
def F50 (I : Interp) (n : Nat) (a : List PV) : Option (List PV) :=
  (thenN (thenE (loopEv (L50_0 I n) n [(PV.int (0 : Int)), (nth a 0), (nth a 1)])
  (passB 0))
  (fun p1 => (some [(nth p1 0)]))
  (retE fun q2 => [(nth q2 0)]))
theorem e50 : ∀ I n a, (compF Try.prog sg 50).map (fun d => d.ev I n a) = some (F50 I n a) := fun I n a => by kernel_rfl
/-! laws.markOpS -/
def L47_0 (I : Interp) (n : Nat) (p0 : List PV) : Option (Ex × List PV) :=
  (iff (ltI (nth p0 0).toInt ((nth p0 2).toList.length : Int))
  (iff (geI (nth p0 0).toInt (0 : Int))
  (iff (ltI (nth p0 0).toInt ((nth p0 2).toList.length : Int))
  (iff (geI (nth p0 0).toInt (0 : Int))
  (iff (ltI (nth p0 0).toInt (((nth p0 2).toList.set (nth p0 0).toInt.toNat ((nth (nth p0 2).toList (nth p0 0).toInt.toNat).setFld 0 (nth p0 1))).length : Int))
  (iff (geI (nth p0 0).toInt (0 : Int))
  (iff (ltI (nth p0 0).toInt ((((nth p0 2).toList.set (nth p0 0).toInt.toNat ((nth (nth p0 2).toList (nth p0 0).toInt.toNat).setFld 0 (nth p0 1))).set (nth p0 0).toInt.toNat ((nth ((nth p0 2).toList.set (nth p0 0).toInt.toNat ((nth (nth p0 2).toList (nth p0 0).toInt.toNat).setFld 0 (nth p0 1))) (nth p0 0).toInt.toNat).setFld 1 (PV.int (IntKind.i64.wrap ((nth p0 1).toInt + (1 : Int)))))).length : Int))
  (some (Ex.n, [(PV.int (IntKind.i64.wrap ((nth p0 0).toInt + (1 : Int)))), (PV.int (IntKind.i64.wrap ((IntKind.i64.wrap ((IntKind.i64.wrap ((nth p0 1).toInt + (1 : Int))) + (1 : Int))) + (1 : Int)))), (PV.list ((((nth p0 2).toList.set (nth p0 0).toInt.toNat ((nth (nth p0 2).toList (nth p0 0).toInt.toNat).setFld 0 (nth p0 1))).set (nth p0 0).toInt.toNat ((nth ((nth p0 2).toList.set (nth p0 0).toInt.toNat ((nth (nth p0 2).toList (nth p0 0).toInt.toNat).setFld 0 (nth p0 1))) (nth p0 0).toInt.toNat).setFld 1 (PV.int (IntKind.i64.wrap ((nth p0 1).toInt + (1 : Int)))))).set (nth p0 0).toInt.toNat ((nth (((nth p0 2).toList.set (nth p0 0).toInt.toNat ((nth (nth p0 2).toList (nth p0 0).toInt.toNat).setFld 0 (nth p0 1))).set (nth p0 0).toInt.toNat ((nth ((nth p0 2).toList.set (nth p0 0).toInt.toNat ((nth (nth p0 2).toList (nth p0 0).toInt.toNat).setFld 0 (nth p0 1))) (nth p0 0).toInt.toNat).setFld 1 (PV.int (IntKind.i64.wrap ((nth p0 1).toInt + (1 : Int)))))) (nth p0 0).toInt.toNat).setFld 2 (PV.int (IntKind.i64.wrap ((IntKind.i64.wrap ((nth p0 1).toInt + (1 : Int))) + (1 : Int)))))))]))
  none)
  none)
  none)
  none)
  none)
  none)
  (some (Ex.x 0, [(nth p0 2), (nth p0 1)])))
def F47 (I : Interp) (n : Nat) (a : List PV) : Option (List PV) :=
  (thenN (thenE (loopEv (L47_0 I n) n [(PV.int (0 : Int)), (nth a 1), (nth a 0)])
  (passB 0))
  (fun p1 => (some [(nth p1 1), (nth p1 0)]))
  (retE fun q2 => [(nth q2 1), (nth q2 0)]))
theorem e47 : ∀ I n a, (compF Try.prog sg 47).map (fun d => d.ev I n a) = some (F47 I n a) := fun I n a => by kernel_rfl
/-! laws.markOpS -/
def L4143_0 (I : Interp) (n : Nat) (p0 : List PV) : Option (Ex × List PV) :=
  (iff (ltI (nth p0 0).toInt ((nth p0 1).toList.length : Int))
  (iff (geI (nth p0 0).toInt (0 : Int))
  (iff (ltI (nth p0 0).toInt ((nth p0 1).toList.length : Int))
  (iff (geI (nth p0 0).toInt (0 : Int))
  (iff (ltI (nth p0 0).toInt (((nth p0 1).toList.set (nth p0 0).toInt.toNat ((nth (nth p0 1).toList (nth p0 0).toInt.toNat).setFld 0 (nth p0 2))).length : Int))
  (iff (geI (nth p0 0).toInt (0 : Int))
  (iff (ltI (nth p0 0).toInt ((((nth p0 1).toList.set (nth p0 0).toInt.toNat ((nth (nth p0 1).toList (nth p0 0).toInt.toNat).setFld 0 (nth p0 2))).set (nth p0 0).toInt.toNat ((nth ((nth p0 1).toList.set (nth p0 0).toInt.toNat ((nth (nth p0 1).toList (nth p0 0).toInt.toNat).setFld 0 (nth p0 2))) (nth p0 0).toInt.toNat).setFld 1 (PV.int (IntKind.i64.wrap ((nth p0 2).toInt + (1 : Int)))))).length : Int))
  (some (Ex.n, [(PV.int (IntKind.i64.wrap ((nth p0 0).toInt + (1 : Int)))), (PV.list ((((nth p0 1).toList.set (nth p0 0).toInt.toNat ((nth (nth p0 1).toList (nth p0 0).toInt.toNat).setFld 0 (nth p0 2))).set (nth p0 0).toInt.toNat ((nth ((nth p0 1).toList.set (nth p0 0).toInt.toNat ((nth (nth p0 1).toList (nth p0 0).toInt.toNat).setFld 0 (nth p0 2))) (nth p0 0).toInt.toNat).setFld 1 (PV.int (IntKind.i64.wrap ((nth p0 2).toInt + (1 : Int)))))).set (nth p0 0).toInt.toNat ((nth (((nth p0 1).toList.set (nth p0 0).toInt.toNat ((nth (nth p0 1).toList (nth p0 0).toInt.toNat).setFld 0 (nth p0 2))).set (nth p0 0).toInt.toNat ((nth ((nth p0 1).toList.set (nth p0 0).toInt.toNat ((nth (nth p0 1).toList (nth p0 0).toInt.toNat).setFld 0 (nth p0 2))) (nth p0 0).toInt.toNat).setFld 1 (PV.int (IntKind.i64.wrap ((nth p0 2).toInt + (1 : Int)))))) (nth p0 0).toInt.toNat).setFld 2 (PV.int (IntKind.i64.wrap ((IntKind.i64.wrap ((nth p0 2).toInt + (1 : Int))) + (1 : Int))))))), (PV.int (IntKind.i64.wrap ((IntKind.i64.wrap ((IntKind.i64.wrap ((nth p0 2).toInt + (1 : Int))) + (1 : Int))) + (1 : Int))))]))
  none)
  none)
  none)
  none)
  none)
  none)
  (some (Ex.x 0, [(nth p0 2)])))
def F4143 (I : Interp) (n : Nat) (a : List PV) : Option (List PV) :=
  (thenN (thenE (loopEv (L4143_0 I n) n [(PV.int (0 : Int)), (nth a 0), (nth a 1)])
  (passB 0))
  (fun p1 => (some [(nth p1 0)]))
  (retE fun q2 => [(nth q2 0)]))
theorem e4143 : ∀ I n a, (compF Try.prog sg 4143).map (fun d => d.ev I n a) = some (F4143 I n a) := fun I n a => by kernel_rfl
/-! laws.markByteS -/
def L16_0 (I : Interp) (n : Nat) (p0 : List PV) : Option (Ex × List PV) :=
  (iff (ltI (nth p0 0).toInt ((nth p0 2).toList.length : Int))
  (iff (geI (nth p0 0).toInt (0 : Int))
  (iff (ltI (nth p0 0).toInt ((nth p0 2).toList.length : Int))
  (some (Ex.n, [(PV.int (IntKind.i64.wrap ((nth p0 0).toInt + (1 : Int)))), (PV.int (IntKind.i64.wrap ((nth p0 1).toInt + (1 : Int)))), (PV.list ((nth p0 2).toList.set (nth p0 0).toInt.toNat (PV.int (IntKind.u8.wrap (nth p0 1).toInt))))]))
  none)
  none)
  (some (Ex.x 0, [(nth p0 2), (nth p0 1)])))
def F16 (I : Interp) (n : Nat) (a : List PV) : Option (List PV) :=
  (thenN (thenE (loopEv (L16_0 I n) n [(PV.int (0 : Int)), (nth a 1), (nth a 0)])
  (passB 0))
  (fun p1 => (some [(nth p1 1), (nth p1 0)]))
  (retE fun q2 => [(nth q2 1), (nth q2 0)]))
theorem e16 : ∀ I n a, (compF Try.prog sg 16).map (fun d => d.ev I n a) = some (F16 I n a) := fun I n a => by kernel_rfl
/-! laws.markByteS -/
def L4112_0 (I : Interp) (n : Nat) (p0 : List PV) : Option (Ex × List PV) :=
  (iff (ltI (nth p0 0).toInt ((nth p0 1).toList.length : Int))
  (iff (geI (nth p0 0).toInt (0 : Int))
  (iff (ltI (nth p0 0).toInt ((nth p0 1).toList.length : Int))
  (some (Ex.n, [(PV.int (IntKind.i64.wrap ((nth p0 0).toInt + (1 : Int)))), (PV.list ((nth p0 1).toList.set (nth p0 0).toInt.toNat (PV.int (IntKind.u8.wrap (nth p0 2).toInt)))), (PV.int (IntKind.i64.wrap ((nth p0 2).toInt + (1 : Int))))]))
  none)
  none)
  (some (Ex.x 0, [(nth p0 2)])))
def F4112 (I : Interp) (n : Nat) (a : List PV) : Option (List PV) :=
  (thenN (thenE (loopEv (L4112_0 I n) n [(PV.int (0 : Int)), (nth a 0), (nth a 1)])
  (passB 0))
  (fun p1 => (some [(nth p1 0)]))
  (retE fun q2 => [(nth q2 0)]))
theorem e4112 : ∀ I n a, (compF Try.prog sg 4112).map (fun d => d.ev I n a) = some (F4112 I n a) := fun I n a => by kernel_rfl
/-! laws.eqByteS -/
def L13_0 (I : Interp) (n : Nat) (p0 : List PV) : Option (Ex × List PV) :=
  (iff (ltI (nth p0 0).toInt ((nth p0 1).toList.length : Int))
  (iff (geI (nth p0 0).toInt (0 : Int))
  (iff (ltI (nth p0 0).toInt ((nth p0 1).toList.length : Int))
  (iff (geI (nth p0 0).toInt (0 : Int))
  (iff (ltI (nth p0 0).toInt ((nth p0 2).toList.length : Int))
  (iff (neI (nth (nth p0 1).toList (nth p0 0).toInt.toNat).toInt (nth (nth p0 2).toList (nth p0 0).toInt.toNat).toInt)
  (some (Ex.r, [(PV.bool false)]))
  (some (Ex.n, [(PV.int (IntKind.i64.wrap ((nth p0 0).toInt + (1 : Int)))), (nth p0 1), (nth p0 2)])))
  none)
  none)
  none)
  none)
  (some (Ex.x 0, [])))
def F13 (I : Interp) (n : Nat) (a : List PV) : Option (List PV) :=
  (iff (neI ((nth a 0).toList.length : Int) ((nth a 1).toList.length : Int))
  (some [(PV.bool false)])
  (thenN (thenE (loopEv (L13_0 I n) n [(PV.int (0 : Int)), (nth a 0), (nth a 1)])
  (passB 0))
  (fun p1 => (some [(PV.bool true)]))
  (retE fun q2 => [(nth q2 0)])))
theorem e13 : ∀ I n a, (compF Try.prog sg 13).map (fun d => d.ev I n a) = some (F13 I n a) := fun I n a => by kernel_rfl
/-! spec.l1In -/
def F51 (I : Interp) (n : Nat) (a : List PV) : Option (List PV) :=
  (some [(selB (geI (nth a 0).toInt (nth a 1).toInt) (selB ((geI (nth a 0).toInt (nth a 1).toInt) == true) (PV.bool (leI (selB ((geI (nth a 0).toInt (nth a 1).toInt) == true) (nth a 0) PV.unit).toInt (selB ((geI (nth a 0).toInt (nth a 1).toInt) == true) (nth a 2) PV.unit).toInt)) PV.unit) (PV.bool false))])
theorem e51 : ∀ I n a, (compF Try.prog sg 51).map (fun d => d.ev I n a) = some (F51 I n a) := fun I n a => by kernel_rfl
/-! impl.within -/
def F54 (I : Interp) (n : Nat) (a : List PV) : Option (List PV) :=
  (some [(selB (geI (nth a 0).toInt (nth a 1).toInt) (selB ((geI (nth a 0).toInt (nth a 1).toInt) == true) (PV.bool (leI (selB ((geI (nth a 0).toInt (nth a 1).toInt) == true) (nth a 0) PV.unit).toInt (selB ((geI (nth a 0).toInt (nth a 1).toInt) == true) (nth a 2) PV.unit).toInt)) PV.unit) (PV.bool false))])
theorem e54 : ∀ I n a, (compF Try.prog sg 54).map (fun d => d.ev I n a) = some (F54 I n a) := fun I n a => by kernel_rfl
/-! spec.GetNum -/
def L85_0 (I : Interp) (n : Nat) (p0 : List PV) : Option (Ex × List PV) :=
  (iff (ltI (nth p0 1).toInt (5 : Int))
  (iff (selB (ltI (nth p0 3).toInt (0 : Int)) (PV.bool true) (selB ((ltI (nth p0 3).toInt (0 : Int)) == false) (PV.bool (geI (selB ((ltI (nth p0 3).toInt (0 : Int)) == false) (nth p0 3) PV.unit).toInt (selB ((ltI (nth p0 3).toInt (0 : Int)) == false) (PV.int (IntKind.i64.wrap ((selB ((ltI (nth p0 3).toInt (0 : Int)) == false) (PV.int ((selB ((ltI (nth p0 3).toInt (0 : Int)) == false) (nth p0 2) PV.unit).toList.length : Int)) PV.unit).toInt - (selB ((ltI (nth p0 3).toInt (0 : Int)) == false) (nth p0 1) PV.unit).toInt))) PV.unit).toInt)) PV.unit)).toBool
  (some (Ex.r, [(PV.int (0 : Int)), (PV.int (0 : Int)), (PV.bool false)]))
  (iff (geI (IntKind.i64.wrap ((nth p0 3).toInt + (nth p0 1).toInt)) (0 : Int))
  (iff (ltI (IntKind.i64.wrap ((nth p0 3).toInt + (nth p0 1).toInt)) ((nth p0 2).toList.length : Int))
  (iff (neI (128 : Int) (0 : Int))
  (iff (geI (IntKind.i64.wrap ((7 : Int) * (nth p0 1).toInt)) (0 : Int))
  (iff (ltI (IntKind.i64.wrap (nth (nth p0 2).toList (IntKind.i64.wrap ((nth p0 3).toInt + (nth p0 1).toInt)).toNat).toInt) (128 : Int))
  (iff (selB (selB (gtI (nth p0 1).toInt (0 : Int)) (selB ((gtI (nth p0 1).toInt (0 : Int)) == true) (PV.bool (eqI (selB ((gtI (nth p0 1).toInt (0 : Int)) == true) (PV.int (IntKind.i64.wrap (nth (nth p0 2).toList (IntKind.i64.wrap ((nth p0 3).toInt + (nth p0 1).toInt)).toNat).toInt)) PV.unit).toInt (0 : Int))) PV.unit) (PV.bool false)).toBool (PV.bool true) (selB ((selB (gtI (nth p0 1).toInt (0 : Int)) (selB ((gtI (nth p0 1).toInt (0 : Int)) == true) (PV.bool (eqI (selB ((gtI (nth p0 1).toInt (0 : Int)) == true) (PV.int (IntKind.i64.wrap (nth (nth p0 2).toList (IntKind.i64.wrap ((nth p0 3).toInt + (nth p0 1).toInt)).toNat).toInt)) PV.unit).toInt (0 : Int))) PV.unit) (PV.bool false)).isB false) (PV.bool (gtI (selB ((selB (gtI (nth p0 1).toInt (0 : Int)) (selB ((gtI (nth p0 1).toInt (0 : Int)) == true) (PV.bool (eqI (selB ((gtI (nth p0 1).toInt (0 : Int)) == true) (PV.int (IntKind.i64.wrap (nth (nth p0 2).toList (IntKind.i64.wrap ((nth p0 3).toInt + (nth p0 1).toInt)).toNat).toInt)) PV.unit).toInt (0 : Int))) PV.unit) (PV.bool false)).isB false) (PV.int (arith BinOp.or IntKind.i64 (nth p0 0).toInt (arith BinOp.shl IntKind.i64 (arith BinOp.rem IntKind.i64 (IntKind.i64.wrap (nth (nth p0 2).toList (IntKind.i64.wrap ((nth p0 3).toInt + (nth p0 1).toInt)).toNat).toInt) (128 : Int)) (IntKind.i64.wrap ((7 : Int) * (nth p0 1).toInt))))) PV.unit).toInt (2147483647 : Int))) PV.unit)).toBool
  (some (Ex.r, [(PV.int (0 : Int)), (PV.int (0 : Int)), (PV.bool false)]))
  (some (Ex.r, [(PV.int (arith BinOp.or IntKind.i64 (nth p0 0).toInt (arith BinOp.shl IntKind.i64 (arith BinOp.rem IntKind.i64 (IntKind.i64.wrap (nth (nth p0 2).toList (IntKind.i64.wrap ((nth p0 3).toInt + (nth p0 1).toInt)).toNat).toInt) (128 : Int)) (IntKind.i64.wrap ((7 : Int) * (nth p0 1).toInt))))), (PV.int (IntKind.i64.wrap ((IntKind.i64.wrap ((nth p0 3).toInt + (nth p0 1).toInt)) + (1 : Int)))), (PV.bool true)])))
  (some (Ex.n, [(PV.int (arith BinOp.or IntKind.i64 (nth p0 0).toInt (arith BinOp.shl IntKind.i64 (arith BinOp.rem IntKind.i64 (IntKind.i64.wrap (nth (nth p0 2).toList (IntKind.i64.wrap ((nth p0 3).toInt + (nth p0 1).toInt)).toNat).toInt) (128 : Int)) (IntKind.i64.wrap ((7 : Int) * (nth p0 1).toInt))))), (PV.int (IntKind.i64.wrap ((nth p0 1).toInt + (1 : Int)))), (nth p0 2), (nth p0 3)])))
  none)
  none)
  none)
  none))
  (some (Ex.x 0, [])))
def F85 (I : Interp) (n : Nat) (a : List PV) : Option (List PV) :=
  (thenN (thenE (loopEv (L85_0 I n) n [(PV.int (0 : Int)), (PV.int (0 : Int)), (nth a 0), (nth a 1)])
  (passB 0))
  (fun p1 => (some [(PV.int (0 : Int)), (PV.int (0 : Int)), (PV.bool false)]))
  (retE fun q2 => [(nth q2 0), (nth q2 1), (nth q2 2)]))
theorem e85 : ∀ I n a, (compF Try.prog sg 85).map (fun d => d.ev I n a) = some (F85 I n a) := fun I n a => by kernel_rfl
/-! laws.toByteS -/
def L19_0 (I : Interp) (n : Nat) (p0 : List PV) : Option (Ex × List PV) :=
  (iff (ltI (nth p0 0).toInt ((nth p0 1).toList.length : Int))
  (iff (geI (nth p0 0).toInt (0 : Int))
  (iff (ltI (nth p0 0).toInt ((nth p0 1).toList.length : Int))
  (iff (geI (nth p0 0).toInt (0 : Int))
  (iff (ltI (nth p0 0).toInt ((nth p0 2).toList.length : Int))
  (some (Ex.n, [(PV.int (IntKind.i64.wrap ((nth p0 0).toInt + (1 : Int)))), (nth p0 1), (PV.list ((nth p0 2).toList.set (nth p0 0).toInt.toNat (nth (nth p0 1).toList (nth p0 0).toInt.toNat)))]))
  none)
  none)
  none)
  none)
  (some (Ex.x 0, [(nth p0 2)])))
def F19 (I : Interp) (n : Nat) (a : List PV) : Option (List PV) :=
  (iff (geI ((nth a 0).toList.length : Int) (0 : Int))
  (iff (leI ((nth a 0).toList.length : Int) ((nth a 0).toList.length : Int))
  (iff (leI ((nth a 0).toList.length : Int) (140737488355328 : Int))
  (thenN (thenE (loopEv (L19_0 I n) n [(PV.int (0 : Int)), (nth a 0), (PV.list (List.replicate ((nth a 0).toList.length : Int).toNat (PV.int (0 : Int))))])
  (passB 0))
  (fun p1 => (some [(nth p1 0)]))
  (retE fun q2 => [(nth q2 0)]))
  none)
  none)
  none)
theorem e19 : ∀ I n a, (compF Try.prog sg 19).map (fun d => d.ev I n a) = some (F19 I n a) := fun I n a => by kernel_rfl
/-! impl.opOk$1 -/
def F107 (I : Interp) (n : Nat) (a : List PV) : Option (List PV) :=
  ((I 54 [(nth a 0), (PV.int (0 : Int)), (PV.int (IntKind.i64.wrap ((((nth a 1).fld 1).toList.length : Int) - (1 : Int))))]).bind fun r0 =>
  (some [(nth r0 0)]))
theorem e107 : ∀ I n a, (compF Try.prog sg 107).map (fun d => d.ev I n a) = some (F107 I n a) := fun I n a => by kernel_rfl
/-! spec.l13Tag -/
def F105 (I : Interp) (n : Nat) (a : List PV) : Option (List PV) :=
  ((I 51 [(nth a 0), (PV.int (0 : Int)), (PV.int (19 : Int))]).bind fun r0 =>
  (some [(nth r0 0)]))
theorem e105 : ∀ I n a, (compF Try.prog sg 105).map (fun d => d.ev I n a) = some (F105 I n a) := fun I n a => by kernel_rfl
/-! impl.WordOk -/
def F102 (I : Interp) (n : Nat) (a : List PV) : Option (List PV) :=
  ((I 54 [(nth a 0), (PV.int (-1073741824 : Int)), (PV.int (1073741823 : Int))]).bind fun r0 =>
  (some [(nth r0 0)]))
theorem e102 : ∀ I n a, (compF Try.prog sg 102).map (fun d => d.ev I n a) = some (F102 I n a) := fun I n a => by kernel_rfl
/-! laws.heldFunS -/
def L21_0 (I : Interp) (n : Nat) (p0 : List PV) : Option (Ex × List PV) :=
  (iff (ltI (nth p0 0).toInt ((nth p0 1).toList.length : Int))
  (iff (geI (nth p0 0).toInt (0 : Int))
  (iff (ltI (nth p0 0).toInt ((nth p0 1).toList.length : Int))
  (iff (neI ((nth (nth p0 1).toList (nth p0 0).toInt.toNat).fld 0).toInt (nth p0 2).toInt)
  (some (Ex.r, [(PV.int (-1 : Int))]))
  (iff (geI (nth p0 0).toInt (0 : Int))
  (iff (ltI (nth p0 0).toInt ((nth p0 1).toList.length : Int))
  ((I 50 [((nth (nth p0 1).toList (nth p0 0).toInt.toNat).fld 1), (PV.int (IntKind.i64.wrap ((nth p0 2).toInt + (1 : Int))))]).bind fun r1 =>
  (iff (ltI (nth r1 0).toInt (0 : Int))
  (some (Ex.r, [(PV.int (-1 : Int))]))
  (some (Ex.n, [(PV.int (IntKind.i64.wrap ((nth p0 0).toInt + (1 : Int)))), (nth p0 1), (nth r1 0)]))))
  none)
  none))
  none)
  none)
  (some (Ex.x 0, [(nth p0 2)])))
def F21 (I : Interp) (n : Nat) (a : List PV) : Option (List PV) :=
  (thenN (thenE (loopEv (L21_0 I n) n [(PV.int (0 : Int)), (nth a 0), (nth a 1)])
  (passB 0))
  (fun p2 => (some [(nth p2 0)]))
  (retE fun q3 => [(nth q3 0)]))
theorem e21 : ∀ I n a, (compF Try.prog sg 21).map (fun d => d.ev I n a) = some (F21 I n a) := fun I n a => by kernel_rfl
/-! spec.WordOk -/
def F101 (I : Interp) (n : Nat) (a : List PV) : Option (List PV) :=
  ((I 51 [(nth a 0), (PV.int (-1073741824 : Int)), (PV.int (1073741823 : Int))]).bind fun r0 =>
  (some [(nth r0 0)]))
theorem e101 : ∀ I n a, (compF Try.prog sg 101).map (fun d => d.ev I n a) = some (F101 I n a) := fun I n a => by kernel_rfl
/-! laws.markFunS -/
def L15_0 (I : Interp) (n : Nat) (p0 : List PV) : Option (Ex × List PV) :=
  (iff (ltI (nth p0 0).toInt ((nth p0 2).toList.length : Int))
  (iff (geI (nth p0 0).toInt (0 : Int))
  (iff (ltI (nth p0 0).toInt ((nth p0 2).toList.length : Int))
  (iff (geI (nth p0 0).toInt (0 : Int))
  (iff (ltI (nth p0 0).toInt (((nth p0 2).toList.set (nth p0 0).toInt.toNat ((nth (nth p0 2).toList (nth p0 0).toInt.toNat).setFld 0 (nth p0 1))).length : Int))
  ((I 47 [((nth ((nth p0 2).toList.set (nth p0 0).toInt.toNat ((nth (nth p0 2).toList (nth p0 0).toInt.toNat).setFld 0 (nth p0 1))) (nth p0 0).toInt.toNat).fld 1), (PV.int (IntKind.i64.wrap ((nth p0 1).toInt + (1 : Int))))]).bind fun r1 =>
  (some (Ex.n, [(PV.int (IntKind.i64.wrap ((nth p0 0).toInt + (1 : Int)))), (nth r1 0), (PV.list (((nth p0 2).toList.set (nth p0 0).toInt.toNat ((nth (nth p0 2).toList (nth p0 0).toInt.toNat).setFld 0 (nth p0 1))).set (nth p0 0).toInt.toNat ((nth ((nth p0 2).toList.set (nth p0 0).toInt.toNat ((nth (nth p0 2).toList (nth p0 0).toInt.toNat).setFld 0 (nth p0 1))) (nth p0 0).toInt.toNat).setFld 1 (nth r1 1))))])))
  none)
  none)
  none)
  none)
  (some (Ex.x 0, [(nth p0 2), (nth p0 1)])))
def F15 (I : Interp) (n : Nat) (a : List PV) : Option (List PV) :=
  (thenN (thenE (loopEv (L15_0 I n) n [(PV.int (0 : Int)), (nth a 1), (nth a 0)])
  (passB 0))
  (fun p2 => (some [(nth p2 1), (nth p2 0)]))
  (retE fun q3 => [(nth q3 1), (nth q3 0)]))
theorem e15 : ∀ I n a, (compF Try.prog sg 15).map (fun d => d.ev I n a) = some (F15 I n a) := fun I n a => by kernel_rfl
/-! laws.markFunS -/
def L4111_0 (I : Interp) (n : Nat) (p0 : List PV) : Option (Ex × List PV) :=
  (iff (ltI (nth p0 0).toInt ((nth p0 1).toList.length : Int))
  (iff (geI (nth p0 0).toInt (0 : Int))
  (iff (ltI (nth p0 0).toInt ((nth p0 1).toList.length : Int))
  (iff (geI (nth p0 0).toInt (0 : Int))
  (iff (ltI (nth p0 0).toInt (((nth p0 1).toList.set (nth p0 0).toInt.toNat ((nth (nth p0 1).toList (nth p0 0).toInt.toNat).setFld 0 (nth p0 2))).length : Int))
  ((I 47 [((nth ((nth p0 1).toList.set (nth p0 0).toInt.toNat ((nth (nth p0 1).toList (nth p0 0).toInt.toNat).setFld 0 (nth p0 2))) (nth p0 0).toInt.toNat).fld 1), (PV.int (IntKind.i64.wrap ((nth p0 2).toInt + (1 : Int))))]).bind fun r1 =>
  (some (Ex.n, [(PV.int (IntKind.i64.wrap ((nth p0 0).toInt + (1 : Int)))), (PV.list (((nth p0 1).toList.set (nth p0 0).toInt.toNat ((nth (nth p0 1).toList (nth p0 0).toInt.toNat).setFld 0 (nth p0 2))).set (nth p0 0).toInt.toNat ((nth ((nth p0 1).toList.set (nth p0 0).toInt.toNat ((nth (nth p0 1).toList (nth p0 0).toInt.toNat).setFld 0 (nth p0 2))) (nth p0 0).toInt.toNat).setFld 1 (nth r1 1)))), (nth r1 0)])))
  none)
  none)
  none)
  none)
  (some (Ex.x 0, [(nth p0 2)])))
def F4111 (I : Interp) (n : Nat) (a : List PV) : Option (List PV) :=
  (thenN (thenE (loopEv (L4111_0 I n) n [(PV.int (0 : Int)), (nth a 0), (nth a 1)])
  (passB 0))
  (fun p2 => (some [(nth p2 0)]))
  (retE fun q3 => [(nth q3 0)]))
theorem e4111 : ∀ I n a, (compF Try.prog sg 4111).map (fun d => d.ev I n a) = some (F4111 I n a) := fun I n a => by kernel_rfl
/-! impl.GetNum -/
def L86_0 (I : Interp) (n : Nat) (p1 : List PV) : Option (Ex × List PV) :=
  (iff (selB (ltI (nth p1 3).toInt (5 : Int)) (selB ((ltI (nth p1 3).toInt (5 : Int)) == true) (PV.bool (ltI (selB ((ltI (nth p1 3).toInt (5 : Int)) == true) (PV.int (IntKind.i64.wrap ((selB ((ltI (nth p1 3).toInt (5 : Int)) == true) (nth p1 2) PV.unit).toInt + (selB ((ltI (nth p1 3).toInt (5 : Int)) == true) (nth p1 3) PV.unit).toInt))) PV.unit).toInt (selB ((ltI (nth p1 3).toInt (5 : Int)) == true) (PV.int ((selB ((ltI (nth p1 3).toInt (5 : Int)) == true) (nth p1 1) PV.unit).toList.length : Int)) PV.unit).toInt)) PV.unit) (PV.bool false)).toBool
  (thenN (iff (geI (IntKind.i64.wrap ((nth p1 2).toInt + (nth p1 3).toInt)) (0 : Int))
  (iff (ltI (IntKind.i64.wrap ((nth p1 2).toInt + (nth p1 3).toInt)) ((nth p1 1).toList.length : Int))
  (iff (geI (IntKind.i64.wrap ((7 : Int) * (nth p1 3).toInt)) (0 : Int))
  (iff (gtI (IntKind.i64.wrap (nth (nth p1 1).toList (IntKind.i64.wrap ((nth p1 2).toInt + (nth p1 3).toInt)).toNat).toInt) (127 : Int))
  (some (Ex.n, [(nth p1 3), (PV.int (IntKind.i64.wrap ((nth p1 0).toInt + (arith BinOp.shl IntKind.i64 (arith BinOp.and IntKind.i64 (IntKind.i64.wrap (nth (nth p1 1).toList (IntKind.i64.wrap ((nth p1 2).toInt + (nth p1 3).toInt)).toNat).toInt) (127 : Int)) (IntKind.i64.wrap ((7 : Int) * (nth p1 3).toInt)))))), (nth p1 1), (nth p1 2)]))
  (iff (selB (selB (eqI (IntKind.i64.wrap (nth (nth p1 1).toList (IntKind.i64.wrap ((nth p1 2).toInt + (nth p1 3).toInt)).toNat).toInt) (0 : Int)) (selB ((eqI (IntKind.i64.wrap (nth (nth p1 1).toList (IntKind.i64.wrap ((nth p1 2).toInt + (nth p1 3).toInt)).toNat).toInt) (0 : Int)) == true) (PV.bool (gtI (selB ((eqI (IntKind.i64.wrap (nth (nth p1 1).toList (IntKind.i64.wrap ((nth p1 2).toInt + (nth p1 3).toInt)).toNat).toInt) (0 : Int)) == true) (nth p1 3) PV.unit).toInt (0 : Int))) PV.unit) (PV.bool false)).toBool (PV.bool true) (selB ((selB (eqI (IntKind.i64.wrap (nth (nth p1 1).toList (IntKind.i64.wrap ((nth p1 2).toInt + (nth p1 3).toInt)).toNat).toInt) (0 : Int)) (selB ((eqI (IntKind.i64.wrap (nth (nth p1 1).toList (IntKind.i64.wrap ((nth p1 2).toInt + (nth p1 3).toInt)).toNat).toInt) (0 : Int)) == true) (PV.bool (gtI (selB ((eqI (IntKind.i64.wrap (nth (nth p1 1).toList (IntKind.i64.wrap ((nth p1 2).toInt + (nth p1 3).toInt)).toNat).toInt) (0 : Int)) == true) (nth p1 3) PV.unit).toInt (0 : Int))) PV.unit) (PV.bool false)).isB false) (PV.bool (gtI (selB ((selB (eqI (IntKind.i64.wrap (nth (nth p1 1).toList (IntKind.i64.wrap ((nth p1 2).toInt + (nth p1 3).toInt)).toNat).toInt) (0 : Int)) (selB ((eqI (IntKind.i64.wrap (nth (nth p1 1).toList (IntKind.i64.wrap ((nth p1 2).toInt + (nth p1 3).toInt)).toNat).toInt) (0 : Int)) == true) (PV.bool (gtI (selB ((eqI (IntKind.i64.wrap (nth (nth p1 1).toList (IntKind.i64.wrap ((nth p1 2).toInt + (nth p1 3).toInt)).toNat).toInt) (0 : Int)) == true) (nth p1 3) PV.unit).toInt (0 : Int))) PV.unit) (PV.bool false)).isB false) (PV.int (IntKind.i64.wrap ((nth p1 0).toInt + (arith BinOp.shl IntKind.i64 (arith BinOp.and IntKind.i64 (IntKind.i64.wrap (nth (nth p1 1).toList (IntKind.i64.wrap ((nth p1 2).toInt + (nth p1 3).toInt)).toNat).toInt) (127 : Int)) (IntKind.i64.wrap ((7 : Int) * (nth p1 3).toInt)))))) PV.unit).toInt (2147483647 : Int))) PV.unit)).toBool
  (some (Ex.r, [(PV.int (0 : Int)), (PV.int (0 : Int)), (PV.bool false)]))
  (some (Ex.r, [(PV.int (IntKind.i64.wrap ((nth p1 0).toInt + (arith BinOp.shl IntKind.i64 (arith BinOp.and IntKind.i64 (IntKind.i64.wrap (nth (nth p1 1).toList (IntKind.i64.wrap ((nth p1 2).toInt + (nth p1 3).toInt)).toNat).toInt) (127 : Int)) (IntKind.i64.wrap ((7 : Int) * (nth p1 3).toInt)))))), (PV.int (IntKind.i64.wrap ((IntKind.i64.wrap ((nth p1 2).toInt + (nth p1 3).toInt)) + (1 : Int)))), (PV.bool true)]))))
  none)
  none)
  none)
  (fun p2 => (some (Ex.n, [(nth p2 1), (nth p2 2), (nth p2 3), (PV.int (IntKind.i64.wrap ((nth p2 0).toInt + (1 : Int))))])))
  passE)
  (some (Ex.x 0, [])))
def F86 (I : Interp) (n : Nat) (a : List PV) : Option (List PV) :=
  ((I 54 [(nth a 1), (PV.int (0 : Int)), (PV.int (IntKind.i64.wrap (((nth a 0).toList.length : Int) - (1 : Int))))]).bind fun r0 =>
  (iff (!(nth r0 0).toBool)
  (some [(PV.int (0 : Int)), (PV.int (0 : Int)), (PV.bool false)])
  (thenN (thenE (loopEv (L86_0 I n) n [(PV.int (0 : Int)), (nth a 0), (nth a 1), (PV.int (0 : Int))])
  (passB 0))
  (fun p3 => (some [(PV.int (0 : Int)), (PV.int (0 : Int)), (PV.bool false)]))
  (retE fun q4 => [(nth q4 0), (nth q4 1), (nth q4 2)]))))
theorem e86 : ∀ I n a, (compF Try.prog sg 86).map (fun d => d.ev I n a) = some (F86 I n a) := fun I n a => by kernel_rfl
/-! laws.eqOpS -/
def L84_0 (I : Interp) (n : Nat) (p0 : List PV) : Option (Ex × List PV) :=
  (iff (ltI (nth p0 0).toInt ((nth p0 1).toList.length : Int))
  (iff (geI (nth p0 0).toInt (0 : Int))
  (iff (ltI (nth p0 0).toInt ((nth p0 1).toList.length : Int))
  (iff (geI (nth p0 0).toInt (0 : Int))
  (iff (ltI (nth p0 0).toInt ((nth p0 2).toList.length : Int))
  ((I 108 [(nth (nth p0 1).toList (nth p0 0).toInt.toNat), (nth (nth p0 2).toList (nth p0 0).toInt.toNat)]).bind fun r1 =>
  (iff (!(nth r1 0).toBool)
  (some (Ex.r, [(PV.bool false)]))
  (some (Ex.n, [(PV.int (IntKind.i64.wrap ((nth p0 0).toInt + (1 : Int)))), (nth p0 1), (nth p0 2)]))))
  none)
  none)
  none)
  none)
  (some (Ex.x 0, [])))
def F84 (I : Interp) (n : Nat) (a : List PV) : Option (List PV) :=
  (iff (neI ((nth a 0).toList.length : Int) ((nth a 1).toList.length : Int))
  (some [(PV.bool false)])
  (thenN (thenE (loopEv (L84_0 I n) n [(PV.int (0 : Int)), (nth a 0), (nth a 1)])
  (passB 0))
  (fun p2 => (some [(PV.bool true)]))
  (retE fun q3 => [(nth q3 0)])))
theorem e84 : ∀ I n a, (compF Try.prog sg 84).map (fun d => d.ev I n a) = some (F84 I n a) := fun I n a => by kernel_rfl
/-! spec.l16Num -/
def F48 (I : Interp) (n : Nat) (a : List PV) : Option (List PV) :=
  ((I 85 [((nth a 0).fld 0), ((nth a 0).fld 1)]).bind fun r0 =>
  (iff (selB (!(nth r0 2).toBool) (PV.bool true) (selB ((!(nth r0 2).toBool) == false) (PV.bool (!(selB ((!(nth r0 2).toBool) == false) ((nth a 0).fld 2) PV.unit).toBool)) PV.unit)).toBool
  (some [(PV.int (0 : Int)), ((nth a 0).setFld 2 (PV.bool false))])
  (some [(nth r0 0), ((nth a 0).setFld 1 (nth r0 1))])))
theorem e48 : ∀ I n a, (compF Try.prog sg 48).map (fun d => d.ev I n a) = some (F48 I n a) := fun I n a => by kernel_rfl
/-! spec.l16Num -/
def F4144 (I : Interp) (n : Nat) (a : List PV) : Option (List PV) :=
  ((I 85 [((nth a 0).fld 0), ((nth a 0).fld 1)]).bind fun r0 =>
  (iff (selB (!(nth r0 2).toBool) (PV.bool true) (selB ((!(nth r0 2).toBool) == false) (PV.bool (!(selB ((!(nth r0 2).toBool) == false) ((nth a 0).fld 2) PV.unit).toBool)) PV.unit)).toBool
  (some [(PV.int (0 : Int)), ((nth a 0).setFld 2 (PV.bool false))])
  (some [(nth r0 0), ((nth a 0).setFld 1 (nth r0 1))])))
theorem e4144 : ∀ I n a, (compF Try.prog sg 4144).map (fun d => d.ev I n a) = some (F4144 I n a) := fun I n a => by kernel_rfl
/-! impl.reader).num -/
def F49 (I : Interp) (n : Nat) (a : List PV) : Option (List PV) :=
  ((I 86 [((nth a 0).fld 0), ((nth a 0).fld 1)]).bind fun r0 =>
  (iff (selB ((nth a 0).fld 2).toBool (PV.bool true) (selB (((nth a 0).fld 2).isB false) (PV.bool (!(selB (((nth a 0).fld 2).isB false) (nth r0 2) PV.unit).toBool)) PV.unit)).toBool
  (some [(PV.int (0 : Int)), ((nth a 0).setFld 2 (PV.bool true))])
  (some [(nth r0 0), ((nth a 0).setFld 1 (nth r0 1))])))
theorem e49 : ∀ I n a, (compF Try.prog sg 49).map (fun d => d.ev I n a) = some (F49 I n a) := fun I n a => by kernel_rfl
/-! impl.reader).num -/
def F4145 (I : Interp) (n : Nat) (a : List PV) : Option (List PV) :=
  ((I 86 [((nth a 0).fld 0), ((nth a 0).fld 1)]).bind fun r0 =>
  (iff (selB ((nth a 0).fld 2).toBool (PV.bool true) (selB (((nth a 0).fld 2).isB false) (PV.bool (!(selB (((nth a 0).fld 2).isB false) (nth r0 2) PV.unit).toBool)) PV.unit)).toBool
  (some [(PV.int (0 : Int)), ((nth a 0).setFld 2 (PV.bool true))])
  (some [(nth r0 0), ((nth a 0).setFld 1 (nth r0 1))])))
theorem e4145 : ∀ I n a, (compF Try.prog sg 4145).map (fun d => d.ev I n a) = some (F4145 I n a) := fun I n a => by kernel_rfl
/-! laws.eqFun -/
def F46 (I : Interp) (n : Nat) (a : List PV) : Option (List PV) :=
  (iff (neI ((nth a 0).fld 0).toInt ((nth a 1).fld 0).toInt)
  (some [(PV.bool false)])
  ((I 84 [((nth a 0).fld 1), ((nth a 1).fld 1)]).bind fun r0 =>
  (iff (!(nth r0 0).toBool)
  (some [(PV.bool false)])
  (some [(PV.bool true)]))))
theorem e46 : ∀ I n a, (compF Try.prog sg 46).map (fun d => d.ev I n a) = some (F46 I n a) := fun I n a => by kernel_rfl
/-! impl.opOk -/
def F83 (I : Interp) (n : Nat) (a : List PV) : Option (List PV) :=
  (thenN (iff (eqI ((nth a 3).fld 0).toInt (1 : Int))
  ((I 102 [((nth a 3).fld 1)]).bind fun r0 =>
  (some (Ex.n, [(nth r0 0), (PV.bool (eqI ((nth a 3).fld 2).toInt (0 : Int))), (nth a 3)])))
  (iff (eqI ((nth a 3).fld 0).toInt (2 : Int))
  ((I 54 [((nth a 3).fld 1), (PV.int (0 : Int)), (PV.int (2999 : Int))]).bind fun r1 =>
  (some (Ex.n, [(nth r1 0), (PV.bool (eqI ((nth a 3).fld 2).toInt (0 : Int))), (nth a 3)])))
  (iff (eqI ((nth a 3).fld 0).toInt (3 : Int))
  ((I 54 [((nth a 3).fld 1), (PV.int (0 : Int)), (PV.int (IntKind.i64.wrap (((nth a 1).fld 0).toInt - (1 : Int))))]).bind fun r2 =>
  (some (Ex.n, [(nth r2 0), (PV.bool (eqI ((nth a 3).fld 2).toInt (0 : Int))), (nth a 3)])))
  (iff (eqI ((nth a 3).fld 0).toInt (4 : Int))
  (some (Ex.n, [(selB (eqI ((nth a 3).fld 1).toInt (0 : Int)) (selB ((eqI ((nth a 3).fld 1).toInt (0 : Int)) == true) (PV.bool (gtI (selB ((eqI ((nth a 3).fld 1).toInt (0 : Int)) == true) (nth a 2) PV.unit).toInt (0 : Int))) PV.unit) (PV.bool false)), (PV.bool (eqI ((nth a 3).fld 2).toInt (0 : Int))), (nth a 3)]))
  (iff (eqI ((nth a 3).fld 0).toInt (5 : Int))
  ((I 54 [((nth a 3).fld 1), (PV.int (1 : Int)), (PV.int (IntKind.i64.wrap (((nth a 0).toList.length : Int) - (1 : Int))))]).bind fun r3 =>
  ((iff ((nth r3 0).isB true)
  (iff (geI (selB ((nth r3 0).isB true) ((nth a 3).fld 1) PV.unit).toInt (0 : Int))
  (iff (ltI (selB ((nth r3 0).isB true) ((nth a 3).fld 1) PV.unit).toInt ((selB ((nth r3 0).isB true) (nth a 0) PV.unit).toList.length : Int))
  (some [(nth (selB ((nth r3 0).isB true) (nth a 0) PV.unit).toList (selB ((nth r3 0).isB true) ((nth a 3).fld 1) PV.unit).toInt.toNat), (nth (selB ((nth r3 0).isB true) (nth a 0) PV.unit).toList (selB ((nth r3 0).isB true) ((nth a 3).fld 1) PV.unit).toInt.toNat)])
  none)
  none)
  (some [PV.unit, PV.unit])).bind fun g4 =>
  (some (Ex.n, [(nth r3 0), (selB (nth r3 0).toBool (selB ((nth r3 0).isB true) (PV.bool (eqI (selB ((nth r3 0).isB true) ((nth a 3).fld 2) PV.unit).toInt (selB ((nth r3 0).isB true) (selB ((nth r3 0).isB true) ((nth g4 0).fld 0) PV.unit) PV.unit).toInt)) PV.unit) (PV.bool false)), (nth a 3)]))))
  (iff (eqI ((nth a 3).fld 0).toInt (8 : Int))
  ((I 54 [((nth a 3).fld 1), (PV.int (0 : Int)), (PV.int (19 : Int))]).bind fun r5 =>
  ((I 54 [((nth a 3).fld 2), (PV.int (0 : Int)), (PV.int (20 : Int))]).bind fun r6 =>
  (some (Ex.n, [(nth r5 0), (nth r6 0), (nth a 3)]))))
  (iff (eqI ((nth a 3).fld 0).toInt (9 : Int))
  ((I 54 [((nth a 3).fld 1), (PV.int (0 : Int)), (PV.int (19 : Int))]).bind fun r7 =>
  (some (Ex.n, [(nth r7 0), (PV.bool (eqI ((nth a 3).fld 2).toInt (0 : Int))), (nth a 3)])))
  (iff (eqI ((nth a 3).fld 0).toInt (10 : Int))
  ((I 54 [((nth a 3).fld 1), (PV.int (0 : Int)), (PV.int (19 : Int))]).bind fun r8 =>
  ((I 107 [((nth a 3).fld 2), (nth a 1)]).bind fun r9 =>
  (some (Ex.n, [(nth r8 0), (nth r9 0), (nth a 3)]))))
  (iff (eqI ((nth a 3).fld 0).toInt (11 : Int))
  ((I 102 [((nth a 3).fld 1)]).bind fun r10 =>
  ((I 107 [((nth a 3).fld 2), (nth a 1)]).bind fun r11 =>
  (some (Ex.n, [(nth r10 0), (nth r11 0), (nth a 3)]))))
  (thenN (iff (eqI ((nth a 3).fld 0).toInt (18 : Int))
  (some (Ex.n, [(PV.bool (eqI ((nth a 3).fld 0).toInt (18 : Int))), (PV.bool (eqI ((nth a 3).fld 1).toInt (0 : Int))), (PV.bool (eqI ((nth a 3).fld 2).toInt (0 : Int))), (nth a 3), (nth a 1)]))
  (some (Ex.n, [(PV.bool (eqI ((nth a 3).fld 0).toInt (19 : Int))), (PV.bool (eqI ((nth a 3).fld 1).toInt (0 : Int))), (PV.bool (eqI ((nth a 3).fld 2).toInt (0 : Int))), (nth a 3), (nth a 1)])))
  (fun p12 => (iff (nth p12 0).toBool
  ((I 107 [((nth p12 3).fld 1), (nth p12 4)]).bind fun r13 =>
  (some (Ex.n, [(nth r13 0), (nth p12 2), (nth p12 3)])))
  (some (Ex.n, [(nth p12 1), (nth p12 2), (nth p12 3)]))))
  passE))))))))))
  (fun p14 => ((I 54 [((nth p14 2).fld 0), (PV.int (1 : Int)), (PV.int (21 : Int))]).bind fun r15 =>
  (some [(selB (selB (nth r15 0).toBool (selB ((nth r15 0).isB true) (nth p14 0) PV.unit) (PV.bool false)).toBool (selB ((selB (nth r15 0).toBool (selB ((nth r15 0).isB true) (nth p14 0) PV.unit) (PV.bool false)).isB true) (nth p14 1) PV.unit) (PV.bool false))])))
  (retE fun q16 => [(nth q16 0)]))
theorem e83 : ∀ I n a, (compF Try.prog sg 83).map (fun d => d.ev I n a) = some (F83 I n a) := fun I n a => by kernel_rfl
/-! laws.eqFunS -/
def L14_0 (I : Interp) (n : Nat) (p0 : List PV) : Option (Ex × List PV) :=
  (iff (ltI (nth p0 0).toInt ((nth p0 1).toList.length : Int))
  (iff (geI (nth p0 0).toInt (0 : Int))
  (iff (ltI (nth p0 0).toInt ((nth p0 1).toList.length : Int))
  (iff (geI (nth p0 0).toInt (0 : Int))
  (iff (ltI (nth p0 0).toInt ((nth p0 2).toList.length : Int))
  ((I 46 [(nth (nth p0 1).toList (nth p0 0).toInt.toNat), (nth (nth p0 2).toList (nth p0 0).toInt.toNat)]).bind fun r1 =>
  (iff (!(nth r1 0).toBool)
  (some (Ex.r, [(PV.bool false)]))
  (some (Ex.n, [(PV.int (IntKind.i64.wrap ((nth p0 0).toInt + (1 : Int)))), (nth p0 1), (nth p0 2)]))))
  none)
  none)
  none)
  none)
  (some (Ex.x 0, [])))
def F14 (I : Interp) (n : Nat) (a : List PV) : Option (List PV) :=
  (iff (neI ((nth a 0).toList.length : Int) ((nth a 1).toList.length : Int))
  (some [(PV.bool false)])
  (thenN (thenE (loopEv (L14_0 I n) n [(PV.int (0 : Int)), (nth a 0), (nth a 1)])
  (passB 0))
  (fun p2 => (some [(PV.bool true)]))
  (retE fun q3 => [(nth q3 0)])))
theorem e14 : ∀ I n a, (compF Try.prog sg 14).map (fun d => d.ev I n a) = some (F14 I n a) := fun I n a => by kernel_rfl
/-! spec.l13Op -/
def F81 (I : Interp) (n : Nat) (a : List PV) : Option (List PV) :=
  (iff (geI (nth a 1).toInt (0 : Int))
  (iff (ltI (nth a 1).toInt ((nth a 0).toList.length : Int))
  (iff (eqI ((nth a 2).fld 0).toInt (1 : Int))
  ((I 101 [((nth a 2).fld 1)]).bind fun r0 =>
  (some [(selB (nth r0 0).toBool (selB ((nth r0 0).isB true) (PV.bool (eqI (selB ((nth r0 0).isB true) ((nth a 2).fld 2) PV.unit).toInt (0 : Int))) PV.unit) (PV.bool false))]))
  (iff (eqI ((nth a 2).fld 0).toInt (2 : Int))
  ((I 51 [((nth a 2).fld 1), (PV.int (0 : Int)), (PV.int (2999 : Int))]).bind fun r1 =>
  (some [(selB (nth r1 0).toBool (selB ((nth r1 0).isB true) (PV.bool (eqI (selB ((nth r1 0).isB true) ((nth a 2).fld 2) PV.unit).toInt (0 : Int))) PV.unit) (PV.bool false))]))
  (iff (eqI ((nth a 2).fld 0).toInt (3 : Int))
  (iff (geI (nth a 1).toInt (0 : Int))
  (iff (ltI (nth a 1).toInt ((nth a 0).toList.length : Int))
  ((I 51 [((nth a 2).fld 1), (PV.int (0 : Int)), (PV.int (IntKind.i64.wrap (((nth (nth a 0).toList (nth a 1).toInt.toNat).fld 0).toInt - (1 : Int))))]).bind fun r2 =>
  (some [(selB (nth r2 0).toBool (selB ((nth r2 0).isB true) (PV.bool (eqI (selB ((nth r2 0).isB true) ((nth a 2).fld 2) PV.unit).toInt (0 : Int))) PV.unit) (PV.bool false))]))
  none)
  none)
  (iff (eqI ((nth a 2).fld 0).toInt (4 : Int))
  (some [(selB (selB (gtI (nth a 1).toInt (0 : Int)) (selB ((gtI (nth a 1).toInt (0 : Int)) == true) (PV.bool (eqI (selB ((gtI (nth a 1).toInt (0 : Int)) == true) ((nth a 2).fld 1) PV.unit).toInt (0 : Int))) PV.unit) (PV.bool false)).toBool (selB ((selB (gtI (nth a 1).toInt (0 : Int)) (selB ((gtI (nth a 1).toInt (0 : Int)) == true) (PV.bool (eqI (selB ((gtI (nth a 1).toInt (0 : Int)) == true) ((nth a 2).fld 1) PV.unit).toInt (0 : Int))) PV.unit) (PV.bool false)).isB true) (PV.bool (eqI (selB ((selB (gtI (nth a 1).toInt (0 : Int)) (selB ((gtI (nth a 1).toInt (0 : Int)) == true) (PV.bool (eqI (selB ((gtI (nth a 1).toInt (0 : Int)) == true) ((nth a 2).fld 1) PV.unit).toInt (0 : Int))) PV.unit) (PV.bool false)).isB true) ((nth a 2).fld 2) PV.unit).toInt (0 : Int))) PV.unit) (PV.bool false))])
  (iff (eqI ((nth a 2).fld 0).toInt (5 : Int))
  ((I 51 [((nth a 2).fld 1), (PV.int (1 : Int)), (PV.int (IntKind.i64.wrap (((nth a 0).toList.length : Int) - (1 : Int))))]).bind fun r3 =>
  ((iff ((nth r3 0).isB true)
  (iff (geI (selB ((nth r3 0).isB true) ((nth a 2).fld 1) PV.unit).toInt (0 : Int))
  (iff (ltI (selB ((nth r3 0).isB true) ((nth a 2).fld 1) PV.unit).toInt ((selB ((nth r3 0).isB true) (nth a 0) PV.unit).toList.length : Int))
  (some [(nth (selB ((nth r3 0).isB true) (nth a 0) PV.unit).toList (selB ((nth r3 0).isB true) ((nth a 2).fld 1) PV.unit).toInt.toNat), (nth (selB ((nth r3 0).isB true) (nth a 0) PV.unit).toList (selB ((nth r3 0).isB true) ((nth a 2).fld 1) PV.unit).toInt.toNat)])
  none)
  none)
  (some [PV.unit, PV.unit])).bind fun g4 =>
  (some [(selB (nth r3 0).toBool (selB ((nth r3 0).isB true) (PV.bool (eqI (selB ((nth r3 0).isB true) ((nth a 2).fld 2) PV.unit).toInt (selB ((nth r3 0).isB true) (selB ((nth r3 0).isB true) ((nth g4 0).fld 0) PV.unit) PV.unit).toInt)) PV.unit) (PV.bool false))])))
  (iff (eqI ((nth a 2).fld 0).toInt (8 : Int))
  ((I 105 [((nth a 2).fld 1)]).bind fun r5 =>
  ((iff ((nth r5 0).isB true)
  ((I 51 [(selB ((nth r5 0).isB true) ((nth a 2).fld 2) PV.unit), (PV.int (0 : Int)), (PV.int (20 : Int))]).bind fun r6 =>
  (some [(nth r6 0), (nth r6 0)]))
  (some [PV.unit, PV.unit])).bind fun g7 =>
  (some [(selB (nth r5 0).toBool (nth g7 0) (PV.bool false))])))
  (iff (eqI ((nth a 2).fld 0).toInt (9 : Int))
  ((I 105 [((nth a 2).fld 1)]).bind fun r8 =>
  (some [(selB (nth r8 0).toBool (selB ((nth r8 0).isB true) (PV.bool (eqI (selB ((nth r8 0).isB true) ((nth a 2).fld 2) PV.unit).toInt (0 : Int))) PV.unit) (PV.bool false))]))
  (iff (eqI ((nth a 2).fld 0).toInt (10 : Int))
  ((I 105 [((nth a 2).fld 1)]).bind fun r9 =>
  ((iff ((nth r9 0).isB true)
  ((I 51 [(selB ((nth r9 0).isB true) ((nth a 2).fld 2) PV.unit), (PV.int (0 : Int)), (selB ((nth r9 0).isB true) (PV.int (IntKind.i64.wrap ((selB ((nth r9 0).isB true) (PV.int (((nth (nth a 0).toList (nth a 1).toInt.toNat).fld 1).toList.length : Int)) PV.unit).toInt - (1 : Int)))) PV.unit)]).bind fun r10 =>
  (some [(nth r10 0), (nth r10 0)]))
  (some [PV.unit, PV.unit])).bind fun g11 =>
  (some [(selB (nth r9 0).toBool (nth g11 0) (PV.bool false))])))
  (iff (eqI ((nth a 2).fld 0).toInt (11 : Int))
  ((I 101 [((nth a 2).fld 1)]).bind fun r12 =>
  ((iff ((nth r12 0).isB true)
  ((I 51 [(selB ((nth r12 0).isB true) ((nth a 2).fld 2) PV.unit), (PV.int (0 : Int)), (selB ((nth r12 0).isB true) (PV.int (IntKind.i64.wrap ((selB ((nth r12 0).isB true) (PV.int (((nth (nth a 0).toList (nth a 1).toInt.toNat).fld 1).toList.length : Int)) PV.unit).toInt - (1 : Int)))) PV.unit)]).bind fun r13 =>
  (some [(nth r13 0), (nth r13 0)]))
  (some [PV.unit, PV.unit])).bind fun g14 =>
  (some [(selB (nth r12 0).toBool (nth g14 0) (PV.bool false))])))
  (thenN (iff (eqI ((nth a 2).fld 0).toInt (18 : Int))
  (some (Ex.n, [(PV.bool (eqI ((nth a 2).fld 0).toInt (18 : Int))), (PV.int (((nth (nth a 0).toList (nth a 1).toInt.toNat).fld 1).toList.length : Int)), (nth a 2)]))
  (some (Ex.n, [(PV.bool (eqI ((nth a 2).fld 0).toInt (19 : Int))), (PV.int (((nth (nth a 0).toList (nth a 1).toInt.toNat).fld 1).toList.length : Int)), (nth a 2)])))
  (fun p15 => (iff (nth p15 0).toBool
  ((I 51 [((nth p15 2).fld 1), (PV.int (0 : Int)), (PV.int (IntKind.i64.wrap ((nth p15 1).toInt - (1 : Int))))]).bind fun r16 =>
  (some [(selB (nth r16 0).toBool (selB ((nth r16 0).isB true) (PV.bool (eqI (selB ((nth r16 0).isB true) ((nth p15 2).fld 2) PV.unit).toInt (0 : Int))) PV.unit) (PV.bool false))]))
  ((I 51 [((nth p15 2).fld 0), (PV.int (1 : Int)), (PV.int (21 : Int))]).bind fun r17 =>
  (some [(selB (selB (nth r17 0).toBool (selB ((nth r17 0).isB true) (PV.bool (eqI (selB ((nth r17 0).isB true) ((nth p15 2).fld 1) PV.unit).toInt (0 : Int))) PV.unit) (PV.bool false)).toBool (selB ((selB (nth r17 0).toBool (selB ((nth r17 0).isB true) (PV.bool (eqI (selB ((nth r17 0).isB true) ((nth p15 2).fld 1) PV.unit).toInt (0 : Int))) PV.unit) (PV.bool false)).isB true) (PV.bool (eqI (selB ((selB (nth r17 0).toBool (selB ((nth r17 0).isB true) (PV.bool (eqI (selB ((nth r17 0).isB true) ((nth p15 2).fld 1) PV.unit).toInt (0 : Int))) PV.unit) (PV.bool false)).isB true) ((nth p15 2).fld 2) PV.unit).toInt (0 : Int))) PV.unit) (PV.bool false))]))))
  (retE fun q18 => [(nth q18 0)])))))))))))
  none)
  none)
theorem e81 : ∀ I n a, (compF Try.prog sg 81).map (fun d => d.ev I n a) = some (F81 I n a) := fun I n a => by kernel_rfl
/-! impl.FunsOk -/
def L44_0 (I : Interp) (n : Nat) (p6 : List PV) : Option (Ex × List PV) :=
  (iff (ltI (nth p6 0).toInt (nth p6 1).toInt)
  (iff (geI (nth p6 0).toInt (0 : Int))
  (iff (ltI (nth p6 0).toInt ((nth p6 2).toList.length : Int))
  ((I 83 [(nth p6 7), (nth p6 8), (nth p6 3), (nth (nth p6 2).toList (nth p6 0).toInt.toNat)]).bind fun r7 =>
  (iff (!(nth r7 0).toBool)
  (some (Ex.r, [(PV.bool false)]))
  (some (Ex.n, [(PV.int (IntKind.i64.wrap ((nth p6 0).toInt + (1 : Int)))), (nth p6 1), (nth p6 2), (nth p6 3), (nth p6 4), (nth p6 5), (nth p6 6), (nth p6 7), (nth p6 8)]))))
  none)
  none)
  (some (Ex.x 2, [(nth p6 4), (nth p6 5), (nth p6 6), (nth p6 7), (nth p6 8)])))
def L44_1 (I : Interp) (n : Nat) (p2 : List PV) : Option (Ex × List PV) :=
  (iff (ltI (nth p2 0).toInt (nth p2 1).toInt)
  (iff (geI (nth p2 0).toInt (0 : Int))
  (iff (ltI (nth p2 0).toInt ((nth p2 2).toList.length : Int))
  ((I 54 [((nth (nth p2 2).toList (nth p2 0).toInt.toNat).fld 0), (PV.int (0 : Int)), (PV.int (20 : Int))]).bind fun r3 =>
  ((iff ((!(nth r3 0).toBool) == false)
  ((I 54 [(selB ((!(nth r3 0).toBool) == false) (PV.int ((selB ((!(nth r3 0).toBool) == false) ((nth (nth p2 2).toList (nth p2 0).toInt.toNat).fld 1) PV.unit).toList.length : Int)) PV.unit), (PV.int (1 : Int)), (PV.int (3000 : Int))]).bind fun r4 =>
  (some [(nth r4 0), (nth r4 0)]))
  (some [PV.unit, PV.unit])).bind fun g5 =>
  (iff (selB (!(nth r3 0).toBool) (PV.bool true) (selB ((!(nth r3 0).toBool) == false) (PV.bool (!(nth g5 0).toBool)) PV.unit)).toBool
  (some (Ex.r, [(PV.bool false)]))
  (thenN (thenE (loopEv (L44_0 I n) n [(PV.int (0 : Int)), (PV.int (((nth (nth p2 2).toList (nth p2 0).toInt.toNat).fld 1).toList.length : Int)), ((nth (nth p2 2).toList (nth p2 0).toInt.toNat).fld 1), (nth p2 0), (nth p2 0), (nth p2 1), (nth p2 2), (nth p2 3), (nth (nth p2 2).toList (nth p2 0).toInt.toNat)])
  (passB 2))
  (fun p8 => (iff (geI (IntKind.i64.wrap ((((nth p8 4).fld 1).toList.length : Int) - (1 : Int))) (0 : Int))
  (iff (ltI (IntKind.i64.wrap ((((nth p8 4).fld 1).toList.length : Int) - (1 : Int))) (((nth p8 4).fld 1).toList.length : Int))
  (thenN (iff (eqI ((nth ((nth p8 4).fld 1).toList (IntKind.i64.wrap ((((nth p8 4).fld 1).toList.length : Int) - (1 : Int))).toNat).fld 0).toInt (7 : Int))
  (some (Ex.n, [(PV.bool (eqI ((nth ((nth p8 4).fld 1).toList (IntKind.i64.wrap ((((nth p8 4).fld 1).toList.length : Int) - (1 : Int))).toNat).fld 0).toInt (7 : Int))), (nth p8 0), (nth p8 1), (nth p8 2), (nth p8 3)]))
  (iff (eqI ((nth ((nth p8 4).fld 1).toList (IntKind.i64.wrap ((((nth p8 4).fld 1).toList.length : Int) - (1 : Int))).toNat).fld 0).toInt (19 : Int))
  (some (Ex.n, [(PV.bool (eqI ((nth ((nth p8 4).fld 1).toList (IntKind.i64.wrap ((((nth p8 4).fld 1).toList.length : Int) - (1 : Int))).toNat).fld 0).toInt (19 : Int))), (nth p8 0), (nth p8 1), (nth p8 2), (nth p8 3)]))
  (some (Ex.n, [(PV.bool (eqI ((nth ((nth p8 4).fld 1).toList (IntKind.i64.wrap ((((nth p8 4).fld 1).toList.length : Int) - (1 : Int))).toNat).fld 0).toInt (21 : Int))), (nth p8 0), (nth p8 1), (nth p8 2), (nth p8 3)]))))
  (fun p9 => (iff (nth p9 0).toBool
  (some (Ex.n, [(PV.int (IntKind.i64.wrap ((nth p9 1).toInt + (1 : Int)))), (nth p9 2), (nth p9 3), (nth p9 4)]))
  (some (Ex.r, [(PV.bool false)]))))
  passE)
  none)
  none))
  passE))))
  none)
  none)
  (some (Ex.x 0, [])))
def F44 (I : Interp) (n : Nat) (a : List PV) : Option (List PV) :=
  ((I 54 [(PV.int ((nth a 0).toList.length : Int)), (PV.int (1 : Int)), (PV.int (60 : Int))]).bind fun r0 =>
  ((iff ((!(nth r0 0).toBool) == false)
  (iff (geI (0 : Int) (0 : Int))
  (iff (ltI (0 : Int) ((selB ((!(nth r0 0).toBool) == false) (nth a 0) PV.unit).toList.length : Int))
  (some [(nth (selB ((!(nth r0 0).toBool) == false) (nth a 0) PV.unit).toList (0 : Int).toNat), (nth (selB ((!(nth r0 0).toBool) == false) (nth a 0) PV.unit).toList (0 : Int).toNat)])
  none)
  none)
  (some [PV.unit, PV.unit])).bind fun g1 =>
  (iff (selB (!(nth r0 0).toBool) (PV.bool true) (selB ((!(nth r0 0).toBool) == false) (PV.bool (neI (selB ((!(nth r0 0).toBool) == false) (selB ((!(nth r0 0).toBool) == false) ((nth g1 0).fld 0) PV.unit) PV.unit).toInt (0 : Int))) PV.unit)).toBool
  (some [(PV.bool false)])
  (thenN (thenE (loopEv (L44_1 I n) n [(PV.int (0 : Int)), (PV.int ((nth a 0).toList.length : Int)), (nth a 0), (nth a 0)])
  (passB 0))
  (fun p10 => (some [(PV.bool true)]))
  (retE fun q11 => [(nth q11 0)])))))
theorem e44 : ∀ I n a, (compF Try.prog sg 44).map (fun d => d.ev I n a) = some (F44 I n a) := fun I n a => by kernel_rfl
/-! spec.FunsOk -/
def L41_0 (I : Interp) (n : Nat) (p6 : List PV) : Option (Ex × List PV) :=
  (iff (ltI (nth p6 0).toInt (nth p6 1).toInt)
  (iff (geI (nth p6 2).toInt (0 : Int))
  (iff (ltI (nth p6 2).toInt ((nth p6 3).toList.length : Int))
  (iff (geI (nth p6 0).toInt (0 : Int))
  (iff (ltI (nth p6 0).toInt (((nth (nth p6 3).toList (nth p6 2).toInt.toNat).fld 1).toList.length : Int))
  ((I 81 [(nth p6 3), (nth p6 2), (nth ((nth (nth p6 3).toList (nth p6 2).toInt.toNat).fld 1).toList (nth p6 0).toInt.toNat)]).bind fun r7 =>
  (iff (!(nth r7 0).toBool)
  (some (Ex.r, [(PV.bool false)]))
  (some (Ex.n, [(PV.int (IntKind.i64.wrap ((nth p6 0).toInt + (1 : Int)))), (nth p6 1), (nth p6 2), (nth p6 3)]))))
  none)
  none)
  none)
  none)
  (some (Ex.x 2, [(nth p6 1), (nth p6 2), (nth p6 3)])))
def L41_1 (I : Interp) (n : Nat) (p2 : List PV) : Option (Ex × List PV) :=
  (iff (ltI (nth p2 0).toInt ((nth p2 1).toList.length : Int))
  (iff (geI (nth p2 0).toInt (0 : Int))
  (iff (ltI (nth p2 0).toInt ((nth p2 1).toList.length : Int))
  (iff (geI (nth p2 0).toInt (0 : Int))
  (iff (ltI (nth p2 0).toInt ((nth p2 1).toList.length : Int))
  ((I 51 [((nth (nth p2 1).toList (nth p2 0).toInt.toNat).fld 0), (PV.int (0 : Int)), (PV.int (20 : Int))]).bind fun r3 =>
  ((iff ((!(nth r3 0).toBool) == false)
  ((I 51 [(selB ((!(nth r3 0).toBool) == false) (PV.int (((nth (nth p2 1).toList (nth p2 0).toInt.toNat).fld 1).toList.length : Int)) PV.unit), (PV.int (1 : Int)), (PV.int (3000 : Int))]).bind fun r4 =>
  (some [(nth r4 0), (nth r4 0)]))
  (some [PV.unit, PV.unit])).bind fun g5 =>
  (iff (selB (!(nth r3 0).toBool) (PV.bool true) (selB ((!(nth r3 0).toBool) == false) (PV.bool (!(nth g5 0).toBool)) PV.unit)).toBool
  (some (Ex.r, [(PV.bool false)]))
  (thenN (thenE (loopEv (L41_0 I n) n [(PV.int (0 : Int)), (PV.int (((nth (nth p2 1).toList (nth p2 0).toInt.toNat).fld 1).toList.length : Int)), (nth p2 0), (nth p2 1)])
  (passB 2))
  (fun p8 => (iff (geI (nth p8 1).toInt (0 : Int))
  (iff (ltI (nth p8 1).toInt ((nth p8 2).toList.length : Int))
  (iff (geI (IntKind.i64.wrap ((nth p8 0).toInt - (1 : Int))) (0 : Int))
  (iff (ltI (IntKind.i64.wrap ((nth p8 0).toInt - (1 : Int))) (((nth (nth p8 2).toList (nth p8 1).toInt.toNat).fld 1).toList.length : Int))
  (iff (selB (selB (neI ((nth ((nth (nth p8 2).toList (nth p8 1).toInt.toNat).fld 1).toList (IntKind.i64.wrap ((nth p8 0).toInt - (1 : Int))).toNat).fld 0).toInt (7 : Int)) (selB ((neI ((nth ((nth (nth p8 2).toList (nth p8 1).toInt.toNat).fld 1).toList (IntKind.i64.wrap ((nth p8 0).toInt - (1 : Int))).toNat).fld 0).toInt (7 : Int)) == true) (PV.bool (neI (selB ((neI ((nth ((nth (nth p8 2).toList (nth p8 1).toInt.toNat).fld 1).toList (IntKind.i64.wrap ((nth p8 0).toInt - (1 : Int))).toNat).fld 0).toInt (7 : Int)) == true) ((nth ((nth (nth p8 2).toList (nth p8 1).toInt.toNat).fld 1).toList (IntKind.i64.wrap ((nth p8 0).toInt - (1 : Int))).toNat).fld 0) PV.unit).toInt (19 : Int))) PV.unit) (PV.bool false)).toBool (selB ((selB (neI ((nth ((nth (nth p8 2).toList (nth p8 1).toInt.toNat).fld 1).toList (IntKind.i64.wrap ((nth p8 0).toInt - (1 : Int))).toNat).fld 0).toInt (7 : Int)) (selB ((neI ((nth ((nth (nth p8 2).toList (nth p8 1).toInt.toNat).fld 1).toList (IntKind.i64.wrap ((nth p8 0).toInt - (1 : Int))).toNat).fld 0).toInt (7 : Int)) == true) (PV.bool (neI (selB ((neI ((nth ((nth (nth p8 2).toList (nth p8 1).toInt.toNat).fld 1).toList (IntKind.i64.wrap ((nth p8 0).toInt - (1 : Int))).toNat).fld 0).toInt (7 : Int)) == true) ((nth ((nth (nth p8 2).toList (nth p8 1).toInt.toNat).fld 1).toList (IntKind.i64.wrap ((nth p8 0).toInt - (1 : Int))).toNat).fld 0) PV.unit).toInt (19 : Int))) PV.unit) (PV.bool false)).isB true) (PV.bool (neI (selB ((selB (neI ((nth ((nth (nth p8 2).toList (nth p8 1).toInt.toNat).fld 1).toList (IntKind.i64.wrap ((nth p8 0).toInt - (1 : Int))).toNat).fld 0).toInt (7 : Int)) (selB ((neI ((nth ((nth (nth p8 2).toList (nth p8 1).toInt.toNat).fld 1).toList (IntKind.i64.wrap ((nth p8 0).toInt - (1 : Int))).toNat).fld 0).toInt (7 : Int)) == true) (PV.bool (neI (selB ((neI ((nth ((nth (nth p8 2).toList (nth p8 1).toInt.toNat).fld 1).toList (IntKind.i64.wrap ((nth p8 0).toInt - (1 : Int))).toNat).fld 0).toInt (7 : Int)) == true) ((nth ((nth (nth p8 2).toList (nth p8 1).toInt.toNat).fld 1).toList (IntKind.i64.wrap ((nth p8 0).toInt - (1 : Int))).toNat).fld 0) PV.unit).toInt (19 : Int))) PV.unit) (PV.bool false)).isB true) ((nth ((nth (nth p8 2).toList (nth p8 1).toInt.toNat).fld 1).toList (IntKind.i64.wrap ((nth p8 0).toInt - (1 : Int))).toNat).fld 0) PV.unit).toInt (21 : Int))) PV.unit) (PV.bool false)).toBool
  (some (Ex.r, [(PV.bool false)]))
  (some (Ex.n, [(PV.int (IntKind.i64.wrap ((nth p8 1).toInt + (1 : Int)))), (nth p8 2)])))
  none)
  none)
  none)
  none))
  passE))))
  none)
  none)
  none)
  none)
  (some (Ex.x 0, [])))
def F41 (I : Interp) (n : Nat) (a : List PV) : Option (List PV) :=
  ((I 51 [(PV.int ((nth a 0).toList.length : Int)), (PV.int (1 : Int)), (PV.int (60 : Int))]).bind fun r0 =>
  ((iff ((!(nth r0 0).toBool) == false)
  (iff (geI (0 : Int) (0 : Int))
  (iff (ltI (0 : Int) ((selB ((!(nth r0 0).toBool) == false) (nth a 0) PV.unit).toList.length : Int))
  (some [(nth (selB ((!(nth r0 0).toBool) == false) (nth a 0) PV.unit).toList (0 : Int).toNat), (nth (selB ((!(nth r0 0).toBool) == false) (nth a 0) PV.unit).toList (0 : Int).toNat)])
  none)
  none)
  (some [PV.unit, PV.unit])).bind fun g1 =>
  (iff (selB (!(nth r0 0).toBool) (PV.bool true) (selB ((!(nth r0 0).toBool) == false) (PV.bool (neI (selB ((!(nth r0 0).toBool) == false) (selB ((!(nth r0 0).toBool) == false) ((nth g1 0).fld 0) PV.unit) PV.unit).toInt (0 : Int))) PV.unit)).toBool
  (some [(PV.bool false)])
  (thenN (thenE (loopEv (L41_1 I n) n [(PV.int (0 : Int)), (nth a 0)])
  (passB 0))
  (fun p9 => (some [(PV.bool true)]))
  (retE fun q10 => [(nth q10 0)])))))
theorem e41 : ∀ I n a, (compF Try.prog sg 41).map (fun d => d.ev I n a) = some (F41 I n a) := fun I n a => by kernel_rfl
/-! spec.FunsOf -/
def L18_0 (I : Interp) (n : Nat) (p4 : List PV) : Option (Ex × List PV) :=
  (iff (selB (ltI (nth p4 0).toInt (nth p4 1).toInt) (selB ((ltI (nth p4 0).toInt (nth p4 1).toInt) == true) ((nth p4 7).fld 2) PV.unit) (PV.bool false)).toBool
  ((I 48 [(nth p4 7)]).bind fun r5 =>
  ((I 48 [(nth r5 1)]).bind fun r6 =>
  ((I 48 [(nth r6 1)]).bind fun r7 =>
  (iff (leN (((nth p4 6).fld 1).toList.length + ((PV.agg [(nth r5 0), (PV.int (IntKind.i64.wrap ((nth r6 0).toInt - (1073741824 : Int)))), (nth r7 0)]) :: []).length) 5864062014805)
  (some (Ex.n, [(PV.int (IntKind.i64.wrap ((nth p4 0).toInt + (1 : Int)))), (nth p4 1), (nth p4 2), (nth p4 3), (nth p4 4), (nth p4 5), (((nth p4 6).setFld 1 PV.unit).setFld 1 (PV.list (((nth p4 6).fld 1).toList ++ ((PV.agg [(nth r5 0), (PV.int (IntKind.i64.wrap ((nth r6 0).toInt - (1073741824 : Int)))), (nth r7 0)]) :: [])))), (nth r7 1)]))
  none))))
  (some (Ex.x 2, [(nth p4 2), (nth p4 3), (nth p4 4), (nth p4 5), (nth p4 6), (nth p4 7)])))
def L18_1 (I : Interp) (n : Nat) (p1 : List PV) : Option (Ex × List PV) :=
  (iff (selB (ltI (nth p1 0).toInt (nth p1 1).toInt) (selB ((ltI (nth p1 0).toInt (nth p1 1).toInt) == true) ((nth p1 4).fld 2) PV.unit) (PV.bool false)).toBool
  ((I 48 [(nth p1 4)]).bind fun r2 =>
  ((I 48 [(nth r2 1)]).bind fun r3 =>
  (thenN (thenE (loopEv (L18_0 I n) n [(PV.int (0 : Int)), (nth r3 0), (nth p1 3), (nth p1 0), (nth p1 1), (nth p1 2), (PV.agg [(nth r2 0), (PV.list [])]), (nth r3 1)])
  (passB 2))
  (fun p8 => (iff (leN ((nth p8 0).toList.length + ((nth p8 4) :: []).length) 4398046511104)
  (some (Ex.n, [(PV.int (IntKind.i64.wrap ((nth p8 1).toInt + (1 : Int)))), (nth p8 2), (nth p8 3), (PV.list ((nth p8 0).toList ++ ((nth p8 4) :: []))), (nth p8 5)]))
  none))
  passE)))
  (some (Ex.x 0, [(nth p1 2), (nth p1 3), (nth p1 4)])))
def F18 (I : Interp) (n : Nat) (a : List PV) : Option (List PV) :=
  ((I 48 [(PV.agg [(nth a 0), (PV.int (0 : Int)), (PV.bool true)])]).bind fun r0 =>
  (thenN (thenE (loopEv (L18_1 I n) n [(PV.int (0 : Int)), (nth r0 0), (nth a 0), (PV.list []), (nth r0 1)])
  (passB 0))
  (fun p9 => ((iff ((selB (!((nth p9 2).fld 2).toBool) (PV.bool true) (selB ((!((nth p9 2).fld 2).toBool) == false) (PV.bool (neI (selB ((!((nth p9 2).fld 2).toBool) == false) ((nth p9 2).fld 1) PV.unit).toInt (selB ((!((nth p9 2).fld 2).toBool) == false) (PV.int ((selB ((!((nth p9 2).fld 2).toBool) == false) (nth p9 0) PV.unit).toList.length : Int)) PV.unit).toInt)) PV.unit)).isB false)
  ((I 41 [(nth p9 1)]).bind fun r10 =>
  (some [(nth r10 0), (nth r10 0)]))
  (some [PV.unit, PV.unit])).bind fun g11 =>
  (iff (selB (selB (!((nth p9 2).fld 2).toBool) (PV.bool true) (selB ((!((nth p9 2).fld 2).toBool) == false) (PV.bool (neI (selB ((!((nth p9 2).fld 2).toBool) == false) ((nth p9 2).fld 1) PV.unit).toInt (selB ((!((nth p9 2).fld 2).toBool) == false) (PV.int ((selB ((!((nth p9 2).fld 2).toBool) == false) (nth p9 0) PV.unit).toList.length : Int)) PV.unit).toInt)) PV.unit)).toBool (PV.bool true) (selB ((selB (!((nth p9 2).fld 2).toBool) (PV.bool true) (selB ((!((nth p9 2).fld 2).toBool) == false) (PV.bool (neI (selB ((!((nth p9 2).fld 2).toBool) == false) ((nth p9 2).fld 1) PV.unit).toInt (selB ((!((nth p9 2).fld 2).toBool) == false) (PV.int ((selB ((!((nth p9 2).fld 2).toBool) == false) (nth p9 0) PV.unit).toList.length : Int)) PV.unit).toInt)) PV.unit)).isB false) (PV.bool (!(nth g11 0).toBool)) PV.unit)).toBool
  (some [(PV.list []), (PV.bool false)])
  (some [(nth p9 1), (PV.bool true)]))))
  (retE fun q12 => [(nth q12 0), (nth q12 1)])))
theorem e18 : ∀ I n a, (compF Try.prog sg 18).map (fun d => d.ev I n a) = some (F18 I n a) := fun I n a => by kernel_rfl
/-! impl.FunsOf -/
def L20_0 (I : Interp) (n : Nat) (p4 : List PV) : Option (Ex × List PV) :=
  (iff (selB (ltI (nth p4 0).toInt (nth p4 1).toInt) (selB ((ltI (nth p4 0).toInt (nth p4 1).toInt) == true) (PV.bool (!(selB ((ltI (nth p4 0).toInt (nth p4 1).toInt) == true) ((nth p4 7).fld 2) PV.unit).toBool)) PV.unit) (PV.bool false)).toBool
  ((I 49 [(nth p4 7)]).bind fun r5 =>
  ((I 49 [(nth r5 1)]).bind fun r6 =>
  ((I 49 [(nth r6 1)]).bind fun r7 =>
  (iff (leN (((nth p4 6).fld 1).toList.length + ((PV.agg [(nth r5 0), (PV.int (IntKind.i64.wrap ((nth r6 0).toInt - (1073741824 : Int)))), (nth r7 0)]) :: []).length) 5864062014805)
  (some (Ex.n, [(PV.int (IntKind.i64.wrap ((nth p4 0).toInt + (1 : Int)))), (nth p4 1), (nth p4 2), (nth p4 3), (nth p4 4), (nth p4 5), (((nth p4 6).setFld 1 PV.unit).setFld 1 (PV.list (((nth p4 6).fld 1).toList ++ ((PV.agg [(nth r5 0), (PV.int (IntKind.i64.wrap ((nth r6 0).toInt - (1073741824 : Int)))), (nth r7 0)]) :: [])))), (nth r7 1)]))
  none))))
  (some (Ex.x 2, [(nth p4 2), (nth p4 3), (nth p4 4), (nth p4 5), (nth p4 6), (nth p4 7)])))
def L20_1 (I : Interp) (n : Nat) (p1 : List PV) : Option (Ex × List PV) :=
  (iff (selB (ltI (nth p1 0).toInt (nth p1 1).toInt) (selB ((ltI (nth p1 0).toInt (nth p1 1).toInt) == true) (PV.bool (!(selB ((ltI (nth p1 0).toInt (nth p1 1).toInt) == true) ((nth p1 4).fld 2) PV.unit).toBool)) PV.unit) (PV.bool false)).toBool
  ((I 49 [(nth p1 4)]).bind fun r2 =>
  ((I 49 [(nth r2 1)]).bind fun r3 =>
  (thenN (thenE (loopEv (L20_0 I n) n [(PV.int (0 : Int)), (nth r3 0), (nth p1 3), (nth p1 0), (nth p1 1), (nth p1 2), (PV.agg [(nth r2 0), (PV.list [])]), (nth r3 1)])
  (passB 2))
  (fun p8 => (iff (leN ((nth p8 0).toList.length + ((nth p8 4) :: []).length) 4398046511104)
  (some (Ex.n, [(PV.int (IntKind.i64.wrap ((nth p8 1).toInt + (1 : Int)))), (nth p8 2), (nth p8 3), (PV.list ((nth p8 0).toList ++ ((nth p8 4) :: []))), (nth p8 5)]))
  none))
  passE)))
  (some (Ex.x 0, [(nth p1 2), (nth p1 3), (nth p1 4)])))
def F20 (I : Interp) (n : Nat) (a : List PV) : Option (List PV) :=
  ((I 49 [(PV.agg [(nth a 0), (PV.int (0 : Int)), (PV.bool false)])]).bind fun r0 =>
  (thenN (thenE (loopEv (L20_1 I n) n [(PV.int (0 : Int)), (nth r0 0), (nth a 0), (PV.list []), (nth r0 1)])
  (passB 0))
  (fun p9 => ((iff ((selB ((nth p9 2).fld 2).toBool (PV.bool true) (selB (((nth p9 2).fld 2).isB false) (PV.bool (neI (selB (((nth p9 2).fld 2).isB false) ((nth p9 2).fld 1) PV.unit).toInt (selB (((nth p9 2).fld 2).isB false) (PV.int ((selB (((nth p9 2).fld 2).isB false) (nth p9 0) PV.unit).toList.length : Int)) PV.unit).toInt)) PV.unit)).isB false)
  ((I 44 [(nth p9 1)]).bind fun r10 =>
  (some [(nth r10 0), (nth r10 0)]))
  (some [PV.unit, PV.unit])).bind fun g11 =>
  (iff (selB (selB ((nth p9 2).fld 2).toBool (PV.bool true) (selB (((nth p9 2).fld 2).isB false) (PV.bool (neI (selB (((nth p9 2).fld 2).isB false) ((nth p9 2).fld 1) PV.unit).toInt (selB (((nth p9 2).fld 2).isB false) (PV.int ((selB (((nth p9 2).fld 2).isB false) (nth p9 0) PV.unit).toList.length : Int)) PV.unit).toInt)) PV.unit)).toBool (PV.bool true) (selB ((selB ((nth p9 2).fld 2).toBool (PV.bool true) (selB (((nth p9 2).fld 2).isB false) (PV.bool (neI (selB (((nth p9 2).fld 2).isB false) ((nth p9 2).fld 1) PV.unit).toInt (selB (((nth p9 2).fld 2).isB false) (PV.int ((selB (((nth p9 2).fld 2).isB false) (nth p9 0) PV.unit).toList.length : Int)) PV.unit).toInt)) PV.unit)).isB false) (PV.bool (!(nth g11 0).toBool)) PV.unit)).toBool
  (some [(PV.list []), (PV.bool false)])
  (some [(nth p9 1), (PV.bool true)]))))
  (retE fun q12 => [(nth q12 0), (nth q12 1)])))
theorem e20 : ∀ I n a, (compF Try.prog sg 20).map (fun d => d.ev I n a) = some (F20 I n a) := fun I n a => by kernel_rfl
/-! laws.FnExactFunsOf -/
def F4 (I : Interp) (n : Nat) (a : List PV) : Option (List PV) :=
  (iff (gtI ((nth a 0).toList.length : Int) (1048576 : Int))
  (some [(PV.bool true)])
  ((I 19 [(nth a 0)]).bind fun r0 =>
  ((I 18 [(nth r0 0)]).bind fun r1 =>
  ((I 19 [(nth a 0)]).bind fun r2 =>
  ((I 20 [(nth r2 0)]).bind fun r3 =>
  ((I 14 [(nth r3 0), (nth r1 0)]).bind fun r4 =>
  (iff (selB (!(nth r4 0).toBool) (PV.bool true) (selB ((!(nth r4 0).toBool) == false) (PV.bool (((selB ((!(nth r4 0).toBool) == false) (nth r3 1) PV.unit).toBool == (selB ((!(nth r4 0).toBool) == false) (nth r1 1) PV.unit).toBool) == false)) PV.unit)).toBool
  (some [(PV.bool false)])
  ((I 19 [(nth a 0)]).bind fun r5 =>
  ((I 13 [(nth r2 0), (nth r5 0)]).bind fun r6 =>
  (iff (!(nth r6 0).toBool)
  (some [(PV.bool false)])
  ((I 16 [(nth r2 0), (PV.int (1 : Int))]).bind fun r7 =>
  ((iff ((ltI (nth r7 0).toInt (0 : Int)) == false)
  ((I 14 [(nth r3 0), (nth r1 0)]).bind fun r8 =>
  (some [(nth r8 0), (nth r8 0)]))
  (some [PV.unit, PV.unit])).bind fun g9 =>
  (iff (selB (selB (ltI (nth r7 0).toInt (0 : Int)) (PV.bool true) (selB ((ltI (nth r7 0).toInt (0 : Int)) == false) (PV.bool (!(nth g9 0).toBool)) PV.unit)).toBool (PV.bool true) (selB ((selB (ltI (nth r7 0).toInt (0 : Int)) (PV.bool true) (selB ((ltI (nth r7 0).toInt (0 : Int)) == false) (PV.bool (!(nth g9 0).toBool)) PV.unit)).isB false) (PV.bool (((selB ((selB (ltI (nth r7 0).toInt (0 : Int)) (PV.bool true) (selB ((ltI (nth r7 0).toInt (0 : Int)) == false) (PV.bool (!(nth g9 0).toBool)) PV.unit)).isB false) (nth r3 1) PV.unit).toBool == (selB ((selB (ltI (nth r7 0).toInt (0 : Int)) (PV.bool true) (selB ((ltI (nth r7 0).toInt (0 : Int)) == false) (PV.bool (!(nth g9 0).toBool)) PV.unit)).isB false) (nth r1 1) PV.unit).toBool) == false)) PV.unit)).toBool
  (some [(PV.bool false)])
  ((I 15 [(nth r3 0), (PV.int (1 : Int))]).bind fun r10 =>
  ((I 21 [(nth r10 1), (PV.int (1 : Int))]).bind fun r11 =>
  (iff (ltI (nth r11 0).toInt (0 : Int))
  (some [(PV.bool false)])
  (iff (neI (nth r11 0).toInt (nth r10 0).toInt)
  (some [(PV.bool false)])
  ((I 19 [(nth a 0)]).bind fun r12 =>
  ((I 20 [(nth r12 0)]).bind fun r13 =>
  ((I 14 [(nth r13 0), (nth r1 0)]).bind fun r14 =>
  (iff (selB (!(nth r14 0).toBool) (PV.bool true) (selB ((!(nth r14 0).toBool) == false) (PV.bool (((selB ((!(nth r14 0).toBool) == false) (nth r13 1) PV.unit).toBool == (selB ((!(nth r14 0).toBool) == false) (nth r1 1) PV.unit).toBool) == false)) PV.unit)).toBool
  (some [(PV.bool false)])
  ((I 21 [(nth r10 1), (PV.int (1 : Int))]).bind fun r15 =>
  (iff (ltI (nth r15 0).toInt (0 : Int))
  (some [(PV.bool false)])
  (iff (neI (nth r15 0).toInt (nth r10 0).toInt)
  (some [(PV.bool false)])
  (some [(PV.bool true)])))))))))))))))))))))))))
theorem e4 : ∀ I n a, (compF Try.prog sg 4).map (fun d => d.ev I n a) = some (F4 I n a) := fun I n a => by kernel_rfl
end Go.Proofs.Ytfnhimhmhinjdaa.GFnExactFunsOf
