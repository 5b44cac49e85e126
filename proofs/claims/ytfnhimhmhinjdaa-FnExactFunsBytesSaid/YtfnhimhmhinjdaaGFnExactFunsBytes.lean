/- The pure programs of the functions that the law FnExactFunsBytes reaches, out of the compiled code. No conditions. -/
import Derived.Test.YtfnhimhmhinjdaaRows
import Derived.Test.YtfnhimhmhinjdaaRscZn
namespace Go.Proofs.Ytfnhimhmhinjdaa.GFnExactFunsBytes
open Go Go.Rsc Go.Proofs.Ytfnhimhmhinjdaa
set_option maxRecDepth 100000
set_option linter.unusedVariables false
def sg : FuncId → Option Sig := fun f => match f with
  | 54 => some { ps := [PM.ro (SD.int (IntKind.i64)), PM.ro (SD.int (IntKind.i64)), PM.ro (SD.int (IntKind.i64))], rs := [RM.v (SD.bool)] }
  | 17 => some { ps := [PM.ro (SD.bor 5), PM.ro (SD.int (IntKind.i64))], rs := [RM.v (SD.int (IntKind.i64))] }
  | 16 => some { ps := [PM.mut (SD.own 5 false), PM.ro (SD.int (IntKind.i64))], rs := [RM.v (SD.int (IntKind.i64))] }
  | 4112 => some { ps := [PM.mv (SD.own 5 false), PM.ro (SD.int (IntKind.i64))], rs := [RM.v (SD.int (IntKind.i64))] }
  | 51 => some { ps := [PM.ro (SD.int (IntKind.i64)), PM.ro (SD.int (IntKind.i64)), PM.ro (SD.int (IntKind.i64))], rs := [RM.v (SD.bool)] }
  | 47 => some { ps := [PM.mut (SD.own 71 false), PM.ro (SD.int (IntKind.i64))], rs := [RM.v (SD.int (IntKind.i64))] }
  | 4143 => some { ps := [PM.mv (SD.own 71 false), PM.ro (SD.int (IntKind.i64))], rs := [RM.v (SD.int (IntKind.i64))] }
  | 108 => some { ps := [PM.ro (SD.sc (SD.int (IntKind.i64)) (SD.sc (SD.int (IntKind.i64)) (SD.sc (SD.int (IntKind.i64)) (SD.sn)))), PM.ro (SD.sc (SD.int (IntKind.i64)) (SD.sc (SD.int (IntKind.i64)) (SD.sc (SD.int (IntKind.i64)) (SD.sn))))], rs := [RM.v (SD.bool)] }
  | 13 => some { ps := [PM.ro (SD.bor 5), PM.ro (SD.bor 5)], rs := [RM.v (SD.bool)] }
  | 106 => some { ps := [PM.ro (SD.sc (SD.int (IntKind.i64)) (SD.sc (SD.int (IntKind.i64)) (SD.sc (SD.int (IntKind.i64)) (SD.sn))))], rs := [RM.v (SD.sc (SD.int (IntKind.i64)) (SD.sc (SD.int (IntKind.i64)) (SD.sc (SD.int (IntKind.i64)) (SD.sn))))] }
  | 80 => some { ps := [PM.ro (SD.bor 155), PM.ro (SD.int (IntKind.i64))], rs := [RM.v (SD.int (IntKind.i64))] }
  | 15 => some { ps := [PM.mut (SD.own 69 true), PM.ro (SD.int (IntKind.i64))], rs := [RM.v (SD.int (IntKind.i64))] }
  | 4111 => some { ps := [PM.mv (SD.own 69 true), PM.ro (SD.int (IntKind.i64))], rs := [RM.v (SD.int (IntKind.i64))] }
  | 45 => some { ps := [PM.ro (SD.int (IntKind.i64))], rs := [RM.v (SD.own 5 false)] }
  | 102 => some { ps := [PM.ro (SD.int (IntKind.i64))], rs := [RM.v (SD.bool)] }
  | 82 => some { ps := [PM.ro (SD.bor 155)], rs := [RM.v (SD.own 71 false)] }
  | 107 => some { ps := [PM.ro (SD.int (IntKind.i64)), PM.rp (SD.sc (SD.int (IntKind.i64)) (SD.sc (SD.bor 71) (SD.sn)))], rs := [RM.v (SD.bool)] }
  | 42 => some { ps := [PM.ro (SD.int (IntKind.i64))], rs := [RM.v (SD.own 5 false)] }
  | 105 => some { ps := [PM.ro (SD.int (IntKind.i64))], rs := [RM.v (SD.bool)] }
  | 101 => some { ps := [PM.ro (SD.int (IntKind.i64))], rs := [RM.v (SD.bool)] }
  | 40 => some { ps := [PM.ro (SD.sc (SD.int (IntKind.i64)) (SD.sc (SD.bor 155) (SD.sn))), PM.ro (SD.int (IntKind.i64))], rs := [RM.v (SD.int (IntKind.i64))] }
  | 84 => some { ps := [PM.ro (SD.bor 71), PM.ro (SD.bor 71)], rs := [RM.v (SD.bool)] }
  | 46 => some { ps := [PM.ro (SD.sc (SD.int (IntKind.i64)) (SD.sc (SD.bor 71) (SD.sn))), PM.ro (SD.sc (SD.int (IntKind.i64)) (SD.sc (SD.bor 71) (SD.sn)))], rs := [RM.v (SD.bool)] }
  | 9 => some { ps := [PM.ro (SD.bor 65), PM.ro (SD.int (IntKind.i64))], rs := [RM.v (SD.int (IntKind.i64))] }
  | 43 => some { ps := [PM.ro (SD.sc (SD.int (IntKind.i64)) (SD.sc (SD.bor 155) (SD.sn)))], rs := [RM.v (SD.sc (SD.int (IntKind.i64)) (SD.sc (SD.own 71 false) (SD.sn)))] }
  | 83 => some { ps := [PM.ro (SD.bor 69), PM.ro (SD.sc (SD.int (IntKind.i64)) (SD.sc (SD.bor 71) (SD.sn))), PM.ro (SD.int (IntKind.i64)), PM.ro (SD.sc (SD.int (IntKind.i64)) (SD.sc (SD.int (IntKind.i64)) (SD.sc (SD.int (IntKind.i64)) (SD.sn))))], rs := [RM.v (SD.bool)] }
  | 11 => some { ps := [PM.ro (SD.bor 65)], rs := [RM.v (SD.own 69 true)] }
  | 14 => some { ps := [PM.ro (SD.bor 69), PM.ro (SD.bor 69)], rs := [RM.v (SD.bool)] }
  | 81 => some { ps := [PM.ro (SD.bor 69), PM.ro (SD.int (IntKind.i64)), PM.ro (SD.sc (SD.int (IntKind.i64)) (SD.sc (SD.int (IntKind.i64)) (SD.sc (SD.int (IntKind.i64)) (SD.sn))))], rs := [RM.v (SD.bool)] }
  | 44 => some { ps := [PM.ro (SD.bor 69)], rs := [RM.v (SD.bool)] }
  | 41 => some { ps := [PM.ro (SD.bor 69)], rs := [RM.v (SD.bool)] }
  | 12 => some { ps := [PM.ro (SD.bor 69)], rs := [RM.v (SD.own 5 false)] }
  | 10 => some { ps := [PM.ro (SD.bor 69)], rs := [RM.v (SD.own 5 false)] }
  | 3 => some { ps := [PM.ro (SD.bor 65)], rs := [RM.v (SD.bool)] }
  | _ => none
/-! impl.within -/
def F54 (I : Interp) (n : Nat) (a : List PV) : Option (List PV) :=
  (some [(selB (geI (nth a 0).toInt (nth a 1).toInt) (selB ((geI (nth a 0).toInt (nth a 1).toInt) == true) (PV.bool (leI (selB ((geI (nth a 0).toInt (nth a 1).toInt) == true) (nth a 0) PV.unit).toInt (selB ((geI (nth a 0).toInt (nth a 1).toInt) == true) (nth a 2) PV.unit).toInt)) PV.unit) (PV.bool false))])
theorem e54 : ∀ I n a, (compF Try.prog sg 54).map (fun d => d.ev I n a) = some (F54 I n a) := fun I n a => by kernel_rfl
/-! laws.heldByteS -/
def L17_0 (I : Interp) (n : Nat) (p0 : List PV) : Option (Ex × List PV) :=
  (iff (ltI (nth p0 0).toInt ((nth p0 1).toList.length : Int))
  (iff (geI (nth p0 0).toInt (0 : Int))
  (iff (ltI (nth p0 0).toInt ((nth p0 1).toList.length : Int))
  (iff (neI (nth (nth p0 1).toList (nth p0 0).toInt.toNat).toInt (IntKind.u8.wrap (nth p0 2).toInt))
  (some (Ex.r, [(PV.int (-1 : Int))]))
  (some (Ex.n, [(PV.int (IntKind.i64.wrap ((nth p0 0).toInt + (1 : Int)))), (nth p0 1), (PV.int (IntKind.i64.wrap ((nth p0 2).toInt + (1 : Int))))])))
  none)
  none)
  (some (Ex.x 0, [(nth p0 2)])))
def F17 (I : Interp) (n : Nat) (a : List PV) : Option (List PV) :=
  (thenN (thenE (loopEv (L17_0 I n) n [(PV.int (0 : Int)), (nth a 0), (nth a 1)])
  (passB 0))
  (fun p1 => (some [(nth p1 0)]))
  (retE fun q2 => [(nth q2 0)]))
theorem e17 : ∀ I n a, (compF Try.prog sg 17).map (fun d => d.ev I n a) = some (F17 I n a) := fun I n a => by kernel_rfl
/-! laws.markByteS -/
def L16_0 (I : Interp) (n : Nat) (p0 : List PV) : Option (Ex × List PV) :=
  (iff (ltI (nth p0 0).toInt ((nth p0 2).toList.length : Int))
  (iff (geI (nth p0 0).toInt (0 : Int))
  (iff (ltI (nth p0 0).toInt ((nth p0 2).toList.length : Int))
  (some (Ex.n, [(PV.int (IntKind.i64.wrap ((nth p0 0).toInt + (1 : Int)))), (PV.int (IntKind.i64.wrap ((nth p0 1).toInt + (1 : Int)))), (PV.list ((nth p0 2).toList.set (nth p0 0).toInt.toNat (PV.int (IntKind.u8.wrap (nth p0 1).toInt))))]))
  none)
  none)
  (some (Ex.x 0, [(nth p0 2), (nth p0 1)])))
def F16 (I : Interp) (n : Nat) (a : List PV) : Option (List PV) :=
  (thenN (thenE (loopEv (L16_0 I n) n [(PV.int (0 : Int)), (nth a 1), (nth a 0)])
  (passB 0))
  (fun p1 => (some [(nth p1 1), (nth p1 0)]))
  (retE fun q2 => [(nth q2 1), (nth q2 0)]))
theorem e16 : ∀ I n a, (compF Try.prog sg 16).map (fun d => d.ev I n a) = some (F16 I n a) := fun I n a => by kernel_rfl
/-! laws.markByteS -/
def L4112_0 (I : Interp) (n : Nat) (p0 : List PV) : Option (Ex × List PV) :=
  (iff (ltI (nth p0 0).toInt ((nth p0 1).toList.length : Int))
  (iff (geI (nth p0 0).toInt (0 : Int))
  (iff (ltI (nth p0 0).toInt ((nth p0 1).toList.length : Int))
  (some (Ex.n, [(PV.int (IntKind.i64.wrap ((nth p0 0).toInt + (1 : Int)))), (PV.list ((nth p0 1).toList.set (nth p0 0).toInt.toNat (PV.int (IntKind.u8.wrap (nth p0 2).toInt)))), (PV.int (IntKind.i64.wrap ((nth p0 2).toInt + (1 : Int))))]))
  none)
  none)
  (some (Ex.x 0, [(nth p0 2)])))
def F4112 (I : Interp) (n : Nat) (a : List PV) : Option (List PV) :=
  (thenN (thenE (loopEv (L4112_0 I n) n [(PV.int (0 : Int)), (nth a 0), (nth a 1)])
  (passB 0))
  (fun p1 => (some [(nth p1 0)]))
  (retE fun q2 => [(nth q2 0)]))
theorem e4112 : ∀ I n a, (compF Try.prog sg 4112).map (fun d => d.ev I n a) = some (F4112 I n a) := fun I n a => by kernel_rfl
/-! spec.l1In -/
def F51 (I : Interp) (n : Nat) (a : List PV) : Option (List PV) :=
  (some [(selB (geI (nth a 0).toInt (nth a 1).toInt) (selB ((geI (nth a 0).toInt (nth a 1).toInt) == true) (PV.bool (leI (selB ((geI (nth a 0).toInt (nth a 1).toInt) == true) (nth a 0) PV.unit).toInt (selB ((geI (nth a 0).toInt (nth a 1).toInt) == true) (nth a 2) PV.unit).toInt)) PV.unit) (PV.bool false))])
theorem e51 : ∀ I n a, (compF Try.prog sg 51).map (fun d => d.ev I n a) = some (F51 I n a) := fun I n a => by kernel_rfl
/-! laws.markOpS -/
def L47_0 (I : Interp) (n : Nat) (p0 : List PV) : Option (Ex × List PV) :=
  (iff (ltI (nth p0 0).toInt ((nth p0 2).toList.length : Int))
  (iff (geI (nth p0 0).toInt (0 : Int))
  (iff (ltI (nth p0 0).toInt ((nth p0 2).toList.length : Int))
  (iff (geI (nth p0 0).toInt (0 : Int))
  (iff (ltI (nth p0 0).toInt (((nth p0 2).toList.set (nth p0 0).toInt.toNat ((nth (nth p0 2).toList (nth p0 0).toInt.toNat).setFld 0 (nth p0 1))).length : Int))
  (iff (geI (nth p0 0).toInt (0 : Int))
  (iff (ltI (nth p0 0).toInt ((((nth p0 2).toList.set (nth p0 0).toInt.toNat ((nth (nth p0 2).toList (nth p0 0).toInt.toNat).setFld 0 (nth p0 1))).set (nth p0 0).toInt.toNat ((nth ((nth p0 2).toList.set (nth p0 0).toInt.toNat ((nth (nth p0 2).toList (nth p0 0).toInt.toNat).setFld 0 (nth p0 1))) (nth p0 0).toInt.toNat).setFld 1 (PV.int (IntKind.i64.wrap ((nth p0 1).toInt + (1 : Int)))))).length : Int))
  (some (Ex.n, [(PV.int (IntKind.i64.wrap ((nth p0 0).toInt + (1 : Int)))), (PV.int (IntKind.i64.wrap ((IntKind.i64.wrap ((IntKind.i64.wrap ((nth p0 1).toInt + (1 : Int))) + (1 : Int))) + (1 : Int)))), (PV.list ((((nth p0 2).toList.set (nth p0 0).toInt.toNat ((nth (nth p0 2).toList (nth p0 0).toInt.toNat).setFld 0 (nth p0 1))).set (nth p0 0).toInt.toNat ((nth ((nth p0 2).toList.set (nth p0 0).toInt.toNat ((nth (nth p0 2).toList (nth p0 0).toInt.toNat).setFld 0 (nth p0 1))) (nth p0 0).toInt.toNat).setFld 1 (PV.int (IntKind.i64.wrap ((nth p0 1).toInt + (1 : Int)))))).set (nth p0 0).toInt.toNat ((nth (((nth p0 2).toList.set (nth p0 0).toInt.toNat ((nth (nth p0 2).toList (nth p0 0).toInt.toNat).setFld 0 (nth p0 1))).set (nth p0 0).toInt.toNat ((nth ((nth p0 2).toList.set (nth p0 0).toInt.toNat ((nth (nth p0 2).toList (nth p0 0).toInt.toNat).setFld 0 (nth p0 1))) (nth p0 0).toInt.toNat).setFld 1 (PV.int (IntKind.i64.wrap ((nth p0 1).toInt + (1 : Int)))))) (nth p0 0).toInt.toNat).setFld 2 (PV.int (IntKind.i64.wrap ((IntKind.i64.wrap ((nth p0 1).toInt + (1 : Int))) + (1 : Int)))))))]))
  none)
  none)
  none)
  none)
  none)
  none)
  (some (Ex.x 0, [(nth p0 2), (nth p0 1)])))
def F47 (I : Interp) (n : Nat) (a : List PV) : Option (List PV) :=
  (thenN (thenE (loopEv (L47_0 I n) n [(PV.int (0 : Int)), (nth a 1), (nth a 0)])
  (passB 0))
  (fun p1 => (some [(nth p1 1), (nth p1 0)]))
  (retE fun q2 => [(nth q2 1), (nth q2 0)]))
theorem e47 : ∀ I n a, (compF Try.prog sg 47).map (fun d => d.ev I n a) = some (F47 I n a) := fun I n a => by kernel_rfl
/-! laws.markOpS -/
def L4143_0 (I : Interp) (n : Nat) (p0 : List PV) : Option (Ex × List PV) :=
  (iff (ltI (nth p0 0).toInt ((nth p0 1).toList.length : Int))
  (iff (geI (nth p0 0).toInt (0 : Int))
  (iff (ltI (nth p0 0).toInt ((nth p0 1).toList.length : Int))
  (iff (geI (nth p0 0).toInt (0 : Int))
  (iff (ltI (nth p0 0).toInt (((nth p0 1).toList.set (nth p0 0).toInt.toNat ((nth (nth p0 1).toList (nth p0 0).toInt.toNat).setFld 0 (nth p0 2))).length : Int))
  (iff (geI (nth p0 0).toInt (0 : Int))
  (iff (ltI (nth p0 0).toInt ((((nth p0 1).toList.set (nth p0 0).toInt.toNat ((nth (nth p0 1).toList (nth p0 0).toInt.toNat).setFld 0 (nth p0 2))).set (nth p0 0).toInt.toNat ((nth ((nth p0 1).toList.set (nth p0 0).toInt.toNat ((nth (nth p0 1).toList (nth p0 0).toInt.toNat).setFld 0 (nth p0 2))) (nth p0 0).toInt.toNat).setFld 1 (PV.int (IntKind.i64.wrap ((nth p0 2).toInt + (1 : Int)))))).length : Int))
  (some (Ex.n, [(PV.int (IntKind.i64.wrap ((nth p0 0).toInt + (1 : Int)))), (PV.list ((((nth p0 1).toList.set (nth p0 0).toInt.toNat ((nth (nth p0 1).toList (nth p0 0).toInt.toNat).setFld 0 (nth p0 2))).set (nth p0 0).toInt.toNat ((nth ((nth p0 1).toList.set (nth p0 0).toInt.toNat ((nth (nth p0 1).toList (nth p0 0).toInt.toNat).setFld 0 (nth p0 2))) (nth p0 0).toInt.toNat).setFld 1 (PV.int (IntKind.i64.wrap ((nth p0 2).toInt + (1 : Int)))))).set (nth p0 0).toInt.toNat ((nth (((nth p0 1).toList.set (nth p0 0).toInt.toNat ((nth (nth p0 1).toList (nth p0 0).toInt.toNat).setFld 0 (nth p0 2))).set (nth p0 0).toInt.toNat ((nth ((nth p0 1).toList.set (nth p0 0).toInt.toNat ((nth (nth p0 1).toList (nth p0 0).toInt.toNat).setFld 0 (nth p0 2))) (nth p0 0).toInt.toNat).setFld 1 (PV.int (IntKind.i64.wrap ((nth p0 2).toInt + (1 : Int)))))) (nth p0 0).toInt.toNat).setFld 2 (PV.int (IntKind.i64.wrap ((IntKind.i64.wrap ((nth p0 2).toInt + (1 : Int))) + (1 : Int))))))), (PV.int (IntKind.i64.wrap ((IntKind.i64.wrap ((IntKind.i64.wrap ((nth p0 2).toInt + (1 : Int))) + (1 : Int))) + (1 : Int))))]))
  none)
  none)
  none)
  none)
  none)
  none)
  (some (Ex.x 0, [(nth p0 2)])))
def F4143 (I : Interp) (n : Nat) (a : List PV) : Option (List PV) :=
  (thenN (thenE (loopEv (L4143_0 I n) n [(PV.int (0 : Int)), (nth a 0), (nth a 1)])
  (passB 0))
  (fun p1 => (some [(nth p1 0)]))
  (retE fun q2 => [(nth q2 0)]))
theorem e4143 : ∀ I n a, (compF Try.prog sg 4143).map (fun d => d.ev I n a) = some (F4143 I n a) := fun I n a => by kernel_rfl
/-! laws.eqOp -/
def F108 (I : Interp) (n : Nat) (a : List PV) : Option (List PV) :=
  (iff (neI ((nth a 0).fld 0).toInt ((nth a 1).fld 0).toInt)
  (some [(PV.bool false)])
  (iff (neI ((nth a 0).fld 1).toInt ((nth a 1).fld 1).toInt)
  (some [(PV.bool false)])
  (iff (neI ((nth a 0).fld 2).toInt ((nth a 1).fld 2).toInt)
  (some [(PV.bool false)])
  (some [(PV.bool true)]))))
theorem e108 : ∀ I n a, (compF Try.prog sg 108).map (fun d => d.ev I n a) = some (F108 I n a) := fun I n a => by kernel_rfl
/-! laws.eqByteS -/
def L13_0 (I : Interp) (n : Nat) (p0 : List PV) : Option (Ex × List PV) :=
  (iff (ltI (nth p0 0).toInt ((nth p0 1).toList.length : Int))
  (iff (geI (nth p0 0).toInt (0 : Int))
  (iff (ltI (nth p0 0).toInt ((nth p0 1).toList.length : Int))
  (iff (geI (nth p0 0).toInt (0 : Int))
  (iff (ltI (nth p0 0).toInt ((nth p0 2).toList.length : Int))
  (iff (neI (nth (nth p0 1).toList (nth p0 0).toInt.toNat).toInt (nth (nth p0 2).toList (nth p0 0).toInt.toNat).toInt)
  (some (Ex.r, [(PV.bool false)]))
  (some (Ex.n, [(PV.int (IntKind.i64.wrap ((nth p0 0).toInt + (1 : Int)))), (nth p0 1), (nth p0 2)])))
  none)
  none)
  none)
  none)
  (some (Ex.x 0, [])))
def F13 (I : Interp) (n : Nat) (a : List PV) : Option (List PV) :=
  (iff (neI ((nth a 0).toList.length : Int) ((nth a 1).toList.length : Int))
  (some [(PV.bool false)])
  (thenN (thenE (loopEv (L13_0 I n) n [(PV.int (0 : Int)), (nth a 0), (nth a 1)])
  (passB 0))
  (fun p1 => (some [(PV.bool true)]))
  (retE fun q2 => [(nth q2 0)])))
theorem e13 : ∀ I n a, (compF Try.prog sg 13).map (fun d => d.ev I n a) = some (F13 I n a) := fun I n a => by kernel_rfl
/-! laws.toOp -/
def F106 (I : Interp) (n : Nat) (a : List PV) : Option (List PV) :=
  (some [(PV.agg [((nth a 0).fld 0), ((nth a 0).fld 1), ((nth a 0).fld 2)])])
theorem e106 : ∀ I n a, (compF Try.prog sg 106).map (fun d => d.ev I n a) = some (F106 I n a) := fun I n a => by kernel_rfl
/-! laws.szOpS -/
def F80 (I : Interp) (n : Nat) (a : List PV) : Option (List PV) :=
  (iff (ltI (IntKind.i64.wrap ((nth a 1).toInt - ((nth a 0).toList.length : Int))) (0 : Int))
  (some [(PV.int (-1 : Int))])
  (some [(PV.int (IntKind.i64.wrap ((nth a 1).toInt - ((nth a 0).toList.length : Int))))]))
theorem e80 : ∀ I n a, (compF Try.prog sg 80).map (fun d => d.ev I n a) = some (F80 I n a) := fun I n a => by kernel_rfl
/-! laws.markFunS -/
def L15_0 (I : Interp) (n : Nat) (p0 : List PV) : Option (Ex × List PV) :=
  (iff (ltI (nth p0 0).toInt ((nth p0 2).toList.length : Int))
  (iff (geI (nth p0 0).toInt (0 : Int))
  (iff (ltI (nth p0 0).toInt ((nth p0 2).toList.length : Int))
  (iff (geI (nth p0 0).toInt (0 : Int))
  (iff (ltI (nth p0 0).toInt (((nth p0 2).toList.set (nth p0 0).toInt.toNat ((nth (nth p0 2).toList (nth p0 0).toInt.toNat).setFld 0 (nth p0 1))).length : Int))
  ((I 47 [((nth ((nth p0 2).toList.set (nth p0 0).toInt.toNat ((nth (nth p0 2).toList (nth p0 0).toInt.toNat).setFld 0 (nth p0 1))) (nth p0 0).toInt.toNat).fld 1), (PV.int (IntKind.i64.wrap ((nth p0 1).toInt + (1 : Int))))]).bind fun r1 =>
  (some (Ex.n, [(PV.int (IntKind.i64.wrap ((nth p0 0).toInt + (1 : Int)))), (nth r1 0), (PV.list (((nth p0 2).toList.set (nth p0 0).toInt.toNat ((nth (nth p0 2).toList (nth p0 0).toInt.toNat).setFld 0 (nth p0 1))).set (nth p0 0).toInt.toNat ((nth ((nth p0 2).toList.set (nth p0 0).toInt.toNat ((nth (nth p0 2).toList (nth p0 0).toInt.toNat).setFld 0 (nth p0 1))) (nth p0 0).toInt.toNat).setFld 1 (nth r1 1))))])))
  none)
  none)
  none)
  none)
  (some (Ex.x 0, [(nth p0 2), (nth p0 1)])))
def F15 (I : Interp) (n : Nat) (a : List PV) : Option (List PV) :=
  (thenN (thenE (loopEv (L15_0 I n) n [(PV.int (0 : Int)), (nth a 1), (nth a 0)])
  (passB 0))
  (fun p2 => (some [(nth p2 1), (nth p2 0)]))
  (retE fun q3 => [(nth q3 1), (nth q3 0)]))
theorem e15 : ∀ I n a, (compF Try.prog sg 15).map (fun d => d.ev I n a) = some (F15 I n a) := fun I n a => by kernel_rfl
/-! laws.markFunS -/
def L4111_0 (I : Interp) (n : Nat) (p0 : List PV) : Option (Ex × List PV) :=
  (iff (ltI (nth p0 0).toInt ((nth p0 1).toList.length : Int))
  (iff (geI (nth p0 0).toInt (0 : Int))
  (iff (ltI (nth p0 0).toInt ((nth p0 1).toList.length : Int))
  (iff (geI (nth p0 0).toInt (0 : Int))
  (iff (ltI (nth p0 0).toInt (((nth p0 1).toList.set (nth p0 0).toInt.toNat ((nth (nth p0 1).toList (nth p0 0).toInt.toNat).setFld 0 (nth p0 2))).length : Int))
  ((I 47 [((nth ((nth p0 1).toList.set (nth p0 0).toInt.toNat ((nth (nth p0 1).toList (nth p0 0).toInt.toNat).setFld 0 (nth p0 2))) (nth p0 0).toInt.toNat).fld 1), (PV.int (IntKind.i64.wrap ((nth p0 2).toInt + (1 : Int))))]).bind fun r1 =>
  (some (Ex.n, [(PV.int (IntKind.i64.wrap ((nth p0 0).toInt + (1 : Int)))), (PV.list (((nth p0 1).toList.set (nth p0 0).toInt.toNat ((nth (nth p0 1).toList (nth p0 0).toInt.toNat).setFld 0 (nth p0 2))).set (nth p0 0).toInt.toNat ((nth ((nth p0 1).toList.set (nth p0 0).toInt.toNat ((nth (nth p0 1).toList (nth p0 0).toInt.toNat).setFld 0 (nth p0 2))) (nth p0 0).toInt.toNat).setFld 1 (nth r1 1)))), (nth r1 0)])))
  none)
  none)
  none)
  none)
  (some (Ex.x 0, [(nth p0 2)])))
def F4111 (I : Interp) (n : Nat) (a : List PV) : Option (List PV) :=
  (thenN (thenE (loopEv (L4111_0 I n) n [(PV.int (0 : Int)), (nth a 0), (nth a 1)])
  (passB 0))
  (fun p2 => (some [(nth p2 0)]))
  (retE fun q3 => [(nth q3 0)]))
theorem e4111 : ∀ I n a, (compF Try.prog sg 4111).map (fun d => d.ev I n a) = some (F4111 I n a) := fun I n a => by kernel_rfl
/-! impl.PutNum -/
def L45_0 (I : Interp) (n : Nat) (p1 : List PV) : Option (Ex × List PV) :=
  (iff (gtI (nth p1 1).toInt (127 : Int))
  (iff (leN ((nth p1 0).toList.length + ((PV.int (IntKind.u8.wrap (IntKind.i64.wrap ((arith BinOp.and IntKind.i64 (nth p1 1).toInt (127 : Int)) + (128 : Int))))) :: []).length) 140737488355328)
  (iff (geI (7 : Int) (0 : Int))
  (some (Ex.n, [(PV.list ((nth p1 0).toList ++ ((PV.int (IntKind.u8.wrap (IntKind.i64.wrap ((arith BinOp.and IntKind.i64 (nth p1 1).toInt (127 : Int)) + (128 : Int))))) :: []))), (PV.int (arith BinOp.shr IntKind.i64 (nth p1 1).toInt (7 : Int)))]))
  none)
  none)
  (some (Ex.x 0, [(nth p1 0), (nth p1 1)])))
def F45 (I : Interp) (n : Nat) (a : List PV) : Option (List PV) :=
  ((I 54 [(nth a 0), (PV.int (0 : Int)), (PV.int (2147483647 : Int))]).bind fun r0 =>
  (iff (!(nth r0 0).toBool)
  (some [(PV.list [])])
  (thenN (thenE (loopEv (L45_0 I n) n [(PV.list []), (nth a 0)])
  (passB 0))
  (fun p2 => (iff (leN ((nth p2 0).toList.length + ((PV.int (IntKind.u8.wrap (nth p2 1).toInt)) :: []).length) 140737488355328)
  (some [(PV.list ((nth p2 0).toList ++ ((PV.int (IntKind.u8.wrap (nth p2 1).toInt)) :: [])))])
  none))
  (retE fun q3 => [(nth q3 0)]))))
theorem e45 : ∀ I n a, (compF Try.prog sg 45).map (fun d => d.ev I n a) = some (F45 I n a) := fun I n a => by kernel_rfl
/-! impl.WordOk -/
def F102 (I : Interp) (n : Nat) (a : List PV) : Option (List PV) :=
  ((I 54 [(nth a 0), (PV.int (-1073741824 : Int)), (PV.int (1073741823 : Int))]).bind fun r0 =>
  (some [(nth r0 0)]))
theorem e102 : ∀ I n a, (compF Try.prog sg 102).map (fun d => d.ev I n a) = some (F102 I n a) := fun I n a => by kernel_rfl
/-! laws.toOpS -/
def L82_0 (I : Interp) (n : Nat) (p0 : List PV) : Option (Ex × List PV) :=
  (iff (ltI (nth p0 0).toInt ((nth p0 1).toList.length : Int))
  (iff (geI (nth p0 0).toInt (0 : Int))
  (iff (ltI (nth p0 0).toInt ((nth p0 1).toList.length : Int))
  ((I 106 [(nth (nth p0 1).toList (nth p0 0).toInt.toNat)]).bind fun r1 =>
  (iff (geI (nth p0 0).toInt (0 : Int))
  (iff (ltI (nth p0 0).toInt ((nth p0 2).toList.length : Int))
  (some (Ex.n, [(PV.int (IntKind.i64.wrap ((nth p0 0).toInt + (1 : Int)))), (nth p0 1), (PV.list ((nth p0 2).toList.set (nth p0 0).toInt.toNat (nth r1 0)))]))
  none)
  none))
  none)
  none)
  (some (Ex.x 0, [(nth p0 2)])))
def F82 (I : Interp) (n : Nat) (a : List PV) : Option (List PV) :=
  (iff (geI ((nth a 0).toList.length : Int) (0 : Int))
  (iff (leI ((nth a 0).toList.length : Int) ((nth a 0).toList.length : Int))
  (iff (leI ((nth a 0).toList.length : Int) (5864062014805 : Int))
  (thenN (thenE (loopEv (L82_0 I n) n [(PV.int (0 : Int)), (nth a 0), (PV.list (List.replicate ((nth a 0).toList.length : Int).toNat (PV.agg [(PV.int (0 : Int)), (PV.int (0 : Int)), (PV.int (0 : Int))])))])
  (passB 0))
  (fun p2 => (some [(nth p2 0)]))
  (retE fun q3 => [(nth q3 0)]))
  none)
  none)
  none)
theorem e82 : ∀ I n a, (compF Try.prog sg 82).map (fun d => d.ev I n a) = some (F82 I n a) := fun I n a => by kernel_rfl
/-! impl.opOk$1 -/
def F107 (I : Interp) (n : Nat) (a : List PV) : Option (List PV) :=
  ((I 54 [(nth a 0), (PV.int (0 : Int)), (PV.int (IntKind.i64.wrap ((((nth a 1).fld 1).toList.length : Int) - (1 : Int))))]).bind fun r0 =>
  (some [(nth r0 0)]))
theorem e107 : ∀ I n a, (compF Try.prog sg 107).map (fun d => d.ev I n a) = some (F107 I n a) := fun I n a => by kernel_rfl
/-! spec.PutNum -/
def L42_0 (I : Interp) (n : Nat) (p1 : List PV) : Option (Ex × List PV) :=
  (iff (gtI (nth p1 1).toInt (127 : Int))
  (iff (neI (128 : Int) (0 : Int))
  (iff (leN ((nth p1 0).toList.length + ((PV.int (IntKind.u8.wrap (IntKind.i64.wrap ((arith BinOp.rem IntKind.i64 (nth p1 1).toInt (128 : Int)) + (128 : Int))))) :: []).length) 140737488355328)
  (iff (neI (128 : Int) (0 : Int))
  (some (Ex.n, [(PV.list ((nth p1 0).toList ++ ((PV.int (IntKind.u8.wrap (IntKind.i64.wrap ((arith BinOp.rem IntKind.i64 (nth p1 1).toInt (128 : Int)) + (128 : Int))))) :: []))), (PV.int (arith BinOp.quo IntKind.i64 (nth p1 1).toInt (128 : Int)))]))
  none)
  none)
  none)
  (some (Ex.x 0, [(nth p1 0), (nth p1 1)])))
def F42 (I : Interp) (n : Nat) (a : List PV) : Option (List PV) :=
  ((I 51 [(nth a 0), (PV.int (0 : Int)), (PV.int (2147483647 : Int))]).bind fun r0 =>
  (iff (!(nth r0 0).toBool)
  (some [(PV.list [])])
  (thenN (thenE (loopEv (L42_0 I n) n [(PV.list []), (nth a 0)])
  (passB 0))
  (fun p2 => (iff (leN ((nth p2 0).toList.length + ((PV.int (IntKind.u8.wrap (nth p2 1).toInt)) :: []).length) 140737488355328)
  (some [(PV.list ((nth p2 0).toList ++ ((PV.int (IntKind.u8.wrap (nth p2 1).toInt)) :: [])))])
  none))
  (retE fun q3 => [(nth q3 0)]))))
theorem e42 : ∀ I n a, (compF Try.prog sg 42).map (fun d => d.ev I n a) = some (F42 I n a) := fun I n a => by kernel_rfl
/-! spec.l13Tag -/
def F105 (I : Interp) (n : Nat) (a : List PV) : Option (List PV) :=
  ((I 51 [(nth a 0), (PV.int (0 : Int)), (PV.int (19 : Int))]).bind fun r0 =>
  (some [(nth r0 0)]))
theorem e105 : ∀ I n a, (compF Try.prog sg 105).map (fun d => d.ev I n a) = some (F105 I n a) := fun I n a => by kernel_rfl
/-! spec.WordOk -/
def F101 (I : Interp) (n : Nat) (a : List PV) : Option (List PV) :=
  ((I 51 [(nth a 0), (PV.int (-1073741824 : Int)), (PV.int (1073741823 : Int))]).bind fun r0 =>
  (some [(nth r0 0)]))
theorem e101 : ∀ I n a, (compF Try.prog sg 101).map (fun d => d.ev I n a) = some (F101 I n a) := fun I n a => by kernel_rfl
/-! laws.szFun -/
def F40 (I : Interp) (n : Nat) (a : List PV) : Option (List PV) :=
  ((I 80 [((nth a 0).fld 1), (nth a 1)]).bind fun r0 =>
  (iff (ltI (nth r0 0).toInt (0 : Int))
  (some [(PV.int (-1 : Int))])
  (some [(nth r0 0)])))
theorem e40 : ∀ I n a, (compF Try.prog sg 40).map (fun d => d.ev I n a) = some (F40 I n a) := fun I n a => by kernel_rfl
/-! laws.eqOpS -/
def L84_0 (I : Interp) (n : Nat) (p0 : List PV) : Option (Ex × List PV) :=
  (iff (ltI (nth p0 0).toInt ((nth p0 1).toList.length : Int))
  (iff (geI (nth p0 0).toInt (0 : Int))
  (iff (ltI (nth p0 0).toInt ((nth p0 1).toList.length : Int))
  (iff (geI (nth p0 0).toInt (0 : Int))
  (iff (ltI (nth p0 0).toInt ((nth p0 2).toList.length : Int))
  ((I 108 [(nth (nth p0 1).toList (nth p0 0).toInt.toNat), (nth (nth p0 2).toList (nth p0 0).toInt.toNat)]).bind fun r1 =>
  (iff (!(nth r1 0).toBool)
  (some (Ex.r, [(PV.bool false)]))
  (some (Ex.n, [(PV.int (IntKind.i64.wrap ((nth p0 0).toInt + (1 : Int)))), (nth p0 1), (nth p0 2)]))))
  none)
  none)
  none)
  none)
  (some (Ex.x 0, [])))
def F84 (I : Interp) (n : Nat) (a : List PV) : Option (List PV) :=
  (iff (neI ((nth a 0).toList.length : Int) ((nth a 1).toList.length : Int))
  (some [(PV.bool false)])
  (thenN (thenE (loopEv (L84_0 I n) n [(PV.int (0 : Int)), (nth a 0), (nth a 1)])
  (passB 0))
  (fun p2 => (some [(PV.bool true)]))
  (retE fun q3 => [(nth q3 0)])))
theorem e84 : ∀ I n a, (compF Try.prog sg 84).map (fun d => d.ev I n a) = some (F84 I n a) := fun I n a => by kernel_rfl
/-! laws.eqFun -/
def F46 (I : Interp) (n : Nat) (a : List PV) : Option (List PV) :=
  (iff (neI ((nth a 0).fld 0).toInt ((nth a 1).fld 0).toInt)
  (some [(PV.bool false)])
  ((I 84 [((nth a 0).fld 1), ((nth a 1).fld 1)]).bind fun r0 =>
  (iff (!(nth r0 0).toBool)
  (some [(PV.bool false)])
  (some [(PV.bool true)]))))
theorem e46 : ∀ I n a, (compF Try.prog sg 46).map (fun d => d.ev I n a) = some (F46 I n a) := fun I n a => by kernel_rfl
/-! laws.szFunS -/
def L9_0 (I : Interp) (n : Nat) (p0 : List PV) : Option (Ex × List PV) :=
  (iff (ltI (nth p0 0).toInt ((nth p0 1).toList.length : Int))
  (iff (geI (nth p0 0).toInt (0 : Int))
  (iff (ltI (nth p0 0).toInt ((nth p0 1).toList.length : Int))
  ((I 40 [(nth (nth p0 1).toList (nth p0 0).toInt.toNat), (nth p0 2)]).bind fun r1 =>
  (iff (ltI (nth r1 0).toInt (0 : Int))
  (some (Ex.r, [(PV.int (-1 : Int))]))
  (some (Ex.n, [(PV.int (IntKind.i64.wrap ((nth p0 0).toInt + (1 : Int)))), (nth p0 1), (nth r1 0)]))))
  none)
  none)
  (some (Ex.x 0, [(nth p0 2)])))
def F9 (I : Interp) (n : Nat) (a : List PV) : Option (List PV) :=
  (iff (ltI (IntKind.i64.wrap ((nth a 1).toInt - ((nth a 0).toList.length : Int))) (0 : Int))
  (some [(PV.int (-1 : Int))])
  (thenN (thenE (loopEv (L9_0 I n) n [(PV.int (0 : Int)), (nth a 0), (PV.int (IntKind.i64.wrap ((nth a 1).toInt - ((nth a 0).toList.length : Int))))])
  (passB 0))
  (fun p2 => (some [(nth p2 0)]))
  (retE fun q3 => [(nth q3 0)])))
theorem e9 : ∀ I n a, (compF Try.prog sg 9).map (fun d => d.ev I n a) = some (F9 I n a) := fun I n a => by kernel_rfl
/-! laws.toFun -/
def F43 (I : Interp) (n : Nat) (a : List PV) : Option (List PV) :=
  ((I 82 [((nth a 0).fld 1)]).bind fun r0 =>
  (some [(PV.agg [((nth a 0).fld 0), (nth r0 0)])]))
theorem e43 : ∀ I n a, (compF Try.prog sg 43).map (fun d => d.ev I n a) = some (F43 I n a) := fun I n a => by kernel_rfl
/-! impl.opOk -/
def F83 (I : Interp) (n : Nat) (a : List PV) : Option (List PV) :=
  (thenN (iff (eqI ((nth a 3).fld 0).toInt (1 : Int))
  ((I 102 [((nth a 3).fld 1)]).bind fun r0 =>
  (some (Ex.n, [(nth r0 0), (PV.bool (eqI ((nth a 3).fld 2).toInt (0 : Int))), (nth a 3)])))
  (iff (eqI ((nth a 3).fld 0).toInt (2 : Int))
  ((I 54 [((nth a 3).fld 1), (PV.int (0 : Int)), (PV.int (2999 : Int))]).bind fun r1 =>
  (some (Ex.n, [(nth r1 0), (PV.bool (eqI ((nth a 3).fld 2).toInt (0 : Int))), (nth a 3)])))
  (iff (eqI ((nth a 3).fld 0).toInt (3 : Int))
  ((I 54 [((nth a 3).fld 1), (PV.int (0 : Int)), (PV.int (IntKind.i64.wrap (((nth a 1).fld 0).toInt - (1 : Int))))]).bind fun r2 =>
  (some (Ex.n, [(nth r2 0), (PV.bool (eqI ((nth a 3).fld 2).toInt (0 : Int))), (nth a 3)])))
  (iff (eqI ((nth a 3).fld 0).toInt (4 : Int))
  (some (Ex.n, [(selB (eqI ((nth a 3).fld 1).toInt (0 : Int)) (selB ((eqI ((nth a 3).fld 1).toInt (0 : Int)) == true) (PV.bool (gtI (selB ((eqI ((nth a 3).fld 1).toInt (0 : Int)) == true) (nth a 2) PV.unit).toInt (0 : Int))) PV.unit) (PV.bool false)), (PV.bool (eqI ((nth a 3).fld 2).toInt (0 : Int))), (nth a 3)]))
  (iff (eqI ((nth a 3).fld 0).toInt (5 : Int))
  ((I 54 [((nth a 3).fld 1), (PV.int (1 : Int)), (PV.int (IntKind.i64.wrap (((nth a 0).toList.length : Int) - (1 : Int))))]).bind fun r3 =>
  ((iff ((nth r3 0).isB true)
  (iff (geI (selB ((nth r3 0).isB true) ((nth a 3).fld 1) PV.unit).toInt (0 : Int))
  (iff (ltI (selB ((nth r3 0).isB true) ((nth a 3).fld 1) PV.unit).toInt ((selB ((nth r3 0).isB true) (nth a 0) PV.unit).toList.length : Int))
  (some [(nth (selB ((nth r3 0).isB true) (nth a 0) PV.unit).toList (selB ((nth r3 0).isB true) ((nth a 3).fld 1) PV.unit).toInt.toNat), (nth (selB ((nth r3 0).isB true) (nth a 0) PV.unit).toList (selB ((nth r3 0).isB true) ((nth a 3).fld 1) PV.unit).toInt.toNat)])
  none)
  none)
  (some [PV.unit, PV.unit])).bind fun g4 =>
  (some (Ex.n, [(nth r3 0), (selB (nth r3 0).toBool (selB ((nth r3 0).isB true) (PV.bool (eqI (selB ((nth r3 0).isB true) ((nth a 3).fld 2) PV.unit).toInt (selB ((nth r3 0).isB true) (selB ((nth r3 0).isB true) ((nth g4 0).fld 0) PV.unit) PV.unit).toInt)) PV.unit) (PV.bool false)), (nth a 3)]))))
  (iff (eqI ((nth a 3).fld 0).toInt (8 : Int))
  ((I 54 [((nth a 3).fld 1), (PV.int (0 : Int)), (PV.int (19 : Int))]).bind fun r5 =>
  ((I 54 [((nth a 3).fld 2), (PV.int (0 : Int)), (PV.int (20 : Int))]).bind fun r6 =>
  (some (Ex.n, [(nth r5 0), (nth r6 0), (nth a 3)]))))
  (iff (eqI ((nth a 3).fld 0).toInt (9 : Int))
  ((I 54 [((nth a 3).fld 1), (PV.int (0 : Int)), (PV.int (19 : Int))]).bind fun r7 =>
  (some (Ex.n, [(nth r7 0), (PV.bool (eqI ((nth a 3).fld 2).toInt (0 : Int))), (nth a 3)])))
  (iff (eqI ((nth a 3).fld 0).toInt (10 : Int))
  ((I 54 [((nth a 3).fld 1), (PV.int (0 : Int)), (PV.int (19 : Int))]).bind fun r8 =>
  ((I 107 [((nth a 3).fld 2), (nth a 1)]).bind fun r9 =>
  (some (Ex.n, [(nth r8 0), (nth r9 0), (nth a 3)]))))
  (iff (eqI ((nth a 3).fld 0).toInt (11 : Int))
  ((I 102 [((nth a 3).fld 1)]).bind fun r10 =>
  ((I 107 [((nth a 3).fld 2), (nth a 1)]).bind fun r11 =>
  (some (Ex.n, [(nth r10 0), (nth r11 0), (nth a 3)]))))
  (thenN (iff (eqI ((nth a 3).fld 0).toInt (18 : Int))
  (some (Ex.n, [(PV.bool (eqI ((nth a 3).fld 0).toInt (18 : Int))), (PV.bool (eqI ((nth a 3).fld 1).toInt (0 : Int))), (PV.bool (eqI ((nth a 3).fld 2).toInt (0 : Int))), (nth a 3), (nth a 1)]))
  (some (Ex.n, [(PV.bool (eqI ((nth a 3).fld 0).toInt (19 : Int))), (PV.bool (eqI ((nth a 3).fld 1).toInt (0 : Int))), (PV.bool (eqI ((nth a 3).fld 2).toInt (0 : Int))), (nth a 3), (nth a 1)])))
  (fun p12 => (iff (nth p12 0).toBool
  ((I 107 [((nth p12 3).fld 1), (nth p12 4)]).bind fun r13 =>
  (some (Ex.n, [(nth r13 0), (nth p12 2), (nth p12 3)])))
  (some (Ex.n, [(nth p12 1), (nth p12 2), (nth p12 3)]))))
  passE))))))))))
  (fun p14 => ((I 54 [((nth p14 2).fld 0), (PV.int (1 : Int)), (PV.int (21 : Int))]).bind fun r15 =>
  (some [(selB (selB (nth r15 0).toBool (selB ((nth r15 0).isB true) (nth p14 0) PV.unit) (PV.bool false)).toBool (selB ((selB (nth r15 0).toBool (selB ((nth r15 0).isB true) (nth p14 0) PV.unit) (PV.bool false)).isB true) (nth p14 1) PV.unit) (PV.bool false))])))
  (retE fun q16 => [(nth q16 0)]))
theorem e83 : ∀ I n a, (compF Try.prog sg 83).map (fun d => d.ev I n a) = some (F83 I n a) := fun I n a => by kernel_rfl
/-! laws.toFunS -/
def L11_0 (I : Interp) (n : Nat) (p0 : List PV) : Option (Ex × List PV) :=
  (iff (ltI (nth p0 0).toInt ((nth p0 1).toList.length : Int))
  (iff (geI (nth p0 0).toInt (0 : Int))
  (iff (ltI (nth p0 0).toInt ((nth p0 1).toList.length : Int))
  ((I 43 [(nth (nth p0 1).toList (nth p0 0).toInt.toNat)]).bind fun r1 =>
  (iff (geI (nth p0 0).toInt (0 : Int))
  (iff (ltI (nth p0 0).toInt ((nth p0 2).toList.length : Int))
  (some (Ex.n, [(PV.int (IntKind.i64.wrap ((nth p0 0).toInt + (1 : Int)))), (nth p0 1), (PV.list ((nth p0 2).toList.set (nth p0 0).toInt.toNat (nth r1 0)))]))
  none)
  none))
  none)
  none)
  (some (Ex.x 0, [(nth p0 2)])))
def F11 (I : Interp) (n : Nat) (a : List PV) : Option (List PV) :=
  (iff (geI ((nth a 0).toList.length : Int) (0 : Int))
  (iff (leI ((nth a 0).toList.length : Int) ((nth a 0).toList.length : Int))
  (iff (leI ((nth a 0).toList.length : Int) (4398046511104 : Int))
  (thenN (thenE (loopEv (L11_0 I n) n [(PV.int (0 : Int)), (nth a 0), (PV.list (List.replicate ((nth a 0).toList.length : Int).toNat (PV.agg [(PV.int (0 : Int)), (PV.list [])])))])
  (passB 0))
  (fun p2 => (some [(nth p2 0)]))
  (retE fun q3 => [(nth q3 0)]))
  none)
  none)
  none)
theorem e11 : ∀ I n a, (compF Try.prog sg 11).map (fun d => d.ev I n a) = some (F11 I n a) := fun I n a => by kernel_rfl
/-! laws.eqFunS -/
def L14_0 (I : Interp) (n : Nat) (p0 : List PV) : Option (Ex × List PV) :=
  (iff (ltI (nth p0 0).toInt ((nth p0 1).toList.length : Int))
  (iff (geI (nth p0 0).toInt (0 : Int))
  (iff (ltI (nth p0 0).toInt ((nth p0 1).toList.length : Int))
  (iff (geI (nth p0 0).toInt (0 : Int))
  (iff (ltI (nth p0 0).toInt ((nth p0 2).toList.length : Int))
  ((I 46 [(nth (nth p0 1).toList (nth p0 0).toInt.toNat), (nth (nth p0 2).toList (nth p0 0).toInt.toNat)]).bind fun r1 =>
  (iff (!(nth r1 0).toBool)
  (some (Ex.r, [(PV.bool false)]))
  (some (Ex.n, [(PV.int (IntKind.i64.wrap ((nth p0 0).toInt + (1 : Int)))), (nth p0 1), (nth p0 2)]))))
  none)
  none)
  none)
  none)
  (some (Ex.x 0, [])))
def F14 (I : Interp) (n : Nat) (a : List PV) : Option (List PV) :=
  (iff (neI ((nth a 0).toList.length : Int) ((nth a 1).toList.length : Int))
  (some [(PV.bool false)])
  (thenN (thenE (loopEv (L14_0 I n) n [(PV.int (0 : Int)), (nth a 0), (nth a 1)])
  (passB 0))
  (fun p2 => (some [(PV.bool true)]))
  (retE fun q3 => [(nth q3 0)])))
theorem e14 : ∀ I n a, (compF Try.prog sg 14).map (fun d => d.ev I n a) = some (F14 I n a) := fun I n a => by kernel_rfl
/-! spec.l13Op -/
def F81 (I : Interp) (n : Nat) (a : List PV) : Option (List PV) :=
  (iff (geI (nth a 1).toInt (0 : Int))
  (iff (ltI (nth a 1).toInt ((nth a 0).toList.length : Int))
  (iff (eqI ((nth a 2).fld 0).toInt (1 : Int))
  ((I 101 [((nth a 2).fld 1)]).bind fun r0 =>
  (some [(selB (nth r0 0).toBool (selB ((nth r0 0).isB true) (PV.bool (eqI (selB ((nth r0 0).isB true) ((nth a 2).fld 2) PV.unit).toInt (0 : Int))) PV.unit) (PV.bool false))]))
  (iff (eqI ((nth a 2).fld 0).toInt (2 : Int))
  ((I 51 [((nth a 2).fld 1), (PV.int (0 : Int)), (PV.int (2999 : Int))]).bind fun r1 =>
  (some [(selB (nth r1 0).toBool (selB ((nth r1 0).isB true) (PV.bool (eqI (selB ((nth r1 0).isB true) ((nth a 2).fld 2) PV.unit).toInt (0 : Int))) PV.unit) (PV.bool false))]))
  (iff (eqI ((nth a 2).fld 0).toInt (3 : Int))
  (iff (geI (nth a 1).toInt (0 : Int))
  (iff (ltI (nth a 1).toInt ((nth a 0).toList.length : Int))
  ((I 51 [((nth a 2).fld 1), (PV.int (0 : Int)), (PV.int (IntKind.i64.wrap (((nth (nth a 0).toList (nth a 1).toInt.toNat).fld 0).toInt - (1 : Int))))]).bind fun r2 =>
  (some [(selB (nth r2 0).toBool (selB ((nth r2 0).isB true) (PV.bool (eqI (selB ((nth r2 0).isB true) ((nth a 2).fld 2) PV.unit).toInt (0 : Int))) PV.unit) (PV.bool false))]))
  none)
  none)
  (iff (eqI ((nth a 2).fld 0).toInt (4 : Int))
  (some [(selB (selB (gtI (nth a 1).toInt (0 : Int)) (selB ((gtI (nth a 1).toInt (0 : Int)) == true) (PV.bool (eqI (selB ((gtI (nth a 1).toInt (0 : Int)) == true) ((nth a 2).fld 1) PV.unit).toInt (0 : Int))) PV.unit) (PV.bool false)).toBool (selB ((selB (gtI (nth a 1).toInt (0 : Int)) (selB ((gtI (nth a 1).toInt (0 : Int)) == true) (PV.bool (eqI (selB ((gtI (nth a 1).toInt (0 : Int)) == true) ((nth a 2).fld 1) PV.unit).toInt (0 : Int))) PV.unit) (PV.bool false)).isB true) (PV.bool (eqI (selB ((selB (gtI (nth a 1).toInt (0 : Int)) (selB ((gtI (nth a 1).toInt (0 : Int)) == true) (PV.bool (eqI (selB ((gtI (nth a 1).toInt (0 : Int)) == true) ((nth a 2).fld 1) PV.unit).toInt (0 : Int))) PV.unit) (PV.bool false)).isB true) ((nth a 2).fld 2) PV.unit).toInt (0 : Int))) PV.unit) (PV.bool false))])
  (iff (eqI ((nth a 2).fld 0).toInt (5 : Int))
  ((I 51 [((nth a 2).fld 1), (PV.int (1 : Int)), (PV.int (IntKind.i64.wrap (((nth a 0).toList.length : Int) - (1 : Int))))]).bind fun r3 =>
  ((iff ((nth r3 0).isB true)
  (iff (geI (selB ((nth r3 0).isB true) ((nth a 2).fld 1) PV.unit).toInt (0 : Int))
  (iff (ltI (selB ((nth r3 0).isB true) ((nth a 2).fld 1) PV.unit).toInt ((selB ((nth r3 0).isB true) (nth a 0) PV.unit).toList.length : Int))
  (some [(nth (selB ((nth r3 0).isB true) (nth a 0) PV.unit).toList (selB ((nth r3 0).isB true) ((nth a 2).fld 1) PV.unit).toInt.toNat), (nth (selB ((nth r3 0).isB true) (nth a 0) PV.unit).toList (selB ((nth r3 0).isB true) ((nth a 2).fld 1) PV.unit).toInt.toNat)])
  none)
  none)
  (some [PV.unit, PV.unit])).bind fun g4 =>
  (some [(selB (nth r3 0).toBool (selB ((nth r3 0).isB true) (PV.bool (eqI (selB ((nth r3 0).isB true) ((nth a 2).fld 2) PV.unit).toInt (selB ((nth r3 0).isB true) (selB ((nth r3 0).isB true) ((nth g4 0).fld 0) PV.unit) PV.unit).toInt)) PV.unit) (PV.bool false))])))
  (iff (eqI ((nth a 2).fld 0).toInt (8 : Int))
  ((I 105 [((nth a 2).fld 1)]).bind fun r5 =>
  ((iff ((nth r5 0).isB true)
  ((I 51 [(selB ((nth r5 0).isB true) ((nth a 2).fld 2) PV.unit), (PV.int (0 : Int)), (PV.int (20 : Int))]).bind fun r6 =>
  (some [(nth r6 0), (nth r6 0)]))
  (some [PV.unit, PV.unit])).bind fun g7 =>
  (some [(selB (nth r5 0).toBool (nth g7 0) (PV.bool false))])))
  (iff (eqI ((nth a 2).fld 0).toInt (9 : Int))
  ((I 105 [((nth a 2).fld 1)]).bind fun r8 =>
  (some [(selB (nth r8 0).toBool (selB ((nth r8 0).isB true) (PV.bool (eqI (selB ((nth r8 0).isB true) ((nth a 2).fld 2) PV.unit).toInt (0 : Int))) PV.unit) (PV.bool false))]))
  (iff (eqI ((nth a 2).fld 0).toInt (10 : Int))
  ((I 105 [((nth a 2).fld 1)]).bind fun r9 =>
  ((iff ((nth r9 0).isB true)
  ((I 51 [(selB ((nth r9 0).isB true) ((nth a 2).fld 2) PV.unit), (PV.int (0 : Int)), (selB ((nth r9 0).isB true) (PV.int (IntKind.i64.wrap ((selB ((nth r9 0).isB true) (PV.int (((nth (nth a 0).toList (nth a 1).toInt.toNat).fld 1).toList.length : Int)) PV.unit).toInt - (1 : Int)))) PV.unit)]).bind fun r10 =>
  (some [(nth r10 0), (nth r10 0)]))
  (some [PV.unit, PV.unit])).bind fun g11 =>
  (some [(selB (nth r9 0).toBool (nth g11 0) (PV.bool false))])))
  (iff (eqI ((nth a 2).fld 0).toInt (11 : Int))
  ((I 101 [((nth a 2).fld 1)]).bind fun r12 =>
  ((iff ((nth r12 0).isB true)
  ((I 51 [(selB ((nth r12 0).isB true) ((nth a 2).fld 2) PV.unit), (PV.int (0 : Int)), (selB ((nth r12 0).isB true) (PV.int (IntKind.i64.wrap ((selB ((nth r12 0).isB true) (PV.int (((nth (nth a 0).toList (nth a 1).toInt.toNat).fld 1).toList.length : Int)) PV.unit).toInt - (1 : Int)))) PV.unit)]).bind fun r13 =>
  (some [(nth r13 0), (nth r13 0)]))
  (some [PV.unit, PV.unit])).bind fun g14 =>
  (some [(selB (nth r12 0).toBool (nth g14 0) (PV.bool false))])))
  (thenN (iff (eqI ((nth a 2).fld 0).toInt (18 : Int))
  (some (Ex.n, [(PV.bool (eqI ((nth a 2).fld 0).toInt (18 : Int))), (PV.int (((nth (nth a 0).toList (nth a 1).toInt.toNat).fld 1).toList.length : Int)), (nth a 2)]))
  (some (Ex.n, [(PV.bool (eqI ((nth a 2).fld 0).toInt (19 : Int))), (PV.int (((nth (nth a 0).toList (nth a 1).toInt.toNat).fld 1).toList.length : Int)), (nth a 2)])))
  (fun p15 => (iff (nth p15 0).toBool
  ((I 51 [((nth p15 2).fld 1), (PV.int (0 : Int)), (PV.int (IntKind.i64.wrap ((nth p15 1).toInt - (1 : Int))))]).bind fun r16 =>
  (some [(selB (nth r16 0).toBool (selB ((nth r16 0).isB true) (PV.bool (eqI (selB ((nth r16 0).isB true) ((nth p15 2).fld 2) PV.unit).toInt (0 : Int))) PV.unit) (PV.bool false))]))
  ((I 51 [((nth p15 2).fld 0), (PV.int (1 : Int)), (PV.int (21 : Int))]).bind fun r17 =>
  (some [(selB (selB (nth r17 0).toBool (selB ((nth r17 0).isB true) (PV.bool (eqI (selB ((nth r17 0).isB true) ((nth p15 2).fld 1) PV.unit).toInt (0 : Int))) PV.unit) (PV.bool false)).toBool (selB ((selB (nth r17 0).toBool (selB ((nth r17 0).isB true) (PV.bool (eqI (selB ((nth r17 0).isB true) ((nth p15 2).fld 1) PV.unit).toInt (0 : Int))) PV.unit) (PV.bool false)).isB true) (PV.bool (eqI (selB ((selB (nth r17 0).toBool (selB ((nth r17 0).isB true) (PV.bool (eqI (selB ((nth r17 0).isB true) ((nth p15 2).fld 1) PV.unit).toInt (0 : Int))) PV.unit) (PV.bool false)).isB true) ((nth p15 2).fld 2) PV.unit).toInt (0 : Int))) PV.unit) (PV.bool false))]))))
  (retE fun q18 => [(nth q18 0)])))))))))))
  none)
  none)
theorem e81 : ∀ I n a, (compF Try.prog sg 81).map (fun d => d.ev I n a) = some (F81 I n a) := fun I n a => by kernel_rfl
/-! impl.FunsOk -/
def L44_0 (I : Interp) (n : Nat) (p6 : List PV) : Option (Ex × List PV) :=
  (iff (ltI (nth p6 0).toInt (nth p6 1).toInt)
  (iff (geI (nth p6 0).toInt (0 : Int))
  (iff (ltI (nth p6 0).toInt ((nth p6 2).toList.length : Int))
  ((I 83 [(nth p6 7), (nth p6 8), (nth p6 3), (nth (nth p6 2).toList (nth p6 0).toInt.toNat)]).bind fun r7 =>
  (iff (!(nth r7 0).toBool)
  (some (Ex.r, [(PV.bool false)]))
  (some (Ex.n, [(PV.int (IntKind.i64.wrap ((nth p6 0).toInt + (1 : Int)))), (nth p6 1), (nth p6 2), (nth p6 3), (nth p6 4), (nth p6 5), (nth p6 6), (nth p6 7), (nth p6 8)]))))
  none)
  none)
  (some (Ex.x 2, [(nth p6 4), (nth p6 5), (nth p6 6), (nth p6 7), (nth p6 8)])))
def L44_1 (I : Interp) (n : Nat) (p2 : List PV) : Option (Ex × List PV) :=
  (iff (ltI (nth p2 0).toInt (nth p2 1).toInt)
  (iff (geI (nth p2 0).toInt (0 : Int))
  (iff (ltI (nth p2 0).toInt ((nth p2 2).toList.length : Int))
  ((I 54 [((nth (nth p2 2).toList (nth p2 0).toInt.toNat).fld 0), (PV.int (0 : Int)), (PV.int (20 : Int))]).bind fun r3 =>
  ((iff ((!(nth r3 0).toBool) == false)
  ((I 54 [(selB ((!(nth r3 0).toBool) == false) (PV.int ((selB ((!(nth r3 0).toBool) == false) ((nth (nth p2 2).toList (nth p2 0).toInt.toNat).fld 1) PV.unit).toList.length : Int)) PV.unit), (PV.int (1 : Int)), (PV.int (3000 : Int))]).bind fun r4 =>
  (some [(nth r4 0), (nth r4 0)]))
  (some [PV.unit, PV.unit])).bind fun g5 =>
  (iff (selB (!(nth r3 0).toBool) (PV.bool true) (selB ((!(nth r3 0).toBool) == false) (PV.bool (!(nth g5 0).toBool)) PV.unit)).toBool
  (some (Ex.r, [(PV.bool false)]))
  (thenN (thenE (loopEv (L44_0 I n) n [(PV.int (0 : Int)), (PV.int (((nth (nth p2 2).toList (nth p2 0).toInt.toNat).fld 1).toList.length : Int)), ((nth (nth p2 2).toList (nth p2 0).toInt.toNat).fld 1), (nth p2 0), (nth p2 0), (nth p2 1), (nth p2 2), (nth p2 3), (nth (nth p2 2).toList (nth p2 0).toInt.toNat)])
  (passB 2))
  (fun p8 => (iff (geI (IntKind.i64.wrap ((((nth p8 4).fld 1).toList.length : Int) - (1 : Int))) (0 : Int))
  (iff (ltI (IntKind.i64.wrap ((((nth p8 4).fld 1).toList.length : Int) - (1 : Int))) (((nth p8 4).fld 1).toList.length : Int))
  (thenN (iff (eqI ((nth ((nth p8 4).fld 1).toList (IntKind.i64.wrap ((((nth p8 4).fld 1).toList.length : Int) - (1 : Int))).toNat).fld 0).toInt (7 : Int))
  (some (Ex.n, [(PV.bool (eqI ((nth ((nth p8 4).fld 1).toList (IntKind.i64.wrap ((((nth p8 4).fld 1).toList.length : Int) - (1 : Int))).toNat).fld 0).toInt (7 : Int))), (nth p8 0), (nth p8 1), (nth p8 2), (nth p8 3)]))
  (iff (eqI ((nth ((nth p8 4).fld 1).toList (IntKind.i64.wrap ((((nth p8 4).fld 1).toList.length : Int) - (1 : Int))).toNat).fld 0).toInt (19 : Int))
  (some (Ex.n, [(PV.bool (eqI ((nth ((nth p8 4).fld 1).toList (IntKind.i64.wrap ((((nth p8 4).fld 1).toList.length : Int) - (1 : Int))).toNat).fld 0).toInt (19 : Int))), (nth p8 0), (nth p8 1), (nth p8 2), (nth p8 3)]))
  (some (Ex.n, [(PV.bool (eqI ((nth ((nth p8 4).fld 1).toList (IntKind.i64.wrap ((((nth p8 4).fld 1).toList.length : Int) - (1 : Int))).toNat).fld 0).toInt (21 : Int))), (nth p8 0), (nth p8 1), (nth p8 2), (nth p8 3)]))))
  (fun p9 => (iff (nth p9 0).toBool
  (some (Ex.n, [(PV.int (IntKind.i64.wrap ((nth p9 1).toInt + (1 : Int)))), (nth p9 2), (nth p9 3), (nth p9 4)]))
  (some (Ex.r, [(PV.bool false)]))))
  passE)
  none)
  none))
  passE))))
  none)
  none)
  (some (Ex.x 0, [])))
def F44 (I : Interp) (n : Nat) (a : List PV) : Option (List PV) :=
  ((I 54 [(PV.int ((nth a 0).toList.length : Int)), (PV.int (1 : Int)), (PV.int (60 : Int))]).bind fun r0 =>
  ((iff ((!(nth r0 0).toBool) == false)
  (iff (geI (0 : Int) (0 : Int))
  (iff (ltI (0 : Int) ((selB ((!(nth r0 0).toBool) == false) (nth a 0) PV.unit).toList.length : Int))
  (some [(nth (selB ((!(nth r0 0).toBool) == false) (nth a 0) PV.unit).toList (0 : Int).toNat), (nth (selB ((!(nth r0 0).toBool) == false) (nth a 0) PV.unit).toList (0 : Int).toNat)])
  none)
  none)
  (some [PV.unit, PV.unit])).bind fun g1 =>
  (iff (selB (!(nth r0 0).toBool) (PV.bool true) (selB ((!(nth r0 0).toBool) == false) (PV.bool (neI (selB ((!(nth r0 0).toBool) == false) (selB ((!(nth r0 0).toBool) == false) ((nth g1 0).fld 0) PV.unit) PV.unit).toInt (0 : Int))) PV.unit)).toBool
  (some [(PV.bool false)])
  (thenN (thenE (loopEv (L44_1 I n) n [(PV.int (0 : Int)), (PV.int ((nth a 0).toList.length : Int)), (nth a 0), (nth a 0)])
  (passB 0))
  (fun p10 => (some [(PV.bool true)]))
  (retE fun q11 => [(nth q11 0)])))))
theorem e44 : ∀ I n a, (compF Try.prog sg 44).map (fun d => d.ev I n a) = some (F44 I n a) := fun I n a => by kernel_rfl
/-! spec.FunsOk -/
def L41_0 (I : Interp) (n : Nat) (p6 : List PV) : Option (Ex × List PV) :=
  (iff (ltI (nth p6 0).toInt (nth p6 1).toInt)
  (iff (geI (nth p6 2).toInt (0 : Int))
  (iff (ltI (nth p6 2).toInt ((nth p6 3).toList.length : Int))
  (iff (geI (nth p6 0).toInt (0 : Int))
  (iff (ltI (nth p6 0).toInt (((nth (nth p6 3).toList (nth p6 2).toInt.toNat).fld 1).toList.length : Int))
  ((I 81 [(nth p6 3), (nth p6 2), (nth ((nth (nth p6 3).toList (nth p6 2).toInt.toNat).fld 1).toList (nth p6 0).toInt.toNat)]).bind fun r7 =>
  (iff (!(nth r7 0).toBool)
  (some (Ex.r, [(PV.bool false)]))
  (some (Ex.n, [(PV.int (IntKind.i64.wrap ((nth p6 0).toInt + (1 : Int)))), (nth p6 1), (nth p6 2), (nth p6 3)]))))
  none)
  none)
  none)
  none)
  (some (Ex.x 2, [(nth p6 1), (nth p6 2), (nth p6 3)])))
def L41_1 (I : Interp) (n : Nat) (p2 : List PV) : Option (Ex × List PV) :=
  (iff (ltI (nth p2 0).toInt ((nth p2 1).toList.length : Int))
  (iff (geI (nth p2 0).toInt (0 : Int))
  (iff (ltI (nth p2 0).toInt ((nth p2 1).toList.length : Int))
  (iff (geI (nth p2 0).toInt (0 : Int))
  (iff (ltI (nth p2 0).toInt ((nth p2 1).toList.length : Int))
  ((I 51 [((nth (nth p2 1).toList (nth p2 0).toInt.toNat).fld 0), (PV.int (0 : Int)), (PV.int (20 : Int))]).bind fun r3 =>
  ((iff ((!(nth r3 0).toBool) == false)
  ((I 51 [(selB ((!(nth r3 0).toBool) == false) (PV.int (((nth (nth p2 1).toList (nth p2 0).toInt.toNat).fld 1).toList.length : Int)) PV.unit), (PV.int (1 : Int)), (PV.int (3000 : Int))]).bind fun r4 =>
  (some [(nth r4 0), (nth r4 0)]))
  (some [PV.unit, PV.unit])).bind fun g5 =>
  (iff (selB (!(nth r3 0).toBool) (PV.bool true) (selB ((!(nth r3 0).toBool) == false) (PV.bool (!(nth g5 0).toBool)) PV.unit)).toBool
  (some (Ex.r, [(PV.bool false)]))
  (thenN (thenE (loopEv (L41_0 I n) n [(PV.int (0 : Int)), (PV.int (((nth (nth p2 1).toList (nth p2 0).toInt.toNat).fld 1).toList.length : Int)), (nth p2 0), (nth p2 1)])
  (passB 2))
  (fun p8 => (iff (geI (nth p8 1).toInt (0 : Int))
  (iff (ltI (nth p8 1).toInt ((nth p8 2).toList.length : Int))
  (iff (geI (IntKind.i64.wrap ((nth p8 0).toInt - (1 : Int))) (0 : Int))
  (iff (ltI (IntKind.i64.wrap ((nth p8 0).toInt - (1 : Int))) (((nth (nth p8 2).toList (nth p8 1).toInt.toNat).fld 1).toList.length : Int))
  (iff (selB (selB (neI ((nth ((nth (nth p8 2).toList (nth p8 1).toInt.toNat).fld 1).toList (IntKind.i64.wrap ((nth p8 0).toInt - (1 : Int))).toNat).fld 0).toInt (7 : Int)) (selB ((neI ((nth ((nth (nth p8 2).toList (nth p8 1).toInt.toNat).fld 1).toList (IntKind.i64.wrap ((nth p8 0).toInt - (1 : Int))).toNat).fld 0).toInt (7 : Int)) == true) (PV.bool (neI (selB ((neI ((nth ((nth (nth p8 2).toList (nth p8 1).toInt.toNat).fld 1).toList (IntKind.i64.wrap ((nth p8 0).toInt - (1 : Int))).toNat).fld 0).toInt (7 : Int)) == true) ((nth ((nth (nth p8 2).toList (nth p8 1).toInt.toNat).fld 1).toList (IntKind.i64.wrap ((nth p8 0).toInt - (1 : Int))).toNat).fld 0) PV.unit).toInt (19 : Int))) PV.unit) (PV.bool false)).toBool (selB ((selB (neI ((nth ((nth (nth p8 2).toList (nth p8 1).toInt.toNat).fld 1).toList (IntKind.i64.wrap ((nth p8 0).toInt - (1 : Int))).toNat).fld 0).toInt (7 : Int)) (selB ((neI ((nth ((nth (nth p8 2).toList (nth p8 1).toInt.toNat).fld 1).toList (IntKind.i64.wrap ((nth p8 0).toInt - (1 : Int))).toNat).fld 0).toInt (7 : Int)) == true) (PV.bool (neI (selB ((neI ((nth ((nth (nth p8 2).toList (nth p8 1).toInt.toNat).fld 1).toList (IntKind.i64.wrap ((nth p8 0).toInt - (1 : Int))).toNat).fld 0).toInt (7 : Int)) == true) ((nth ((nth (nth p8 2).toList (nth p8 1).toInt.toNat).fld 1).toList (IntKind.i64.wrap ((nth p8 0).toInt - (1 : Int))).toNat).fld 0) PV.unit).toInt (19 : Int))) PV.unit) (PV.bool false)).isB true) (PV.bool (neI (selB ((selB (neI ((nth ((nth (nth p8 2).toList (nth p8 1).toInt.toNat).fld 1).toList (IntKind.i64.wrap ((nth p8 0).toInt - (1 : Int))).toNat).fld 0).toInt (7 : Int)) (selB ((neI ((nth ((nth (nth p8 2).toList (nth p8 1).toInt.toNat).fld 1).toList (IntKind.i64.wrap ((nth p8 0).toInt - (1 : Int))).toNat).fld 0).toInt (7 : Int)) == true) (PV.bool (neI (selB ((neI ((nth ((nth (nth p8 2).toList (nth p8 1).toInt.toNat).fld 1).toList (IntKind.i64.wrap ((nth p8 0).toInt - (1 : Int))).toNat).fld 0).toInt (7 : Int)) == true) ((nth ((nth (nth p8 2).toList (nth p8 1).toInt.toNat).fld 1).toList (IntKind.i64.wrap ((nth p8 0).toInt - (1 : Int))).toNat).fld 0) PV.unit).toInt (19 : Int))) PV.unit) (PV.bool false)).isB true) ((nth ((nth (nth p8 2).toList (nth p8 1).toInt.toNat).fld 1).toList (IntKind.i64.wrap ((nth p8 0).toInt - (1 : Int))).toNat).fld 0) PV.unit).toInt (21 : Int))) PV.unit) (PV.bool false)).toBool
  (some (Ex.r, [(PV.bool false)]))
  (some (Ex.n, [(PV.int (IntKind.i64.wrap ((nth p8 1).toInt + (1 : Int)))), (nth p8 2)])))
  none)
  none)
  none)
  none))
  passE))))
  none)
  none)
  none)
  none)
  (some (Ex.x 0, [])))
def F41 (I : Interp) (n : Nat) (a : List PV) : Option (List PV) :=
  ((I 51 [(PV.int ((nth a 0).toList.length : Int)), (PV.int (1 : Int)), (PV.int (60 : Int))]).bind fun r0 =>
  ((iff ((!(nth r0 0).toBool) == false)
  (iff (geI (0 : Int) (0 : Int))
  (iff (ltI (0 : Int) ((selB ((!(nth r0 0).toBool) == false) (nth a 0) PV.unit).toList.length : Int))
  (some [(nth (selB ((!(nth r0 0).toBool) == false) (nth a 0) PV.unit).toList (0 : Int).toNat), (nth (selB ((!(nth r0 0).toBool) == false) (nth a 0) PV.unit).toList (0 : Int).toNat)])
  none)
  none)
  (some [PV.unit, PV.unit])).bind fun g1 =>
  (iff (selB (!(nth r0 0).toBool) (PV.bool true) (selB ((!(nth r0 0).toBool) == false) (PV.bool (neI (selB ((!(nth r0 0).toBool) == false) (selB ((!(nth r0 0).toBool) == false) ((nth g1 0).fld 0) PV.unit) PV.unit).toInt (0 : Int))) PV.unit)).toBool
  (some [(PV.bool false)])
  (thenN (thenE (loopEv (L41_1 I n) n [(PV.int (0 : Int)), (nth a 0)])
  (passB 0))
  (fun p9 => (some [(PV.bool true)]))
  (retE fun q10 => [(nth q10 0)])))))
theorem e41 : ∀ I n a, (compF Try.prog sg 41).map (fun d => d.ev I n a) = some (F41 I n a) := fun I n a => by kernel_rfl
/-! impl.FunsBytes -/
def L12_0 (I : Interp) (n : Nat) (p5 : List PV) : Option (Ex × List PV) :=
  (iff (ltI (nth p5 0).toInt (nth p5 1).toInt)
  (iff (geI (nth p5 0).toInt (0 : Int))
  (iff (ltI (nth p5 0).toInt ((nth p5 2).toList.length : Int))
  ((I 45 [((nth (nth p5 2).toList (nth p5 0).toInt.toNat).fld 0)]).bind fun r6 =>
  (iff (leN ((nth p5 6).toList.length + (nth r6 0).toList.length) 140737488355328)
  ((I 45 [(PV.int (IntKind.i64.wrap (((nth (nth p5 2).toList (nth p5 0).toInt.toNat).fld 1).toInt + (1073741824 : Int))))]).bind fun r7 =>
  (iff (leN (((nth p5 6).toList ++ (nth r6 0).toList).length + (nth r7 0).toList.length) 140737488355328)
  ((I 45 [((nth (nth p5 2).toList (nth p5 0).toInt.toNat).fld 2)]).bind fun r8 =>
  (iff (leN ((((nth p5 6).toList ++ (nth r6 0).toList) ++ (nth r7 0).toList).length + (nth r8 0).toList.length) 140737488355328)
  (some (Ex.n, [(PV.int (IntKind.i64.wrap ((nth p5 0).toInt + (1 : Int)))), (nth p5 1), (nth p5 2), (nth p5 3), (nth p5 4), (nth p5 5), (PV.list ((((nth p5 6).toList ++ (nth r6 0).toList) ++ (nth r7 0).toList) ++ (nth r8 0).toList))]))
  none))
  none))
  none))
  none)
  none)
  (some (Ex.x 2, [(nth p5 3), (nth p5 4), (nth p5 5), (nth p5 6)])))
def L12_1 (I : Interp) (n : Nat) (p2 : List PV) : Option (Ex × List PV) :=
  (iff (ltI (nth p2 0).toInt (nth p2 1).toInt)
  (iff (geI (nth p2 0).toInt (0 : Int))
  (iff (ltI (nth p2 0).toInt ((nth p2 2).toList.length : Int))
  ((I 45 [((nth (nth p2 2).toList (nth p2 0).toInt.toNat).fld 0)]).bind fun r3 =>
  (iff (leN ((nth p2 3).toList.length + (nth r3 0).toList.length) 140737488355328)
  ((I 45 [(PV.int (((nth (nth p2 2).toList (nth p2 0).toInt.toNat).fld 1).toList.length : Int))]).bind fun r4 =>
  (iff (leN (((nth p2 3).toList ++ (nth r3 0).toList).length + (nth r4 0).toList.length) 140737488355328)
  (thenN (thenE (loopEv (L12_0 I n) n [(PV.int (0 : Int)), (PV.int (((nth (nth p2 2).toList (nth p2 0).toInt.toNat).fld 1).toList.length : Int)), ((nth (nth p2 2).toList (nth p2 0).toInt.toNat).fld 1), (nth p2 0), (nth p2 1), (nth p2 2), (PV.list (((nth p2 3).toList ++ (nth r3 0).toList) ++ (nth r4 0).toList))])
  (passB 2))
  (fun p9 => (some (Ex.n, [(PV.int (IntKind.i64.wrap ((nth p9 0).toInt + (1 : Int)))), (nth p9 1), (nth p9 2), (nth p9 3)])))
  passE)
  none))
  none))
  none)
  none)
  (some (Ex.x 0, [(nth p2 3)])))
def F12 (I : Interp) (n : Nat) (a : List PV) : Option (List PV) :=
  ((I 44 [(nth a 0)]).bind fun r0 =>
  (iff (!(nth r0 0).toBool)
  (some [(PV.list [])])
  ((I 45 [(PV.int ((nth a 0).toList.length : Int))]).bind fun r1 =>
  (thenN (thenE (loopEv (L12_1 I n) n [(PV.int (0 : Int)), (PV.int ((nth a 0).toList.length : Int)), (nth a 0), (nth r1 0)])
  (passB 0))
  (fun p10 => (some [(nth p10 0)]))
  (retE fun q11 => [(nth q11 0)])))))
theorem e12 : ∀ I n a, (compF Try.prog sg 12).map (fun d => d.ev I n a) = some (F12 I n a) := fun I n a => by kernel_rfl
/-! spec.FunsBytes -/
def L10_0 (I : Interp) (n : Nat) (p5 : List PV) : Option (Ex × List PV) :=
  (iff (geI (nth p5 1).toInt (0 : Int))
  (iff (ltI (nth p5 1).toInt ((nth p5 2).toList.length : Int))
  (iff (ltI (nth p5 0).toInt (((nth (nth p5 2).toList (nth p5 1).toInt.toNat).fld 1).toList.length : Int))
  (iff (geI (nth p5 1).toInt (0 : Int))
  (iff (ltI (nth p5 1).toInt ((nth p5 2).toList.length : Int))
  (iff (geI (nth p5 0).toInt (0 : Int))
  (iff (ltI (nth p5 0).toInt (((nth (nth p5 2).toList (nth p5 1).toInt.toNat).fld 1).toList.length : Int))
  ((I 42 [((nth ((nth (nth p5 2).toList (nth p5 1).toInt.toNat).fld 1).toList (nth p5 0).toInt.toNat).fld 0)]).bind fun r6 =>
  (iff (leN ((nth p5 3).toList.length + (nth r6 0).toList.length) 140737488355328)
  ((I 42 [(PV.int (IntKind.i64.wrap (((nth ((nth (nth p5 2).toList (nth p5 1).toInt.toNat).fld 1).toList (nth p5 0).toInt.toNat).fld 1).toInt + (1073741824 : Int))))]).bind fun r7 =>
  (iff (leN (((nth p5 3).toList ++ (nth r6 0).toList).length + (nth r7 0).toList.length) 140737488355328)
  ((I 42 [((nth ((nth (nth p5 2).toList (nth p5 1).toInt.toNat).fld 1).toList (nth p5 0).toInt.toNat).fld 2)]).bind fun r8 =>
  (iff (leN ((((nth p5 3).toList ++ (nth r6 0).toList) ++ (nth r7 0).toList).length + (nth r8 0).toList.length) 140737488355328)
  (some (Ex.n, [(PV.int (IntKind.i64.wrap ((nth p5 0).toInt + (1 : Int)))), (nth p5 1), (nth p5 2), (PV.list ((((nth p5 3).toList ++ (nth r6 0).toList) ++ (nth r7 0).toList) ++ (nth r8 0).toList))]))
  none))
  none))
  none))
  none)
  none)
  none)
  none)
  (some (Ex.x 2, [(nth p5 1), (nth p5 2), (nth p5 3)])))
  none)
  none)
def L10_1 (I : Interp) (n : Nat) (p2 : List PV) : Option (Ex × List PV) :=
  (iff (ltI (nth p2 0).toInt ((nth p2 1).toList.length : Int))
  (iff (geI (nth p2 0).toInt (0 : Int))
  (iff (ltI (nth p2 0).toInt ((nth p2 1).toList.length : Int))
  ((I 42 [((nth (nth p2 1).toList (nth p2 0).toInt.toNat).fld 0)]).bind fun r3 =>
  (iff (leN ((nth p2 2).toList.length + (nth r3 0).toList.length) 140737488355328)
  (iff (geI (nth p2 0).toInt (0 : Int))
  (iff (ltI (nth p2 0).toInt ((nth p2 1).toList.length : Int))
  ((I 42 [(PV.int (((nth (nth p2 1).toList (nth p2 0).toInt.toNat).fld 1).toList.length : Int))]).bind fun r4 =>
  (iff (leN (((nth p2 2).toList ++ (nth r3 0).toList).length + (nth r4 0).toList.length) 140737488355328)
  (thenN (thenE (loopEv (L10_0 I n) n [(PV.int (0 : Int)), (nth p2 0), (nth p2 1), (PV.list (((nth p2 2).toList ++ (nth r3 0).toList) ++ (nth r4 0).toList))])
  (passB 2))
  (fun p9 => (some (Ex.n, [(PV.int (IntKind.i64.wrap ((nth p9 0).toInt + (1 : Int)))), (nth p9 1), (nth p9 2)])))
  passE)
  none))
  none)
  none)
  none))
  none)
  none)
  (some (Ex.x 0, [(nth p2 2)])))
def F10 (I : Interp) (n : Nat) (a : List PV) : Option (List PV) :=
  ((I 41 [(nth a 0)]).bind fun r0 =>
  (iff (!(nth r0 0).toBool)
  (some [(PV.list [])])
  ((I 42 [(PV.int ((nth a 0).toList.length : Int))]).bind fun r1 =>
  (thenN (thenE (loopEv (L10_1 I n) n [(PV.int (0 : Int)), (nth a 0), (nth r1 0)])
  (passB 0))
  (fun p10 => (some [(nth p10 0)]))
  (retE fun q11 => [(nth q11 0)])))))
theorem e10 : ∀ I n a, (compF Try.prog sg 10).map (fun d => d.ev I n a) = some (F10 I n a) := fun I n a => by kernel_rfl
/-! laws.FnExactFunsBytes -/
def F3 (I : Interp) (n : Nat) (a : List PV) : Option (List PV) :=
  ((I 9 [(nth a 0), (PV.int (1048576 : Int))]).bind fun r0 =>
  (iff (ltI (nth r0 0).toInt (0 : Int))
  (some [(PV.bool true)])
  ((I 11 [(nth a 0)]).bind fun r1 =>
  ((I 10 [(nth r1 0)]).bind fun r2 =>
  ((I 11 [(nth a 0)]).bind fun r3 =>
  ((I 12 [(nth r3 0)]).bind fun r4 =>
  ((I 13 [(nth r4 0), (nth r2 0)]).bind fun r5 =>
  (iff (!(nth r5 0).toBool)
  (some [(PV.bool false)])
  ((I 11 [(nth a 0)]).bind fun r6 =>
  ((I 14 [(nth r3 0), (nth r6 0)]).bind fun r7 =>
  (iff (!(nth r7 0).toBool)
  (some [(PV.bool false)])
  ((I 15 [(nth r3 0), (PV.int (1 : Int))]).bind fun r8 =>
  ((iff ((ltI (nth r8 0).toInt (0 : Int)) == false)
  ((I 13 [(nth r4 0), (nth r2 0)]).bind fun r9 =>
  (some [(nth r9 0), (nth r9 0)]))
  (some [PV.unit, PV.unit])).bind fun g10 =>
  (iff (selB (ltI (nth r8 0).toInt (0 : Int)) (PV.bool true) (selB ((ltI (nth r8 0).toInt (0 : Int)) == false) (PV.bool (!(nth g10 0).toBool)) PV.unit)).toBool
  (some [(PV.bool false)])
  ((I 16 [(nth r4 0), (PV.int (1 : Int))]).bind fun r11 =>
  ((I 17 [(nth r11 1), (PV.int (1 : Int))]).bind fun r12 =>
  (iff (ltI (nth r12 0).toInt (0 : Int))
  (some [(PV.bool false)])
  (iff (neI (nth r12 0).toInt (nth r11 0).toInt)
  (some [(PV.bool false)])
  ((I 11 [(nth a 0)]).bind fun r13 =>
  ((I 12 [(nth r13 0)]).bind fun r14 =>
  ((I 13 [(nth r14 0), (nth r2 0)]).bind fun r15 =>
  (iff (!(nth r15 0).toBool)
  (some [(PV.bool false)])
  ((I 17 [(nth r11 1), (PV.int (1 : Int))]).bind fun r16 =>
  (iff (ltI (nth r16 0).toInt (0 : Int))
  (some [(PV.bool false)])
  (iff (neI (nth r16 0).toInt (nth r11 0).toInt)
  (some [(PV.bool false)])
  (some [(PV.bool true)]))))))))))))))))))))))))))
theorem e3 : ∀ I n a, (compF Try.prog sg 3).map (fun d => d.ev I n a) = some (F3 I n a) := fun I n a => by kernel_rfl
end Go.Proofs.Ytfnhimhmhinjdaa.GFnExactFunsBytes
