/- The pure programs of the functions that the law FnExactGen reaches, out of the compiled code. No conditions. -/
import Derived.Test.YtijgokehlicmnaaRows
import Derived.Test.YtijgokehlicmnaaRscZn
namespace Go.Proofs.Ytijgokehlicmnaa.GFnExactGen
open Go Go.Rsc Go.Proofs.Ytijgokehlicmnaa
set_option maxRecDepth 100000
set_option linter.unusedVariables false
def sg : FuncId → Option Sig := fun f => match f with
  | 102 => some { ps := [PM.ro (SD.int (IntKind.i64)), PM.ro (SD.int (IntKind.i64)), PM.ro (SD.int (IntKind.i64))], rs := [RM.v (SD.bool)] }
  | 211 => some { ps := [PM.ro (SD.int (IntKind.i64))], rs := [RM.v (SD.int (IntKind.i64))] }
  | 146 => some { ps := [PM.ro (SD.bor 196), PM.ro (SD.int (IntKind.i64))], rs := [RM.v (SD.int (IntKind.i64))] }
  | 145 => some { ps := [PM.mut (SD.own 196 false), PM.ro (SD.int (IntKind.i64))], rs := [RM.v (SD.int (IntKind.i64))] }
  | 4241 => some { ps := [PM.mv (SD.own 196 false), PM.ro (SD.int (IntKind.i64))], rs := [RM.v (SD.int (IntKind.i64))] }
  | 144 => some { ps := [PM.mut (SD.own 159 true), PM.ro (SD.int (IntKind.i64))], rs := [RM.v (SD.int (IntKind.i64))] }
  | 4240 => some { ps := [PM.mv (SD.own 159 true), PM.ro (SD.int (IntKind.i64))], rs := [RM.v (SD.int (IntKind.i64))] }
  | 213 => some { ps := [PM.ro (SD.sc (SD.int (IntKind.i64)) (SD.sc (SD.int (IntKind.i64)) (SD.sc (SD.int (IntKind.i64)) (SD.sn)))), PM.ro (SD.sc (SD.int (IntKind.i64)) (SD.sc (SD.int (IntKind.i64)) (SD.sc (SD.int (IntKind.i64)) (SD.sn))))], rs := [RM.v (SD.bool)] }
  | 212 => some { ps := [PM.ro (SD.int (IntKind.i64))], rs := [RM.v (SD.int (IntKind.i64))] }
  | 141 => some { ps := [PM.ref 166 (SD.sc (SD.own 196 false) (SD.sc (SD.own 3 false) (SD.sn))) (SD.sc (SD.own 196 false) (SD.sc (SD.own 3 false) (SD.sn))), PM.ro (SD.int (IntKind.i64)), PM.ro (SD.int (IntKind.i64)), PM.ro (SD.int (IntKind.i64))], rs := [] }
  | 104 => some { ps := [PM.ro (SD.int (IntKind.i64)), PM.ro (SD.int (IntKind.i64)), PM.ro (SD.int (IntKind.i64))], rs := [RM.v (SD.bool)] }
  | 137 => some { ps := [PM.ref 155 (SD.sc (SD.own 196 false) (SD.sn)) (SD.sc (SD.own 196 false) (SD.sn)), PM.ro (SD.int (IntKind.i64)), PM.ro (SD.int (IntKind.i64)), PM.ro (SD.int (IntKind.i64))], rs := [RM.v (SD.int (IntKind.i64))] }
  | 193 => some { ps := [PM.ro (SD.bool)], rs := [RM.v (SD.int (IntKind.i64))] }
  | 209 => some { ps := [PM.ro (SD.int (IntKind.i64))], rs := [RM.v (SD.int (IntKind.i64))] }
  | 177 => some { ps := [PM.ro (SD.sc (SD.int (IntKind.i64)) (SD.sc (SD.int (IntKind.i64)) (SD.sc (SD.bor 159) (SD.sn))))], rs := [RM.v (SD.int (IntKind.i64))] }
  | 70 => some { ps := [PM.ro (SD.bor 131), PM.ro (SD.int (IntKind.i64))], rs := [RM.v (SD.int (IntKind.i64))] }
  | 117 => some { ps := [PM.ro (SD.int (IntKind.i64))], rs := [RM.v (SD.bool)] }
  | 197 => some { ps := [PM.ro (SD.int (IntKind.i64)), PM.rp (SD.sc (SD.int (IntKind.i64)) (SD.sc (SD.bor 196) (SD.sn)))], rs := [RM.v (SD.bool)] }
  | 68 => some { ps := [PM.mut (SD.own 161 true), PM.ro (SD.int (IntKind.i64))], rs := [RM.v (SD.int (IntKind.i64))] }
  | 4164 => some { ps := [PM.mv (SD.own 161 true), PM.ro (SD.int (IntKind.i64))], rs := [RM.v (SD.int (IntKind.i64))] }
  | 214 => some { ps := [PM.ro (SD.bor 159), PM.ro (SD.bor 159)], rs := [RM.v (SD.bool)] }
  | 186 => some { ps := [PM.ro (SD.sc (SD.int (IntKind.i64)) (SD.sc (SD.int (IntKind.i64)) (SD.sc (SD.bor 159) (SD.sn)))), PM.ro (SD.sc (SD.int (IntKind.i64)) (SD.sc (SD.int (IntKind.i64)) (SD.sc (SD.bor 159) (SD.sn))))], rs := [RM.v (SD.bool)] }
  | 120 => some { ps := [PM.ro (SD.int (IntKind.i64))], rs := [RM.v (SD.bool)] }
  | 185 => some { ps := [PM.ro (SD.bor 196), PM.ro (SD.bor 196)], rs := [RM.v (SD.bool)] }
  | 210 => some { ps := [PM.ro (SD.bor 149)], rs := [RM.v (SD.own 159 true)] }
  | 180 => some { ps := [PM.ro (SD.sc (SD.int (IntKind.i64)) (SD.sc (SD.int (IntKind.i64)) (SD.sc (SD.bor 149) (SD.sn))))], rs := [RM.v (SD.sc (SD.int (IntKind.i64)) (SD.sc (SD.int (IntKind.i64)) (SD.sc (SD.own 159 true) (SD.sn))))] }
  | 196 => some { ps := [PM.ro (SD.int (IntKind.i64))], rs := [RM.v (SD.bool)] }
  | 69 => some { ps := [PM.mut (SD.own 131 true), PM.ro (SD.int (IntKind.i64))], rs := [RM.v (SD.int (IntKind.i64))] }
  | 4165 => some { ps := [PM.mv (SD.own 131 true), PM.ro (SD.int (IntKind.i64))], rs := [RM.v (SD.int (IntKind.i64))] }
  | 208 => some { ps := [PM.ro (SD.bor 149), PM.ro (SD.int (IntKind.i64))], rs := [RM.v (SD.int (IntKind.i64))] }
  | 176 => some { ps := [PM.ro (SD.sc (SD.int (IntKind.i64)) (SD.sc (SD.int (IntKind.i64)) (SD.sc (SD.bor 149) (SD.sn)))), PM.ro (SD.int (IntKind.i64))], rs := [RM.v (SD.int (IntKind.i64))] }
  | 179 => some { ps := [PM.ref 155 (SD.sc (SD.own 196 false) (SD.sn)) (SD.sc (SD.own 196 false) (SD.sn)), PM.ro (SD.int (IntKind.i64)), PM.ro (SD.bool), PM.ro (SD.sc (SD.int (IntKind.i64)) (SD.sc (SD.int (IntKind.i64)) (SD.sc (SD.bor 159) (SD.sn)))), PM.ro (SD.bor 3), PM.ro (SD.int (IntKind.i64))], rs := [] }
  | 136 => some { ps := [PM.ref 155 (SD.sc (SD.own 196 false) (SD.sn)) (SD.sc (SD.own 196 false) (SD.sn)), PM.ro (SD.sc (SD.int (IntKind.i64)) (SD.sc (SD.int (IntKind.i64)) (SD.sc (SD.bor 159) (SD.sn)))), PM.ro (SD.bor 3), PM.ro (SD.int (IntKind.i64))], rs := [] }
  | 142 => some { ps := [PM.ro (SD.sc (SD.int (IntKind.i64)) (SD.sc (SD.bor 196) (SD.sn))), PM.ro (SD.sc (SD.int (IntKind.i64)) (SD.sc (SD.bor 196) (SD.sn)))], rs := [RM.v (SD.bool)] }
  | 143 => some { ps := [PM.ro (SD.sc (SD.int (IntKind.i64)) (SD.sc (SD.sc (SD.int (IntKind.i64)) (SD.sc (SD.int (IntKind.i64)) (SD.sc (SD.bor 159) (SD.sn)))) (SD.sn))), PM.ro (SD.sc (SD.int (IntKind.i64)) (SD.sc (SD.sc (SD.int (IntKind.i64)) (SD.sc (SD.int (IntKind.i64)) (SD.sc (SD.bor 159) (SD.sn)))) (SD.sn)))], rs := [RM.v (SD.bool)] }
  | 138 => some { ps := [PM.ro (SD.sc (SD.int (IntKind.i64)) (SD.sc (SD.sc (SD.int (IntKind.i64)) (SD.sc (SD.int (IntKind.i64)) (SD.sc (SD.bor 149) (SD.sn)))) (SD.sn)))], rs := [RM.v (SD.sc (SD.int (IntKind.i64)) (SD.sc (SD.sc (SD.int (IntKind.i64)) (SD.sc (SD.int (IntKind.i64)) (SD.sc (SD.own 159 true) (SD.sn)))) (SD.sn)))] }
  | 134 => some { ps := [PM.ro (SD.sc (SD.int (IntKind.i64)) (SD.sc (SD.sc (SD.int (IntKind.i64)) (SD.sc (SD.int (IntKind.i64)) (SD.sc (SD.bor 149) (SD.sn)))) (SD.sn))), PM.ro (SD.int (IntKind.i64))], rs := [RM.v (SD.int (IntKind.i64))] }
  | 171 => some { ps := [PM.ro (SD.bor 131), PM.ro (SD.sc (SD.int (IntKind.i64)) (SD.sc (SD.bor 196) (SD.sn))), PM.ro (SD.int (IntKind.i64)), PM.ro (SD.sc (SD.int (IntKind.i64)) (SD.sc (SD.int (IntKind.i64)) (SD.sc (SD.int (IntKind.i64)) (SD.sn))))], rs := [RM.v (SD.bool)] }
  | 67 => some { ps := [PM.ro (SD.bor 161), PM.ro (SD.bor 161)], rs := [RM.v (SD.bool)] }
  | 169 => some { ps := [PM.ro (SD.bor 131), PM.ro (SD.int (IntKind.i64)), PM.ro (SD.sc (SD.int (IntKind.i64)) (SD.sc (SD.int (IntKind.i64)) (SD.sc (SD.int (IntKind.i64)) (SD.sn))))], rs := [RM.v (SD.bool)] }
  | 181 => some { ps := [PM.ref 211 (SD.sc (SD.bor 161) (SD.sc (SD.int (IntKind.i64)) (SD.sc (SD.int (IntKind.i64)) (SD.sn)))) (SD.sc (SD.bor 161) (SD.sc (SD.int (IntKind.i64)) (SD.sc (SD.int (IntKind.i64)) (SD.sn)))), PM.ro (SD.sc (SD.int (IntKind.i64)) (SD.sc (SD.int (IntKind.i64)) (SD.sc (SD.bor 159) (SD.sn)))), PM.ro (SD.int (IntKind.i64))], rs := [RM.v (SD.bool)] }
  | 4277 => some { ps := [PM.ref 211 (SD.sc (SD.own 161 true) (SD.sc (SD.int (IntKind.i64)) (SD.sc (SD.int (IntKind.i64)) (SD.sn)))) (SD.sc (SD.own 161 true) (SD.sc (SD.int (IntKind.i64)) (SD.sc (SD.int (IntKind.i64)) (SD.sn)))), PM.ro (SD.sc (SD.int (IntKind.i64)) (SD.sc (SD.int (IntKind.i64)) (SD.sc (SD.bor 159) (SD.sn)))), PM.ro (SD.int (IntKind.i64))], rs := [RM.v (SD.bool)] }
  | 66 => some { ps := [PM.ro (SD.bor 131), PM.ro (SD.bor 131)], rs := [RM.v (SD.bool)] }
  | 64 => some { ps := [PM.ro (SD.bor 151)], rs := [RM.v (SD.own 161 true)] }
  | 62 => some { ps := [PM.ro (SD.bor 151), PM.ro (SD.int (IntKind.i64))], rs := [RM.v (SD.int (IntKind.i64))] }
  | 119 => some { ps := [PM.ro (SD.bor 131)], rs := [RM.v (SD.bool)] }
  | 116 => some { ps := [PM.ro (SD.bor 131)], rs := [RM.v (SD.bool)] }
  | 178 => some { ps := [PM.ro (SD.bor 161), PM.ro (SD.int (IntKind.i64)), PM.ro (SD.sc (SD.int (IntKind.i64)) (SD.sc (SD.int (IntKind.i64)) (SD.sc (SD.bor 159) (SD.sn)))), PM.ro (SD.int (IntKind.i64))], rs := [RM.v (SD.bool)] }
  | 139 => some { ps := [PM.ro (SD.bor 161)], rs := [RM.v (SD.bool)] }
  | 184 => some { ps := [PM.ref 166 (SD.sc (SD.own 196 false) (SD.sc (SD.own 3 false) (SD.sn))) (SD.sc (SD.own 196 false) (SD.sc (SD.own 3 false) (SD.sn))), PM.ro (SD.bor 159), PM.ro (SD.int (IntKind.i64))], rs := [] }
  | 183 => some { ps := [PM.ref 166 (SD.sc (SD.own 196 false) (SD.sc (SD.own 3 false) (SD.sn))) (SD.sc (SD.own 196 false) (SD.sc (SD.own 3 false) (SD.sn))), PM.ro (SD.sc (SD.int (IntKind.i64)) (SD.sc (SD.int (IntKind.i64)) (SD.sc (SD.bor 159) (SD.sn)))), PM.ro (SD.int (IntKind.i64)), PM.ro (SD.int (IntKind.i64))], rs := [] }
  | 182 => some { ps := [PM.ref 166 (SD.sc (SD.own 196 false) (SD.sc (SD.own 3 false) (SD.sn))) (SD.sc (SD.own 196 false) (SD.sc (SD.own 3 false) (SD.sn))), PM.ro (SD.sc (SD.int (IntKind.i64)) (SD.sc (SD.int (IntKind.i64)) (SD.sc (SD.bor 159) (SD.sn)))), PM.ro (SD.int (IntKind.i64))], rs := [] }
  | 140 => some { ps := [PM.ref 166 (SD.sc (SD.own 196 false) (SD.sc (SD.own 3 false) (SD.sn))) (SD.sc (SD.own 196 false) (SD.sc (SD.own 3 false) (SD.sn))), PM.ro (SD.sc (SD.int (IntKind.i64)) (SD.sc (SD.int (IntKind.i64)) (SD.sc (SD.bor 159) (SD.sn)))), PM.ro (SD.int (IntKind.i64))], rs := [] }
  | 135 => some { ps := [PM.ro (SD.bor 161)], rs := [RM.v (SD.bool)] }
  | 63 => some { ps := [PM.ro (SD.bor 161)], rs := [RM.v (SD.own 131 true), RM.v (SD.bool)] }
  | 65 => some { ps := [PM.ro (SD.bor 161)], rs := [RM.v (SD.own 131 true), RM.v (SD.bool)] }
  | 9 => some { ps := [PM.ro (SD.bor 151)], rs := [RM.v (SD.bool)] }
  | _ => none
/-! impl.within -/
def F102 (I : Interp) (n : Nat) (a : List PV) : Option (List PV) :=
  (some [(selB (geI (nth a 0).toInt (nth a 1).toInt) (selB ((geI (nth a 0).toInt (nth a 1).toInt) == true) (PV.bool (leI (selB ((geI (nth a 0).toInt (nth a 1).toInt) == true) (nth a 0) PV.unit).toInt (selB ((geI (nth a 0).toInt (nth a 1).toInt) == true) (nth a 2) PV.unit).toInt)) PV.unit) (PV.bool false))])
theorem e102 : ∀ I n a, (compF Try.prog sg 102).map (fun d => d.ev I n a) = some (F102 I n a) := fun I n a => by kernel_rfl
/-! impl.irArity -/
def F211 (I : Interp) (n : Nat) (a : List PV) : Option (List PV) :=
  (thenN (iff (eqI (nth a 0).toInt (1 : Int))
  (some (Ex.n, [(PV.bool (eqI (nth a 0).toInt (1 : Int))), (nth a 0)]))
  (iff (eqI (nth a 0).toInt (2 : Int))
  (some (Ex.n, [(PV.bool (eqI (nth a 0).toInt (2 : Int))), (nth a 0)]))
  (iff (eqI (nth a 0).toInt (3 : Int))
  (some (Ex.n, [(PV.bool (eqI (nth a 0).toInt (3 : Int))), (nth a 0)]))
  (iff (eqI (nth a 0).toInt (4 : Int))
  (some (Ex.n, [(PV.bool (eqI (nth a 0).toInt (4 : Int))), (nth a 0)]))
  (some (Ex.n, [(PV.bool (eqI (nth a 0).toInt (19 : Int))), (nth a 0)]))))))
  (fun p0 => (iff (nth p0 0).toBool
  (some [(PV.int (0 : Int))])
  (thenN (iff (eqI (nth p0 1).toInt (15 : Int))
  (some (Ex.n, [(PV.bool (eqI (nth p0 1).toInt (15 : Int))), (nth p0 1)]))
  (some (Ex.n, [(PV.bool (eqI (nth p0 1).toInt (16 : Int))), (nth p0 1)])))
  (fun p1 => (iff (nth p1 0).toBool
  (some [(PV.int (1 : Int))])
  (thenN (iff (eqI (nth p1 1).toInt (6 : Int))
  (some (Ex.n, [(PV.bool (eqI (nth p1 1).toInt (6 : Int))), (nth p1 1)]))
  (iff (eqI (nth p1 1).toInt (7 : Int))
  (some (Ex.n, [(PV.bool (eqI (nth p1 1).toInt (7 : Int))), (nth p1 1)]))
  (iff (eqI (nth p1 1).toInt (9 : Int))
  (some (Ex.n, [(PV.bool (eqI (nth p1 1).toInt (9 : Int))), (nth p1 1)]))
  (iff (eqI (nth p1 1).toInt (10 : Int))
  (some (Ex.n, [(PV.bool (eqI (nth p1 1).toInt (10 : Int))), (nth p1 1)]))
  (iff (eqI (nth p1 1).toInt (11 : Int))
  (some (Ex.n, [(PV.bool (eqI (nth p1 1).toInt (11 : Int))), (nth p1 1)]))
  (iff (eqI (nth p1 1).toInt (12 : Int))
  (some (Ex.n, [(PV.bool (eqI (nth p1 1).toInt (12 : Int))), (nth p1 1)]))
  (some (Ex.n, [(PV.bool (eqI (nth p1 1).toInt (13 : Int))), (nth p1 1)]))))))))
  (fun p2 => (iff (nth p2 0).toBool
  (some [(PV.int (2 : Int))])
  (thenN (iff (eqI (nth p2 1).toInt (8 : Int))
  (some (Ex.n, [(PV.bool (eqI (nth p2 1).toInt (8 : Int))), (nth p2 1)]))
  (iff (eqI (nth p2 1).toInt (17 : Int))
  (some (Ex.n, [(PV.bool (eqI (nth p2 1).toInt (17 : Int))), (nth p2 1)]))
  (some (Ex.n, [(PV.bool (eqI (nth p2 1).toInt (18 : Int))), (nth p2 1)]))))
  (fun p3 => (iff (nth p3 0).toBool
  (some [(PV.int (3 : Int))])
  (thenN (iff (eqI (nth p3 1).toInt (5 : Int))
  (some (Ex.n, [(PV.bool (eqI (nth p3 1).toInt (5 : Int)))]))
  (some (Ex.n, [(PV.bool (eqI (nth p3 1).toInt (14 : Int)))])))
  (fun p4 => (iff (nth p4 0).toBool
  (some [(PV.int (-2 : Int))])
  (some [(PV.int (-1 : Int))])))
  (retE fun q5 => [(nth q5 0)]))))
  (retE fun q6 => [(nth q6 0)]))))
  (retE fun q7 => [(nth q7 0)]))))
  (retE fun q8 => [(nth q8 0)]))))
  (retE fun q9 => [(nth q9 0)]))
theorem e211 : ∀ I n a, (compF Try.prog sg 211).map (fun d => d.ev I n a) = some (F211 I n a) := fun I n a => by kernel_rfl
/-! laws.heldOpS -/
def L146_0 (I : Interp) (n : Nat) (p0 : List PV) : Option (Ex × List PV) :=
  (iff (ltI (nth p0 0).toInt ((nth p0 1).toList.length : Int))
  (iff (geI (nth p0 0).toInt (0 : Int))
  (iff (ltI (nth p0 0).toInt ((nth p0 1).toList.length : Int))
  (iff (neI ((nth (nth p0 1).toList (nth p0 0).toInt.toNat).fld 0).toInt (nth p0 2).toInt)
  (some (Ex.r, [(PV.int (-1 : Int))]))
  (iff (geI (nth p0 0).toInt (0 : Int))
  (iff (ltI (nth p0 0).toInt ((nth p0 1).toList.length : Int))
  (iff (neI ((nth (nth p0 1).toList (nth p0 0).toInt.toNat).fld 1).toInt (IntKind.i64.wrap ((nth p0 2).toInt + (1 : Int))))
  (some (Ex.r, [(PV.int (-1 : Int))]))
  (iff (geI (nth p0 0).toInt (0 : Int))
  (iff (ltI (nth p0 0).toInt ((nth p0 1).toList.length : Int))
  (iff (neI ((nth (nth p0 1).toList (nth p0 0).toInt.toNat).fld 2).toInt (IntKind.i64.wrap ((IntKind.i64.wrap ((nth p0 2).toInt + (1 : Int))) + (1 : Int))))
  (some (Ex.r, [(PV.int (-1 : Int))]))
  (some (Ex.n, [(PV.int (IntKind.i64.wrap ((nth p0 0).toInt + (1 : Int)))), (nth p0 1), (PV.int (IntKind.i64.wrap ((IntKind.i64.wrap ((IntKind.i64.wrap ((nth p0 2).toInt + (1 : Int))) + (1 : Int))) + (1 : Int))))])))
  none)
  none))
  none)
  none))
  none)
  none)
  (some (Ex.x 0, [(nth p0 2)])))
def F146 (I : Interp) (n : Nat) (a : List PV) : Option (List PV) :=
  (thenN (thenE (loopEv (L146_0 I n) n [(PV.int (0 : Int)), (nth a 0), (nth a 1)])
  (passB 0))
  (fun p1 => (some [(nth p1 0)]))
  (retE fun q2 => [(nth q2 0)]))
theorem e146 : ∀ I n a, (compF Try.prog sg 146).map (fun d => d.ev I n a) = some (F146 I n a) := fun I n a => by kernel_rfl
/-! laws.markOpS -/
def L145_0 (I : Interp) (n : Nat) (p0 : List PV) : Option (Ex × List PV) :=
  (iff (ltI (nth p0 0).toInt ((nth p0 2).toList.length : Int))
  (iff (geI (nth p0 0).toInt (0 : Int))
  (iff (ltI (nth p0 0).toInt ((nth p0 2).toList.length : Int))
  (iff (geI (nth p0 0).toInt (0 : Int))
  (iff (ltI (nth p0 0).toInt (((nth p0 2).toList.set (nth p0 0).toInt.toNat ((nth (nth p0 2).toList (nth p0 0).toInt.toNat).setFld 0 (nth p0 1))).length : Int))
  (iff (geI (nth p0 0).toInt (0 : Int))
  (iff (ltI (nth p0 0).toInt ((((nth p0 2).toList.set (nth p0 0).toInt.toNat ((nth (nth p0 2).toList (nth p0 0).toInt.toNat).setFld 0 (nth p0 1))).set (nth p0 0).toInt.toNat ((nth ((nth p0 2).toList.set (nth p0 0).toInt.toNat ((nth (nth p0 2).toList (nth p0 0).toInt.toNat).setFld 0 (nth p0 1))) (nth p0 0).toInt.toNat).setFld 1 (PV.int (IntKind.i64.wrap ((nth p0 1).toInt + (1 : Int)))))).length : Int))
  (some (Ex.n, [(PV.int (IntKind.i64.wrap ((nth p0 0).toInt + (1 : Int)))), (PV.int (IntKind.i64.wrap ((IntKind.i64.wrap ((IntKind.i64.wrap ((nth p0 1).toInt + (1 : Int))) + (1 : Int))) + (1 : Int)))), (PV.list ((((nth p0 2).toList.set (nth p0 0).toInt.toNat ((nth (nth p0 2).toList (nth p0 0).toInt.toNat).setFld 0 (nth p0 1))).set (nth p0 0).toInt.toNat ((nth ((nth p0 2).toList.set (nth p0 0).toInt.toNat ((nth (nth p0 2).toList (nth p0 0).toInt.toNat).setFld 0 (nth p0 1))) (nth p0 0).toInt.toNat).setFld 1 (PV.int (IntKind.i64.wrap ((nth p0 1).toInt + (1 : Int)))))).set (nth p0 0).toInt.toNat ((nth (((nth p0 2).toList.set (nth p0 0).toInt.toNat ((nth (nth p0 2).toList (nth p0 0).toInt.toNat).setFld 0 (nth p0 1))).set (nth p0 0).toInt.toNat ((nth ((nth p0 2).toList.set (nth p0 0).toInt.toNat ((nth (nth p0 2).toList (nth p0 0).toInt.toNat).setFld 0 (nth p0 1))) (nth p0 0).toInt.toNat).setFld 1 (PV.int (IntKind.i64.wrap ((nth p0 1).toInt + (1 : Int)))))) (nth p0 0).toInt.toNat).setFld 2 (PV.int (IntKind.i64.wrap ((IntKind.i64.wrap ((nth p0 1).toInt + (1 : Int))) + (1 : Int)))))))]))
  none)
  none)
  none)
  none)
  none)
  none)
  (some (Ex.x 0, [(nth p0 2), (nth p0 1)])))
def F145 (I : Interp) (n : Nat) (a : List PV) : Option (List PV) :=
  (thenN (thenE (loopEv (L145_0 I n) n [(PV.int (0 : Int)), (nth a 1), (nth a 0)])
  (passB 0))
  (fun p1 => (some [(nth p1 1), (nth p1 0)]))
  (retE fun q2 => [(nth q2 1), (nth q2 0)]))
theorem e145 : ∀ I n a, (compF Try.prog sg 145).map (fun d => d.ev I n a) = some (F145 I n a) := fun I n a => by kernel_rfl
/-! laws.markOpS -/
def L4241_0 (I : Interp) (n : Nat) (p0 : List PV) : Option (Ex × List PV) :=
  (iff (ltI (nth p0 0).toInt ((nth p0 1).toList.length : Int))
  (iff (geI (nth p0 0).toInt (0 : Int))
  (iff (ltI (nth p0 0).toInt ((nth p0 1).toList.length : Int))
  (iff (geI (nth p0 0).toInt (0 : Int))
  (iff (ltI (nth p0 0).toInt (((nth p0 1).toList.set (nth p0 0).toInt.toNat ((nth (nth p0 1).toList (nth p0 0).toInt.toNat).setFld 0 (nth p0 2))).length : Int))
  (iff (geI (nth p0 0).toInt (0 : Int))
  (iff (ltI (nth p0 0).toInt ((((nth p0 1).toList.set (nth p0 0).toInt.toNat ((nth (nth p0 1).toList (nth p0 0).toInt.toNat).setFld 0 (nth p0 2))).set (nth p0 0).toInt.toNat ((nth ((nth p0 1).toList.set (nth p0 0).toInt.toNat ((nth (nth p0 1).toList (nth p0 0).toInt.toNat).setFld 0 (nth p0 2))) (nth p0 0).toInt.toNat).setFld 1 (PV.int (IntKind.i64.wrap ((nth p0 2).toInt + (1 : Int)))))).length : Int))
  (some (Ex.n, [(PV.int (IntKind.i64.wrap ((nth p0 0).toInt + (1 : Int)))), (PV.list ((((nth p0 1).toList.set (nth p0 0).toInt.toNat ((nth (nth p0 1).toList (nth p0 0).toInt.toNat).setFld 0 (nth p0 2))).set (nth p0 0).toInt.toNat ((nth ((nth p0 1).toList.set (nth p0 0).toInt.toNat ((nth (nth p0 1).toList (nth p0 0).toInt.toNat).setFld 0 (nth p0 2))) (nth p0 0).toInt.toNat).setFld 1 (PV.int (IntKind.i64.wrap ((nth p0 2).toInt + (1 : Int)))))).set (nth p0 0).toInt.toNat ((nth (((nth p0 1).toList.set (nth p0 0).toInt.toNat ((nth (nth p0 1).toList (nth p0 0).toInt.toNat).setFld 0 (nth p0 2))).set (nth p0 0).toInt.toNat ((nth ((nth p0 1).toList.set (nth p0 0).toInt.toNat ((nth (nth p0 1).toList (nth p0 0).toInt.toNat).setFld 0 (nth p0 2))) (nth p0 0).toInt.toNat).setFld 1 (PV.int (IntKind.i64.wrap ((nth p0 2).toInt + (1 : Int)))))) (nth p0 0).toInt.toNat).setFld 2 (PV.int (IntKind.i64.wrap ((IntKind.i64.wrap ((nth p0 2).toInt + (1 : Int))) + (1 : Int))))))), (PV.int (IntKind.i64.wrap ((IntKind.i64.wrap ((IntKind.i64.wrap ((nth p0 2).toInt + (1 : Int))) + (1 : Int))) + (1 : Int))))]))
  none)
  none)
  none)
  none)
  none)
  none)
  (some (Ex.x 0, [(nth p0 2)])))
def F4241 (I : Interp) (n : Nat) (a : List PV) : Option (List PV) :=
  (thenN (thenE (loopEv (L4241_0 I n) n [(PV.int (0 : Int)), (nth a 0), (nth a 1)])
  (passB 0))
  (fun p1 => (some [(nth p1 0)]))
  (retE fun q2 => [(nth q2 0)]))
theorem e4241 : ∀ I n a, (compF Try.prog sg 4241).map (fun d => d.ev I n a) = some (F4241 I n a) := fun I n a => by kernel_rfl
/-! laws.markIrS -/
def L144_0 (I : Interp) (n : Nat) (p0 : List PV) : Option (Ex × List PV) :=
  (iff (ltI (nth p0 0).toInt ((nth p0 2).toList.length : Int))
  (iff (geI (nth p0 0).toInt (0 : Int))
  (iff (ltI (nth p0 0).toInt ((nth p0 2).toList.length : Int))
  (iff (geI (nth p0 0).toInt (0 : Int))
  (iff (ltI (nth p0 0).toInt (((nth p0 2).toList.set (nth p0 0).toInt.toNat ((nth (nth p0 2).toList (nth p0 0).toInt.toNat).setFld 0 (nth p0 1))).length : Int))
  (iff (geI (nth p0 0).toInt (0 : Int))
  (iff (ltI (nth p0 0).toInt ((((nth p0 2).toList.set (nth p0 0).toInt.toNat ((nth (nth p0 2).toList (nth p0 0).toInt.toNat).setFld 0 (nth p0 1))).set (nth p0 0).toInt.toNat ((nth ((nth p0 2).toList.set (nth p0 0).toInt.toNat ((nth (nth p0 2).toList (nth p0 0).toInt.toNat).setFld 0 (nth p0 1))) (nth p0 0).toInt.toNat).setFld 1 (PV.int (IntKind.i64.wrap ((nth p0 1).toInt + (1 : Int)))))).length : Int))
  ((I 144 [((nth (((nth p0 2).toList.set (nth p0 0).toInt.toNat ((nth (nth p0 2).toList (nth p0 0).toInt.toNat).setFld 0 (nth p0 1))).set (nth p0 0).toInt.toNat ((nth ((nth p0 2).toList.set (nth p0 0).toInt.toNat ((nth (nth p0 2).toList (nth p0 0).toInt.toNat).setFld 0 (nth p0 1))) (nth p0 0).toInt.toNat).setFld 1 (PV.int (IntKind.i64.wrap ((nth p0 1).toInt + (1 : Int)))))) (nth p0 0).toInt.toNat).fld 2), (PV.int (IntKind.i64.wrap ((IntKind.i64.wrap ((nth p0 1).toInt + (1 : Int))) + (1 : Int))))]).bind fun r1 =>
  (some (Ex.n, [(PV.int (IntKind.i64.wrap ((nth p0 0).toInt + (1 : Int)))), (nth r1 0), (PV.list ((((nth p0 2).toList.set (nth p0 0).toInt.toNat ((nth (nth p0 2).toList (nth p0 0).toInt.toNat).setFld 0 (nth p0 1))).set (nth p0 0).toInt.toNat ((nth ((nth p0 2).toList.set (nth p0 0).toInt.toNat ((nth (nth p0 2).toList (nth p0 0).toInt.toNat).setFld 0 (nth p0 1))) (nth p0 0).toInt.toNat).setFld 1 (PV.int (IntKind.i64.wrap ((nth p0 1).toInt + (1 : Int)))))).set (nth p0 0).toInt.toNat ((nth (((nth p0 2).toList.set (nth p0 0).toInt.toNat ((nth (nth p0 2).toList (nth p0 0).toInt.toNat).setFld 0 (nth p0 1))).set (nth p0 0).toInt.toNat ((nth ((nth p0 2).toList.set (nth p0 0).toInt.toNat ((nth (nth p0 2).toList (nth p0 0).toInt.toNat).setFld 0 (nth p0 1))) (nth p0 0).toInt.toNat).setFld 1 (PV.int (IntKind.i64.wrap ((nth p0 1).toInt + (1 : Int)))))) (nth p0 0).toInt.toNat).setFld 2 (nth r1 1))))])))
  none)
  none)
  none)
  none)
  none)
  none)
  (some (Ex.x 0, [(nth p0 2), (nth p0 1)])))
def F144 (I : Interp) (n : Nat) (a : List PV) : Option (List PV) :=
  (thenN (thenE (loopEv (L144_0 I n) n [(PV.int (0 : Int)), (nth a 1), (nth a 0)])
  (passB 0))
  (fun p2 => (some [(nth p2 1), (nth p2 0)]))
  (retE fun q3 => [(nth q3 1), (nth q3 0)]))
theorem e144 : ∀ I n a, (compF Try.prog sg 144).map (fun d => d.ev I n a) = some (F144 I n a) := fun I n a => by kernel_rfl
/-! laws.markIrS -/
def L4240_0 (I : Interp) (n : Nat) (p0 : List PV) : Option (Ex × List PV) :=
  (iff (ltI (nth p0 0).toInt ((nth p0 1).toList.length : Int))
  (iff (geI (nth p0 0).toInt (0 : Int))
  (iff (ltI (nth p0 0).toInt ((nth p0 1).toList.length : Int))
  (iff (geI (nth p0 0).toInt (0 : Int))
  (iff (ltI (nth p0 0).toInt (((nth p0 1).toList.set (nth p0 0).toInt.toNat ((nth (nth p0 1).toList (nth p0 0).toInt.toNat).setFld 0 (nth p0 2))).length : Int))
  (iff (geI (nth p0 0).toInt (0 : Int))
  (iff (ltI (nth p0 0).toInt ((((nth p0 1).toList.set (nth p0 0).toInt.toNat ((nth (nth p0 1).toList (nth p0 0).toInt.toNat).setFld 0 (nth p0 2))).set (nth p0 0).toInt.toNat ((nth ((nth p0 1).toList.set (nth p0 0).toInt.toNat ((nth (nth p0 1).toList (nth p0 0).toInt.toNat).setFld 0 (nth p0 2))) (nth p0 0).toInt.toNat).setFld 1 (PV.int (IntKind.i64.wrap ((nth p0 2).toInt + (1 : Int)))))).length : Int))
  ((I 144 [((nth (((nth p0 1).toList.set (nth p0 0).toInt.toNat ((nth (nth p0 1).toList (nth p0 0).toInt.toNat).setFld 0 (nth p0 2))).set (nth p0 0).toInt.toNat ((nth ((nth p0 1).toList.set (nth p0 0).toInt.toNat ((nth (nth p0 1).toList (nth p0 0).toInt.toNat).setFld 0 (nth p0 2))) (nth p0 0).toInt.toNat).setFld 1 (PV.int (IntKind.i64.wrap ((nth p0 2).toInt + (1 : Int)))))) (nth p0 0).toInt.toNat).fld 2), (PV.int (IntKind.i64.wrap ((IntKind.i64.wrap ((nth p0 2).toInt + (1 : Int))) + (1 : Int))))]).bind fun r1 =>
  (some (Ex.n, [(PV.int (IntKind.i64.wrap ((nth p0 0).toInt + (1 : Int)))), (PV.list ((((nth p0 1).toList.set (nth p0 0).toInt.toNat ((nth (nth p0 1).toList (nth p0 0).toInt.toNat).setFld 0 (nth p0 2))).set (nth p0 0).toInt.toNat ((nth ((nth p0 1).toList.set (nth p0 0).toInt.toNat ((nth (nth p0 1).toList (nth p0 0).toInt.toNat).setFld 0 (nth p0 2))) (nth p0 0).toInt.toNat).setFld 1 (PV.int (IntKind.i64.wrap ((nth p0 2).toInt + (1 : Int)))))).set (nth p0 0).toInt.toNat ((nth (((nth p0 1).toList.set (nth p0 0).toInt.toNat ((nth (nth p0 1).toList (nth p0 0).toInt.toNat).setFld 0 (nth p0 2))).set (nth p0 0).toInt.toNat ((nth ((nth p0 1).toList.set (nth p0 0).toInt.toNat ((nth (nth p0 1).toList (nth p0 0).toInt.toNat).setFld 0 (nth p0 2))) (nth p0 0).toInt.toNat).setFld 1 (PV.int (IntKind.i64.wrap ((nth p0 2).toInt + (1 : Int)))))) (nth p0 0).toInt.toNat).setFld 2 (nth r1 1)))), (nth r1 0)])))
  none)
  none)
  none)
  none)
  none)
  none)
  (some (Ex.x 0, [(nth p0 2)])))
def F4240 (I : Interp) (n : Nat) (a : List PV) : Option (List PV) :=
  (thenN (thenE (loopEv (L4240_0 I n) n [(PV.int (0 : Int)), (nth a 0), (nth a 1)])
  (passB 0))
  (fun p2 => (some [(nth p2 0)]))
  (retE fun q3 => [(nth q3 0)]))
theorem e4240 : ∀ I n a, (compF Try.prog sg 4240).map (fun d => d.ev I n a) = some (F4240 I n a) := fun I n a => by kernel_rfl
/-! laws.eqOp -/
def F213 (I : Interp) (n : Nat) (a : List PV) : Option (List PV) :=
  (iff (neI ((nth a 0).fld 0).toInt ((nth a 1).fld 0).toInt)
  (some [(PV.bool false)])
  (iff (neI ((nth a 0).fld 1).toInt ((nth a 1).fld 1).toInt)
  (some [(PV.bool false)])
  (iff (neI ((nth a 0).fld 2).toInt ((nth a 1).fld 2).toInt)
  (some [(PV.bool false)])
  (some [(PV.bool true)]))))
theorem e213 : ∀ I n a, (compF Try.prog sg 213).map (fun d => d.ev I n a) = some (F213 I n a) := fun I n a => by kernel_rfl
/-! impl.leads -/
def F212 (I : Interp) (n : Nat) (a : List PV) : Option (List PV) :=
  (thenN (iff (eqI (nth a 0).toInt (18 : Int))
  (some (Ex.n, [(PV.bool (eqI (nth a 0).toInt (18 : Int))), (nth a 0)]))
  (some (Ex.n, [(PV.bool (eqI (nth a 0).toInt (19 : Int))), (nth a 0)])))
  (fun p0 => (iff (nth p0 0).toBool
  (some [(PV.int (1 : Int))])
  (thenN (iff (eqI (nth p0 1).toInt (10 : Int))
  (some (Ex.n, [(PV.bool (eqI (nth p0 1).toInt (10 : Int)))]))
  (some (Ex.n, [(PV.bool (eqI (nth p0 1).toInt (11 : Int)))])))
  (fun p1 => (iff (nth p1 0).toBool
  (some [(PV.int (2 : Int))])
  (some [(PV.int (0 : Int))])))
  (retE fun q2 => [(nth q2 0)]))))
  (retE fun q3 => [(nth q3 0)]))
theorem e212 : ∀ I n a, (compF Try.prog sg 212).map (fun d => d.ev I n a) = some (F212 I n a) := fun I n a => by kernel_rfl
/-! impl.maker).put -/
def F141 (I : Interp) (n : Nat) (a : List PV) : Option (List PV) :=
  (iff (leN (((nth a 0).fld 0).toList.length + ((PV.agg [(nth a 1), (nth a 2), (nth a 3)]) :: ([] : List PV)).length) 5864062014805)
  (some [(((nth a 0).setFld 0 PV.unit).setFld 0 (PV.list (((nth a 0).fld 0).toList ++ ((PV.agg [(nth a 1), (nth a 2), (nth a 3)]) :: ([] : List PV)))))])
  none)
theorem e141 : ∀ I n a, (compF Try.prog sg 141).map (fun d => d.ev I n a) = some (F141 I n a) := fun I n a => by kernel_rfl
/-! spec.l1In -/
def F104 (I : Interp) (n : Nat) (a : List PV) : Option (List PV) :=
  (some [(selB (geI (nth a 0).toInt (nth a 1).toInt) (selB ((geI (nth a 0).toInt (nth a 1).toInt) == true) (PV.bool (leI (selB ((geI (nth a 0).toInt (nth a 1).toInt) == true) (nth a 0) PV.unit).toInt (selB ((geI (nth a 0).toInt (nth a 1).toInt) == true) (nth a 2) PV.unit).toInt)) PV.unit) (PV.bool false))])
theorem e104 : ∀ I n a, (compF Try.prog sg 104).map (fun d => d.ev I n a) = some (F104 I n a) := fun I n a => by kernel_rfl
/-! spec.l14Put -/
def F137 (I : Interp) (n : Nat) (a : List PV) : Option (List PV) :=
  (iff (leN (((nth a 0).fld 0).toList.length + ((PV.agg [(nth a 1), (nth a 2), (nth a 3)]) :: ([] : List PV)).length) 5864062014805)
  (some [(PV.int (IntKind.i64.wrap ((((((nth a 0).setFld 0 PV.unit).setFld 0 (PV.list (((nth a 0).fld 0).toList ++ ((PV.agg [(nth a 1), (nth a 2), (nth a 3)]) :: ([] : List PV))))).fld 0).toList.length : Int) - (1 : Int)))), (((nth a 0).setFld 0 PV.unit).setFld 0 (PV.list (((nth a 0).fld 0).toList ++ ((PV.agg [(nth a 1), (nth a 2), (nth a 3)]) :: ([] : List PV)))))])
  none)
theorem e137 : ∀ I n a, (compF Try.prog sg 137).map (fun d => d.ev I n a) = some (F137 I n a) := fun I n a => by kernel_rfl
/-! spec.l1Bit -/
def F193 (I : Interp) (n : Nat) (a : List PV) : Option (List PV) :=
  (iff (nth a 0).toBool
  (some [(PV.int (1 : Int))])
  (some [(PV.int (0 : Int))]))
theorem e193 : ∀ I n a, (compF Try.prog sg 193).map (fun d => d.ev I n a) = some (F193 I n a) := fun I n a => by kernel_rfl
/-! spec.l12Kids -/
def F209 (I : Interp) (n : Nat) (a : List PV) : Option (List PV) :=
  (thenN (iff (eqI (nth a 0).toInt (1 : Int))
  (some (Ex.n, [(PV.bool (eqI (nth a 0).toInt (1 : Int))), (nth a 0)]))
  (iff (eqI (nth a 0).toInt (2 : Int))
  (some (Ex.n, [(PV.bool (eqI (nth a 0).toInt (2 : Int))), (nth a 0)]))
  (iff (eqI (nth a 0).toInt (3 : Int))
  (some (Ex.n, [(PV.bool (eqI (nth a 0).toInt (3 : Int))), (nth a 0)]))
  (iff (eqI (nth a 0).toInt (4 : Int))
  (some (Ex.n, [(PV.bool (eqI (nth a 0).toInt (4 : Int))), (nth a 0)]))
  (some (Ex.n, [(PV.bool (eqI (nth a 0).toInt (19 : Int))), (nth a 0)]))))))
  (fun p0 => (iff (nth p0 0).toBool
  (some [(PV.int (0 : Int))])
  (thenN (iff (eqI (nth p0 1).toInt (15 : Int))
  (some (Ex.n, [(PV.bool (eqI (nth p0 1).toInt (15 : Int))), (nth p0 1)]))
  (some (Ex.n, [(PV.bool (eqI (nth p0 1).toInt (16 : Int))), (nth p0 1)])))
  (fun p1 => (iff (nth p1 0).toBool
  (some [(PV.int (1 : Int))])
  (thenN (iff (eqI (nth p1 1).toInt (8 : Int))
  (some (Ex.n, [(PV.bool (eqI (nth p1 1).toInt (8 : Int))), (nth p1 1)]))
  (iff (eqI (nth p1 1).toInt (17 : Int))
  (some (Ex.n, [(PV.bool (eqI (nth p1 1).toInt (17 : Int))), (nth p1 1)]))
  (some (Ex.n, [(PV.bool (eqI (nth p1 1).toInt (18 : Int))), (nth p1 1)]))))
  (fun p2 => (iff (nth p2 0).toBool
  (some [(PV.int (3 : Int))])
  (thenN (iff (eqI (nth p2 1).toInt (5 : Int))
  (some (Ex.n, [(PV.bool (eqI (nth p2 1).toInt (5 : Int)))]))
  (some (Ex.n, [(PV.bool (eqI (nth p2 1).toInt (14 : Int)))])))
  (fun p3 => (iff (nth p3 0).toBool
  (some [(PV.int (-1 : Int))])
  (some [(PV.int (2 : Int))])))
  (retE fun q4 => [(nth q4 0)]))))
  (retE fun q5 => [(nth q5 0)]))))
  (retE fun q6 => [(nth q6 0)]))))
  (retE fun q7 => [(nth q7 0)]))
theorem e209 : ∀ I n a, (compF Try.prog sg 209).map (fun d => d.ev I n a) = some (F209 I n a) := fun I n a => by kernel_rfl
/-! spec.IrSize -/
def L177_0 (I : Interp) (n : Nat) (p0 : List PV) : Option (Ex × List PV) :=
  (iff (ltI (nth p0 0).toInt (((nth p0 2).fld 2).toList.length : Int))
  (iff (geI (nth p0 0).toInt (0 : Int))
  (iff (ltI (nth p0 0).toInt (((nth p0 2).fld 2).toList.length : Int))
  ((I 177 [(nth ((nth p0 2).fld 2).toList (nth p0 0).toInt.toNat)]).bind fun r1 =>
  (some (Ex.n, [(PV.int (IntKind.i64.wrap ((nth p0 0).toInt + (1 : Int)))), (PV.int (IntKind.i64.wrap ((nth p0 1).toInt + (nth r1 0).toInt))), (nth p0 2)])))
  none)
  none)
  (some (Ex.x 0, [(nth p0 1)])))
def F177 (I : Interp) (n : Nat) (a : List PV) : Option (List PV) :=
  (thenN (thenE (loopEv (L177_0 I n) n [(PV.int (0 : Int)), (PV.int (1 : Int)), (nth a 0)])
  (passB 0))
  (fun p2 => (some [(nth p2 0)]))
  (retE fun q3 => [(nth q3 0)]))
theorem e177 : ∀ I n a, (compF Try.prog sg 177).map (fun d => d.ev I n a) = some (F177 I n a) := fun I n a => by kernel_rfl
/-! laws.heldFunS -/
def L70_0 (I : Interp) (n : Nat) (p0 : List PV) : Option (Ex × List PV) :=
  (iff (ltI (nth p0 0).toInt ((nth p0 1).toList.length : Int))
  (iff (geI (nth p0 0).toInt (0 : Int))
  (iff (ltI (nth p0 0).toInt ((nth p0 1).toList.length : Int))
  (iff (neI ((nth (nth p0 1).toList (nth p0 0).toInt.toNat).fld 0).toInt (nth p0 2).toInt)
  (some (Ex.r, [(PV.int (-1 : Int))]))
  (iff (geI (nth p0 0).toInt (0 : Int))
  (iff (ltI (nth p0 0).toInt ((nth p0 1).toList.length : Int))
  ((I 146 [((nth (nth p0 1).toList (nth p0 0).toInt.toNat).fld 1), (PV.int (IntKind.i64.wrap ((nth p0 2).toInt + (1 : Int))))]).bind fun r1 =>
  (iff (ltI (nth r1 0).toInt (0 : Int))
  (some (Ex.r, [(PV.int (-1 : Int))]))
  (some (Ex.n, [(PV.int (IntKind.i64.wrap ((nth p0 0).toInt + (1 : Int)))), (nth p0 1), (nth r1 0)]))))
  none)
  none))
  none)
  none)
  (some (Ex.x 0, [(nth p0 2)])))
def F70 (I : Interp) (n : Nat) (a : List PV) : Option (List PV) :=
  (thenN (thenE (loopEv (L70_0 I n) n [(PV.int (0 : Int)), (nth a 0), (nth a 1)])
  (passB 0))
  (fun p2 => (some [(nth p2 0)]))
  (retE fun q3 => [(nth q3 0)]))
theorem e70 : ∀ I n a, (compF Try.prog sg 70).map (fun d => d.ev I n a) = some (F70 I n a) := fun I n a => by kernel_rfl
/-! spec.WordOk -/
def F117 (I : Interp) (n : Nat) (a : List PV) : Option (List PV) :=
  ((I 104 [(nth a 0), (PV.int (-1073741824 : Int)), (PV.int (1073741823 : Int))]).bind fun r0 =>
  (some [(nth r0 0)]))
theorem e117 : ∀ I n a, (compF Try.prog sg 117).map (fun d => d.ev I n a) = some (F117 I n a) := fun I n a => by kernel_rfl
/-! impl.opOk$1 -/
def F197 (I : Interp) (n : Nat) (a : List PV) : Option (List PV) :=
  ((I 102 [(nth a 0), (PV.int (0 : Int)), (PV.int (IntKind.i64.wrap ((((nth a 1).fld 1).toList.length : Int) - (1 : Int))))]).bind fun r0 =>
  (some [(nth r0 0)]))
theorem e197 : ∀ I n a, (compF Try.prog sg 197).map (fun d => d.ev I n a) = some (F197 I n a) := fun I n a => by kernel_rfl
/-! laws.markBlockS -/
def L68_0 (I : Interp) (n : Nat) (p0 : List PV) : Option (Ex × List PV) :=
  (iff (ltI (nth p0 0).toInt ((nth p0 2).toList.length : Int))
  (iff (geI (nth p0 0).toInt (0 : Int))
  (iff (ltI (nth p0 0).toInt ((nth p0 2).toList.length : Int))
  (iff (geI (nth p0 0).toInt (0 : Int))
  (iff (ltI (nth p0 0).toInt (((nth p0 2).toList.set (nth p0 0).toInt.toNat ((nth (nth p0 2).toList (nth p0 0).toInt.toNat).setFld 0 (nth p0 1))).length : Int))
  (iff (geI (nth p0 0).toInt (0 : Int))
  (iff (ltI (nth p0 0).toInt ((((nth p0 2).toList.set (nth p0 0).toInt.toNat ((nth (nth p0 2).toList (nth p0 0).toInt.toNat).setFld 0 (nth p0 1))).set (nth p0 0).toInt.toNat ((nth ((nth p0 2).toList.set (nth p0 0).toInt.toNat ((nth (nth p0 2).toList (nth p0 0).toInt.toNat).setFld 0 (nth p0 1))) (nth p0 0).toInt.toNat).setFld 1 (((nth ((nth p0 2).toList.set (nth p0 0).toInt.toNat ((nth (nth p0 2).toList (nth p0 0).toInt.toNat).setFld 0 (nth p0 1))) (nth p0 0).toInt.toNat).fld 1).setFld 0 (PV.int (IntKind.i64.wrap ((nth p0 1).toInt + (1 : Int))))))).length : Int))
  (iff (geI (nth p0 0).toInt (0 : Int))
  (iff (ltI (nth p0 0).toInt (((((nth p0 2).toList.set (nth p0 0).toInt.toNat ((nth (nth p0 2).toList (nth p0 0).toInt.toNat).setFld 0 (nth p0 1))).set (nth p0 0).toInt.toNat ((nth ((nth p0 2).toList.set (nth p0 0).toInt.toNat ((nth (nth p0 2).toList (nth p0 0).toInt.toNat).setFld 0 (nth p0 1))) (nth p0 0).toInt.toNat).setFld 1 (((nth ((nth p0 2).toList.set (nth p0 0).toInt.toNat ((nth (nth p0 2).toList (nth p0 0).toInt.toNat).setFld 0 (nth p0 1))) (nth p0 0).toInt.toNat).fld 1).setFld 0 (PV.int (IntKind.i64.wrap ((nth p0 1).toInt + (1 : Int))))))).set (nth p0 0).toInt.toNat ((nth (((nth p0 2).toList.set (nth p0 0).toInt.toNat ((nth (nth p0 2).toList (nth p0 0).toInt.toNat).setFld 0 (nth p0 1))).set (nth p0 0).toInt.toNat ((nth ((nth p0 2).toList.set (nth p0 0).toInt.toNat ((nth (nth p0 2).toList (nth p0 0).toInt.toNat).setFld 0 (nth p0 1))) (nth p0 0).toInt.toNat).setFld 1 (((nth ((nth p0 2).toList.set (nth p0 0).toInt.toNat ((nth (nth p0 2).toList (nth p0 0).toInt.toNat).setFld 0 (nth p0 1))) (nth p0 0).toInt.toNat).fld 1).setFld 0 (PV.int (IntKind.i64.wrap ((nth p0 1).toInt + (1 : Int))))))) (nth p0 0).toInt.toNat).setFld 1 (((nth (((nth p0 2).toList.set (nth p0 0).toInt.toNat ((nth (nth p0 2).toList (nth p0 0).toInt.toNat).setFld 0 (nth p0 1))).set (nth p0 0).toInt.toNat ((nth ((nth p0 2).toList.set (nth p0 0).toInt.toNat ((nth (nth p0 2).toList (nth p0 0).toInt.toNat).setFld 0 (nth p0 1))) (nth p0 0).toInt.toNat).setFld 1 (((nth ((nth p0 2).toList.set (nth p0 0).toInt.toNat ((nth (nth p0 2).toList (nth p0 0).toInt.toNat).setFld 0 (nth p0 1))) (nth p0 0).toInt.toNat).fld 1).setFld 0 (PV.int (IntKind.i64.wrap ((nth p0 1).toInt + (1 : Int))))))) (nth p0 0).toInt.toNat).fld 1).setFld 1 (PV.int (IntKind.i64.wrap ((IntKind.i64.wrap ((nth p0 1).toInt + (1 : Int))) + (1 : Int))))))).length : Int))
  ((I 144 [(((nth ((((nth p0 2).toList.set (nth p0 0).toInt.toNat ((nth (nth p0 2).toList (nth p0 0).toInt.toNat).setFld 0 (nth p0 1))).set (nth p0 0).toInt.toNat ((nth ((nth p0 2).toList.set (nth p0 0).toInt.toNat ((nth (nth p0 2).toList (nth p0 0).toInt.toNat).setFld 0 (nth p0 1))) (nth p0 0).toInt.toNat).setFld 1 (((nth ((nth p0 2).toList.set (nth p0 0).toInt.toNat ((nth (nth p0 2).toList (nth p0 0).toInt.toNat).setFld 0 (nth p0 1))) (nth p0 0).toInt.toNat).fld 1).setFld 0 (PV.int (IntKind.i64.wrap ((nth p0 1).toInt + (1 : Int))))))).set (nth p0 0).toInt.toNat ((nth (((nth p0 2).toList.set (nth p0 0).toInt.toNat ((nth (nth p0 2).toList (nth p0 0).toInt.toNat).setFld 0 (nth p0 1))).set (nth p0 0).toInt.toNat ((nth ((nth p0 2).toList.set (nth p0 0).toInt.toNat ((nth (nth p0 2).toList (nth p0 0).toInt.toNat).setFld 0 (nth p0 1))) (nth p0 0).toInt.toNat).setFld 1 (((nth ((nth p0 2).toList.set (nth p0 0).toInt.toNat ((nth (nth p0 2).toList (nth p0 0).toInt.toNat).setFld 0 (nth p0 1))) (nth p0 0).toInt.toNat).fld 1).setFld 0 (PV.int (IntKind.i64.wrap ((nth p0 1).toInt + (1 : Int))))))) (nth p0 0).toInt.toNat).setFld 1 (((nth (((nth p0 2).toList.set (nth p0 0).toInt.toNat ((nth (nth p0 2).toList (nth p0 0).toInt.toNat).setFld 0 (nth p0 1))).set (nth p0 0).toInt.toNat ((nth ((nth p0 2).toList.set (nth p0 0).toInt.toNat ((nth (nth p0 2).toList (nth p0 0).toInt.toNat).setFld 0 (nth p0 1))) (nth p0 0).toInt.toNat).setFld 1 (((nth ((nth p0 2).toList.set (nth p0 0).toInt.toNat ((nth (nth p0 2).toList (nth p0 0).toInt.toNat).setFld 0 (nth p0 1))) (nth p0 0).toInt.toNat).fld 1).setFld 0 (PV.int (IntKind.i64.wrap ((nth p0 1).toInt + (1 : Int))))))) (nth p0 0).toInt.toNat).fld 1).setFld 1 (PV.int (IntKind.i64.wrap ((IntKind.i64.wrap ((nth p0 1).toInt + (1 : Int))) + (1 : Int))))))) (nth p0 0).toInt.toNat).fld 1).fld 2), (PV.int (IntKind.i64.wrap ((IntKind.i64.wrap ((IntKind.i64.wrap ((nth p0 1).toInt + (1 : Int))) + (1 : Int))) + (1 : Int))))]).bind fun r1 =>
  (some (Ex.n, [(PV.int (IntKind.i64.wrap ((nth p0 0).toInt + (1 : Int)))), (nth r1 0), (PV.list (((((nth p0 2).toList.set (nth p0 0).toInt.toNat ((nth (nth p0 2).toList (nth p0 0).toInt.toNat).setFld 0 (nth p0 1))).set (nth p0 0).toInt.toNat ((nth ((nth p0 2).toList.set (nth p0 0).toInt.toNat ((nth (nth p0 2).toList (nth p0 0).toInt.toNat).setFld 0 (nth p0 1))) (nth p0 0).toInt.toNat).setFld 1 (((nth ((nth p0 2).toList.set (nth p0 0).toInt.toNat ((nth (nth p0 2).toList (nth p0 0).toInt.toNat).setFld 0 (nth p0 1))) (nth p0 0).toInt.toNat).fld 1).setFld 0 (PV.int (IntKind.i64.wrap ((nth p0 1).toInt + (1 : Int))))))).set (nth p0 0).toInt.toNat ((nth (((nth p0 2).toList.set (nth p0 0).toInt.toNat ((nth (nth p0 2).toList (nth p0 0).toInt.toNat).setFld 0 (nth p0 1))).set (nth p0 0).toInt.toNat ((nth ((nth p0 2).toList.set (nth p0 0).toInt.toNat ((nth (nth p0 2).toList (nth p0 0).toInt.toNat).setFld 0 (nth p0 1))) (nth p0 0).toInt.toNat).setFld 1 (((nth ((nth p0 2).toList.set (nth p0 0).toInt.toNat ((nth (nth p0 2).toList (nth p0 0).toInt.toNat).setFld 0 (nth p0 1))) (nth p0 0).toInt.toNat).fld 1).setFld 0 (PV.int (IntKind.i64.wrap ((nth p0 1).toInt + (1 : Int))))))) (nth p0 0).toInt.toNat).setFld 1 (((nth (((nth p0 2).toList.set (nth p0 0).toInt.toNat ((nth (nth p0 2).toList (nth p0 0).toInt.toNat).setFld 0 (nth p0 1))).set (nth p0 0).toInt.toNat ((nth ((nth p0 2).toList.set (nth p0 0).toInt.toNat ((nth (nth p0 2).toList (nth p0 0).toInt.toNat).setFld 0 (nth p0 1))) (nth p0 0).toInt.toNat).setFld 1 (((nth ((nth p0 2).toList.set (nth p0 0).toInt.toNat ((nth (nth p0 2).toList (nth p0 0).toInt.toNat).setFld 0 (nth p0 1))) (nth p0 0).toInt.toNat).fld 1).setFld 0 (PV.int (IntKind.i64.wrap ((nth p0 1).toInt + (1 : Int))))))) (nth p0 0).toInt.toNat).fld 1).setFld 1 (PV.int (IntKind.i64.wrap ((IntKind.i64.wrap ((nth p0 1).toInt + (1 : Int))) + (1 : Int))))))).set (nth p0 0).toInt.toNat ((nth ((((nth p0 2).toList.set (nth p0 0).toInt.toNat ((nth (nth p0 2).toList (nth p0 0).toInt.toNat).setFld 0 (nth p0 1))).set (nth p0 0).toInt.toNat ((nth ((nth p0 2).toList.set (nth p0 0).toInt.toNat ((nth (nth p0 2).toList (nth p0 0).toInt.toNat).setFld 0 (nth p0 1))) (nth p0 0).toInt.toNat).setFld 1 (((nth ((nth p0 2).toList.set (nth p0 0).toInt.toNat ((nth (nth p0 2).toList (nth p0 0).toInt.toNat).setFld 0 (nth p0 1))) (nth p0 0).toInt.toNat).fld 1).setFld 0 (PV.int (IntKind.i64.wrap ((nth p0 1).toInt + (1 : Int))))))).set (nth p0 0).toInt.toNat ((nth (((nth p0 2).toList.set (nth p0 0).toInt.toNat ((nth (nth p0 2).toList (nth p0 0).toInt.toNat).setFld 0 (nth p0 1))).set (nth p0 0).toInt.toNat ((nth ((nth p0 2).toList.set (nth p0 0).toInt.toNat ((nth (nth p0 2).toList (nth p0 0).toInt.toNat).setFld 0 (nth p0 1))) (nth p0 0).toInt.toNat).setFld 1 (((nth ((nth p0 2).toList.set (nth p0 0).toInt.toNat ((nth (nth p0 2).toList (nth p0 0).toInt.toNat).setFld 0 (nth p0 1))) (nth p0 0).toInt.toNat).fld 1).setFld 0 (PV.int (IntKind.i64.wrap ((nth p0 1).toInt + (1 : Int))))))) (nth p0 0).toInt.toNat).setFld 1 (((nth (((nth p0 2).toList.set (nth p0 0).toInt.toNat ((nth (nth p0 2).toList (nth p0 0).toInt.toNat).setFld 0 (nth p0 1))).set (nth p0 0).toInt.toNat ((nth ((nth p0 2).toList.set (nth p0 0).toInt.toNat ((nth (nth p0 2).toList (nth p0 0).toInt.toNat).setFld 0 (nth p0 1))) (nth p0 0).toInt.toNat).setFld 1 (((nth ((nth p0 2).toList.set (nth p0 0).toInt.toNat ((nth (nth p0 2).toList (nth p0 0).toInt.toNat).setFld 0 (nth p0 1))) (nth p0 0).toInt.toNat).fld 1).setFld 0 (PV.int (IntKind.i64.wrap ((nth p0 1).toInt + (1 : Int))))))) (nth p0 0).toInt.toNat).fld 1).setFld 1 (PV.int (IntKind.i64.wrap ((IntKind.i64.wrap ((nth p0 1).toInt + (1 : Int))) + (1 : Int))))))) (nth p0 0).toInt.toNat).setFld 1 (((nth ((((nth p0 2).toList.set (nth p0 0).toInt.toNat ((nth (nth p0 2).toList (nth p0 0).toInt.toNat).setFld 0 (nth p0 1))).set (nth p0 0).toInt.toNat ((nth ((nth p0 2).toList.set (nth p0 0).toInt.toNat ((nth (nth p0 2).toList (nth p0 0).toInt.toNat).setFld 0 (nth p0 1))) (nth p0 0).toInt.toNat).setFld 1 (((nth ((nth p0 2).toList.set (nth p0 0).toInt.toNat ((nth (nth p0 2).toList (nth p0 0).toInt.toNat).setFld 0 (nth p0 1))) (nth p0 0).toInt.toNat).fld 1).setFld 0 (PV.int (IntKind.i64.wrap ((nth p0 1).toInt + (1 : Int))))))).set (nth p0 0).toInt.toNat ((nth (((nth p0 2).toList.set (nth p0 0).toInt.toNat ((nth (nth p0 2).toList (nth p0 0).toInt.toNat).setFld 0 (nth p0 1))).set (nth p0 0).toInt.toNat ((nth ((nth p0 2).toList.set (nth p0 0).toInt.toNat ((nth (nth p0 2).toList (nth p0 0).toInt.toNat).setFld 0 (nth p0 1))) (nth p0 0).toInt.toNat).setFld 1 (((nth ((nth p0 2).toList.set (nth p0 0).toInt.toNat ((nth (nth p0 2).toList (nth p0 0).toInt.toNat).setFld 0 (nth p0 1))) (nth p0 0).toInt.toNat).fld 1).setFld 0 (PV.int (IntKind.i64.wrap ((nth p0 1).toInt + (1 : Int))))))) (nth p0 0).toInt.toNat).setFld 1 (((nth (((nth p0 2).toList.set (nth p0 0).toInt.toNat ((nth (nth p0 2).toList (nth p0 0).toInt.toNat).setFld 0 (nth p0 1))).set (nth p0 0).toInt.toNat ((nth ((nth p0 2).toList.set (nth p0 0).toInt.toNat ((nth (nth p0 2).toList (nth p0 0).toInt.toNat).setFld 0 (nth p0 1))) (nth p0 0).toInt.toNat).setFld 1 (((nth ((nth p0 2).toList.set (nth p0 0).toInt.toNat ((nth (nth p0 2).toList (nth p0 0).toInt.toNat).setFld 0 (nth p0 1))) (nth p0 0).toInt.toNat).fld 1).setFld 0 (PV.int (IntKind.i64.wrap ((nth p0 1).toInt + (1 : Int))))))) (nth p0 0).toInt.toNat).fld 1).setFld 1 (PV.int (IntKind.i64.wrap ((IntKind.i64.wrap ((nth p0 1).toInt + (1 : Int))) + (1 : Int))))))) (nth p0 0).toInt.toNat).fld 1).setFld 2 (nth r1 1)))))])))
  none)
  none)
  none)
  none)
  none)
  none)
  none)
  none)
  (some (Ex.x 0, [(nth p0 2), (nth p0 1)])))
def F68 (I : Interp) (n : Nat) (a : List PV) : Option (List PV) :=
  (thenN (thenE (loopEv (L68_0 I n) n [(PV.int (0 : Int)), (nth a 1), (nth a 0)])
  (passB 0))
  (fun p2 => (some [(nth p2 1), (nth p2 0)]))
  (retE fun q3 => [(nth q3 1), (nth q3 0)]))
theorem e68 : ∀ I n a, (compF Try.prog sg 68).map (fun d => d.ev I n a) = some (F68 I n a) := fun I n a => by kernel_rfl
/-! laws.markBlockS -/
def L4164_0 (I : Interp) (n : Nat) (p0 : List PV) : Option (Ex × List PV) :=
  (iff (ltI (nth p0 0).toInt ((nth p0 1).toList.length : Int))
  (iff (geI (nth p0 0).toInt (0 : Int))
  (iff (ltI (nth p0 0).toInt ((nth p0 1).toList.length : Int))
  (iff (geI (nth p0 0).toInt (0 : Int))
  (iff (ltI (nth p0 0).toInt (((nth p0 1).toList.set (nth p0 0).toInt.toNat ((nth (nth p0 1).toList (nth p0 0).toInt.toNat).setFld 0 (nth p0 2))).length : Int))
  (iff (geI (nth p0 0).toInt (0 : Int))
  (iff (ltI (nth p0 0).toInt ((((nth p0 1).toList.set (nth p0 0).toInt.toNat ((nth (nth p0 1).toList (nth p0 0).toInt.toNat).setFld 0 (nth p0 2))).set (nth p0 0).toInt.toNat ((nth ((nth p0 1).toList.set (nth p0 0).toInt.toNat ((nth (nth p0 1).toList (nth p0 0).toInt.toNat).setFld 0 (nth p0 2))) (nth p0 0).toInt.toNat).setFld 1 (((nth ((nth p0 1).toList.set (nth p0 0).toInt.toNat ((nth (nth p0 1).toList (nth p0 0).toInt.toNat).setFld 0 (nth p0 2))) (nth p0 0).toInt.toNat).fld 1).setFld 0 (PV.int (IntKind.i64.wrap ((nth p0 2).toInt + (1 : Int))))))).length : Int))
  (iff (geI (nth p0 0).toInt (0 : Int))
  (iff (ltI (nth p0 0).toInt (((((nth p0 1).toList.set (nth p0 0).toInt.toNat ((nth (nth p0 1).toList (nth p0 0).toInt.toNat).setFld 0 (nth p0 2))).set (nth p0 0).toInt.toNat ((nth ((nth p0 1).toList.set (nth p0 0).toInt.toNat ((nth (nth p0 1).toList (nth p0 0).toInt.toNat).setFld 0 (nth p0 2))) (nth p0 0).toInt.toNat).setFld 1 (((nth ((nth p0 1).toList.set (nth p0 0).toInt.toNat ((nth (nth p0 1).toList (nth p0 0).toInt.toNat).setFld 0 (nth p0 2))) (nth p0 0).toInt.toNat).fld 1).setFld 0 (PV.int (IntKind.i64.wrap ((nth p0 2).toInt + (1 : Int))))))).set (nth p0 0).toInt.toNat ((nth (((nth p0 1).toList.set (nth p0 0).toInt.toNat ((nth (nth p0 1).toList (nth p0 0).toInt.toNat).setFld 0 (nth p0 2))).set (nth p0 0).toInt.toNat ((nth ((nth p0 1).toList.set (nth p0 0).toInt.toNat ((nth (nth p0 1).toList (nth p0 0).toInt.toNat).setFld 0 (nth p0 2))) (nth p0 0).toInt.toNat).setFld 1 (((nth ((nth p0 1).toList.set (nth p0 0).toInt.toNat ((nth (nth p0 1).toList (nth p0 0).toInt.toNat).setFld 0 (nth p0 2))) (nth p0 0).toInt.toNat).fld 1).setFld 0 (PV.int (IntKind.i64.wrap ((nth p0 2).toInt + (1 : Int))))))) (nth p0 0).toInt.toNat).setFld 1 (((nth (((nth p0 1).toList.set (nth p0 0).toInt.toNat ((nth (nth p0 1).toList (nth p0 0).toInt.toNat).setFld 0 (nth p0 2))).set (nth p0 0).toInt.toNat ((nth ((nth p0 1).toList.set (nth p0 0).toInt.toNat ((nth (nth p0 1).toList (nth p0 0).toInt.toNat).setFld 0 (nth p0 2))) (nth p0 0).toInt.toNat).setFld 1 (((nth ((nth p0 1).toList.set (nth p0 0).toInt.toNat ((nth (nth p0 1).toList (nth p0 0).toInt.toNat).setFld 0 (nth p0 2))) (nth p0 0).toInt.toNat).fld 1).setFld 0 (PV.int (IntKind.i64.wrap ((nth p0 2).toInt + (1 : Int))))))) (nth p0 0).toInt.toNat).fld 1).setFld 1 (PV.int (IntKind.i64.wrap ((IntKind.i64.wrap ((nth p0 2).toInt + (1 : Int))) + (1 : Int))))))).length : Int))
  ((I 144 [(((nth ((((nth p0 1).toList.set (nth p0 0).toInt.toNat ((nth (nth p0 1).toList (nth p0 0).toInt.toNat).setFld 0 (nth p0 2))).set (nth p0 0).toInt.toNat ((nth ((nth p0 1).toList.set (nth p0 0).toInt.toNat ((nth (nth p0 1).toList (nth p0 0).toInt.toNat).setFld 0 (nth p0 2))) (nth p0 0).toInt.toNat).setFld 1 (((nth ((nth p0 1).toList.set (nth p0 0).toInt.toNat ((nth (nth p0 1).toList (nth p0 0).toInt.toNat).setFld 0 (nth p0 2))) (nth p0 0).toInt.toNat).fld 1).setFld 0 (PV.int (IntKind.i64.wrap ((nth p0 2).toInt + (1 : Int))))))).set (nth p0 0).toInt.toNat ((nth (((nth p0 1).toList.set (nth p0 0).toInt.toNat ((nth (nth p0 1).toList (nth p0 0).toInt.toNat).setFld 0 (nth p0 2))).set (nth p0 0).toInt.toNat ((nth ((nth p0 1).toList.set (nth p0 0).toInt.toNat ((nth (nth p0 1).toList (nth p0 0).toInt.toNat).setFld 0 (nth p0 2))) (nth p0 0).toInt.toNat).setFld 1 (((nth ((nth p0 1).toList.set (nth p0 0).toInt.toNat ((nth (nth p0 1).toList (nth p0 0).toInt.toNat).setFld 0 (nth p0 2))) (nth p0 0).toInt.toNat).fld 1).setFld 0 (PV.int (IntKind.i64.wrap ((nth p0 2).toInt + (1 : Int))))))) (nth p0 0).toInt.toNat).setFld 1 (((nth (((nth p0 1).toList.set (nth p0 0).toInt.toNat ((nth (nth p0 1).toList (nth p0 0).toInt.toNat).setFld 0 (nth p0 2))).set (nth p0 0).toInt.toNat ((nth ((nth p0 1).toList.set (nth p0 0).toInt.toNat ((nth (nth p0 1).toList (nth p0 0).toInt.toNat).setFld 0 (nth p0 2))) (nth p0 0).toInt.toNat).setFld 1 (((nth ((nth p0 1).toList.set (nth p0 0).toInt.toNat ((nth (nth p0 1).toList (nth p0 0).toInt.toNat).setFld 0 (nth p0 2))) (nth p0 0).toInt.toNat).fld 1).setFld 0 (PV.int (IntKind.i64.wrap ((nth p0 2).toInt + (1 : Int))))))) (nth p0 0).toInt.toNat).fld 1).setFld 1 (PV.int (IntKind.i64.wrap ((IntKind.i64.wrap ((nth p0 2).toInt + (1 : Int))) + (1 : Int))))))) (nth p0 0).toInt.toNat).fld 1).fld 2), (PV.int (IntKind.i64.wrap ((IntKind.i64.wrap ((IntKind.i64.wrap ((nth p0 2).toInt + (1 : Int))) + (1 : Int))) + (1 : Int))))]).bind fun r1 =>
  (some (Ex.n, [(PV.int (IntKind.i64.wrap ((nth p0 0).toInt + (1 : Int)))), (PV.list (((((nth p0 1).toList.set (nth p0 0).toInt.toNat ((nth (nth p0 1).toList (nth p0 0).toInt.toNat).setFld 0 (nth p0 2))).set (nth p0 0).toInt.toNat ((nth ((nth p0 1).toList.set (nth p0 0).toInt.toNat ((nth (nth p0 1).toList (nth p0 0).toInt.toNat).setFld 0 (nth p0 2))) (nth p0 0).toInt.toNat).setFld 1 (((nth ((nth p0 1).toList.set (nth p0 0).toInt.toNat ((nth (nth p0 1).toList (nth p0 0).toInt.toNat).setFld 0 (nth p0 2))) (nth p0 0).toInt.toNat).fld 1).setFld 0 (PV.int (IntKind.i64.wrap ((nth p0 2).toInt + (1 : Int))))))).set (nth p0 0).toInt.toNat ((nth (((nth p0 1).toList.set (nth p0 0).toInt.toNat ((nth (nth p0 1).toList (nth p0 0).toInt.toNat).setFld 0 (nth p0 2))).set (nth p0 0).toInt.toNat ((nth ((nth p0 1).toList.set (nth p0 0).toInt.toNat ((nth (nth p0 1).toList (nth p0 0).toInt.toNat).setFld 0 (nth p0 2))) (nth p0 0).toInt.toNat).setFld 1 (((nth ((nth p0 1).toList.set (nth p0 0).toInt.toNat ((nth (nth p0 1).toList (nth p0 0).toInt.toNat).setFld 0 (nth p0 2))) (nth p0 0).toInt.toNat).fld 1).setFld 0 (PV.int (IntKind.i64.wrap ((nth p0 2).toInt + (1 : Int))))))) (nth p0 0).toInt.toNat).setFld 1 (((nth (((nth p0 1).toList.set (nth p0 0).toInt.toNat ((nth (nth p0 1).toList (nth p0 0).toInt.toNat).setFld 0 (nth p0 2))).set (nth p0 0).toInt.toNat ((nth ((nth p0 1).toList.set (nth p0 0).toInt.toNat ((nth (nth p0 1).toList (nth p0 0).toInt.toNat).setFld 0 (nth p0 2))) (nth p0 0).toInt.toNat).setFld 1 (((nth ((nth p0 1).toList.set (nth p0 0).toInt.toNat ((nth (nth p0 1).toList (nth p0 0).toInt.toNat).setFld 0 (nth p0 2))) (nth p0 0).toInt.toNat).fld 1).setFld 0 (PV.int (IntKind.i64.wrap ((nth p0 2).toInt + (1 : Int))))))) (nth p0 0).toInt.toNat).fld 1).setFld 1 (PV.int (IntKind.i64.wrap ((IntKind.i64.wrap ((nth p0 2).toInt + (1 : Int))) + (1 : Int))))))).set (nth p0 0).toInt.toNat ((nth ((((nth p0 1).toList.set (nth p0 0).toInt.toNat ((nth (nth p0 1).toList (nth p0 0).toInt.toNat).setFld 0 (nth p0 2))).set (nth p0 0).toInt.toNat ((nth ((nth p0 1).toList.set (nth p0 0).toInt.toNat ((nth (nth p0 1).toList (nth p0 0).toInt.toNat).setFld 0 (nth p0 2))) (nth p0 0).toInt.toNat).setFld 1 (((nth ((nth p0 1).toList.set (nth p0 0).toInt.toNat ((nth (nth p0 1).toList (nth p0 0).toInt.toNat).setFld 0 (nth p0 2))) (nth p0 0).toInt.toNat).fld 1).setFld 0 (PV.int (IntKind.i64.wrap ((nth p0 2).toInt + (1 : Int))))))).set (nth p0 0).toInt.toNat ((nth (((nth p0 1).toList.set (nth p0 0).toInt.toNat ((nth (nth p0 1).toList (nth p0 0).toInt.toNat).setFld 0 (nth p0 2))).set (nth p0 0).toInt.toNat ((nth ((nth p0 1).toList.set (nth p0 0).toInt.toNat ((nth (nth p0 1).toList (nth p0 0).toInt.toNat).setFld 0 (nth p0 2))) (nth p0 0).toInt.toNat).setFld 1 (((nth ((nth p0 1).toList.set (nth p0 0).toInt.toNat ((nth (nth p0 1).toList (nth p0 0).toInt.toNat).setFld 0 (nth p0 2))) (nth p0 0).toInt.toNat).fld 1).setFld 0 (PV.int (IntKind.i64.wrap ((nth p0 2).toInt + (1 : Int))))))) (nth p0 0).toInt.toNat).setFld 1 (((nth (((nth p0 1).toList.set (nth p0 0).toInt.toNat ((nth (nth p0 1).toList (nth p0 0).toInt.toNat).setFld 0 (nth p0 2))).set (nth p0 0).toInt.toNat ((nth ((nth p0 1).toList.set (nth p0 0).toInt.toNat ((nth (nth p0 1).toList (nth p0 0).toInt.toNat).setFld 0 (nth p0 2))) (nth p0 0).toInt.toNat).setFld 1 (((nth ((nth p0 1).toList.set (nth p0 0).toInt.toNat ((nth (nth p0 1).toList (nth p0 0).toInt.toNat).setFld 0 (nth p0 2))) (nth p0 0).toInt.toNat).fld 1).setFld 0 (PV.int (IntKind.i64.wrap ((nth p0 2).toInt + (1 : Int))))))) (nth p0 0).toInt.toNat).fld 1).setFld 1 (PV.int (IntKind.i64.wrap ((IntKind.i64.wrap ((nth p0 2).toInt + (1 : Int))) + (1 : Int))))))) (nth p0 0).toInt.toNat).setFld 1 (((nth ((((nth p0 1).toList.set (nth p0 0).toInt.toNat ((nth (nth p0 1).toList (nth p0 0).toInt.toNat).setFld 0 (nth p0 2))).set (nth p0 0).toInt.toNat ((nth ((nth p0 1).toList.set (nth p0 0).toInt.toNat ((nth (nth p0 1).toList (nth p0 0).toInt.toNat).setFld 0 (nth p0 2))) (nth p0 0).toInt.toNat).setFld 1 (((nth ((nth p0 1).toList.set (nth p0 0).toInt.toNat ((nth (nth p0 1).toList (nth p0 0).toInt.toNat).setFld 0 (nth p0 2))) (nth p0 0).toInt.toNat).fld 1).setFld 0 (PV.int (IntKind.i64.wrap ((nth p0 2).toInt + (1 : Int))))))).set (nth p0 0).toInt.toNat ((nth (((nth p0 1).toList.set (nth p0 0).toInt.toNat ((nth (nth p0 1).toList (nth p0 0).toInt.toNat).setFld 0 (nth p0 2))).set (nth p0 0).toInt.toNat ((nth ((nth p0 1).toList.set (nth p0 0).toInt.toNat ((nth (nth p0 1).toList (nth p0 0).toInt.toNat).setFld 0 (nth p0 2))) (nth p0 0).toInt.toNat).setFld 1 (((nth ((nth p0 1).toList.set (nth p0 0).toInt.toNat ((nth (nth p0 1).toList (nth p0 0).toInt.toNat).setFld 0 (nth p0 2))) (nth p0 0).toInt.toNat).fld 1).setFld 0 (PV.int (IntKind.i64.wrap ((nth p0 2).toInt + (1 : Int))))))) (nth p0 0).toInt.toNat).setFld 1 (((nth (((nth p0 1).toList.set (nth p0 0).toInt.toNat ((nth (nth p0 1).toList (nth p0 0).toInt.toNat).setFld 0 (nth p0 2))).set (nth p0 0).toInt.toNat ((nth ((nth p0 1).toList.set (nth p0 0).toInt.toNat ((nth (nth p0 1).toList (nth p0 0).toInt.toNat).setFld 0 (nth p0 2))) (nth p0 0).toInt.toNat).setFld 1 (((nth ((nth p0 1).toList.set (nth p0 0).toInt.toNat ((nth (nth p0 1).toList (nth p0 0).toInt.toNat).setFld 0 (nth p0 2))) (nth p0 0).toInt.toNat).fld 1).setFld 0 (PV.int (IntKind.i64.wrap ((nth p0 2).toInt + (1 : Int))))))) (nth p0 0).toInt.toNat).fld 1).setFld 1 (PV.int (IntKind.i64.wrap ((IntKind.i64.wrap ((nth p0 2).toInt + (1 : Int))) + (1 : Int))))))) (nth p0 0).toInt.toNat).fld 1).setFld 2 (nth r1 1))))), (nth r1 0)])))
  none)
  none)
  none)
  none)
  none)
  none)
  none)
  none)
  (some (Ex.x 0, [(nth p0 2)])))
def F4164 (I : Interp) (n : Nat) (a : List PV) : Option (List PV) :=
  (thenN (thenE (loopEv (L4164_0 I n) n [(PV.int (0 : Int)), (nth a 0), (nth a 1)])
  (passB 0))
  (fun p2 => (some [(nth p2 0)]))
  (retE fun q3 => [(nth q3 0)]))
theorem e4164 : ∀ I n a, (compF Try.prog sg 4164).map (fun d => d.ev I n a) = some (F4164 I n a) := fun I n a => by kernel_rfl
/-! laws.eqIrS -/
def L214_0 (I : Interp) (n : Nat) (p0 : List PV) : Option (Ex × List PV) :=
  (iff (ltI (nth p0 0).toInt ((nth p0 1).toList.length : Int))
  (iff (geI (nth p0 0).toInt (0 : Int))
  (iff (ltI (nth p0 0).toInt ((nth p0 1).toList.length : Int))
  (iff (geI (nth p0 0).toInt (0 : Int))
  (iff (ltI (nth p0 0).toInt ((nth p0 2).toList.length : Int))
  ((I 186 [(nth (nth p0 1).toList (nth p0 0).toInt.toNat), (nth (nth p0 2).toList (nth p0 0).toInt.toNat)]).bind fun r1 =>
  (iff (!(nth r1 0).toBool)
  (some (Ex.r, [(PV.bool false)]))
  (some (Ex.n, [(PV.int (IntKind.i64.wrap ((nth p0 0).toInt + (1 : Int)))), (nth p0 1), (nth p0 2)]))))
  none)
  none)
  none)
  none)
  (some (Ex.x 0, [])))
def F214 (I : Interp) (n : Nat) (a : List PV) : Option (List PV) :=
  (iff (neI ((nth a 0).toList.length : Int) ((nth a 1).toList.length : Int))
  (some [(PV.bool false)])
  (thenN (thenE (loopEv (L214_0 I n) n [(PV.int (0 : Int)), (nth a 0), (nth a 1)])
  (passB 0))
  (fun p2 => (some [(PV.bool true)]))
  (retE fun q3 => [(nth q3 0)])))
theorem e214 : ∀ I n a, (compF Try.prog sg 214).map (fun d => d.ev I n a) = some (F214 I n a) := fun I n a => by kernel_rfl
/-! laws.eqIr -/
def F186 (I : Interp) (n : Nat) (a : List PV) : Option (List PV) :=
  (iff (neI ((nth a 0).fld 0).toInt ((nth a 1).fld 0).toInt)
  (some [(PV.bool false)])
  (iff (neI ((nth a 0).fld 1).toInt ((nth a 1).fld 1).toInt)
  (some [(PV.bool false)])
  ((I 214 [((nth a 0).fld 2), ((nth a 1).fld 2)]).bind fun r0 =>
  (iff (!(nth r0 0).toBool)
  (some [(PV.bool false)])
  (some [(PV.bool true)])))))
theorem e186 : ∀ I n a, (compF Try.prog sg 186).map (fun d => d.ev I n a) = some (F186 I n a) := fun I n a => by kernel_rfl
/-! impl.WordOk -/
def F120 (I : Interp) (n : Nat) (a : List PV) : Option (List PV) :=
  ((I 102 [(nth a 0), (PV.int (-1073741824 : Int)), (PV.int (1073741823 : Int))]).bind fun r0 =>
  (some [(nth r0 0)]))
theorem e120 : ∀ I n a, (compF Try.prog sg 120).map (fun d => d.ev I n a) = some (F120 I n a) := fun I n a => by kernel_rfl
/-! laws.eqOpS -/
def L185_0 (I : Interp) (n : Nat) (p0 : List PV) : Option (Ex × List PV) :=
  (iff (ltI (nth p0 0).toInt ((nth p0 1).toList.length : Int))
  (iff (geI (nth p0 0).toInt (0 : Int))
  (iff (ltI (nth p0 0).toInt ((nth p0 1).toList.length : Int))
  (iff (geI (nth p0 0).toInt (0 : Int))
  (iff (ltI (nth p0 0).toInt ((nth p0 2).toList.length : Int))
  ((I 213 [(nth (nth p0 1).toList (nth p0 0).toInt.toNat), (nth (nth p0 2).toList (nth p0 0).toInt.toNat)]).bind fun r1 =>
  (iff (!(nth r1 0).toBool)
  (some (Ex.r, [(PV.bool false)]))
  (some (Ex.n, [(PV.int (IntKind.i64.wrap ((nth p0 0).toInt + (1 : Int)))), (nth p0 1), (nth p0 2)]))))
  none)
  none)
  none)
  none)
  (some (Ex.x 0, [])))
def F185 (I : Interp) (n : Nat) (a : List PV) : Option (List PV) :=
  (iff (neI ((nth a 0).toList.length : Int) ((nth a 1).toList.length : Int))
  (some [(PV.bool false)])
  (thenN (thenE (loopEv (L185_0 I n) n [(PV.int (0 : Int)), (nth a 0), (nth a 1)])
  (passB 0))
  (fun p2 => (some [(PV.bool true)]))
  (retE fun q3 => [(nth q3 0)])))
theorem e185 : ∀ I n a, (compF Try.prog sg 185).map (fun d => d.ev I n a) = some (F185 I n a) := fun I n a => by kernel_rfl
/-! laws.toIrS -/
def L210_0 (I : Interp) (n : Nat) (p0 : List PV) : Option (Ex × List PV) :=
  (iff (ltI (nth p0 0).toInt ((nth p0 1).toList.length : Int))
  (iff (geI (nth p0 0).toInt (0 : Int))
  (iff (ltI (nth p0 0).toInt ((nth p0 1).toList.length : Int))
  ((I 180 [(nth (nth p0 1).toList (nth p0 0).toInt.toNat)]).bind fun r1 =>
  (iff (geI (nth p0 0).toInt (0 : Int))
  (iff (ltI (nth p0 0).toInt ((nth p0 2).toList.length : Int))
  (some (Ex.n, [(PV.int (IntKind.i64.wrap ((nth p0 0).toInt + (1 : Int)))), (nth p0 1), (PV.list ((nth p0 2).toList.set (nth p0 0).toInt.toNat (nth r1 0)))]))
  none)
  none))
  none)
  none)
  (some (Ex.x 0, [(nth p0 2)])))
def F210 (I : Interp) (n : Nat) (a : List PV) : Option (List PV) :=
  (iff (geI ((nth a 0).toList.length : Int) (0 : Int))
  (iff (leI ((nth a 0).toList.length : Int) ((nth a 0).toList.length : Int))
  (iff (leI ((nth a 0).toList.length : Int) (3518437208883 : Int))
  (thenN (thenE (loopEv (L210_0 I n) n [(PV.int (0 : Int)), (nth a 0), (PV.list (List.replicate ((nth a 0).toList.length : Int).toNat (PV.agg [(PV.int (0 : Int)), (PV.int (0 : Int)), (PV.list ([] : List PV))])))])
  (passB 0))
  (fun p2 => (some [(nth p2 0)]))
  (retE fun q3 => [(nth q3 0)]))
  none)
  none)
  none)
theorem e210 : ∀ I n a, (compF Try.prog sg 210).map (fun d => d.ev I n a) = some (F210 I n a) := fun I n a => by kernel_rfl
/-! laws.toIr -/
def F180 (I : Interp) (n : Nat) (a : List PV) : Option (List PV) :=
  ((I 210 [((nth a 0).fld 2)]).bind fun r0 =>
  (some [(PV.agg [((nth a 0).fld 0), ((nth a 0).fld 1), (nth r0 0)])]))
theorem e180 : ∀ I n a, (compF Try.prog sg 180).map (fun d => d.ev I n a) = some (F180 I n a) := fun I n a => by kernel_rfl
/-! spec.l13Tag -/
def F196 (I : Interp) (n : Nat) (a : List PV) : Option (List PV) :=
  ((I 104 [(nth a 0), (PV.int (0 : Int)), (PV.int (19 : Int))]).bind fun r0 =>
  (some [(nth r0 0)]))
theorem e196 : ∀ I n a, (compF Try.prog sg 196).map (fun d => d.ev I n a) = some (F196 I n a) := fun I n a => by kernel_rfl
/-! laws.markFunS -/
def L69_0 (I : Interp) (n : Nat) (p0 : List PV) : Option (Ex × List PV) :=
  (iff (ltI (nth p0 0).toInt ((nth p0 2).toList.length : Int))
  (iff (geI (nth p0 0).toInt (0 : Int))
  (iff (ltI (nth p0 0).toInt ((nth p0 2).toList.length : Int))
  (iff (geI (nth p0 0).toInt (0 : Int))
  (iff (ltI (nth p0 0).toInt (((nth p0 2).toList.set (nth p0 0).toInt.toNat ((nth (nth p0 2).toList (nth p0 0).toInt.toNat).setFld 0 (nth p0 1))).length : Int))
  ((I 145 [((nth ((nth p0 2).toList.set (nth p0 0).toInt.toNat ((nth (nth p0 2).toList (nth p0 0).toInt.toNat).setFld 0 (nth p0 1))) (nth p0 0).toInt.toNat).fld 1), (PV.int (IntKind.i64.wrap ((nth p0 1).toInt + (1 : Int))))]).bind fun r1 =>
  (some (Ex.n, [(PV.int (IntKind.i64.wrap ((nth p0 0).toInt + (1 : Int)))), (nth r1 0), (PV.list (((nth p0 2).toList.set (nth p0 0).toInt.toNat ((nth (nth p0 2).toList (nth p0 0).toInt.toNat).setFld 0 (nth p0 1))).set (nth p0 0).toInt.toNat ((nth ((nth p0 2).toList.set (nth p0 0).toInt.toNat ((nth (nth p0 2).toList (nth p0 0).toInt.toNat).setFld 0 (nth p0 1))) (nth p0 0).toInt.toNat).setFld 1 (nth r1 1))))])))
  none)
  none)
  none)
  none)
  (some (Ex.x 0, [(nth p0 2), (nth p0 1)])))
def F69 (I : Interp) (n : Nat) (a : List PV) : Option (List PV) :=
  (thenN (thenE (loopEv (L69_0 I n) n [(PV.int (0 : Int)), (nth a 1), (nth a 0)])
  (passB 0))
  (fun p2 => (some [(nth p2 1), (nth p2 0)]))
  (retE fun q3 => [(nth q3 1), (nth q3 0)]))
theorem e69 : ∀ I n a, (compF Try.prog sg 69).map (fun d => d.ev I n a) = some (F69 I n a) := fun I n a => by kernel_rfl
/-! laws.markFunS -/
def L4165_0 (I : Interp) (n : Nat) (p0 : List PV) : Option (Ex × List PV) :=
  (iff (ltI (nth p0 0).toInt ((nth p0 1).toList.length : Int))
  (iff (geI (nth p0 0).toInt (0 : Int))
  (iff (ltI (nth p0 0).toInt ((nth p0 1).toList.length : Int))
  (iff (geI (nth p0 0).toInt (0 : Int))
  (iff (ltI (nth p0 0).toInt (((nth p0 1).toList.set (nth p0 0).toInt.toNat ((nth (nth p0 1).toList (nth p0 0).toInt.toNat).setFld 0 (nth p0 2))).length : Int))
  ((I 145 [((nth ((nth p0 1).toList.set (nth p0 0).toInt.toNat ((nth (nth p0 1).toList (nth p0 0).toInt.toNat).setFld 0 (nth p0 2))) (nth p0 0).toInt.toNat).fld 1), (PV.int (IntKind.i64.wrap ((nth p0 2).toInt + (1 : Int))))]).bind fun r1 =>
  (some (Ex.n, [(PV.int (IntKind.i64.wrap ((nth p0 0).toInt + (1 : Int)))), (PV.list (((nth p0 1).toList.set (nth p0 0).toInt.toNat ((nth (nth p0 1).toList (nth p0 0).toInt.toNat).setFld 0 (nth p0 2))).set (nth p0 0).toInt.toNat ((nth ((nth p0 1).toList.set (nth p0 0).toInt.toNat ((nth (nth p0 1).toList (nth p0 0).toInt.toNat).setFld 0 (nth p0 2))) (nth p0 0).toInt.toNat).setFld 1 (nth r1 1)))), (nth r1 0)])))
  none)
  none)
  none)
  none)
  (some (Ex.x 0, [(nth p0 2)])))
def F4165 (I : Interp) (n : Nat) (a : List PV) : Option (List PV) :=
  (thenN (thenE (loopEv (L4165_0 I n) n [(PV.int (0 : Int)), (nth a 0), (nth a 1)])
  (passB 0))
  (fun p2 => (some [(nth p2 0)]))
  (retE fun q3 => [(nth q3 0)]))
theorem e4165 : ∀ I n a, (compF Try.prog sg 4165).map (fun d => d.ev I n a) = some (F4165 I n a) := fun I n a => by kernel_rfl
/-! laws.szIrS -/
def L208_0 (I : Interp) (n : Nat) (p0 : List PV) : Option (Ex × List PV) :=
  (iff (ltI (nth p0 0).toInt ((nth p0 1).toList.length : Int))
  (iff (geI (nth p0 0).toInt (0 : Int))
  (iff (ltI (nth p0 0).toInt ((nth p0 1).toList.length : Int))
  ((I 176 [(nth (nth p0 1).toList (nth p0 0).toInt.toNat), (nth p0 2)]).bind fun r1 =>
  (iff (ltI (nth r1 0).toInt (0 : Int))
  (some (Ex.r, [(PV.int (-1 : Int))]))
  (some (Ex.n, [(PV.int (IntKind.i64.wrap ((nth p0 0).toInt + (1 : Int)))), (nth p0 1), (nth r1 0)]))))
  none)
  none)
  (some (Ex.x 0, [(nth p0 2)])))
def F208 (I : Interp) (n : Nat) (a : List PV) : Option (List PV) :=
  (iff (ltI (IntKind.i64.wrap ((nth a 1).toInt - ((nth a 0).toList.length : Int))) (0 : Int))
  (some [(PV.int (-1 : Int))])
  (thenN (thenE (loopEv (L208_0 I n) n [(PV.int (0 : Int)), (nth a 0), (PV.int (IntKind.i64.wrap ((nth a 1).toInt - ((nth a 0).toList.length : Int))))])
  (passB 0))
  (fun p2 => (some [(nth p2 0)]))
  (retE fun q3 => [(nth q3 0)])))
theorem e208 : ∀ I n a, (compF Try.prog sg 208).map (fun d => d.ev I n a) = some (F208 I n a) := fun I n a => by kernel_rfl
/-! laws.szIr -/
def F176 (I : Interp) (n : Nat) (a : List PV) : Option (List PV) :=
  ((I 208 [((nth a 0).fld 2), (nth a 1)]).bind fun r0 =>
  (iff (ltI (nth r0 0).toInt (0 : Int))
  (some [(PV.int (-1 : Int))])
  (some [(nth r0 0)])))
theorem e176 : ∀ I n a, (compF Try.prog sg 176).map (fun d => d.ev I n a) = some (F176 I n a) := fun I n a => by kernel_rfl
/-! spec.l14Both -/
def F179 (I : Interp) (n : Nat) (a : List PV) : Option (List PV) :=
  (iff (geI (1 : Int) (0 : Int))
  (iff (ltI (1 : Int) (((nth a 3).fld 2).toList.length : Int))
  ((I 136 [(nth a 0), (nth ((nth a 3).fld 2).toList (1 : Int).toNat), (nth a 4), (nth a 5)]).bind fun r0 =>
  ((I 137 [(nth r0 0), (PV.int (19 : Int)), (PV.int (0 : Int)), (PV.int (0 : Int))]).bind fun r1 =>
  (thenN (iff (nth a 2).toBool
  (iff (geI (nth a 1).toInt (0 : Int))
  (iff (ltI (nth a 1).toInt (((nth r1 1).fld 0).toList.length : Int))
  (some (Ex.n, [(nth a 4), (nth a 5), (nth r1 0), (nth a 3), ((nth r1 1).setFld 0 (PV.list (((nth r1 1).fld 0).toList.set (nth a 1).toInt.toNat ((nth ((nth r1 1).fld 0).toList (nth a 1).toInt.toNat).setFld 1 (PV.int (((nth r1 1).fld 0).toList.length : Int))))))]))
  none)
  none)
  (iff (geI (nth a 1).toInt (0 : Int))
  (iff (ltI (nth a 1).toInt (((nth r1 1).fld 0).toList.length : Int))
  (some (Ex.n, [(nth a 4), (nth a 5), (nth r1 0), (nth a 3), ((nth r1 1).setFld 0 (PV.list (((nth r1 1).fld 0).toList.set (nth a 1).toInt.toNat ((nth ((nth r1 1).fld 0).toList (nth a 1).toInt.toNat).setFld 2 (PV.int (((nth r1 1).fld 0).toList.length : Int))))))]))
  none)
  none))
  (fun p2 => (iff (geI (2 : Int) (0 : Int))
  (iff (ltI (2 : Int) (((nth p2 3).fld 2).toList.length : Int))
  ((I 136 [(nth p2 4), (nth ((nth p2 3).fld 2).toList (2 : Int).toNat), (nth p2 0), (nth p2 1)]).bind fun r3 =>
  (iff (geI (nth p2 2).toInt (0 : Int))
  (iff (ltI (nth p2 2).toInt (((nth r3 0).fld 0).toList.length : Int))
  (some [((nth r3 0).setFld 0 (PV.list (((nth r3 0).fld 0).toList.set (nth p2 2).toInt.toNat ((nth ((nth r3 0).fld 0).toList (nth p2 2).toInt.toNat).setFld 1 (PV.int (((nth r3 0).fld 0).toList.length : Int))))))])
  none)
  none))
  none)
  none))
  (retE fun q4 => [(nth q4 0)]))))
  none)
  none)
theorem e179 : ∀ I n a, (compF Try.prog sg 179).map (fun d => d.ev I n a) = some (F179 I n a) := fun I n a => by kernel_rfl
/-! spec.l14Ir -/
def L136_0 (I : Interp) (n : Nat) (p10 : List PV) : Option (Ex × List PV) :=
  (iff (ltI (nth p10 0).toInt (((nth p10 4).fld 2).toList.length : Int))
  (iff (geI (nth p10 0).toInt (0 : Int))
  (iff (ltI (nth p10 0).toInt (((nth p10 4).fld 2).toList.length : Int))
  ((I 136 [(nth p10 3), (nth ((nth p10 4).fld 2).toList (nth p10 0).toInt.toNat), (nth p10 2), (PV.int (IntKind.i64.wrap ((nth p10 1).toInt + (nth p10 0).toInt)))]).bind fun r11 =>
  (some (Ex.n, [(PV.int (IntKind.i64.wrap ((nth p10 0).toInt + (1 : Int)))), (nth p10 1), (nth p10 2), (nth r11 0), (nth p10 4)])))
  none)
  none)
  (some (Ex.x 1, [(nth p10 2), (nth p10 3), (nth p10 4)])))
def F136 (I : Interp) (n : Nat) (a : List PV) : Option (List PV) :=
  (iff (eqI ((nth a 1).fld 0).toInt (8 : Int))
  (iff (geI (0 : Int) (0 : Int))
  (iff (ltI (0 : Int) (((nth a 1).fld 2).toList.length : Int))
  ((I 136 [(nth a 0), (nth ((nth a 1).fld 2).toList (0 : Int).toNat), (nth a 2), (nth a 3)]).bind fun r0 =>
  ((I 137 [(nth r0 0), (PV.int (18 : Int)), (PV.int (0 : Int)), (PV.int (0 : Int))]).bind fun r1 =>
  ((I 179 [(nth r1 1), (nth r1 0), (PV.bool true), (nth a 1), (nth a 2), (nth a 3)]).bind fun r2 =>
  (some [(nth r2 0)]))))
  none)
  none)
  (thenN (iff (eqI ((nth a 1).fld 0).toInt (17 : Int))
  (some (Ex.n, [(PV.bool (eqI ((nth a 1).fld 0).toInt (17 : Int))), ((nth a 1).fld 0), (nth a 3), (nth a 2), (nth a 0), (nth a 1)]))
  (some (Ex.n, [(PV.bool (eqI ((nth a 1).fld 0).toInt (18 : Int))), ((nth a 1).fld 0), (nth a 3), (nth a 2), (nth a 0), (nth a 1)])))
  (fun p3 => (iff (nth p3 0).toBool
  (iff (geI (0 : Int) (0 : Int))
  (iff (ltI (0 : Int) (((nth p3 5).fld 2).toList.length : Int))
  ((I 136 [(nth p3 4), (nth ((nth p3 5).fld 2).toList (0 : Int).toNat), (nth p3 3), (nth p3 2)]).bind fun r4 =>
  ((I 137 [(nth r4 0), (PV.int (IntKind.i64.wrap ((IntKind.i64.wrap ((10 : Int) + ((nth p3 5).fld 0).toInt)) - (17 : Int)))), ((nth p3 5).fld 1), (PV.int (0 : Int))]).bind fun r5 =>
  ((I 179 [(nth r5 1), (nth r5 0), (PV.bool false), (nth p3 5), (nth p3 3), (nth p3 2)]).bind fun r6 =>
  (some [(nth r6 0)]))))
  none)
  none)
  (iff (eqI (nth p3 1).toInt (7 : Int))
  (iff (geI (0 : Int) (0 : Int))
  (iff (ltI (0 : Int) (((nth p3 5).fld 2).toList.length : Int))
  ((I 136 [(nth p3 4), (nth ((nth p3 5).fld 2).toList (0 : Int).toNat), (nth p3 3), (nth p3 2)]).bind fun r7 =>
  (iff (leN (([] : List PV).length + (nth p3 3).toList.length) 17592186044416)
  (iff (leN ((([] : List PV) ++ (nth p3 3).toList).length + ((nth p3 2) :: ([] : List PV)).length) 17592186044416)
  (iff (geI (1 : Int) (0 : Int))
  (iff (ltI (1 : Int) (((nth p3 5).fld 2).toList.length : Int))
  ((I 136 [(nth r7 0), (nth ((nth p3 5).fld 2).toList (1 : Int).toNat), (PV.list ((([] : List PV) ++ (nth p3 3).toList) ++ ((nth p3 2) :: ([] : List PV)))), (PV.int (IntKind.i64.wrap ((nth p3 2).toInt + (1 : Int))))]).bind fun r8 =>
  ((I 137 [(nth r8 0), (PV.int (20 : Int)), (PV.int (0 : Int)), (PV.int (0 : Int))]).bind fun r9 =>
  (some [(nth r9 1)])))
  none)
  none)
  none)
  none))
  none)
  none)
  (thenN (thenE (loopEv (L136_0 I n) n [(PV.int (0 : Int)), (nth p3 2), (nth p3 3), (nth p3 4), (nth p3 5)])
  (passB 1))
  (fun p12 => (thenN (iff (eqI ((nth p12 2).fld 0).toInt (1 : Int))
  (some (Ex.n, [(PV.bool (eqI ((nth p12 2).fld 0).toInt (1 : Int))), (nth p12 0), ((nth p12 2).fld 0), (nth p12 1), (nth p12 2)]))
  (iff (eqI ((nth p12 2).fld 0).toInt (3 : Int))
  (some (Ex.n, [(PV.bool (eqI ((nth p12 2).fld 0).toInt (3 : Int))), (nth p12 0), ((nth p12 2).fld 0), (nth p12 1), (nth p12 2)]))
  (some (Ex.n, [(PV.bool (eqI ((nth p12 2).fld 0).toInt (4 : Int))), (nth p12 0), ((nth p12 2).fld 0), (nth p12 1), (nth p12 2)]))))
  (fun p13 => (iff (nth p13 0).toBool
  ((I 137 [(nth p13 3), ((nth p13 4).fld 0), ((nth p13 4).fld 1), (PV.int (0 : Int))]).bind fun r14 =>
  (some [(nth r14 1)]))
  (iff (eqI (nth p13 2).toInt (2 : Int))
  (iff (geI ((nth p13 4).fld 1).toInt (0 : Int))
  (iff (ltI ((nth p13 4).fld 1).toInt ((nth p13 1).toList.length : Int))
  ((I 137 [(nth p13 3), (PV.int (2 : Int)), (nth (nth p13 1).toList ((nth p13 4).fld 1).toInt.toNat), (PV.int (0 : Int))]).bind fun r15 =>
  (some [(nth r15 1)]))
  none)
  none)
  (iff (eqI (nth p13 2).toInt (5 : Int))
  ((I 137 [(nth p13 3), (PV.int (5 : Int)), ((nth p13 4).fld 1), (PV.int (((nth p13 4).fld 2).toList.length : Int))]).bind fun r16 =>
  (some [(nth r16 1)]))
  (iff (eqI (nth p13 2).toInt (6 : Int))
  ((I 137 [(nth p13 3), (PV.int (6 : Int)), (PV.int (0 : Int)), (PV.int (0 : Int))]).bind fun r17 =>
  (some [(nth r17 1)]))
  (iff (eqI (nth p13 2).toInt (14 : Int))
  ((I 137 [(nth p13 3), (PV.int (8 : Int)), ((nth p13 4).fld 1), (PV.int (((nth p13 4).fld 2).toList.length : Int))]).bind fun r18 =>
  (some [(nth r18 1)]))
  (iff (eqI (nth p13 2).toInt (15 : Int))
  ((I 137 [(nth p13 3), (PV.int (17 : Int)), (PV.int (0 : Int)), (PV.int (0 : Int))]).bind fun r19 =>
  (some [(nth r19 1)]))
  (iff (eqI (nth p13 2).toInt (16 : Int))
  ((I 137 [(nth p13 3), (PV.int (9 : Int)), ((nth p13 4).fld 1), (PV.int (0 : Int))]).bind fun r20 =>
  (some [(nth r20 1)]))
  (iff (eqI (nth p13 2).toInt (19 : Int))
  ((I 137 [(nth p13 3), (PV.int (21 : Int)), (PV.int (0 : Int)), (PV.int (0 : Int))]).bind fun r21 =>
  (some [(nth r21 1)]))
  ((I 137 [(nth p13 3), (PV.int (IntKind.i64.wrap ((IntKind.i64.wrap ((12 : Int) + ((nth p13 4).fld 0).toInt)) - (9 : Int)))), (PV.int (0 : Int)), (PV.int (0 : Int))]).bind fun r22 =>
  (some [(nth r22 1)])))))))))))
  (retE fun q23 => [(nth q23 0)])))
  (retE fun q24 => [(nth q24 0)])))))
  (retE fun q25 => [(nth q25 0)])))
theorem e136 : ∀ I n a, (compF Try.prog sg 136).map (fun d => d.ev I n a) = some (F136 I n a) := fun I n a => by kernel_rfl
/-! laws.eqFun -/
def F142 (I : Interp) (n : Nat) (a : List PV) : Option (List PV) :=
  (iff (neI ((nth a 0).fld 0).toInt ((nth a 1).fld 0).toInt)
  (some [(PV.bool false)])
  ((I 185 [((nth a 0).fld 1), ((nth a 1).fld 1)]).bind fun r0 =>
  (iff (!(nth r0 0).toBool)
  (some [(PV.bool false)])
  (some [(PV.bool true)]))))
theorem e142 : ∀ I n a, (compF Try.prog sg 142).map (fun d => d.ev I n a) = some (F142 I n a) := fun I n a => by kernel_rfl
/-! laws.eqBlock -/
def F143 (I : Interp) (n : Nat) (a : List PV) : Option (List PV) :=
  (iff (neI ((nth a 0).fld 0).toInt ((nth a 1).fld 0).toInt)
  (some [(PV.bool false)])
  ((I 186 [((nth a 0).fld 1), ((nth a 1).fld 1)]).bind fun r0 =>
  (iff (!(nth r0 0).toBool)
  (some [(PV.bool false)])
  (some [(PV.bool true)]))))
theorem e143 : ∀ I n a, (compF Try.prog sg 143).map (fun d => d.ev I n a) = some (F143 I n a) := fun I n a => by kernel_rfl
/-! laws.toBlock -/
def F138 (I : Interp) (n : Nat) (a : List PV) : Option (List PV) :=
  ((I 180 [((nth a 0).fld 1)]).bind fun r0 =>
  (some [(PV.agg [((nth a 0).fld 0), (nth r0 0)])]))
theorem e138 : ∀ I n a, (compF Try.prog sg 138).map (fun d => d.ev I n a) = some (F138 I n a) := fun I n a => by kernel_rfl
/-! laws.szBlock -/
def F134 (I : Interp) (n : Nat) (a : List PV) : Option (List PV) :=
  ((I 176 [((nth a 0).fld 1), (nth a 1)]).bind fun r0 =>
  (iff (ltI (nth r0 0).toInt (0 : Int))
  (some [(PV.int (-1 : Int))])
  (some [(nth r0 0)])))
theorem e134 : ∀ I n a, (compF Try.prog sg 134).map (fun d => d.ev I n a) = some (F134 I n a) := fun I n a => by kernel_rfl
/-! impl.opOk -/
def F171 (I : Interp) (n : Nat) (a : List PV) : Option (List PV) :=
  (thenN (iff (eqI ((nth a 3).fld 0).toInt (1 : Int))
  ((I 120 [((nth a 3).fld 1)]).bind fun r0 =>
  (some (Ex.n, [(nth r0 0), (PV.bool (eqI ((nth a 3).fld 2).toInt (0 : Int))), (nth a 3)])))
  (iff (eqI ((nth a 3).fld 0).toInt (2 : Int))
  ((I 102 [((nth a 3).fld 1), (PV.int (0 : Int)), (PV.int (2999 : Int))]).bind fun r1 =>
  (some (Ex.n, [(nth r1 0), (PV.bool (eqI ((nth a 3).fld 2).toInt (0 : Int))), (nth a 3)])))
  (iff (eqI ((nth a 3).fld 0).toInt (3 : Int))
  ((I 102 [((nth a 3).fld 1), (PV.int (0 : Int)), (PV.int (IntKind.i64.wrap (((nth a 1).fld 0).toInt - (1 : Int))))]).bind fun r2 =>
  (some (Ex.n, [(nth r2 0), (PV.bool (eqI ((nth a 3).fld 2).toInt (0 : Int))), (nth a 3)])))
  (iff (eqI ((nth a 3).fld 0).toInt (4 : Int))
  (some (Ex.n, [(selB (eqI ((nth a 3).fld 1).toInt (0 : Int)) (selB ((eqI ((nth a 3).fld 1).toInt (0 : Int)) == true) (PV.bool (gtI (selB ((eqI ((nth a 3).fld 1).toInt (0 : Int)) == true) (nth a 2) PV.unit).toInt (0 : Int))) PV.unit) (PV.bool false)), (PV.bool (eqI ((nth a 3).fld 2).toInt (0 : Int))), (nth a 3)]))
  (iff (eqI ((nth a 3).fld 0).toInt (5 : Int))
  ((I 102 [((nth a 3).fld 1), (PV.int (1 : Int)), (PV.int (IntKind.i64.wrap (((nth a 0).toList.length : Int) - (1 : Int))))]).bind fun r3 =>
  ((iff ((nth r3 0).isB true)
  (iff (geI (selB ((nth r3 0).isB true) ((nth a 3).fld 1) PV.unit).toInt (0 : Int))
  (iff (ltI (selB ((nth r3 0).isB true) ((nth a 3).fld 1) PV.unit).toInt ((selB ((nth r3 0).isB true) (nth a 0) PV.unit).toList.length : Int))
  (some [(nth (selB ((nth r3 0).isB true) (nth a 0) PV.unit).toList (selB ((nth r3 0).isB true) ((nth a 3).fld 1) PV.unit).toInt.toNat), (nth (selB ((nth r3 0).isB true) (nth a 0) PV.unit).toList (selB ((nth r3 0).isB true) ((nth a 3).fld 1) PV.unit).toInt.toNat)])
  none)
  none)
  (some [PV.unit, PV.unit])).bind fun g4 =>
  (some (Ex.n, [(nth r3 0), (selB (nth r3 0).toBool (selB ((nth r3 0).isB true) (PV.bool (eqI (selB ((nth r3 0).isB true) ((nth a 3).fld 2) PV.unit).toInt (selB ((nth r3 0).isB true) (selB ((nth r3 0).isB true) ((nth g4 0).fld 0) PV.unit) PV.unit).toInt)) PV.unit) (PV.bool false)), (nth a 3)]))))
  (iff (eqI ((nth a 3).fld 0).toInt (8 : Int))
  ((I 102 [((nth a 3).fld 1), (PV.int (0 : Int)), (PV.int (19 : Int))]).bind fun r5 =>
  ((I 102 [((nth a 3).fld 2), (PV.int (0 : Int)), (PV.int (20 : Int))]).bind fun r6 =>
  (some (Ex.n, [(nth r5 0), (nth r6 0), (nth a 3)]))))
  (iff (eqI ((nth a 3).fld 0).toInt (9 : Int))
  ((I 102 [((nth a 3).fld 1), (PV.int (0 : Int)), (PV.int (19 : Int))]).bind fun r7 =>
  (some (Ex.n, [(nth r7 0), (PV.bool (eqI ((nth a 3).fld 2).toInt (0 : Int))), (nth a 3)])))
  (iff (eqI ((nth a 3).fld 0).toInt (10 : Int))
  ((I 102 [((nth a 3).fld 1), (PV.int (0 : Int)), (PV.int (19 : Int))]).bind fun r8 =>
  ((I 197 [((nth a 3).fld 2), (nth a 1)]).bind fun r9 =>
  (some (Ex.n, [(nth r8 0), (nth r9 0), (nth a 3)]))))
  (iff (eqI ((nth a 3).fld 0).toInt (11 : Int))
  ((I 120 [((nth a 3).fld 1)]).bind fun r10 =>
  ((I 197 [((nth a 3).fld 2), (nth a 1)]).bind fun r11 =>
  (some (Ex.n, [(nth r10 0), (nth r11 0), (nth a 3)]))))
  (thenN (iff (eqI ((nth a 3).fld 0).toInt (18 : Int))
  (some (Ex.n, [(PV.bool (eqI ((nth a 3).fld 0).toInt (18 : Int))), (PV.bool (eqI ((nth a 3).fld 1).toInt (0 : Int))), (PV.bool (eqI ((nth a 3).fld 2).toInt (0 : Int))), (nth a 3), (nth a 1)]))
  (some (Ex.n, [(PV.bool (eqI ((nth a 3).fld 0).toInt (19 : Int))), (PV.bool (eqI ((nth a 3).fld 1).toInt (0 : Int))), (PV.bool (eqI ((nth a 3).fld 2).toInt (0 : Int))), (nth a 3), (nth a 1)])))
  (fun p12 => (iff (nth p12 0).toBool
  ((I 197 [((nth p12 3).fld 1), (nth p12 4)]).bind fun r13 =>
  (some (Ex.n, [(nth r13 0), (nth p12 2), (nth p12 3)])))
  (some (Ex.n, [(nth p12 1), (nth p12 2), (nth p12 3)]))))
  passE))))))))))
  (fun p14 => ((I 102 [((nth p14 2).fld 0), (PV.int (1 : Int)), (PV.int (21 : Int))]).bind fun r15 =>
  (some [(selB (selB (nth r15 0).toBool (selB ((nth r15 0).isB true) (nth p14 0) PV.unit) (PV.bool false)).toBool (selB ((selB (nth r15 0).toBool (selB ((nth r15 0).isB true) (nth p14 0) PV.unit) (PV.bool false)).isB true) (nth p14 1) PV.unit) (PV.bool false))])))
  (retE fun q16 => [(nth q16 0)]))
theorem e171 : ∀ I n a, (compF Try.prog sg 171).map (fun d => d.ev I n a) = some (F171 I n a) := fun I n a => by kernel_rfl
/-! laws.eqBlockS -/
def L67_0 (I : Interp) (n : Nat) (p0 : List PV) : Option (Ex × List PV) :=
  (iff (ltI (nth p0 0).toInt ((nth p0 1).toList.length : Int))
  (iff (geI (nth p0 0).toInt (0 : Int))
  (iff (ltI (nth p0 0).toInt ((nth p0 1).toList.length : Int))
  (iff (geI (nth p0 0).toInt (0 : Int))
  (iff (ltI (nth p0 0).toInt ((nth p0 2).toList.length : Int))
  ((I 143 [(nth (nth p0 1).toList (nth p0 0).toInt.toNat), (nth (nth p0 2).toList (nth p0 0).toInt.toNat)]).bind fun r1 =>
  (iff (!(nth r1 0).toBool)
  (some (Ex.r, [(PV.bool false)]))
  (some (Ex.n, [(PV.int (IntKind.i64.wrap ((nth p0 0).toInt + (1 : Int)))), (nth p0 1), (nth p0 2)]))))
  none)
  none)
  none)
  none)
  (some (Ex.x 0, [])))
def F67 (I : Interp) (n : Nat) (a : List PV) : Option (List PV) :=
  (iff (neI ((nth a 0).toList.length : Int) ((nth a 1).toList.length : Int))
  (some [(PV.bool false)])
  (thenN (thenE (loopEv (L67_0 I n) n [(PV.int (0 : Int)), (nth a 0), (nth a 1)])
  (passB 0))
  (fun p2 => (some [(PV.bool true)]))
  (retE fun q3 => [(nth q3 0)])))
theorem e67 : ∀ I n a, (compF Try.prog sg 67).map (fun d => d.ev I n a) = some (F67 I n a) := fun I n a => by kernel_rfl
/-! spec.l13Op -/
def F169 (I : Interp) (n : Nat) (a : List PV) : Option (List PV) :=
  (iff (geI (nth a 1).toInt (0 : Int))
  (iff (ltI (nth a 1).toInt ((nth a 0).toList.length : Int))
  (iff (eqI ((nth a 2).fld 0).toInt (1 : Int))
  ((I 117 [((nth a 2).fld 1)]).bind fun r0 =>
  (some [(selB (nth r0 0).toBool (selB ((nth r0 0).isB true) (PV.bool (eqI (selB ((nth r0 0).isB true) ((nth a 2).fld 2) PV.unit).toInt (0 : Int))) PV.unit) (PV.bool false))]))
  (iff (eqI ((nth a 2).fld 0).toInt (2 : Int))
  ((I 104 [((nth a 2).fld 1), (PV.int (0 : Int)), (PV.int (2999 : Int))]).bind fun r1 =>
  (some [(selB (nth r1 0).toBool (selB ((nth r1 0).isB true) (PV.bool (eqI (selB ((nth r1 0).isB true) ((nth a 2).fld 2) PV.unit).toInt (0 : Int))) PV.unit) (PV.bool false))]))
  (iff (eqI ((nth a 2).fld 0).toInt (3 : Int))
  (iff (geI (nth a 1).toInt (0 : Int))
  (iff (ltI (nth a 1).toInt ((nth a 0).toList.length : Int))
  ((I 104 [((nth a 2).fld 1), (PV.int (0 : Int)), (PV.int (IntKind.i64.wrap (((nth (nth a 0).toList (nth a 1).toInt.toNat).fld 0).toInt - (1 : Int))))]).bind fun r2 =>
  (some [(selB (nth r2 0).toBool (selB ((nth r2 0).isB true) (PV.bool (eqI (selB ((nth r2 0).isB true) ((nth a 2).fld 2) PV.unit).toInt (0 : Int))) PV.unit) (PV.bool false))]))
  none)
  none)
  (iff (eqI ((nth a 2).fld 0).toInt (4 : Int))
  (some [(selB (selB (gtI (nth a 1).toInt (0 : Int)) (selB ((gtI (nth a 1).toInt (0 : Int)) == true) (PV.bool (eqI (selB ((gtI (nth a 1).toInt (0 : Int)) == true) ((nth a 2).fld 1) PV.unit).toInt (0 : Int))) PV.unit) (PV.bool false)).toBool (selB ((selB (gtI (nth a 1).toInt (0 : Int)) (selB ((gtI (nth a 1).toInt (0 : Int)) == true) (PV.bool (eqI (selB ((gtI (nth a 1).toInt (0 : Int)) == true) ((nth a 2).fld 1) PV.unit).toInt (0 : Int))) PV.unit) (PV.bool false)).isB true) (PV.bool (eqI (selB ((selB (gtI (nth a 1).toInt (0 : Int)) (selB ((gtI (nth a 1).toInt (0 : Int)) == true) (PV.bool (eqI (selB ((gtI (nth a 1).toInt (0 : Int)) == true) ((nth a 2).fld 1) PV.unit).toInt (0 : Int))) PV.unit) (PV.bool false)).isB true) ((nth a 2).fld 2) PV.unit).toInt (0 : Int))) PV.unit) (PV.bool false))])
  (iff (eqI ((nth a 2).fld 0).toInt (5 : Int))
  ((I 104 [((nth a 2).fld 1), (PV.int (1 : Int)), (PV.int (IntKind.i64.wrap (((nth a 0).toList.length : Int) - (1 : Int))))]).bind fun r3 =>
  ((iff ((nth r3 0).isB true)
  (iff (geI (selB ((nth r3 0).isB true) ((nth a 2).fld 1) PV.unit).toInt (0 : Int))
  (iff (ltI (selB ((nth r3 0).isB true) ((nth a 2).fld 1) PV.unit).toInt ((selB ((nth r3 0).isB true) (nth a 0) PV.unit).toList.length : Int))
  (some [(nth (selB ((nth r3 0).isB true) (nth a 0) PV.unit).toList (selB ((nth r3 0).isB true) ((nth a 2).fld 1) PV.unit).toInt.toNat), (nth (selB ((nth r3 0).isB true) (nth a 0) PV.unit).toList (selB ((nth r3 0).isB true) ((nth a 2).fld 1) PV.unit).toInt.toNat)])
  none)
  none)
  (some [PV.unit, PV.unit])).bind fun g4 =>
  (some [(selB (nth r3 0).toBool (selB ((nth r3 0).isB true) (PV.bool (eqI (selB ((nth r3 0).isB true) ((nth a 2).fld 2) PV.unit).toInt (selB ((nth r3 0).isB true) (selB ((nth r3 0).isB true) ((nth g4 0).fld 0) PV.unit) PV.unit).toInt)) PV.unit) (PV.bool false))])))
  (iff (eqI ((nth a 2).fld 0).toInt (8 : Int))
  ((I 196 [((nth a 2).fld 1)]).bind fun r5 =>
  ((iff ((nth r5 0).isB true)
  ((I 104 [(selB ((nth r5 0).isB true) ((nth a 2).fld 2) PV.unit), (PV.int (0 : Int)), (PV.int (20 : Int))]).bind fun r6 =>
  (some [(nth r6 0), (nth r6 0)]))
  (some [PV.unit, PV.unit])).bind fun g7 =>
  (some [(selB (nth r5 0).toBool (nth g7 0) (PV.bool false))])))
  (iff (eqI ((nth a 2).fld 0).toInt (9 : Int))
  ((I 196 [((nth a 2).fld 1)]).bind fun r8 =>
  (some [(selB (nth r8 0).toBool (selB ((nth r8 0).isB true) (PV.bool (eqI (selB ((nth r8 0).isB true) ((nth a 2).fld 2) PV.unit).toInt (0 : Int))) PV.unit) (PV.bool false))]))
  (iff (eqI ((nth a 2).fld 0).toInt (10 : Int))
  ((I 196 [((nth a 2).fld 1)]).bind fun r9 =>
  ((iff ((nth r9 0).isB true)
  ((I 104 [(selB ((nth r9 0).isB true) ((nth a 2).fld 2) PV.unit), (PV.int (0 : Int)), (selB ((nth r9 0).isB true) (PV.int (IntKind.i64.wrap ((selB ((nth r9 0).isB true) (PV.int (((nth (nth a 0).toList (nth a 1).toInt.toNat).fld 1).toList.length : Int)) PV.unit).toInt - (1 : Int)))) PV.unit)]).bind fun r10 =>
  (some [(nth r10 0), (nth r10 0)]))
  (some [PV.unit, PV.unit])).bind fun g11 =>
  (some [(selB (nth r9 0).toBool (nth g11 0) (PV.bool false))])))
  (iff (eqI ((nth a 2).fld 0).toInt (11 : Int))
  ((I 117 [((nth a 2).fld 1)]).bind fun r12 =>
  ((iff ((nth r12 0).isB true)
  ((I 104 [(selB ((nth r12 0).isB true) ((nth a 2).fld 2) PV.unit), (PV.int (0 : Int)), (selB ((nth r12 0).isB true) (PV.int (IntKind.i64.wrap ((selB ((nth r12 0).isB true) (PV.int (((nth (nth a 0).toList (nth a 1).toInt.toNat).fld 1).toList.length : Int)) PV.unit).toInt - (1 : Int)))) PV.unit)]).bind fun r13 =>
  (some [(nth r13 0), (nth r13 0)]))
  (some [PV.unit, PV.unit])).bind fun g14 =>
  (some [(selB (nth r12 0).toBool (nth g14 0) (PV.bool false))])))
  (thenN (iff (eqI ((nth a 2).fld 0).toInt (18 : Int))
  (some (Ex.n, [(PV.bool (eqI ((nth a 2).fld 0).toInt (18 : Int))), (PV.int (((nth (nth a 0).toList (nth a 1).toInt.toNat).fld 1).toList.length : Int)), (nth a 2)]))
  (some (Ex.n, [(PV.bool (eqI ((nth a 2).fld 0).toInt (19 : Int))), (PV.int (((nth (nth a 0).toList (nth a 1).toInt.toNat).fld 1).toList.length : Int)), (nth a 2)])))
  (fun p15 => (iff (nth p15 0).toBool
  ((I 104 [((nth p15 2).fld 1), (PV.int (0 : Int)), (PV.int (IntKind.i64.wrap ((nth p15 1).toInt - (1 : Int))))]).bind fun r16 =>
  (some [(selB (nth r16 0).toBool (selB ((nth r16 0).isB true) (PV.bool (eqI (selB ((nth r16 0).isB true) ((nth p15 2).fld 2) PV.unit).toInt (0 : Int))) PV.unit) (PV.bool false))]))
  ((I 104 [((nth p15 2).fld 0), (PV.int (1 : Int)), (PV.int (21 : Int))]).bind fun r17 =>
  (some [(selB (selB (nth r17 0).toBool (selB ((nth r17 0).isB true) (PV.bool (eqI (selB ((nth r17 0).isB true) ((nth p15 2).fld 1) PV.unit).toInt (0 : Int))) PV.unit) (PV.bool false)).toBool (selB ((selB (nth r17 0).toBool (selB ((nth r17 0).isB true) (PV.bool (eqI (selB ((nth r17 0).isB true) ((nth p15 2).fld 1) PV.unit).toInt (0 : Int))) PV.unit) (PV.bool false)).isB true) (PV.bool (eqI (selB ((selB (nth r17 0).toBool (selB ((nth r17 0).isB true) (PV.bool (eqI (selB ((nth r17 0).isB true) ((nth p15 2).fld 1) PV.unit).toInt (0 : Int))) PV.unit) (PV.bool false)).isB true) ((nth p15 2).fld 2) PV.unit).toInt (0 : Int))) PV.unit) (PV.bool false))]))))
  (retE fun q18 => [(nth q18 0)])))))))))))
  none)
  none)
theorem e169 : ∀ I n a, (compF Try.prog sg 169).map (fun d => d.ev I n a) = some (F169 I n a) := fun I n a => by kernel_rfl
/-! impl.checker).ok -/
def L181_0 (I : Interp) (n : Nat) (p10 : List PV) : Option (Ex × List PV) :=
  (iff (ltI (nth p10 0).toInt (nth p10 1).toInt)
  (iff (geI (nth p10 0).toInt (0 : Int))
  (iff (ltI (nth p10 0).toInt ((nth p10 2).toList.length : Int))
  (thenN (iff (selB (eqI ((nth p10 4).fld 0).toInt (7 : Int)) (selB ((eqI ((nth p10 4).fld 0).toInt (7 : Int)) == true) (PV.bool (eqI (selB ((eqI ((nth p10 4).fld 0).toInt (7 : Int)) == true) (nth p10 0) PV.unit).toInt (1 : Int))) PV.unit) (PV.bool false)).toBool
  (some (Ex.n, [(PV.int (IntKind.i64.wrap ((nth p10 3).toInt + (1 : Int)))), (nth p10 0), (nth p10 1), (nth p10 2), (nth p10 3), (nth (nth p10 2).toList (nth p10 0).toInt.toNat), (nth p10 4), (nth p10 5)]))
  (some (Ex.n, [(nth p10 3), (nth p10 0), (nth p10 1), (nth p10 2), (nth p10 3), (nth (nth p10 2).toList (nth p10 0).toInt.toNat), (nth p10 4), (nth p10 5)])))
  (fun p11 => ((I 181 [(nth p11 7), (nth p11 5), (nth p11 0)]).bind fun r12 =>
  (iff (!(nth r12 0).toBool)
  (some (Ex.r, [(nth r12 1), (PV.bool false)]))
  (some (Ex.n, [(PV.int (IntKind.i64.wrap ((nth p11 1).toInt + (1 : Int)))), (nth p11 2), (nth p11 3), (nth p11 4), (nth p11 6), (nth r12 1)])))))
  passE)
  none)
  none)
  (some (Ex.x 1, [(nth p10 5)])))
def F181 (I : Interp) (n : Nat) (a : List PV) : Option (List PV) :=
  ((I 211 [((nth a 1).fld 0)]).bind fun r0 =>
  (iff (selB (selB (ltI (((nth a 0).setFld 2 (PV.int (IntKind.i64.wrap (((nth a 0).fld 2).toInt - (1 : Int))))).fld 2).toInt (0 : Int)) (PV.bool true) (selB ((ltI (((nth a 0).setFld 2 (PV.int (IntKind.i64.wrap (((nth a 0).fld 2).toInt - (1 : Int))))).fld 2).toInt (0 : Int)) == false) (PV.bool (eqI (selB ((ltI (((nth a 0).setFld 2 (PV.int (IntKind.i64.wrap (((nth a 0).fld 2).toInt - (1 : Int))))).fld 2).toInt (0 : Int)) == false) (nth r0 0) PV.unit).toInt (-1 : Int))) PV.unit)).toBool (PV.bool true) (selB ((selB (ltI (((nth a 0).setFld 2 (PV.int (IntKind.i64.wrap (((nth a 0).fld 2).toInt - (1 : Int))))).fld 2).toInt (0 : Int)) (PV.bool true) (selB ((ltI (((nth a 0).setFld 2 (PV.int (IntKind.i64.wrap (((nth a 0).fld 2).toInt - (1 : Int))))).fld 2).toInt (0 : Int)) == false) (PV.bool (eqI (selB ((ltI (((nth a 0).setFld 2 (PV.int (IntKind.i64.wrap (((nth a 0).fld 2).toInt - (1 : Int))))).fld 2).toInt (0 : Int)) == false) (nth r0 0) PV.unit).toInt (-1 : Int))) PV.unit)).isB false) (selB (selB ((selB (ltI (((nth a 0).setFld 2 (PV.int (IntKind.i64.wrap (((nth a 0).fld 2).toInt - (1 : Int))))).fld 2).toInt (0 : Int)) (PV.bool true) (selB ((ltI (((nth a 0).setFld 2 (PV.int (IntKind.i64.wrap (((nth a 0).fld 2).toInt - (1 : Int))))).fld 2).toInt (0 : Int)) == false) (PV.bool (eqI (selB ((ltI (((nth a 0).setFld 2 (PV.int (IntKind.i64.wrap (((nth a 0).fld 2).toInt - (1 : Int))))).fld 2).toInt (0 : Int)) == false) (nth r0 0) PV.unit).toInt (-1 : Int))) PV.unit)).isB false) (selB ((selB (ltI (((nth a 0).setFld 2 (PV.int (IntKind.i64.wrap (((nth a 0).fld 2).toInt - (1 : Int))))).fld 2).toInt (0 : Int)) (PV.bool true) (selB ((ltI (((nth a 0).setFld 2 (PV.int (IntKind.i64.wrap (((nth a 0).fld 2).toInt - (1 : Int))))).fld 2).toInt (0 : Int)) == false) (PV.bool (eqI (selB ((ltI (((nth a 0).setFld 2 (PV.int (IntKind.i64.wrap (((nth a 0).fld 2).toInt - (1 : Int))))).fld 2).toInt (0 : Int)) == false) (nth r0 0) PV.unit).toInt (-1 : Int))) PV.unit)).isB false) (PV.bool (geI (selB ((selB (ltI (((nth a 0).setFld 2 (PV.int (IntKind.i64.wrap (((nth a 0).fld 2).toInt - (1 : Int))))).fld 2).toInt (0 : Int)) (PV.bool true) (selB ((ltI (((nth a 0).setFld 2 (PV.int (IntKind.i64.wrap (((nth a 0).fld 2).toInt - (1 : Int))))).fld 2).toInt (0 : Int)) == false) (PV.bool (eqI (selB ((ltI (((nth a 0).setFld 2 (PV.int (IntKind.i64.wrap (((nth a 0).fld 2).toInt - (1 : Int))))).fld 2).toInt (0 : Int)) == false) (nth r0 0) PV.unit).toInt (-1 : Int))) PV.unit)).isB false) (nth r0 0) PV.unit).toInt (0 : Int))) PV.unit) PV.unit).toBool (selB ((selB ((selB (ltI (((nth a 0).setFld 2 (PV.int (IntKind.i64.wrap (((nth a 0).fld 2).toInt - (1 : Int))))).fld 2).toInt (0 : Int)) (PV.bool true) (selB ((ltI (((nth a 0).setFld 2 (PV.int (IntKind.i64.wrap (((nth a 0).fld 2).toInt - (1 : Int))))).fld 2).toInt (0 : Int)) == false) (PV.bool (eqI (selB ((ltI (((nth a 0).setFld 2 (PV.int (IntKind.i64.wrap (((nth a 0).fld 2).toInt - (1 : Int))))).fld 2).toInt (0 : Int)) == false) (nth r0 0) PV.unit).toInt (-1 : Int))) PV.unit)).isB false) (selB ((selB (ltI (((nth a 0).setFld 2 (PV.int (IntKind.i64.wrap (((nth a 0).fld 2).toInt - (1 : Int))))).fld 2).toInt (0 : Int)) (PV.bool true) (selB ((ltI (((nth a 0).setFld 2 (PV.int (IntKind.i64.wrap (((nth a 0).fld 2).toInt - (1 : Int))))).fld 2).toInt (0 : Int)) == false) (PV.bool (eqI (selB ((ltI (((nth a 0).setFld 2 (PV.int (IntKind.i64.wrap (((nth a 0).fld 2).toInt - (1 : Int))))).fld 2).toInt (0 : Int)) == false) (nth r0 0) PV.unit).toInt (-1 : Int))) PV.unit)).isB false) (PV.bool (geI (selB ((selB (ltI (((nth a 0).setFld 2 (PV.int (IntKind.i64.wrap (((nth a 0).fld 2).toInt - (1 : Int))))).fld 2).toInt (0 : Int)) (PV.bool true) (selB ((ltI (((nth a 0).setFld 2 (PV.int (IntKind.i64.wrap (((nth a 0).fld 2).toInt - (1 : Int))))).fld 2).toInt (0 : Int)) == false) (PV.bool (eqI (selB ((ltI (((nth a 0).setFld 2 (PV.int (IntKind.i64.wrap (((nth a 0).fld 2).toInt - (1 : Int))))).fld 2).toInt (0 : Int)) == false) (nth r0 0) PV.unit).toInt (-1 : Int))) PV.unit)).isB false) (nth r0 0) PV.unit).toInt (0 : Int))) PV.unit) PV.unit).isB true) (PV.bool (neI (selB ((selB ((selB (ltI (((nth a 0).setFld 2 (PV.int (IntKind.i64.wrap (((nth a 0).fld 2).toInt - (1 : Int))))).fld 2).toInt (0 : Int)) (PV.bool true) (selB ((ltI (((nth a 0).setFld 2 (PV.int (IntKind.i64.wrap (((nth a 0).fld 2).toInt - (1 : Int))))).fld 2).toInt (0 : Int)) == false) (PV.bool (eqI (selB ((ltI (((nth a 0).setFld 2 (PV.int (IntKind.i64.wrap (((nth a 0).fld 2).toInt - (1 : Int))))).fld 2).toInt (0 : Int)) == false) (nth r0 0) PV.unit).toInt (-1 : Int))) PV.unit)).isB false) (selB ((selB (ltI (((nth a 0).setFld 2 (PV.int (IntKind.i64.wrap (((nth a 0).fld 2).toInt - (1 : Int))))).fld 2).toInt (0 : Int)) (PV.bool true) (selB ((ltI (((nth a 0).setFld 2 (PV.int (IntKind.i64.wrap (((nth a 0).fld 2).toInt - (1 : Int))))).fld 2).toInt (0 : Int)) == false) (PV.bool (eqI (selB ((ltI (((nth a 0).setFld 2 (PV.int (IntKind.i64.wrap (((nth a 0).fld 2).toInt - (1 : Int))))).fld 2).toInt (0 : Int)) == false) (nth r0 0) PV.unit).toInt (-1 : Int))) PV.unit)).isB false) (PV.bool (geI (selB ((selB (ltI (((nth a 0).setFld 2 (PV.int (IntKind.i64.wrap (((nth a 0).fld 2).toInt - (1 : Int))))).fld 2).toInt (0 : Int)) (PV.bool true) (selB ((ltI (((nth a 0).setFld 2 (PV.int (IntKind.i64.wrap (((nth a 0).fld 2).toInt - (1 : Int))))).fld 2).toInt (0 : Int)) == false) (PV.bool (eqI (selB ((ltI (((nth a 0).setFld 2 (PV.int (IntKind.i64.wrap (((nth a 0).fld 2).toInt - (1 : Int))))).fld 2).toInt (0 : Int)) == false) (nth r0 0) PV.unit).toInt (-1 : Int))) PV.unit)).isB false) (nth r0 0) PV.unit).toInt (0 : Int))) PV.unit) PV.unit).isB true) (PV.int ((selB ((selB ((selB (ltI (((nth a 0).setFld 2 (PV.int (IntKind.i64.wrap (((nth a 0).fld 2).toInt - (1 : Int))))).fld 2).toInt (0 : Int)) (PV.bool true) (selB ((ltI (((nth a 0).setFld 2 (PV.int (IntKind.i64.wrap (((nth a 0).fld 2).toInt - (1 : Int))))).fld 2).toInt (0 : Int)) == false) (PV.bool (eqI (selB ((ltI (((nth a 0).setFld 2 (PV.int (IntKind.i64.wrap (((nth a 0).fld 2).toInt - (1 : Int))))).fld 2).toInt (0 : Int)) == false) (nth r0 0) PV.unit).toInt (-1 : Int))) PV.unit)).isB false) (selB ((selB (ltI (((nth a 0).setFld 2 (PV.int (IntKind.i64.wrap (((nth a 0).fld 2).toInt - (1 : Int))))).fld 2).toInt (0 : Int)) (PV.bool true) (selB ((ltI (((nth a 0).setFld 2 (PV.int (IntKind.i64.wrap (((nth a 0).fld 2).toInt - (1 : Int))))).fld 2).toInt (0 : Int)) == false) (PV.bool (eqI (selB ((ltI (((nth a 0).setFld 2 (PV.int (IntKind.i64.wrap (((nth a 0).fld 2).toInt - (1 : Int))))).fld 2).toInt (0 : Int)) == false) (nth r0 0) PV.unit).toInt (-1 : Int))) PV.unit)).isB false) (PV.bool (geI (selB ((selB (ltI (((nth a 0).setFld 2 (PV.int (IntKind.i64.wrap (((nth a 0).fld 2).toInt - (1 : Int))))).fld 2).toInt (0 : Int)) (PV.bool true) (selB ((ltI (((nth a 0).setFld 2 (PV.int (IntKind.i64.wrap (((nth a 0).fld 2).toInt - (1 : Int))))).fld 2).toInt (0 : Int)) == false) (PV.bool (eqI (selB ((ltI (((nth a 0).setFld 2 (PV.int (IntKind.i64.wrap (((nth a 0).fld 2).toInt - (1 : Int))))).fld 2).toInt (0 : Int)) == false) (nth r0 0) PV.unit).toInt (-1 : Int))) PV.unit)).isB false) (nth r0 0) PV.unit).toInt (0 : Int))) PV.unit) PV.unit).isB true) ((nth a 1).fld 2) PV.unit).toList.length : Int)) PV.unit).toInt (selB ((selB ((selB (ltI (((nth a 0).setFld 2 (PV.int (IntKind.i64.wrap (((nth a 0).fld 2).toInt - (1 : Int))))).fld 2).toInt (0 : Int)) (PV.bool true) (selB ((ltI (((nth a 0).setFld 2 (PV.int (IntKind.i64.wrap (((nth a 0).fld 2).toInt - (1 : Int))))).fld 2).toInt (0 : Int)) == false) (PV.bool (eqI (selB ((ltI (((nth a 0).setFld 2 (PV.int (IntKind.i64.wrap (((nth a 0).fld 2).toInt - (1 : Int))))).fld 2).toInt (0 : Int)) == false) (nth r0 0) PV.unit).toInt (-1 : Int))) PV.unit)).isB false) (selB ((selB (ltI (((nth a 0).setFld 2 (PV.int (IntKind.i64.wrap (((nth a 0).fld 2).toInt - (1 : Int))))).fld 2).toInt (0 : Int)) (PV.bool true) (selB ((ltI (((nth a 0).setFld 2 (PV.int (IntKind.i64.wrap (((nth a 0).fld 2).toInt - (1 : Int))))).fld 2).toInt (0 : Int)) == false) (PV.bool (eqI (selB ((ltI (((nth a 0).setFld 2 (PV.int (IntKind.i64.wrap (((nth a 0).fld 2).toInt - (1 : Int))))).fld 2).toInt (0 : Int)) == false) (nth r0 0) PV.unit).toInt (-1 : Int))) PV.unit)).isB false) (PV.bool (geI (selB ((selB (ltI (((nth a 0).setFld 2 (PV.int (IntKind.i64.wrap (((nth a 0).fld 2).toInt - (1 : Int))))).fld 2).toInt (0 : Int)) (PV.bool true) (selB ((ltI (((nth a 0).setFld 2 (PV.int (IntKind.i64.wrap (((nth a 0).fld 2).toInt - (1 : Int))))).fld 2).toInt (0 : Int)) == false) (PV.bool (eqI (selB ((ltI (((nth a 0).setFld 2 (PV.int (IntKind.i64.wrap (((nth a 0).fld 2).toInt - (1 : Int))))).fld 2).toInt (0 : Int)) == false) (nth r0 0) PV.unit).toInt (-1 : Int))) PV.unit)).isB false) (nth r0 0) PV.unit).toInt (0 : Int))) PV.unit) PV.unit).isB true) (nth r0 0) PV.unit).toInt)) PV.unit) (PV.bool false)) PV.unit)).toBool
  (some [(PV.bool false), ((nth a 0).setFld 2 (PV.int (IntKind.i64.wrap (((nth a 0).fld 2).toInt - (1 : Int)))))])
  (thenN (thenN (iff (eqI ((nth a 1).fld 0).toInt (1 : Int))
  (some (Ex.n, [(PV.bool (eqI ((nth a 1).fld 0).toInt (1 : Int))), ((nth a 1).fld 0), (PV.bool (eqI ((nth a 1).fld 1).toInt (0 : Int))), (nth a 2), (nth a 1), ((nth a 0).setFld 2 (PV.int (IntKind.i64.wrap (((nth a 0).fld 2).toInt - (1 : Int)))))]))
  (some (Ex.n, [(PV.bool (eqI ((nth a 1).fld 0).toInt (18 : Int))), ((nth a 1).fld 0), (PV.bool (eqI ((nth a 1).fld 1).toInt (0 : Int))), (nth a 2), (nth a 1), ((nth a 0).setFld 2 (PV.int (IntKind.i64.wrap (((nth a 0).fld 2).toInt - (1 : Int)))))])))
  (fun p1 => (iff (nth p1 0).toBool
  ((I 120 [((nth p1 4).fld 1)]).bind fun r2 =>
  (some (Ex.n, [(nth r2 0), (nth p1 3), (nth p1 4), (nth p1 5)])))
  (iff (eqI (nth p1 1).toInt (2 : Int))
  ((I 102 [((nth p1 4).fld 1), (PV.int (0 : Int)), (PV.int (IntKind.i64.wrap ((nth p1 3).toInt - (1 : Int))))]).bind fun r3 =>
  (some (Ex.n, [(nth r3 0), (nth p1 3), (nth p1 4), (nth p1 5)])))
  (iff (eqI (nth p1 1).toInt (3 : Int))
  (iff (geI ((nth p1 5).fld 1).toInt (0 : Int))
  (iff (ltI ((nth p1 5).fld 1).toInt (((nth p1 5).fld 0).toList.length : Int))
  ((I 102 [((nth p1 4).fld 1), (PV.int (0 : Int)), (PV.int (IntKind.i64.wrap (((nth ((nth p1 5).fld 0).toList ((nth p1 5).fld 1).toInt.toNat).fld 0).toInt - (1 : Int))))]).bind fun r4 =>
  (some (Ex.n, [(nth r4 0), (nth p1 3), (nth p1 4), (nth p1 5)])))
  none)
  none)
  (iff (eqI (nth p1 1).toInt (4 : Int))
  (some (Ex.n, [(selB (nth p1 2).toBool (selB ((nth p1 2).isB true) (PV.bool (gtI (selB ((nth p1 2).isB true) ((nth p1 5).fld 1) PV.unit).toInt (0 : Int))) PV.unit) (PV.bool false)), (nth p1 3), (nth p1 4), (nth p1 5)]))
  (iff (eqI (nth p1 1).toInt (5 : Int))
  ((I 102 [((nth p1 4).fld 1), (PV.int (1 : Int)), (PV.int (IntKind.i64.wrap ((((nth p1 5).fld 0).toList.length : Int) - (1 : Int))))]).bind fun r5 =>
  ((iff ((nth r5 0).isB true)
  (iff (geI (selB ((nth r5 0).isB true) ((nth p1 4).fld 1) PV.unit).toInt (0 : Int))
  (iff (ltI (selB ((nth r5 0).isB true) ((nth p1 4).fld 1) PV.unit).toInt ((selB ((nth r5 0).isB true) ((nth p1 5).fld 0) PV.unit).toList.length : Int))
  (some [(nth (selB ((nth r5 0).isB true) ((nth p1 5).fld 0) PV.unit).toList (selB ((nth r5 0).isB true) ((nth p1 4).fld 1) PV.unit).toInt.toNat), (nth (selB ((nth r5 0).isB true) ((nth p1 5).fld 0) PV.unit).toList (selB ((nth r5 0).isB true) ((nth p1 4).fld 1) PV.unit).toInt.toNat)])
  none)
  none)
  (some [PV.unit, PV.unit])).bind fun g6 =>
  (some (Ex.n, [(selB (nth r5 0).toBool (selB ((nth r5 0).isB true) (PV.bool (eqI (selB ((nth r5 0).isB true) (PV.int ((selB ((nth r5 0).isB true) ((nth p1 4).fld 2) PV.unit).toList.length : Int)) PV.unit).toInt (selB ((nth r5 0).isB true) (selB ((nth r5 0).isB true) ((nth g6 0).fld 0) PV.unit) PV.unit).toInt)) PV.unit) (PV.bool false)), (nth p1 3), (nth p1 4), (nth p1 5)]))))
  (thenN (iff (eqI (nth p1 1).toInt (14 : Int))
  (some (Ex.n, [(PV.bool (eqI (nth p1 1).toInt (14 : Int))), (nth p1 2), (nth p1 3), (nth p1 4), (nth p1 5)]))
  (iff (eqI (nth p1 1).toInt (16 : Int))
  (some (Ex.n, [(PV.bool (eqI (nth p1 1).toInt (16 : Int))), (nth p1 2), (nth p1 3), (nth p1 4), (nth p1 5)]))
  (some (Ex.n, [(PV.bool (eqI (nth p1 1).toInt (17 : Int))), (nth p1 2), (nth p1 3), (nth p1 4), (nth p1 5)]))))
  (fun p7 => (iff (nth p7 0).toBool
  ((I 102 [((nth p7 3).fld 1), (PV.int (0 : Int)), (PV.int (1073741823 : Int))]).bind fun r8 =>
  (some (Ex.n, [(nth r8 0), (nth p7 2), (nth p7 3), (nth p7 4)])))
  (some (Ex.n, [(nth p7 1), (nth p7 2), (nth p7 3), (nth p7 4)]))))
  passE)))))))
  passE)
  (fun p9 => (iff (!(nth p9 0).toBool)
  (some [(PV.bool false), (nth p9 3)])
  (thenN (thenE (loopEv (L181_0 I n) n [(PV.int (0 : Int)), (PV.int (((nth p9 2).fld 2).toList.length : Int)), ((nth p9 2).fld 2), (nth p9 1), (nth p9 2), (nth p9 3)])
  (passB 1))
  (fun p13 => (some [(PV.bool true), (nth p13 0)]))
  (retE fun q14 => [(nth q14 1), (nth q14 0)]))))
  (retE fun q15 => [(nth q15 1), (nth q15 0)]))))
theorem e181 : ∀ I n a, (compF Try.prog sg 181).map (fun d => d.ev I n a) = some (F181 I n a) := fun I n a => by kernel_rfl
/-! impl.checker).ok -/
def L4277_0 (I : Interp) (n : Nat) (p10 : List PV) : Option (Ex × List PV) :=
  (iff (ltI (nth p10 0).toInt (nth p10 1).toInt)
  (iff (geI (nth p10 0).toInt (0 : Int))
  (iff (ltI (nth p10 0).toInt ((nth p10 2).toList.length : Int))
  (thenN (iff (selB (eqI ((nth p10 4).fld 0).toInt (7 : Int)) (selB ((eqI ((nth p10 4).fld 0).toInt (7 : Int)) == true) (PV.bool (eqI (selB ((eqI ((nth p10 4).fld 0).toInt (7 : Int)) == true) (nth p10 0) PV.unit).toInt (1 : Int))) PV.unit) (PV.bool false)).toBool
  (some (Ex.n, [(PV.int (IntKind.i64.wrap ((nth p10 3).toInt + (1 : Int)))), (nth p10 0), (nth p10 1), (nth p10 2), (nth p10 3), (nth (nth p10 2).toList (nth p10 0).toInt.toNat), (nth p10 4), (nth p10 5)]))
  (some (Ex.n, [(nth p10 3), (nth p10 0), (nth p10 1), (nth p10 2), (nth p10 3), (nth (nth p10 2).toList (nth p10 0).toInt.toNat), (nth p10 4), (nth p10 5)])))
  (fun p11 => ((I 4277 [(nth p11 7), (nth p11 5), (nth p11 0)]).bind fun r12 =>
  (iff (!(nth r12 0).toBool)
  (some (Ex.r, [(nth r12 1), (PV.bool false)]))
  (some (Ex.n, [(PV.int (IntKind.i64.wrap ((nth p11 1).toInt + (1 : Int)))), (nth p11 2), (nth p11 3), (nth p11 4), (nth p11 6), (nth r12 1)])))))
  passE)
  none)
  none)
  (some (Ex.x 1, [(nth p10 5)])))
def F4277 (I : Interp) (n : Nat) (a : List PV) : Option (List PV) :=
  ((I 211 [((nth a 1).fld 0)]).bind fun r0 =>
  (iff (selB (selB (ltI (((nth a 0).setFld 2 (PV.int (IntKind.i64.wrap (((nth a 0).fld 2).toInt - (1 : Int))))).fld 2).toInt (0 : Int)) (PV.bool true) (selB ((ltI (((nth a 0).setFld 2 (PV.int (IntKind.i64.wrap (((nth a 0).fld 2).toInt - (1 : Int))))).fld 2).toInt (0 : Int)) == false) (PV.bool (eqI (selB ((ltI (((nth a 0).setFld 2 (PV.int (IntKind.i64.wrap (((nth a 0).fld 2).toInt - (1 : Int))))).fld 2).toInt (0 : Int)) == false) (nth r0 0) PV.unit).toInt (-1 : Int))) PV.unit)).toBool (PV.bool true) (selB ((selB (ltI (((nth a 0).setFld 2 (PV.int (IntKind.i64.wrap (((nth a 0).fld 2).toInt - (1 : Int))))).fld 2).toInt (0 : Int)) (PV.bool true) (selB ((ltI (((nth a 0).setFld 2 (PV.int (IntKind.i64.wrap (((nth a 0).fld 2).toInt - (1 : Int))))).fld 2).toInt (0 : Int)) == false) (PV.bool (eqI (selB ((ltI (((nth a 0).setFld 2 (PV.int (IntKind.i64.wrap (((nth a 0).fld 2).toInt - (1 : Int))))).fld 2).toInt (0 : Int)) == false) (nth r0 0) PV.unit).toInt (-1 : Int))) PV.unit)).isB false) (selB (selB ((selB (ltI (((nth a 0).setFld 2 (PV.int (IntKind.i64.wrap (((nth a 0).fld 2).toInt - (1 : Int))))).fld 2).toInt (0 : Int)) (PV.bool true) (selB ((ltI (((nth a 0).setFld 2 (PV.int (IntKind.i64.wrap (((nth a 0).fld 2).toInt - (1 : Int))))).fld 2).toInt (0 : Int)) == false) (PV.bool (eqI (selB ((ltI (((nth a 0).setFld 2 (PV.int (IntKind.i64.wrap (((nth a 0).fld 2).toInt - (1 : Int))))).fld 2).toInt (0 : Int)) == false) (nth r0 0) PV.unit).toInt (-1 : Int))) PV.unit)).isB false) (selB ((selB (ltI (((nth a 0).setFld 2 (PV.int (IntKind.i64.wrap (((nth a 0).fld 2).toInt - (1 : Int))))).fld 2).toInt (0 : Int)) (PV.bool true) (selB ((ltI (((nth a 0).setFld 2 (PV.int (IntKind.i64.wrap (((nth a 0).fld 2).toInt - (1 : Int))))).fld 2).toInt (0 : Int)) == false) (PV.bool (eqI (selB ((ltI (((nth a 0).setFld 2 (PV.int (IntKind.i64.wrap (((nth a 0).fld 2).toInt - (1 : Int))))).fld 2).toInt (0 : Int)) == false) (nth r0 0) PV.unit).toInt (-1 : Int))) PV.unit)).isB false) (PV.bool (geI (selB ((selB (ltI (((nth a 0).setFld 2 (PV.int (IntKind.i64.wrap (((nth a 0).fld 2).toInt - (1 : Int))))).fld 2).toInt (0 : Int)) (PV.bool true) (selB ((ltI (((nth a 0).setFld 2 (PV.int (IntKind.i64.wrap (((nth a 0).fld 2).toInt - (1 : Int))))).fld 2).toInt (0 : Int)) == false) (PV.bool (eqI (selB ((ltI (((nth a 0).setFld 2 (PV.int (IntKind.i64.wrap (((nth a 0).fld 2).toInt - (1 : Int))))).fld 2).toInt (0 : Int)) == false) (nth r0 0) PV.unit).toInt (-1 : Int))) PV.unit)).isB false) (nth r0 0) PV.unit).toInt (0 : Int))) PV.unit) PV.unit).toBool (selB ((selB ((selB (ltI (((nth a 0).setFld 2 (PV.int (IntKind.i64.wrap (((nth a 0).fld 2).toInt - (1 : Int))))).fld 2).toInt (0 : Int)) (PV.bool true) (selB ((ltI (((nth a 0).setFld 2 (PV.int (IntKind.i64.wrap (((nth a 0).fld 2).toInt - (1 : Int))))).fld 2).toInt (0 : Int)) == false) (PV.bool (eqI (selB ((ltI (((nth a 0).setFld 2 (PV.int (IntKind.i64.wrap (((nth a 0).fld 2).toInt - (1 : Int))))).fld 2).toInt (0 : Int)) == false) (nth r0 0) PV.unit).toInt (-1 : Int))) PV.unit)).isB false) (selB ((selB (ltI (((nth a 0).setFld 2 (PV.int (IntKind.i64.wrap (((nth a 0).fld 2).toInt - (1 : Int))))).fld 2).toInt (0 : Int)) (PV.bool true) (selB ((ltI (((nth a 0).setFld 2 (PV.int (IntKind.i64.wrap (((nth a 0).fld 2).toInt - (1 : Int))))).fld 2).toInt (0 : Int)) == false) (PV.bool (eqI (selB ((ltI (((nth a 0).setFld 2 (PV.int (IntKind.i64.wrap (((nth a 0).fld 2).toInt - (1 : Int))))).fld 2).toInt (0 : Int)) == false) (nth r0 0) PV.unit).toInt (-1 : Int))) PV.unit)).isB false) (PV.bool (geI (selB ((selB (ltI (((nth a 0).setFld 2 (PV.int (IntKind.i64.wrap (((nth a 0).fld 2).toInt - (1 : Int))))).fld 2).toInt (0 : Int)) (PV.bool true) (selB ((ltI (((nth a 0).setFld 2 (PV.int (IntKind.i64.wrap (((nth a 0).fld 2).toInt - (1 : Int))))).fld 2).toInt (0 : Int)) == false) (PV.bool (eqI (selB ((ltI (((nth a 0).setFld 2 (PV.int (IntKind.i64.wrap (((nth a 0).fld 2).toInt - (1 : Int))))).fld 2).toInt (0 : Int)) == false) (nth r0 0) PV.unit).toInt (-1 : Int))) PV.unit)).isB false) (nth r0 0) PV.unit).toInt (0 : Int))) PV.unit) PV.unit).isB true) (PV.bool (neI (selB ((selB ((selB (ltI (((nth a 0).setFld 2 (PV.int (IntKind.i64.wrap (((nth a 0).fld 2).toInt - (1 : Int))))).fld 2).toInt (0 : Int)) (PV.bool true) (selB ((ltI (((nth a 0).setFld 2 (PV.int (IntKind.i64.wrap (((nth a 0).fld 2).toInt - (1 : Int))))).fld 2).toInt (0 : Int)) == false) (PV.bool (eqI (selB ((ltI (((nth a 0).setFld 2 (PV.int (IntKind.i64.wrap (((nth a 0).fld 2).toInt - (1 : Int))))).fld 2).toInt (0 : Int)) == false) (nth r0 0) PV.unit).toInt (-1 : Int))) PV.unit)).isB false) (selB ((selB (ltI (((nth a 0).setFld 2 (PV.int (IntKind.i64.wrap (((nth a 0).fld 2).toInt - (1 : Int))))).fld 2).toInt (0 : Int)) (PV.bool true) (selB ((ltI (((nth a 0).setFld 2 (PV.int (IntKind.i64.wrap (((nth a 0).fld 2).toInt - (1 : Int))))).fld 2).toInt (0 : Int)) == false) (PV.bool (eqI (selB ((ltI (((nth a 0).setFld 2 (PV.int (IntKind.i64.wrap (((nth a 0).fld 2).toInt - (1 : Int))))).fld 2).toInt (0 : Int)) == false) (nth r0 0) PV.unit).toInt (-1 : Int))) PV.unit)).isB false) (PV.bool (geI (selB ((selB (ltI (((nth a 0).setFld 2 (PV.int (IntKind.i64.wrap (((nth a 0).fld 2).toInt - (1 : Int))))).fld 2).toInt (0 : Int)) (PV.bool true) (selB ((ltI (((nth a 0).setFld 2 (PV.int (IntKind.i64.wrap (((nth a 0).fld 2).toInt - (1 : Int))))).fld 2).toInt (0 : Int)) == false) (PV.bool (eqI (selB ((ltI (((nth a 0).setFld 2 (PV.int (IntKind.i64.wrap (((nth a 0).fld 2).toInt - (1 : Int))))).fld 2).toInt (0 : Int)) == false) (nth r0 0) PV.unit).toInt (-1 : Int))) PV.unit)).isB false) (nth r0 0) PV.unit).toInt (0 : Int))) PV.unit) PV.unit).isB true) (PV.int ((selB ((selB ((selB (ltI (((nth a 0).setFld 2 (PV.int (IntKind.i64.wrap (((nth a 0).fld 2).toInt - (1 : Int))))).fld 2).toInt (0 : Int)) (PV.bool true) (selB ((ltI (((nth a 0).setFld 2 (PV.int (IntKind.i64.wrap (((nth a 0).fld 2).toInt - (1 : Int))))).fld 2).toInt (0 : Int)) == false) (PV.bool (eqI (selB ((ltI (((nth a 0).setFld 2 (PV.int (IntKind.i64.wrap (((nth a 0).fld 2).toInt - (1 : Int))))).fld 2).toInt (0 : Int)) == false) (nth r0 0) PV.unit).toInt (-1 : Int))) PV.unit)).isB false) (selB ((selB (ltI (((nth a 0).setFld 2 (PV.int (IntKind.i64.wrap (((nth a 0).fld 2).toInt - (1 : Int))))).fld 2).toInt (0 : Int)) (PV.bool true) (selB ((ltI (((nth a 0).setFld 2 (PV.int (IntKind.i64.wrap (((nth a 0).fld 2).toInt - (1 : Int))))).fld 2).toInt (0 : Int)) == false) (PV.bool (eqI (selB ((ltI (((nth a 0).setFld 2 (PV.int (IntKind.i64.wrap (((nth a 0).fld 2).toInt - (1 : Int))))).fld 2).toInt (0 : Int)) == false) (nth r0 0) PV.unit).toInt (-1 : Int))) PV.unit)).isB false) (PV.bool (geI (selB ((selB (ltI (((nth a 0).setFld 2 (PV.int (IntKind.i64.wrap (((nth a 0).fld 2).toInt - (1 : Int))))).fld 2).toInt (0 : Int)) (PV.bool true) (selB ((ltI (((nth a 0).setFld 2 (PV.int (IntKind.i64.wrap (((nth a 0).fld 2).toInt - (1 : Int))))).fld 2).toInt (0 : Int)) == false) (PV.bool (eqI (selB ((ltI (((nth a 0).setFld 2 (PV.int (IntKind.i64.wrap (((nth a 0).fld 2).toInt - (1 : Int))))).fld 2).toInt (0 : Int)) == false) (nth r0 0) PV.unit).toInt (-1 : Int))) PV.unit)).isB false) (nth r0 0) PV.unit).toInt (0 : Int))) PV.unit) PV.unit).isB true) ((nth a 1).fld 2) PV.unit).toList.length : Int)) PV.unit).toInt (selB ((selB ((selB (ltI (((nth a 0).setFld 2 (PV.int (IntKind.i64.wrap (((nth a 0).fld 2).toInt - (1 : Int))))).fld 2).toInt (0 : Int)) (PV.bool true) (selB ((ltI (((nth a 0).setFld 2 (PV.int (IntKind.i64.wrap (((nth a 0).fld 2).toInt - (1 : Int))))).fld 2).toInt (0 : Int)) == false) (PV.bool (eqI (selB ((ltI (((nth a 0).setFld 2 (PV.int (IntKind.i64.wrap (((nth a 0).fld 2).toInt - (1 : Int))))).fld 2).toInt (0 : Int)) == false) (nth r0 0) PV.unit).toInt (-1 : Int))) PV.unit)).isB false) (selB ((selB (ltI (((nth a 0).setFld 2 (PV.int (IntKind.i64.wrap (((nth a 0).fld 2).toInt - (1 : Int))))).fld 2).toInt (0 : Int)) (PV.bool true) (selB ((ltI (((nth a 0).setFld 2 (PV.int (IntKind.i64.wrap (((nth a 0).fld 2).toInt - (1 : Int))))).fld 2).toInt (0 : Int)) == false) (PV.bool (eqI (selB ((ltI (((nth a 0).setFld 2 (PV.int (IntKind.i64.wrap (((nth a 0).fld 2).toInt - (1 : Int))))).fld 2).toInt (0 : Int)) == false) (nth r0 0) PV.unit).toInt (-1 : Int))) PV.unit)).isB false) (PV.bool (geI (selB ((selB (ltI (((nth a 0).setFld 2 (PV.int (IntKind.i64.wrap (((nth a 0).fld 2).toInt - (1 : Int))))).fld 2).toInt (0 : Int)) (PV.bool true) (selB ((ltI (((nth a 0).setFld 2 (PV.int (IntKind.i64.wrap (((nth a 0).fld 2).toInt - (1 : Int))))).fld 2).toInt (0 : Int)) == false) (PV.bool (eqI (selB ((ltI (((nth a 0).setFld 2 (PV.int (IntKind.i64.wrap (((nth a 0).fld 2).toInt - (1 : Int))))).fld 2).toInt (0 : Int)) == false) (nth r0 0) PV.unit).toInt (-1 : Int))) PV.unit)).isB false) (nth r0 0) PV.unit).toInt (0 : Int))) PV.unit) PV.unit).isB true) (nth r0 0) PV.unit).toInt)) PV.unit) (PV.bool false)) PV.unit)).toBool
  (some [(PV.bool false), ((nth a 0).setFld 2 (PV.int (IntKind.i64.wrap (((nth a 0).fld 2).toInt - (1 : Int)))))])
  (thenN (thenN (iff (eqI ((nth a 1).fld 0).toInt (1 : Int))
  (some (Ex.n, [(PV.bool (eqI ((nth a 1).fld 0).toInt (1 : Int))), ((nth a 1).fld 0), (PV.bool (eqI ((nth a 1).fld 1).toInt (0 : Int))), (nth a 2), (nth a 1), ((nth a 0).setFld 2 (PV.int (IntKind.i64.wrap (((nth a 0).fld 2).toInt - (1 : Int)))))]))
  (some (Ex.n, [(PV.bool (eqI ((nth a 1).fld 0).toInt (18 : Int))), ((nth a 1).fld 0), (PV.bool (eqI ((nth a 1).fld 1).toInt (0 : Int))), (nth a 2), (nth a 1), ((nth a 0).setFld 2 (PV.int (IntKind.i64.wrap (((nth a 0).fld 2).toInt - (1 : Int)))))])))
  (fun p1 => (iff (nth p1 0).toBool
  ((I 120 [((nth p1 4).fld 1)]).bind fun r2 =>
  (some (Ex.n, [(nth r2 0), (nth p1 3), (nth p1 4), (nth p1 5)])))
  (iff (eqI (nth p1 1).toInt (2 : Int))
  ((I 102 [((nth p1 4).fld 1), (PV.int (0 : Int)), (PV.int (IntKind.i64.wrap ((nth p1 3).toInt - (1 : Int))))]).bind fun r3 =>
  (some (Ex.n, [(nth r3 0), (nth p1 3), (nth p1 4), (nth p1 5)])))
  (iff (eqI (nth p1 1).toInt (3 : Int))
  (iff (geI ((nth p1 5).fld 1).toInt (0 : Int))
  (iff (ltI ((nth p1 5).fld 1).toInt (((nth p1 5).fld 0).toList.length : Int))
  ((I 102 [((nth p1 4).fld 1), (PV.int (0 : Int)), (PV.int (IntKind.i64.wrap (((nth ((nth p1 5).fld 0).toList ((nth p1 5).fld 1).toInt.toNat).fld 0).toInt - (1 : Int))))]).bind fun r4 =>
  (some (Ex.n, [(nth r4 0), (nth p1 3), (nth p1 4), (nth p1 5)])))
  none)
  none)
  (iff (eqI (nth p1 1).toInt (4 : Int))
  (some (Ex.n, [(selB (nth p1 2).toBool (selB ((nth p1 2).isB true) (PV.bool (gtI (selB ((nth p1 2).isB true) ((nth p1 5).fld 1) PV.unit).toInt (0 : Int))) PV.unit) (PV.bool false)), (nth p1 3), (nth p1 4), (nth p1 5)]))
  (iff (eqI (nth p1 1).toInt (5 : Int))
  ((I 102 [((nth p1 4).fld 1), (PV.int (1 : Int)), (PV.int (IntKind.i64.wrap ((((nth p1 5).fld 0).toList.length : Int) - (1 : Int))))]).bind fun r5 =>
  ((iff ((nth r5 0).isB true)
  (iff (geI (selB ((nth r5 0).isB true) ((nth p1 4).fld 1) PV.unit).toInt (0 : Int))
  (iff (ltI (selB ((nth r5 0).isB true) ((nth p1 4).fld 1) PV.unit).toInt (((nth p1 5).fld 0).toList.length : Int))
  (some [(selB ((nth r5 0).isB true) ((nth p1 4).fld 1) PV.unit), (selB ((nth r5 0).isB true) ((nth p1 4).fld 1) PV.unit)])
  none)
  none)
  (some [PV.unit, PV.unit])).bind fun g6 =>
  (some (Ex.n, [(selB (nth r5 0).toBool (selB ((nth r5 0).isB true) (PV.bool (eqI (selB ((nth r5 0).isB true) (PV.int ((selB ((nth r5 0).isB true) ((nth p1 4).fld 2) PV.unit).toList.length : Int)) PV.unit).toInt (selB ((nth r5 0).isB true) ((nth ((nth p1 5).fld 0).toList (selB ((nth r5 0).isB true) (nth g6 0) PV.unit).toInt.toNat).fld 0) PV.unit).toInt)) PV.unit) (PV.bool false)), (nth p1 3), (nth p1 4), (nth p1 5)]))))
  (thenN (iff (eqI (nth p1 1).toInt (14 : Int))
  (some (Ex.n, [(PV.bool (eqI (nth p1 1).toInt (14 : Int))), (nth p1 2), (nth p1 3), (nth p1 4), (nth p1 5)]))
  (iff (eqI (nth p1 1).toInt (16 : Int))
  (some (Ex.n, [(PV.bool (eqI (nth p1 1).toInt (16 : Int))), (nth p1 2), (nth p1 3), (nth p1 4), (nth p1 5)]))
  (some (Ex.n, [(PV.bool (eqI (nth p1 1).toInt (17 : Int))), (nth p1 2), (nth p1 3), (nth p1 4), (nth p1 5)]))))
  (fun p7 => (iff (nth p7 0).toBool
  ((I 102 [((nth p7 3).fld 1), (PV.int (0 : Int)), (PV.int (1073741823 : Int))]).bind fun r8 =>
  (some (Ex.n, [(nth r8 0), (nth p7 2), (nth p7 3), (nth p7 4)])))
  (some (Ex.n, [(nth p7 1), (nth p7 2), (nth p7 3), (nth p7 4)]))))
  passE)))))))
  passE)
  (fun p9 => (iff (!(nth p9 0).toBool)
  (some [(PV.bool false), (nth p9 3)])
  (thenN (thenE (loopEv (L4277_0 I n) n [(PV.int (0 : Int)), (PV.int (((nth p9 2).fld 2).toList.length : Int)), ((nth p9 2).fld 2), (nth p9 1), (nth p9 2), (nth p9 3)])
  (passB 1))
  (fun p13 => (some [(PV.bool true), (nth p13 0)]))
  (retE fun q14 => [(nth q14 1), (nth q14 0)]))))
  (retE fun q15 => [(nth q15 1), (nth q15 0)]))))
theorem e4277 : ∀ I n a, (compF Try.prog sg 4277).map (fun d => d.ev I n a) = some (F4277 I n a) := fun I n a => by kernel_rfl
/-! laws.eqFunS -/
def L66_0 (I : Interp) (n : Nat) (p0 : List PV) : Option (Ex × List PV) :=
  (iff (ltI (nth p0 0).toInt ((nth p0 1).toList.length : Int))
  (iff (geI (nth p0 0).toInt (0 : Int))
  (iff (ltI (nth p0 0).toInt ((nth p0 1).toList.length : Int))
  (iff (geI (nth p0 0).toInt (0 : Int))
  (iff (ltI (nth p0 0).toInt ((nth p0 2).toList.length : Int))
  ((I 142 [(nth (nth p0 1).toList (nth p0 0).toInt.toNat), (nth (nth p0 2).toList (nth p0 0).toInt.toNat)]).bind fun r1 =>
  (iff (!(nth r1 0).toBool)
  (some (Ex.r, [(PV.bool false)]))
  (some (Ex.n, [(PV.int (IntKind.i64.wrap ((nth p0 0).toInt + (1 : Int)))), (nth p0 1), (nth p0 2)]))))
  none)
  none)
  none)
  none)
  (some (Ex.x 0, [])))
def F66 (I : Interp) (n : Nat) (a : List PV) : Option (List PV) :=
  (iff (neI ((nth a 0).toList.length : Int) ((nth a 1).toList.length : Int))
  (some [(PV.bool false)])
  (thenN (thenE (loopEv (L66_0 I n) n [(PV.int (0 : Int)), (nth a 0), (nth a 1)])
  (passB 0))
  (fun p2 => (some [(PV.bool true)]))
  (retE fun q3 => [(nth q3 0)])))
theorem e66 : ∀ I n a, (compF Try.prog sg 66).map (fun d => d.ev I n a) = some (F66 I n a) := fun I n a => by kernel_rfl
/-! laws.toBlockS -/
def L64_0 (I : Interp) (n : Nat) (p0 : List PV) : Option (Ex × List PV) :=
  (iff (ltI (nth p0 0).toInt ((nth p0 1).toList.length : Int))
  (iff (geI (nth p0 0).toInt (0 : Int))
  (iff (ltI (nth p0 0).toInt ((nth p0 1).toList.length : Int))
  ((I 138 [(nth (nth p0 1).toList (nth p0 0).toInt.toNat)]).bind fun r1 =>
  (iff (geI (nth p0 0).toInt (0 : Int))
  (iff (ltI (nth p0 0).toInt ((nth p0 2).toList.length : Int))
  (some (Ex.n, [(PV.int (IntKind.i64.wrap ((nth p0 0).toInt + (1 : Int)))), (nth p0 1), (PV.list ((nth p0 2).toList.set (nth p0 0).toInt.toNat (nth r1 0)))]))
  none)
  none))
  none)
  none)
  (some (Ex.x 0, [(nth p0 2)])))
def F64 (I : Interp) (n : Nat) (a : List PV) : Option (List PV) :=
  (iff (geI ((nth a 0).toList.length : Int) (0 : Int))
  (iff (leI ((nth a 0).toList.length : Int) ((nth a 0).toList.length : Int))
  (iff (leI ((nth a 0).toList.length : Int) (2932031007402 : Int))
  (thenN (thenE (loopEv (L64_0 I n) n [(PV.int (0 : Int)), (nth a 0), (PV.list (List.replicate ((nth a 0).toList.length : Int).toNat (PV.agg [(PV.int (0 : Int)), (PV.agg [(PV.int (0 : Int)), (PV.int (0 : Int)), (PV.list ([] : List PV))])])))])
  (passB 0))
  (fun p2 => (some [(nth p2 0)]))
  (retE fun q3 => [(nth q3 0)]))
  none)
  none)
  none)
theorem e64 : ∀ I n a, (compF Try.prog sg 64).map (fun d => d.ev I n a) = some (F64 I n a) := fun I n a => by kernel_rfl
/-! laws.szBlockS -/
def L62_0 (I : Interp) (n : Nat) (p0 : List PV) : Option (Ex × List PV) :=
  (iff (ltI (nth p0 0).toInt ((nth p0 1).toList.length : Int))
  (iff (geI (nth p0 0).toInt (0 : Int))
  (iff (ltI (nth p0 0).toInt ((nth p0 1).toList.length : Int))
  ((I 134 [(nth (nth p0 1).toList (nth p0 0).toInt.toNat), (nth p0 2)]).bind fun r1 =>
  (iff (ltI (nth r1 0).toInt (0 : Int))
  (some (Ex.r, [(PV.int (-1 : Int))]))
  (some (Ex.n, [(PV.int (IntKind.i64.wrap ((nth p0 0).toInt + (1 : Int)))), (nth p0 1), (nth r1 0)]))))
  none)
  none)
  (some (Ex.x 0, [(nth p0 2)])))
def F62 (I : Interp) (n : Nat) (a : List PV) : Option (List PV) :=
  (iff (ltI (IntKind.i64.wrap ((nth a 1).toInt - ((nth a 0).toList.length : Int))) (0 : Int))
  (some [(PV.int (-1 : Int))])
  (thenN (thenE (loopEv (L62_0 I n) n [(PV.int (0 : Int)), (nth a 0), (PV.int (IntKind.i64.wrap ((nth a 1).toInt - ((nth a 0).toList.length : Int))))])
  (passB 0))
  (fun p2 => (some [(nth p2 0)]))
  (retE fun q3 => [(nth q3 0)])))
theorem e62 : ∀ I n a, (compF Try.prog sg 62).map (fun d => d.ev I n a) = some (F62 I n a) := fun I n a => by kernel_rfl
/-! impl.FunsOk -/
def L119_0 (I : Interp) (n : Nat) (p6 : List PV) : Option (Ex × List PV) :=
  (iff (ltI (nth p6 0).toInt (nth p6 1).toInt)
  (iff (geI (nth p6 0).toInt (0 : Int))
  (iff (ltI (nth p6 0).toInt ((nth p6 2).toList.length : Int))
  ((I 171 [(nth p6 7), (nth p6 8), (nth p6 3), (nth (nth p6 2).toList (nth p6 0).toInt.toNat)]).bind fun r7 =>
  (iff (!(nth r7 0).toBool)
  (some (Ex.r, [(PV.bool false)]))
  (some (Ex.n, [(PV.int (IntKind.i64.wrap ((nth p6 0).toInt + (1 : Int)))), (nth p6 1), (nth p6 2), (nth p6 3), (nth p6 4), (nth p6 5), (nth p6 6), (nth p6 7), (nth p6 8)]))))
  none)
  none)
  (some (Ex.x 2, [(nth p6 4), (nth p6 5), (nth p6 6), (nth p6 7), (nth p6 8)])))
def L119_1 (I : Interp) (n : Nat) (p2 : List PV) : Option (Ex × List PV) :=
  (iff (ltI (nth p2 0).toInt (nth p2 1).toInt)
  (iff (geI (nth p2 0).toInt (0 : Int))
  (iff (ltI (nth p2 0).toInt ((nth p2 2).toList.length : Int))
  ((I 102 [((nth (nth p2 2).toList (nth p2 0).toInt.toNat).fld 0), (PV.int (0 : Int)), (PV.int (20 : Int))]).bind fun r3 =>
  ((iff ((!(nth r3 0).toBool) == false)
  ((I 102 [(selB ((!(nth r3 0).toBool) == false) (PV.int ((selB ((!(nth r3 0).toBool) == false) ((nth (nth p2 2).toList (nth p2 0).toInt.toNat).fld 1) PV.unit).toList.length : Int)) PV.unit), (PV.int (1 : Int)), (PV.int (3000 : Int))]).bind fun r4 =>
  (some [(nth r4 0), (nth r4 0)]))
  (some [PV.unit, PV.unit])).bind fun g5 =>
  (iff (selB (!(nth r3 0).toBool) (PV.bool true) (selB ((!(nth r3 0).toBool) == false) (PV.bool (!(nth g5 0).toBool)) PV.unit)).toBool
  (some (Ex.r, [(PV.bool false)]))
  (thenN (thenE (loopEv (L119_0 I n) n [(PV.int (0 : Int)), (PV.int (((nth (nth p2 2).toList (nth p2 0).toInt.toNat).fld 1).toList.length : Int)), ((nth (nth p2 2).toList (nth p2 0).toInt.toNat).fld 1), (nth p2 0), (nth p2 0), (nth p2 1), (nth p2 2), (nth p2 3), (nth (nth p2 2).toList (nth p2 0).toInt.toNat)])
  (passB 2))
  (fun p8 => (iff (geI (IntKind.i64.wrap ((((nth p8 4).fld 1).toList.length : Int) - (1 : Int))) (0 : Int))
  (iff (ltI (IntKind.i64.wrap ((((nth p8 4).fld 1).toList.length : Int) - (1 : Int))) (((nth p8 4).fld 1).toList.length : Int))
  (thenN (iff (eqI ((nth ((nth p8 4).fld 1).toList (IntKind.i64.wrap ((((nth p8 4).fld 1).toList.length : Int) - (1 : Int))).toNat).fld 0).toInt (7 : Int))
  (some (Ex.n, [(PV.bool (eqI ((nth ((nth p8 4).fld 1).toList (IntKind.i64.wrap ((((nth p8 4).fld 1).toList.length : Int) - (1 : Int))).toNat).fld 0).toInt (7 : Int))), (nth p8 0), (nth p8 1), (nth p8 2), (nth p8 3)]))
  (iff (eqI ((nth ((nth p8 4).fld 1).toList (IntKind.i64.wrap ((((nth p8 4).fld 1).toList.length : Int) - (1 : Int))).toNat).fld 0).toInt (19 : Int))
  (some (Ex.n, [(PV.bool (eqI ((nth ((nth p8 4).fld 1).toList (IntKind.i64.wrap ((((nth p8 4).fld 1).toList.length : Int) - (1 : Int))).toNat).fld 0).toInt (19 : Int))), (nth p8 0), (nth p8 1), (nth p8 2), (nth p8 3)]))
  (some (Ex.n, [(PV.bool (eqI ((nth ((nth p8 4).fld 1).toList (IntKind.i64.wrap ((((nth p8 4).fld 1).toList.length : Int) - (1 : Int))).toNat).fld 0).toInt (21 : Int))), (nth p8 0), (nth p8 1), (nth p8 2), (nth p8 3)]))))
  (fun p9 => (iff (nth p9 0).toBool
  (some (Ex.n, [(PV.int (IntKind.i64.wrap ((nth p9 1).toInt + (1 : Int)))), (nth p9 2), (nth p9 3), (nth p9 4)]))
  (some (Ex.r, [(PV.bool false)]))))
  passE)
  none)
  none))
  passE))))
  none)
  none)
  (some (Ex.x 0, [])))
def F119 (I : Interp) (n : Nat) (a : List PV) : Option (List PV) :=
  ((I 102 [(PV.int ((nth a 0).toList.length : Int)), (PV.int (1 : Int)), (PV.int (60 : Int))]).bind fun r0 =>
  ((iff ((!(nth r0 0).toBool) == false)
  (iff (geI (0 : Int) (0 : Int))
  (iff (ltI (0 : Int) ((selB ((!(nth r0 0).toBool) == false) (nth a 0) PV.unit).toList.length : Int))
  (some [(nth (selB ((!(nth r0 0).toBool) == false) (nth a 0) PV.unit).toList (0 : Int).toNat), (nth (selB ((!(nth r0 0).toBool) == false) (nth a 0) PV.unit).toList (0 : Int).toNat)])
  none)
  none)
  (some [PV.unit, PV.unit])).bind fun g1 =>
  (iff (selB (!(nth r0 0).toBool) (PV.bool true) (selB ((!(nth r0 0).toBool) == false) (PV.bool (neI (selB ((!(nth r0 0).toBool) == false) (selB ((!(nth r0 0).toBool) == false) ((nth g1 0).fld 0) PV.unit) PV.unit).toInt (0 : Int))) PV.unit)).toBool
  (some [(PV.bool false)])
  (thenN (thenE (loopEv (L119_1 I n) n [(PV.int (0 : Int)), (PV.int ((nth a 0).toList.length : Int)), (nth a 0), (nth a 0)])
  (passB 0))
  (fun p10 => (some [(PV.bool true)]))
  (retE fun q11 => [(nth q11 0)])))))
theorem e119 : ∀ I n a, (compF Try.prog sg 119).map (fun d => d.ev I n a) = some (F119 I n a) := fun I n a => by kernel_rfl
/-! spec.FunsOk -/
def L116_0 (I : Interp) (n : Nat) (p6 : List PV) : Option (Ex × List PV) :=
  (iff (ltI (nth p6 0).toInt (nth p6 1).toInt)
  (iff (geI (nth p6 2).toInt (0 : Int))
  (iff (ltI (nth p6 2).toInt ((nth p6 3).toList.length : Int))
  (iff (geI (nth p6 0).toInt (0 : Int))
  (iff (ltI (nth p6 0).toInt (((nth (nth p6 3).toList (nth p6 2).toInt.toNat).fld 1).toList.length : Int))
  ((I 169 [(nth p6 3), (nth p6 2), (nth ((nth (nth p6 3).toList (nth p6 2).toInt.toNat).fld 1).toList (nth p6 0).toInt.toNat)]).bind fun r7 =>
  (iff (!(nth r7 0).toBool)
  (some (Ex.r, [(PV.bool false)]))
  (some (Ex.n, [(PV.int (IntKind.i64.wrap ((nth p6 0).toInt + (1 : Int)))), (nth p6 1), (nth p6 2), (nth p6 3)]))))
  none)
  none)
  none)
  none)
  (some (Ex.x 2, [(nth p6 1), (nth p6 2), (nth p6 3)])))
def L116_1 (I : Interp) (n : Nat) (p2 : List PV) : Option (Ex × List PV) :=
  (iff (ltI (nth p2 0).toInt ((nth p2 1).toList.length : Int))
  (iff (geI (nth p2 0).toInt (0 : Int))
  (iff (ltI (nth p2 0).toInt ((nth p2 1).toList.length : Int))
  (iff (geI (nth p2 0).toInt (0 : Int))
  (iff (ltI (nth p2 0).toInt ((nth p2 1).toList.length : Int))
  ((I 104 [((nth (nth p2 1).toList (nth p2 0).toInt.toNat).fld 0), (PV.int (0 : Int)), (PV.int (20 : Int))]).bind fun r3 =>
  ((iff ((!(nth r3 0).toBool) == false)
  ((I 104 [(selB ((!(nth r3 0).toBool) == false) (PV.int (((nth (nth p2 1).toList (nth p2 0).toInt.toNat).fld 1).toList.length : Int)) PV.unit), (PV.int (1 : Int)), (PV.int (3000 : Int))]).bind fun r4 =>
  (some [(nth r4 0), (nth r4 0)]))
  (some [PV.unit, PV.unit])).bind fun g5 =>
  (iff (selB (!(nth r3 0).toBool) (PV.bool true) (selB ((!(nth r3 0).toBool) == false) (PV.bool (!(nth g5 0).toBool)) PV.unit)).toBool
  (some (Ex.r, [(PV.bool false)]))
  (thenN (thenE (loopEv (L116_0 I n) n [(PV.int (0 : Int)), (PV.int (((nth (nth p2 1).toList (nth p2 0).toInt.toNat).fld 1).toList.length : Int)), (nth p2 0), (nth p2 1)])
  (passB 2))
  (fun p8 => (iff (geI (nth p8 1).toInt (0 : Int))
  (iff (ltI (nth p8 1).toInt ((nth p8 2).toList.length : Int))
  (iff (geI (IntKind.i64.wrap ((nth p8 0).toInt - (1 : Int))) (0 : Int))
  (iff (ltI (IntKind.i64.wrap ((nth p8 0).toInt - (1 : Int))) (((nth (nth p8 2).toList (nth p8 1).toInt.toNat).fld 1).toList.length : Int))
  (iff (selB (selB (neI ((nth ((nth (nth p8 2).toList (nth p8 1).toInt.toNat).fld 1).toList (IntKind.i64.wrap ((nth p8 0).toInt - (1 : Int))).toNat).fld 0).toInt (7 : Int)) (selB ((neI ((nth ((nth (nth p8 2).toList (nth p8 1).toInt.toNat).fld 1).toList (IntKind.i64.wrap ((nth p8 0).toInt - (1 : Int))).toNat).fld 0).toInt (7 : Int)) == true) (PV.bool (neI (selB ((neI ((nth ((nth (nth p8 2).toList (nth p8 1).toInt.toNat).fld 1).toList (IntKind.i64.wrap ((nth p8 0).toInt - (1 : Int))).toNat).fld 0).toInt (7 : Int)) == true) ((nth ((nth (nth p8 2).toList (nth p8 1).toInt.toNat).fld 1).toList (IntKind.i64.wrap ((nth p8 0).toInt - (1 : Int))).toNat).fld 0) PV.unit).toInt (19 : Int))) PV.unit) (PV.bool false)).toBool (selB ((selB (neI ((nth ((nth (nth p8 2).toList (nth p8 1).toInt.toNat).fld 1).toList (IntKind.i64.wrap ((nth p8 0).toInt - (1 : Int))).toNat).fld 0).toInt (7 : Int)) (selB ((neI ((nth ((nth (nth p8 2).toList (nth p8 1).toInt.toNat).fld 1).toList (IntKind.i64.wrap ((nth p8 0).toInt - (1 : Int))).toNat).fld 0).toInt (7 : Int)) == true) (PV.bool (neI (selB ((neI ((nth ((nth (nth p8 2).toList (nth p8 1).toInt.toNat).fld 1).toList (IntKind.i64.wrap ((nth p8 0).toInt - (1 : Int))).toNat).fld 0).toInt (7 : Int)) == true) ((nth ((nth (nth p8 2).toList (nth p8 1).toInt.toNat).fld 1).toList (IntKind.i64.wrap ((nth p8 0).toInt - (1 : Int))).toNat).fld 0) PV.unit).toInt (19 : Int))) PV.unit) (PV.bool false)).isB true) (PV.bool (neI (selB ((selB (neI ((nth ((nth (nth p8 2).toList (nth p8 1).toInt.toNat).fld 1).toList (IntKind.i64.wrap ((nth p8 0).toInt - (1 : Int))).toNat).fld 0).toInt (7 : Int)) (selB ((neI ((nth ((nth (nth p8 2).toList (nth p8 1).toInt.toNat).fld 1).toList (IntKind.i64.wrap ((nth p8 0).toInt - (1 : Int))).toNat).fld 0).toInt (7 : Int)) == true) (PV.bool (neI (selB ((neI ((nth ((nth (nth p8 2).toList (nth p8 1).toInt.toNat).fld 1).toList (IntKind.i64.wrap ((nth p8 0).toInt - (1 : Int))).toNat).fld 0).toInt (7 : Int)) == true) ((nth ((nth (nth p8 2).toList (nth p8 1).toInt.toNat).fld 1).toList (IntKind.i64.wrap ((nth p8 0).toInt - (1 : Int))).toNat).fld 0) PV.unit).toInt (19 : Int))) PV.unit) (PV.bool false)).isB true) ((nth ((nth (nth p8 2).toList (nth p8 1).toInt.toNat).fld 1).toList (IntKind.i64.wrap ((nth p8 0).toInt - (1 : Int))).toNat).fld 0) PV.unit).toInt (21 : Int))) PV.unit) (PV.bool false)).toBool
  (some (Ex.r, [(PV.bool false)]))
  (some (Ex.n, [(PV.int (IntKind.i64.wrap ((nth p8 1).toInt + (1 : Int)))), (nth p8 2)])))
  none)
  none)
  none)
  none))
  passE))))
  none)
  none)
  none)
  none)
  (some (Ex.x 0, [])))
def F116 (I : Interp) (n : Nat) (a : List PV) : Option (List PV) :=
  ((I 104 [(PV.int ((nth a 0).toList.length : Int)), (PV.int (1 : Int)), (PV.int (60 : Int))]).bind fun r0 =>
  ((iff ((!(nth r0 0).toBool) == false)
  (iff (geI (0 : Int) (0 : Int))
  (iff (ltI (0 : Int) ((selB ((!(nth r0 0).toBool) == false) (nth a 0) PV.unit).toList.length : Int))
  (some [(nth (selB ((!(nth r0 0).toBool) == false) (nth a 0) PV.unit).toList (0 : Int).toNat), (nth (selB ((!(nth r0 0).toBool) == false) (nth a 0) PV.unit).toList (0 : Int).toNat)])
  none)
  none)
  (some [PV.unit, PV.unit])).bind fun g1 =>
  (iff (selB (!(nth r0 0).toBool) (PV.bool true) (selB ((!(nth r0 0).toBool) == false) (PV.bool (neI (selB ((!(nth r0 0).toBool) == false) (selB ((!(nth r0 0).toBool) == false) ((nth g1 0).fld 0) PV.unit) PV.unit).toInt (0 : Int))) PV.unit)).toBool
  (some [(PV.bool false)])
  (thenN (thenE (loopEv (L116_1 I n) n [(PV.int (0 : Int)), (nth a 0)])
  (passB 0))
  (fun p9 => (some [(PV.bool true)]))
  (retE fun q10 => [(nth q10 0)])))))
theorem e116 : ∀ I n a, (compF Try.prog sg 116).map (fun d => d.ev I n a) = some (F116 I n a) := fun I n a => by kernel_rfl
/-! spec.l12Right -/
def L178_0 (I : Interp) (n : Nat) (p2 : List PV) : Option (Ex × List PV) :=
  (iff (ltI (nth p2 0).toInt (((nth p2 4).fld 2).toList.length : Int))
  (iff (geI (nth p2 0).toInt (0 : Int))
  (iff (ltI (nth p2 0).toInt (((nth p2 4).fld 2).toList.length : Int))
  ((I 193 [(selB (eqI ((nth p2 4).fld 0).toInt (7 : Int)) (selB ((eqI ((nth p2 4).fld 0).toInt (7 : Int)) == true) (PV.bool (eqI (selB ((eqI ((nth p2 4).fld 0).toInt (7 : Int)) == true) (nth p2 0) PV.unit).toInt (1 : Int))) PV.unit) (PV.bool false))]).bind fun r3 =>
  ((I 178 [(nth p2 3), (nth p2 2), (nth ((nth p2 4).fld 2).toList (nth p2 0).toInt.toNat), (PV.int (IntKind.i64.wrap ((nth p2 1).toInt + (nth r3 0).toInt)))]).bind fun r4 =>
  (iff (!(nth r4 0).toBool)
  (some (Ex.r, [(PV.bool false)]))
  (some (Ex.n, [(PV.int (IntKind.i64.wrap ((nth p2 0).toInt + (1 : Int)))), (nth p2 1), (nth p2 2), (nth p2 3), (nth p2 4)])))))
  none)
  none)
  (some (Ex.x 0, [(nth p2 1), (nth p2 2), (nth p2 3), (nth p2 4)])))
def F178 (I : Interp) (n : Nat) (a : List PV) : Option (List PV) :=
  ((I 209 [((nth a 2).fld 0)]).bind fun r0 =>
  ((I 104 [((nth a 2).fld 0), (PV.int (1 : Int)), (PV.int (19 : Int))]).bind fun r1 =>
  (iff (selB (!(nth r1 0).toBool) (PV.bool true) (selB ((!(nth r1 0).toBool) == false) (selB (selB ((!(nth r1 0).toBool) == false) (selB ((!(nth r1 0).toBool) == false) (PV.bool (geI (selB ((!(nth r1 0).toBool) == false) (nth r0 0) PV.unit).toInt (0 : Int))) PV.unit) PV.unit).toBool (selB ((selB ((!(nth r1 0).toBool) == false) (selB ((!(nth r1 0).toBool) == false) (PV.bool (geI (selB ((!(nth r1 0).toBool) == false) (nth r0 0) PV.unit).toInt (0 : Int))) PV.unit) PV.unit).isB true) (PV.bool (neI (selB ((selB ((!(nth r1 0).toBool) == false) (selB ((!(nth r1 0).toBool) == false) (PV.bool (geI (selB ((!(nth r1 0).toBool) == false) (nth r0 0) PV.unit).toInt (0 : Int))) PV.unit) PV.unit).isB true) (PV.int ((selB ((selB ((!(nth r1 0).toBool) == false) (selB ((!(nth r1 0).toBool) == false) (PV.bool (geI (selB ((!(nth r1 0).toBool) == false) (nth r0 0) PV.unit).toInt (0 : Int))) PV.unit) PV.unit).isB true) ((nth a 2).fld 2) PV.unit).toList.length : Int)) PV.unit).toInt (selB ((selB ((!(nth r1 0).toBool) == false) (selB ((!(nth r1 0).toBool) == false) (PV.bool (geI (selB ((!(nth r1 0).toBool) == false) (nth r0 0) PV.unit).toInt (0 : Int))) PV.unit) PV.unit).isB true) (nth r0 0) PV.unit).toInt)) PV.unit) (PV.bool false)) PV.unit)).toBool
  (some [(PV.bool false)])
  (thenN (thenE (loopEv (L178_0 I n) n [(PV.int (0 : Int)), (nth a 3), (nth a 1), (nth a 0), (nth a 2)])
  (passB 0))
  (fun p5 => (thenN (iff (eqI ((nth p5 3).fld 0).toInt (1 : Int))
  (some (Ex.n, [(PV.bool (eqI ((nth p5 3).fld 0).toInt (1 : Int))), (nth p5 0), (nth p5 1), (nth p5 2), ((nth p5 3).fld 0), (nth p5 3)]))
  (some (Ex.n, [(PV.bool (eqI ((nth p5 3).fld 0).toInt (18 : Int))), (nth p5 0), (nth p5 1), (nth p5 2), ((nth p5 3).fld 0), (nth p5 3)])))
  (fun p6 => (iff (nth p6 0).toBool
  ((I 117 [((nth p6 5).fld 1)]).bind fun r7 =>
  (some [(nth r7 0)]))
  (iff (eqI (nth p6 4).toInt (2 : Int))
  ((I 104 [((nth p6 5).fld 1), (PV.int (0 : Int)), (PV.int (IntKind.i64.wrap ((nth p6 1).toInt - (1 : Int))))]).bind fun r8 =>
  (some [(nth r8 0)]))
  (iff (eqI (nth p6 4).toInt (3 : Int))
  (iff (geI (nth p6 2).toInt (0 : Int))
  (iff (ltI (nth p6 2).toInt ((nth p6 3).toList.length : Int))
  ((I 104 [((nth p6 5).fld 1), (PV.int (0 : Int)), (PV.int (IntKind.i64.wrap (((nth (nth p6 3).toList (nth p6 2).toInt.toNat).fld 0).toInt - (1 : Int))))]).bind fun r9 =>
  (some [(nth r9 0)]))
  none)
  none)
  (iff (eqI (nth p6 4).toInt (4 : Int))
  (some [(selB (eqI ((nth p6 5).fld 1).toInt (0 : Int)) (selB ((eqI ((nth p6 5).fld 1).toInt (0 : Int)) == true) (PV.bool (gtI (selB ((eqI ((nth p6 5).fld 1).toInt (0 : Int)) == true) (nth p6 2) PV.unit).toInt (0 : Int))) PV.unit) (PV.bool false))])
  (iff (eqI (nth p6 4).toInt (5 : Int))
  ((I 104 [((nth p6 5).fld 1), (PV.int (1 : Int)), (PV.int (IntKind.i64.wrap (((nth p6 3).toList.length : Int) - (1 : Int))))]).bind fun r10 =>
  ((iff ((nth r10 0).isB true)
  (iff (geI (selB ((nth r10 0).isB true) ((nth p6 5).fld 1) PV.unit).toInt (0 : Int))
  (iff (ltI (selB ((nth r10 0).isB true) ((nth p6 5).fld 1) PV.unit).toInt ((selB ((nth r10 0).isB true) (nth p6 3) PV.unit).toList.length : Int))
  (some [(nth (selB ((nth r10 0).isB true) (nth p6 3) PV.unit).toList (selB ((nth r10 0).isB true) ((nth p6 5).fld 1) PV.unit).toInt.toNat), (nth (selB ((nth r10 0).isB true) (nth p6 3) PV.unit).toList (selB ((nth r10 0).isB true) ((nth p6 5).fld 1) PV.unit).toInt.toNat)])
  none)
  none)
  (some [PV.unit, PV.unit])).bind fun g11 =>
  (some [(selB (nth r10 0).toBool (selB ((nth r10 0).isB true) (PV.bool (eqI (selB ((nth r10 0).isB true) (PV.int ((selB ((nth r10 0).isB true) ((nth p6 5).fld 2) PV.unit).toList.length : Int)) PV.unit).toInt (selB ((nth r10 0).isB true) (selB ((nth r10 0).isB true) ((nth g11 0).fld 0) PV.unit) PV.unit).toInt)) PV.unit) (PV.bool false))])))
  (thenN (iff (eqI (nth p6 4).toInt (14 : Int))
  (some (Ex.n, [(PV.bool (eqI (nth p6 4).toInt (14 : Int))), (nth p6 5)]))
  (iff (eqI (nth p6 4).toInt (16 : Int))
  (some (Ex.n, [(PV.bool (eqI (nth p6 4).toInt (16 : Int))), (nth p6 5)]))
  (some (Ex.n, [(PV.bool (eqI (nth p6 4).toInt (17 : Int))), (nth p6 5)]))))
  (fun p12 => (iff (nth p12 0).toBool
  ((I 104 [((nth p12 1).fld 1), (PV.int (0 : Int)), (PV.int (1073741823 : Int))]).bind fun r13 =>
  (some [(nth r13 0)]))
  (some [(PV.bool (eqI ((nth p12 1).fld 1).toInt (0 : Int)))])))
  (retE fun q14 => [(nth q14 0)]))))))))
  (retE fun q15 => [(nth q15 0)])))
  (retE fun q16 => [(nth q16 0)])))))
theorem e178 : ∀ I n a, (compF Try.prog sg 178).map (fun d => d.ev I n a) = some (F178 I n a) := fun I n a => by kernel_rfl
/-! impl.BlocksOk -/
def L139_0 (I : Interp) (n : Nat) (p2 : List PV) : Option (Ex × List PV) :=
  (iff (ltI (nth p2 0).toInt (nth p2 1).toInt)
  (iff (geI (nth p2 0).toInt (0 : Int))
  (iff (ltI (nth p2 0).toInt ((nth p2 2).toList.length : Int))
  ((iff ((ltI ((nth (nth p2 2).toList (nth p2 0).toInt.toNat).fld 0).toInt (0 : Int)) == false)
  ((I 181 [(PV.agg [(nth p2 3), (nth p2 0), (PV.int (4000 : Int))]), (selB ((ltI ((nth (nth p2 2).toList (nth p2 0).toInt.toNat).fld 0).toInt (0 : Int)) == false) ((nth (nth p2 2).toList (nth p2 0).toInt.toNat).fld 1) PV.unit), (PV.int (1 : Int))]).bind fun r3 =>
  (some [(nth r3 0), (nth r3 0), (nth r3 1)]))
  (some [PV.unit, PV.unit, (PV.agg [(nth p2 3), (nth p2 0), (PV.int (4000 : Int))])])).bind fun g4 =>
  (iff (selB (ltI ((nth (nth p2 2).toList (nth p2 0).toInt.toNat).fld 0).toInt (0 : Int)) (PV.bool true) (selB ((ltI ((nth (nth p2 2).toList (nth p2 0).toInt.toNat).fld 0).toInt (0 : Int)) == false) (PV.bool (!(nth g4 0).toBool)) PV.unit)).toBool
  (some (Ex.r, [(PV.bool false)]))
  (some (Ex.n, [(PV.int (IntKind.i64.wrap ((nth p2 0).toInt + (1 : Int)))), (nth p2 1), (nth p2 2), (nth p2 3)]))))
  none)
  none)
  (some (Ex.x 0, [])))
def F139 (I : Interp) (n : Nat) (a : List PV) : Option (List PV) :=
  ((I 102 [(PV.int ((nth a 0).toList.length : Int)), (PV.int (1 : Int)), (PV.int (60 : Int))]).bind fun r0 =>
  ((iff ((!(nth r0 0).toBool) == false)
  (iff (geI (0 : Int) (0 : Int))
  (iff (ltI (0 : Int) ((selB ((!(nth r0 0).toBool) == false) (nth a 0) PV.unit).toList.length : Int))
  (some [(nth (selB ((!(nth r0 0).toBool) == false) (nth a 0) PV.unit).toList (0 : Int).toNat), (nth (selB ((!(nth r0 0).toBool) == false) (nth a 0) PV.unit).toList (0 : Int).toNat)])
  none)
  none)
  (some [PV.unit, PV.unit])).bind fun g1 =>
  (iff (selB (!(nth r0 0).toBool) (PV.bool true) (selB ((!(nth r0 0).toBool) == false) (PV.bool (neI (selB ((!(nth r0 0).toBool) == false) (selB ((!(nth r0 0).toBool) == false) ((nth g1 0).fld 0) PV.unit) PV.unit).toInt (0 : Int))) PV.unit)).toBool
  (some [(PV.bool false)])
  (thenN (thenE (loopEv (L139_0 I n) n [(PV.int (0 : Int)), (PV.int ((nth a 0).toList.length : Int)), (nth a 0), (nth a 0)])
  (passB 0))
  (fun p5 => (some [(PV.bool true)]))
  (retE fun q6 => [(nth q6 0)])))))
theorem e139 : ∀ I n a, (compF Try.prog sg 139).map (fun d => d.ev I n a) = some (F139 I n a) := fun I n a => by kernel_rfl
/-! impl.maker).kids -/
def L184_0 (I : Interp) (n : Nat) (p0 : List PV) : Option (Ex × List PV) :=
  (iff (ltI (nth p0 0).toInt (nth p0 1).toInt)
  (iff (geI (nth p0 0).toInt (0 : Int))
  (iff (ltI (nth p0 0).toInt ((nth p0 2).toList.length : Int))
  ((I 140 [(nth p0 4), (nth (nth p0 2).toList (nth p0 0).toInt.toNat), (PV.int (IntKind.i64.wrap ((nth p0 3).toInt + (nth p0 0).toInt)))]).bind fun r1 =>
  (some (Ex.n, [(PV.int (IntKind.i64.wrap ((nth p0 0).toInt + (1 : Int)))), (nth p0 1), (nth p0 2), (nth p0 3), (nth r1 0)])))
  none)
  none)
  (some (Ex.x 0, [(nth p0 4)])))
def F184 (I : Interp) (n : Nat) (a : List PV) : Option (List PV) :=
  (thenN (thenE (loopEv (L184_0 I n) n [(PV.int (0 : Int)), (PV.int ((nth a 1).toList.length : Int)), (nth a 1), (nth a 2), (nth a 0)])
  (passB 0))
  (fun p2 => (some [(nth p2 0)]))
  (retE fun q3 => [(nth q3 0)]))
theorem e184 : ∀ I n a, (compF Try.prog sg 184).map (fun d => d.ev I n a) = some (F184 I n a) := fun I n a => by kernel_rfl
/-! impl.maker).branch -/
def F183 (I : Interp) (n : Nat) (a : List PV) : Option (List PV) :=
  (iff (geI (0 : Int) (0 : Int))
  (iff (ltI (0 : Int) (((nth a 1).fld 2).toList.length : Int))
  ((I 140 [(nth a 0), (nth ((nth a 1).fld 2).toList (0 : Int).toNat), (nth a 3)]).bind fun r0 =>
  ((I 141 [(nth r0 0), (nth a 2), ((nth a 1).fld 1), (PV.int (0 : Int))]).bind fun r1 =>
  (iff (geI (1 : Int) (0 : Int))
  (iff (ltI (1 : Int) (((nth a 1).fld 2).toList.length : Int))
  ((I 140 [(nth r1 0), (nth ((nth a 1).fld 2).toList (1 : Int).toNat), (nth a 3)]).bind fun r2 =>
  ((I 141 [(nth r2 0), (PV.int (19 : Int)), (PV.int (0 : Int)), (PV.int (0 : Int))]).bind fun r3 =>
  (thenN ((I 212 [(nth a 2)]).bind fun r4 =>
  (iff (eqI (nth r4 0).toInt (1 : Int))
  (iff (geI (((nth r0 0).fld 0).toList.length : Int) (0 : Int))
  (iff (ltI (((nth r0 0).fld 0).toList.length : Int) (((nth r3 0).fld 0).toList.length : Int))
  (some (Ex.n, [(nth a 3), (PV.int (((nth r2 0).fld 0).toList.length : Int)), (nth a 1), ((nth r3 0).setFld 0 (PV.list (((nth r3 0).fld 0).toList.set (((nth r0 0).fld 0).toList.length : Int).toNat ((nth ((nth r3 0).fld 0).toList (((nth r0 0).fld 0).toList.length : Int).toNat).setFld 1 (PV.int (((nth r3 0).fld 0).toList.length : Int))))))]))
  none)
  none)
  (iff (geI (((nth r0 0).fld 0).toList.length : Int) (0 : Int))
  (iff (ltI (((nth r0 0).fld 0).toList.length : Int) (((nth r3 0).fld 0).toList.length : Int))
  (some (Ex.n, [(nth a 3), (PV.int (((nth r2 0).fld 0).toList.length : Int)), (nth a 1), ((nth r3 0).setFld 0 (PV.list (((nth r3 0).fld 0).toList.set (((nth r0 0).fld 0).toList.length : Int).toNat ((nth ((nth r3 0).fld 0).toList (((nth r0 0).fld 0).toList.length : Int).toNat).setFld 2 (PV.int (((nth r3 0).fld 0).toList.length : Int))))))]))
  none)
  none)))
  (fun p5 => (iff (geI (2 : Int) (0 : Int))
  (iff (ltI (2 : Int) (((nth p5 2).fld 2).toList.length : Int))
  ((I 140 [(nth p5 3), (nth ((nth p5 2).fld 2).toList (2 : Int).toNat), (nth p5 0)]).bind fun r6 =>
  (iff (geI (nth p5 1).toInt (0 : Int))
  (iff (ltI (nth p5 1).toInt (((nth r6 0).fld 0).toList.length : Int))
  (some [((nth r6 0).setFld 0 (PV.list (((nth r6 0).fld 0).toList.set (nth p5 1).toInt.toNat ((nth ((nth r6 0).fld 0).toList (nth p5 1).toInt.toNat).setFld 1 (PV.int (((nth r6 0).fld 0).toList.length : Int))))))])
  none)
  none))
  none)
  none))
  (retE fun q7 => [(nth q7 0)]))))
  none)
  none)))
  none)
  none)
theorem e183 : ∀ I n a, (compF Try.prog sg 183).map (fun d => d.ev I n a) = some (F183 I n a) := fun I n a => by kernel_rfl
/-! impl.maker).let -/
def F182 (I : Interp) (n : Nat) (a : List PV) : Option (List PV) :=
  (iff (geI (0 : Int) (0 : Int))
  (iff (ltI (0 : Int) (((nth a 1).fld 2).toList.length : Int))
  ((I 140 [(nth a 0), (nth ((nth a 1).fld 2).toList (0 : Int).toNat), (nth a 2)]).bind fun r0 =>
  (iff (leN (((nth r0 0).fld 1).toList.length + ((nth a 2) :: ([] : List PV)).length) 17592186044416)
  (iff (geI (1 : Int) (0 : Int))
  (iff (ltI (1 : Int) (((nth a 1).fld 2).toList.length : Int))
  ((I 140 [(((nth r0 0).setFld 1 PV.unit).setFld 1 (PV.list (((nth r0 0).fld 1).toList ++ ((nth a 2) :: ([] : List PV))))), (nth ((nth a 1).fld 2).toList (1 : Int).toNat), (PV.int (IntKind.i64.wrap ((nth a 2).toInt + (1 : Int))))]).bind fun r1 =>
  (iff (geI (0 : Int) (0 : Int))
  (iff (leI (0 : Int) (IntKind.i64.wrap ((((nth r1 0).fld 1).toList.length : Int) - (1 : Int))))
  (iff (leI (IntKind.i64.wrap ((((nth r1 0).fld 1).toList.length : Int) - (1 : Int))) (((nth r1 0).fld 1).toList.length : Int))
  ((I 141 [(((nth r1 0).setFld 1 PV.unit).setFld 1 (PV.list (((nth r1 0).fld 1).toList.take (IntKind.i64.wrap ((((nth r1 0).fld 1).toList.length : Int) - (1 : Int))).toNat))), (PV.int (20 : Int)), (PV.int (0 : Int)), (PV.int (0 : Int))]).bind fun r2 =>
  (some [(nth r2 0)]))
  none)
  none)
  none))
  none)
  none)
  none))
  none)
  none)
theorem e182 : ∀ I n a, (compF Try.prog sg 182).map (fun d => d.ev I n a) = some (F182 I n a) := fun I n a => by kernel_rfl
/-! impl.maker).node -/
def F140 (I : Interp) (n : Nat) (a : List PV) : Option (List PV) :=
  (iff (eqI ((nth a 1).fld 0).toInt (1 : Int))
  ((I 141 [(nth a 0), (PV.int (1 : Int)), ((nth a 1).fld 1), (PV.int (0 : Int))]).bind fun r0 =>
  (some [(nth r0 0)]))
  (iff (eqI ((nth a 1).fld 0).toInt (2 : Int))
  (iff (geI ((nth a 1).fld 1).toInt (0 : Int))
  (iff (ltI ((nth a 1).fld 1).toInt (((nth a 0).fld 1).toList.length : Int))
  ((I 141 [(nth a 0), (PV.int (2 : Int)), (nth ((nth a 0).fld 1).toList ((nth a 1).fld 1).toInt.toNat), (PV.int (0 : Int))]).bind fun r1 =>
  (some [(nth r1 0)]))
  none)
  none)
  (iff (eqI ((nth a 1).fld 0).toInt (3 : Int))
  ((I 141 [(nth a 0), (PV.int (3 : Int)), ((nth a 1).fld 1), (PV.int (0 : Int))]).bind fun r2 =>
  (some [(nth r2 0)]))
  (iff (eqI ((nth a 1).fld 0).toInt (4 : Int))
  ((I 141 [(nth a 0), (PV.int (4 : Int)), (PV.int (0 : Int)), (PV.int (0 : Int))]).bind fun r3 =>
  (some [(nth r3 0)]))
  (iff (eqI ((nth a 1).fld 0).toInt (7 : Int))
  ((I 182 [(nth a 0), (nth a 1), (nth a 2)]).bind fun r4 =>
  (some [(nth r4 0)]))
  (iff (eqI ((nth a 1).fld 0).toInt (8 : Int))
  ((I 183 [(nth a 0), (nth a 1), (PV.int (18 : Int)), (nth a 2)]).bind fun r5 =>
  (some [(nth r5 0)]))
  (iff (eqI ((nth a 1).fld 0).toInt (17 : Int))
  ((I 183 [(nth a 0), (nth a 1), (PV.int (10 : Int)), (nth a 2)]).bind fun r6 =>
  (some [(nth r6 0)]))
  (iff (eqI ((nth a 1).fld 0).toInt (18 : Int))
  ((I 183 [(nth a 0), (nth a 1), (PV.int (11 : Int)), (nth a 2)]).bind fun r7 =>
  (some [(nth r7 0)]))
  (iff (eqI ((nth a 1).fld 0).toInt (19 : Int))
  ((I 141 [(nth a 0), (PV.int (21 : Int)), (PV.int (0 : Int)), (PV.int (0 : Int))]).bind fun r8 =>
  (some [(nth r8 0)]))
  ((I 184 [(nth a 0), ((nth a 1).fld 2), (nth a 2)]).bind fun r9 =>
  (iff (eqI ((nth a 1).fld 0).toInt (5 : Int))
  ((I 141 [(nth r9 0), (PV.int (5 : Int)), ((nth a 1).fld 1), (PV.int (((nth a 1).fld 2).toList.length : Int))]).bind fun r10 =>
  (some [(nth r10 0)]))
  (iff (eqI ((nth a 1).fld 0).toInt (6 : Int))
  ((I 141 [(nth r9 0), (PV.int (6 : Int)), (PV.int (0 : Int)), (PV.int (0 : Int))]).bind fun r11 =>
  (some [(nth r11 0)]))
  (iff (eqI ((nth a 1).fld 0).toInt (14 : Int))
  ((I 141 [(nth r9 0), (PV.int (8 : Int)), ((nth a 1).fld 1), (PV.int (((nth a 1).fld 2).toList.length : Int))]).bind fun r12 =>
  (some [(nth r12 0)]))
  (iff (eqI ((nth a 1).fld 0).toInt (15 : Int))
  ((I 141 [(nth r9 0), (PV.int (17 : Int)), (PV.int (0 : Int)), (PV.int (0 : Int))]).bind fun r13 =>
  (some [(nth r13 0)]))
  (iff (eqI ((nth a 1).fld 0).toInt (16 : Int))
  ((I 141 [(nth r9 0), (PV.int (9 : Int)), ((nth a 1).fld 1), (PV.int (0 : Int))]).bind fun r14 =>
  (some [(nth r14 0)]))
  ((I 141 [(nth r9 0), (PV.int (IntKind.i64.wrap ((IntKind.i64.wrap ((12 : Int) + ((nth a 1).fld 0).toInt)) - (9 : Int)))), (PV.int (0 : Int)), (PV.int (0 : Int))]).bind fun r15 =>
  (some [(nth r15 0)])))))))))))))))))
theorem e140 : ∀ I n a, (compF Try.prog sg 140).map (fun d => d.ev I n a) = some (F140 I n a) := fun I n a => by kernel_rfl
/-! spec.BlocksOk -/
def L135_0 (I : Interp) (n : Nat) (p0 : List PV) : Option (Ex × List PV) :=
  (iff (ltI (nth p0 0).toInt ((nth p0 1).toList.length : Int))
  (iff (geI (nth p0 0).toInt (0 : Int))
  (iff (ltI (nth p0 0).toInt ((nth p0 1).toList.length : Int))
  ((iff ((ltI ((nth (nth p0 1).toList (nth p0 0).toInt.toNat).fld 0).toInt (0 : Int)) == false)
  (iff (geI (selB ((ltI ((nth (nth p0 1).toList (nth p0 0).toInt.toNat).fld 0).toInt (0 : Int)) == false) (nth p0 0) PV.unit).toInt (0 : Int))
  (iff (ltI (selB ((ltI ((nth (nth p0 1).toList (nth p0 0).toInt.toNat).fld 0).toInt (0 : Int)) == false) (nth p0 0) PV.unit).toInt ((selB ((ltI ((nth (nth p0 1).toList (nth p0 0).toInt.toNat).fld 0).toInt (0 : Int)) == false) (nth p0 1) PV.unit).toList.length : Int))
  (some [(nth (selB ((ltI ((nth (nth p0 1).toList (nth p0 0).toInt.toNat).fld 0).toInt (0 : Int)) == false) (nth p0 1) PV.unit).toList (selB ((ltI ((nth (nth p0 1).toList (nth p0 0).toInt.toNat).fld 0).toInt (0 : Int)) == false) (nth p0 0) PV.unit).toInt.toNat), (nth (selB ((ltI ((nth (nth p0 1).toList (nth p0 0).toInt.toNat).fld 0).toInt (0 : Int)) == false) (nth p0 1) PV.unit).toList (selB ((ltI ((nth (nth p0 1).toList (nth p0 0).toInt.toNat).fld 0).toInt (0 : Int)) == false) (nth p0 0) PV.unit).toInt.toNat)])
  none)
  none)
  (some [PV.unit, PV.unit])).bind fun g1 =>
  ((iff ((ltI ((nth (nth p0 1).toList (nth p0 0).toInt.toNat).fld 0).toInt (0 : Int)) == false)
  ((I 177 [(selB ((ltI ((nth (nth p0 1).toList (nth p0 0).toInt.toNat).fld 0).toInt (0 : Int)) == false) (selB ((ltI ((nth (nth p0 1).toList (nth p0 0).toInt.toNat).fld 0).toInt (0 : Int)) == false) ((nth g1 0).fld 1) PV.unit) PV.unit)]).bind fun r2 =>
  (some [(nth r2 0), (nth r2 0)]))
  (some [PV.unit, PV.unit])).bind fun g3 =>
  ((iff ((selB (ltI ((nth (nth p0 1).toList (nth p0 0).toInt.toNat).fld 0).toInt (0 : Int)) (PV.bool true) (selB ((ltI ((nth (nth p0 1).toList (nth p0 0).toInt.toNat).fld 0).toInt (0 : Int)) == false) (PV.bool (gtI (nth g3 0).toInt (4000 : Int))) PV.unit)).isB false)
  (iff (geI (selB ((selB (ltI ((nth (nth p0 1).toList (nth p0 0).toInt.toNat).fld 0).toInt (0 : Int)) (PV.bool true) (selB ((ltI ((nth (nth p0 1).toList (nth p0 0).toInt.toNat).fld 0).toInt (0 : Int)) == false) (PV.bool (gtI (nth g3 0).toInt (4000 : Int))) PV.unit)).isB false) (nth p0 0) PV.unit).toInt (0 : Int))
  (iff (ltI (selB ((selB (ltI ((nth (nth p0 1).toList (nth p0 0).toInt.toNat).fld 0).toInt (0 : Int)) (PV.bool true) (selB ((ltI ((nth (nth p0 1).toList (nth p0 0).toInt.toNat).fld 0).toInt (0 : Int)) == false) (PV.bool (gtI (nth g3 0).toInt (4000 : Int))) PV.unit)).isB false) (nth p0 0) PV.unit).toInt ((selB ((selB (ltI ((nth (nth p0 1).toList (nth p0 0).toInt.toNat).fld 0).toInt (0 : Int)) (PV.bool true) (selB ((ltI ((nth (nth p0 1).toList (nth p0 0).toInt.toNat).fld 0).toInt (0 : Int)) == false) (PV.bool (gtI (nth g3 0).toInt (4000 : Int))) PV.unit)).isB false) (nth p0 1) PV.unit).toList.length : Int))
  (some [(nth (selB ((selB (ltI ((nth (nth p0 1).toList (nth p0 0).toInt.toNat).fld 0).toInt (0 : Int)) (PV.bool true) (selB ((ltI ((nth (nth p0 1).toList (nth p0 0).toInt.toNat).fld 0).toInt (0 : Int)) == false) (PV.bool (gtI (nth g3 0).toInt (4000 : Int))) PV.unit)).isB false) (nth p0 1) PV.unit).toList (selB ((selB (ltI ((nth (nth p0 1).toList (nth p0 0).toInt.toNat).fld 0).toInt (0 : Int)) (PV.bool true) (selB ((ltI ((nth (nth p0 1).toList (nth p0 0).toInt.toNat).fld 0).toInt (0 : Int)) == false) (PV.bool (gtI (nth g3 0).toInt (4000 : Int))) PV.unit)).isB false) (nth p0 0) PV.unit).toInt.toNat), (nth (selB ((selB (ltI ((nth (nth p0 1).toList (nth p0 0).toInt.toNat).fld 0).toInt (0 : Int)) (PV.bool true) (selB ((ltI ((nth (nth p0 1).toList (nth p0 0).toInt.toNat).fld 0).toInt (0 : Int)) == false) (PV.bool (gtI (nth g3 0).toInt (4000 : Int))) PV.unit)).isB false) (nth p0 1) PV.unit).toList (selB ((selB (ltI ((nth (nth p0 1).toList (nth p0 0).toInt.toNat).fld 0).toInt (0 : Int)) (PV.bool true) (selB ((ltI ((nth (nth p0 1).toList (nth p0 0).toInt.toNat).fld 0).toInt (0 : Int)) == false) (PV.bool (gtI (nth g3 0).toInt (4000 : Int))) PV.unit)).isB false) (nth p0 0) PV.unit).toInt.toNat)])
  none)
  none)
  (some [PV.unit, PV.unit])).bind fun g4 =>
  ((iff ((selB (ltI ((nth (nth p0 1).toList (nth p0 0).toInt.toNat).fld 0).toInt (0 : Int)) (PV.bool true) (selB ((ltI ((nth (nth p0 1).toList (nth p0 0).toInt.toNat).fld 0).toInt (0 : Int)) == false) (PV.bool (gtI (nth g3 0).toInt (4000 : Int))) PV.unit)).isB false)
  ((I 178 [(selB ((selB (ltI ((nth (nth p0 1).toList (nth p0 0).toInt.toNat).fld 0).toInt (0 : Int)) (PV.bool true) (selB ((ltI ((nth (nth p0 1).toList (nth p0 0).toInt.toNat).fld 0).toInt (0 : Int)) == false) (PV.bool (gtI (nth g3 0).toInt (4000 : Int))) PV.unit)).isB false) (nth p0 1) PV.unit), (selB ((selB (ltI ((nth (nth p0 1).toList (nth p0 0).toInt.toNat).fld 0).toInt (0 : Int)) (PV.bool true) (selB ((ltI ((nth (nth p0 1).toList (nth p0 0).toInt.toNat).fld 0).toInt (0 : Int)) == false) (PV.bool (gtI (nth g3 0).toInt (4000 : Int))) PV.unit)).isB false) (nth p0 0) PV.unit), (selB ((selB (ltI ((nth (nth p0 1).toList (nth p0 0).toInt.toNat).fld 0).toInt (0 : Int)) (PV.bool true) (selB ((ltI ((nth (nth p0 1).toList (nth p0 0).toInt.toNat).fld 0).toInt (0 : Int)) == false) (PV.bool (gtI (nth g3 0).toInt (4000 : Int))) PV.unit)).isB false) (selB ((selB (ltI ((nth (nth p0 1).toList (nth p0 0).toInt.toNat).fld 0).toInt (0 : Int)) (PV.bool true) (selB ((ltI ((nth (nth p0 1).toList (nth p0 0).toInt.toNat).fld 0).toInt (0 : Int)) == false) (PV.bool (gtI (nth g3 0).toInt (4000 : Int))) PV.unit)).isB false) ((nth g4 0).fld 1) PV.unit) PV.unit), (PV.int (1 : Int))]).bind fun r5 =>
  (some [(nth r5 0), (nth r5 0)]))
  (some [PV.unit, PV.unit])).bind fun g6 =>
  (iff (selB (selB (ltI ((nth (nth p0 1).toList (nth p0 0).toInt.toNat).fld 0).toInt (0 : Int)) (PV.bool true) (selB ((ltI ((nth (nth p0 1).toList (nth p0 0).toInt.toNat).fld 0).toInt (0 : Int)) == false) (PV.bool (gtI (nth g3 0).toInt (4000 : Int))) PV.unit)).toBool (PV.bool true) (selB ((selB (ltI ((nth (nth p0 1).toList (nth p0 0).toInt.toNat).fld 0).toInt (0 : Int)) (PV.bool true) (selB ((ltI ((nth (nth p0 1).toList (nth p0 0).toInt.toNat).fld 0).toInt (0 : Int)) == false) (PV.bool (gtI (nth g3 0).toInt (4000 : Int))) PV.unit)).isB false) (PV.bool (!(nth g6 0).toBool)) PV.unit)).toBool
  (some (Ex.r, [(PV.bool false)]))
  (some (Ex.n, [(PV.int (IntKind.i64.wrap ((nth p0 0).toInt + (1 : Int)))), (nth p0 1)])))))))
  none)
  none)
  (some (Ex.x 0, [(nth p0 1)])))
def F135 (I : Interp) (n : Nat) (a : List PV) : Option (List PV) :=
  (thenN (thenE (loopEv (L135_0 I n) n [(PV.int (0 : Int)), (nth a 0)])
  (passB 0))
  (fun p7 => ((I 104 [(PV.int ((nth p7 0).toList.length : Int)), (PV.int (1 : Int)), (PV.int (60 : Int))]).bind fun r8 =>
  ((iff ((nth r8 0).isB true)
  (iff (geI (0 : Int) (0 : Int))
  (iff (ltI (0 : Int) ((selB ((nth r8 0).isB true) (nth p7 0) PV.unit).toList.length : Int))
  (some [(nth (selB ((nth r8 0).isB true) (nth p7 0) PV.unit).toList (0 : Int).toNat), (nth (selB ((nth r8 0).isB true) (nth p7 0) PV.unit).toList (0 : Int).toNat)])
  none)
  none)
  (some [PV.unit, PV.unit])).bind fun g9 =>
  (some [(selB (nth r8 0).toBool (selB ((nth r8 0).isB true) (PV.bool (eqI (selB ((nth r8 0).isB true) (selB ((nth r8 0).isB true) ((nth g9 0).fld 0) PV.unit) PV.unit).toInt (0 : Int))) PV.unit) (PV.bool false))]))))
  (retE fun q10 => [(nth q10 0)]))
theorem e135 : ∀ I n a, (compF Try.prog sg 135).map (fun d => d.ev I n a) = some (F135 I n a) := fun I n a => by kernel_rfl
/-! spec.Gen -/
def L63_0 (I : Interp) (n : Nat) (p1 : List PV) : Option (Ex × List PV) :=
  (iff (ltI (nth p1 0).toInt ((nth p1 1).toList.length : Int))
  (iff (geI (nth p1 0).toInt (0 : Int))
  (iff (ltI (nth p1 0).toInt ((nth p1 1).toList.length : Int))
  ((I 136 [(PV.agg [(PV.list ([] : List PV))]), ((nth (nth p1 1).toList (nth p1 0).toInt.toNat).fld 1), (PV.list ((PV.int (0 : Int)) :: ([] : List PV))), (PV.int (1 : Int))]).bind fun r2 =>
  ((I 137 [(nth r2 0), (PV.int (7 : Int)), (PV.int (0 : Int)), (PV.int (0 : Int))]).bind fun r3 =>
  (iff (geI (nth p1 0).toInt (0 : Int))
  (iff (ltI (nth p1 0).toInt ((nth p1 1).toList.length : Int))
  (iff (leN ((nth p1 2).toList.length + ((PV.agg [((nth (nth p1 1).toList (nth p1 0).toInt.toNat).fld 0), ((nth r3 1).fld 0)]) :: ([] : List PV)).length) 4398046511104)
  (some (Ex.n, [(PV.int (IntKind.i64.wrap ((nth p1 0).toInt + (1 : Int)))), (nth p1 1), (PV.list ((nth p1 2).toList ++ ((PV.agg [((nth (nth p1 1).toList (nth p1 0).toInt.toNat).fld 0), ((nth r3 1).fld 0)]) :: ([] : List PV))))]))
  none)
  none)
  none)))
  none)
  none)
  (some (Ex.x 0, [(nth p1 2)])))
def F63 (I : Interp) (n : Nat) (a : List PV) : Option (List PV) :=
  ((I 135 [(nth a 0)]).bind fun r0 =>
  (iff (!(nth r0 0).toBool)
  (some [(PV.list ([] : List PV)), (PV.bool false)])
  (thenN (thenE (loopEv (L63_0 I n) n [(PV.int (0 : Int)), (nth a 0), (PV.list ([] : List PV))])
  (passB 0))
  (fun p4 => ((I 116 [(nth p4 0)]).bind fun r5 =>
  (iff (!(nth r5 0).toBool)
  (some [(PV.list ([] : List PV)), (PV.bool false)])
  (some [(nth p4 0), (PV.bool true)]))))
  (retE fun q6 => [(nth q6 0), (nth q6 1)]))))
theorem e63 : ∀ I n a, (compF Try.prog sg 63).map (fun d => d.ev I n a) = some (F63 I n a) := fun I n a => by kernel_rfl
/-! impl.Gen -/
def L65_0 (I : Interp) (n : Nat) (p1 : List PV) : Option (Ex × List PV) :=
  (iff (ltI (nth p1 0).toInt (nth p1 1).toInt)
  (iff (geI (nth p1 0).toInt (0 : Int))
  (iff (ltI (nth p1 0).toInt ((nth p1 2).toList.length : Int))
  ((I 140 [(PV.agg [(PV.list ([] : List PV)), (PV.list ((PV.int (0 : Int)) :: ([] : List PV)))]), ((nth (nth p1 2).toList (nth p1 0).toInt.toNat).fld 1), (PV.int (1 : Int))]).bind fun r2 =>
  ((I 141 [(nth r2 0), (PV.int (7 : Int)), (PV.int (0 : Int)), (PV.int (0 : Int))]).bind fun r3 =>
  (iff (leN ((nth p1 3).toList.length + ((PV.agg [((nth (nth p1 2).toList (nth p1 0).toInt.toNat).fld 0), ((nth r3 0).fld 0)]) :: ([] : List PV)).length) 4398046511104)
  (some (Ex.n, [(PV.int (IntKind.i64.wrap ((nth p1 0).toInt + (1 : Int)))), (nth p1 1), (nth p1 2), (PV.list ((nth p1 3).toList ++ ((PV.agg [((nth (nth p1 2).toList (nth p1 0).toInt.toNat).fld 0), ((nth r3 0).fld 0)]) :: ([] : List PV))))]))
  none)))
  none)
  none)
  (some (Ex.x 0, [(nth p1 3)])))
def F65 (I : Interp) (n : Nat) (a : List PV) : Option (List PV) :=
  ((I 139 [(nth a 0)]).bind fun r0 =>
  (iff (!(nth r0 0).toBool)
  (some [(PV.list ([] : List PV)), (PV.bool false)])
  (thenN (thenE (loopEv (L65_0 I n) n [(PV.int (0 : Int)), (PV.int ((nth a 0).toList.length : Int)), (nth a 0), (PV.list ([] : List PV))])
  (passB 0))
  (fun p4 => ((I 119 [(nth p4 0)]).bind fun r5 =>
  (iff (!(nth r5 0).toBool)
  (some [(PV.list ([] : List PV)), (PV.bool false)])
  (some [(nth p4 0), (PV.bool true)]))))
  (retE fun q6 => [(nth q6 0), (nth q6 1)]))))
theorem e65 : ∀ I n a, (compF Try.prog sg 65).map (fun d => d.ev I n a) = some (F65 I n a) := fun I n a => by kernel_rfl
/-! laws.FnExactGen -/
def F9 (I : Interp) (n : Nat) (a : List PV) : Option (List PV) :=
  ((I 62 [(nth a 0), (PV.int (1048576 : Int))]).bind fun r0 =>
  (iff (ltI (nth r0 0).toInt (0 : Int))
  (some [(PV.bool true)])
  ((I 64 [(nth a 0)]).bind fun r1 =>
  ((I 63 [(nth r1 0)]).bind fun r2 =>
  ((I 64 [(nth a 0)]).bind fun r3 =>
  ((I 65 [(nth r3 0)]).bind fun r4 =>
  ((I 66 [(nth r4 0), (nth r2 0)]).bind fun r5 =>
  (iff (selB (!(nth r5 0).toBool) (PV.bool true) (selB ((!(nth r5 0).toBool) == false) (PV.bool (((selB ((!(nth r5 0).toBool) == false) (nth r4 1) PV.unit).toBool == (selB ((!(nth r5 0).toBool) == false) (nth r2 1) PV.unit).toBool) == false)) PV.unit)).toBool
  (some [(PV.bool false)])
  ((I 64 [(nth a 0)]).bind fun r6 =>
  ((I 67 [(nth r3 0), (nth r6 0)]).bind fun r7 =>
  (iff (!(nth r7 0).toBool)
  (some [(PV.bool false)])
  ((I 68 [(nth r3 0), (PV.int (1 : Int))]).bind fun r8 =>
  ((iff ((ltI (nth r8 0).toInt (0 : Int)) == false)
  ((I 66 [(nth r4 0), (nth r2 0)]).bind fun r9 =>
  (some [(nth r9 0), (nth r9 0)]))
  (some [PV.unit, PV.unit])).bind fun g10 =>
  (iff (selB (selB (ltI (nth r8 0).toInt (0 : Int)) (PV.bool true) (selB ((ltI (nth r8 0).toInt (0 : Int)) == false) (PV.bool (!(nth g10 0).toBool)) PV.unit)).toBool (PV.bool true) (selB ((selB (ltI (nth r8 0).toInt (0 : Int)) (PV.bool true) (selB ((ltI (nth r8 0).toInt (0 : Int)) == false) (PV.bool (!(nth g10 0).toBool)) PV.unit)).isB false) (PV.bool (((selB ((selB (ltI (nth r8 0).toInt (0 : Int)) (PV.bool true) (selB ((ltI (nth r8 0).toInt (0 : Int)) == false) (PV.bool (!(nth g10 0).toBool)) PV.unit)).isB false) (nth r4 1) PV.unit).toBool == (selB ((selB (ltI (nth r8 0).toInt (0 : Int)) (PV.bool true) (selB ((ltI (nth r8 0).toInt (0 : Int)) == false) (PV.bool (!(nth g10 0).toBool)) PV.unit)).isB false) (nth r2 1) PV.unit).toBool) == false)) PV.unit)).toBool
  (some [(PV.bool false)])
  ((I 69 [(nth r4 0), (PV.int (1 : Int))]).bind fun r11 =>
  ((I 70 [(nth r11 1), (PV.int (1 : Int))]).bind fun r12 =>
  (iff (ltI (nth r12 0).toInt (0 : Int))
  (some [(PV.bool false)])
  (iff (neI (nth r12 0).toInt (nth r11 0).toInt)
  (some [(PV.bool false)])
  ((I 64 [(nth a 0)]).bind fun r13 =>
  ((I 65 [(nth r13 0)]).bind fun r14 =>
  ((I 66 [(nth r14 0), (nth r2 0)]).bind fun r15 =>
  (iff (selB (!(nth r15 0).toBool) (PV.bool true) (selB ((!(nth r15 0).toBool) == false) (PV.bool (((selB ((!(nth r15 0).toBool) == false) (nth r14 1) PV.unit).toBool == (selB ((!(nth r15 0).toBool) == false) (nth r2 1) PV.unit).toBool) == false)) PV.unit)).toBool
  (some [(PV.bool false)])
  ((I 70 [(nth r11 1), (PV.int (1 : Int))]).bind fun r16 =>
  (iff (ltI (nth r16 0).toInt (0 : Int))
  (some [(PV.bool false)])
  (iff (neI (nth r16 0).toInt (nth r11 0).toInt)
  (some [(PV.bool false)])
  (some [(PV.bool true)]))))))))))))))))))))))))))
theorem e9 : ∀ I n a, (compF Try.prog sg 9).map (fun d => d.ev I n a) = some (F9 I n a) := fun I n a => by kernel_rfl
end Go.Proofs.Ytijgokehlicmnaa.GFnExactGen
