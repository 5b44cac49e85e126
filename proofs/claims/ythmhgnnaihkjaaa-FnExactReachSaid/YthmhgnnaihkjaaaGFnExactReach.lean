/- The pure programs of the functions that the law FnExactReach reaches, out of the compiled code. No conditions. -/
import Derived.Test.YthmhgnnaihkjaaaRows
import Derived.Test.YthmhgnnaihkjaaaRscZr
namespace Go.Proofs.Ythmhgnnaihkjaaa.GFnExactReach
open Go Go.Rsc Go.Proofs.Ythmhgnnaihkjaaa
set_option maxRecDepth 100000
set_option linter.unusedVariables false
def sg : FuncId → Option Sig := fun f => match f with
  | 47 => some { ps := [PM.mut (SD.own 3 false)], rs := [], orc := some (Orc.sort) }
  | 67 => some { ps := [PM.ro (SD.int (IntKind.i64)), PM.ro (SD.int (IntKind.i64)), PM.ro (SD.int (IntKind.i64))], rs := [RM.v (SD.bool)], orc := none }
  | 16 => some { ps := [PM.ro (SD.bor 3), PM.ro (SD.int (IntKind.i64))], rs := [RM.v (SD.int (IntKind.i64))], orc := none }
  | 77 => some { ps := [PM.ro (SD.int (IntKind.i64))], rs := [RM.v (SD.int (IntKind.i64))], orc := none }
  | 14 => some { ps := [PM.mut (SD.own 3 false), PM.ro (SD.int (IntKind.i64))], rs := [RM.v (SD.int (IntKind.i64))], orc := none }
  | 4110 => some { ps := [PM.mv (SD.own 3 false), PM.ro (SD.int (IntKind.i64))], rs := [RM.v (SD.int (IntKind.i64))], orc := none }
  | 12 => some { ps := [PM.ro (SD.bor 3), PM.ro (SD.bor 3)], rs := [RM.v (SD.bool)], orc := none }
  | 93 => some { ps := [PM.ro (SD.int (IntKind.i64))], rs := [RM.v (SD.bool)], orc := none }
  | 99 => some { ps := [PM.ro (SD.int (IntKind.i64))], rs := [RM.v (SD.bool)], orc := none }
  | 40 => some { ps := [PM.ro (SD.int (IntKind.i64))], rs := [RM.v (SD.int (IntKind.i64))], orc := none }
  | 38 => some { ps := [PM.ro (SD.int (IntKind.i64))], rs := [RM.v (SD.bool)], orc := none }
  | 80 => some { ps := [PM.ro (SD.int (IntKind.i64))], rs := [RM.v (SD.int (IntKind.i64))], orc := none }
  | 58 => some { ps := [PM.ro (SD.int (IntKind.i64))], rs := [RM.v (SD.bool), RM.v (SD.int (IntKind.i64)), RM.v (SD.int (IntKind.i64))], orc := none }
  | 68 => some { ps := [PM.ro (SD.bor 3), PM.ro (SD.int (IntKind.i64))], rs := [RM.v (SD.bool)], orc := none }
  | 74 => some { ps := [PM.ro (SD.int (IntKind.i64))], rs := [RM.v (SD.int (IntKind.i64))], orc := none }
  | 72 => some { ps := [PM.ro (SD.int (IntKind.i64))], rs := [RM.v (SD.bool)], orc := none }
  | 9 => some { ps := [PM.ro (SD.bor 3)], rs := [RM.v (SD.own 3 false)], orc := none }
  | 75 => some { ps := [PM.ro (SD.int (IntKind.i64)), PM.ro (SD.int (IntKind.i64)), PM.ro (SD.int (IntKind.i64))], rs := [RM.v (SD.bool)], orc := none }
  | 28 => some { ps := [PM.ro (SD.bor 3), PM.ro (SD.int (IntKind.i64))], rs := [RM.v (SD.int (IntKind.i64))], orc := none }
  | 13 => some { ps := [PM.mut (SD.sc (SD.own 3 false) (SD.sc (SD.int (IntKind.i64)) (SD.sc (SD.int (IntKind.i64)) (SD.sc (SD.int (IntKind.i64)) (SD.sn))))), PM.ro (SD.int (IntKind.i64))], rs := [RM.v (SD.int (IntKind.i64))], orc := none }
  | 4109 => some { ps := [PM.mv (SD.sc (SD.own 3 false) (SD.sc (SD.int (IntKind.i64)) (SD.sc (SD.int (IntKind.i64)) (SD.sc (SD.int (IntKind.i64)) (SD.sn))))), PM.ro (SD.int (IntKind.i64))], rs := [RM.v (SD.int (IntKind.i64))], orc := none }
  | 79 => some { ps := [PM.ro (SD.int (IntKind.i64))], rs := [RM.v (SD.bool)], orc := none }
  | 41 => some { ps := [PM.ro (SD.bor 3), PM.ro (SD.int (IntKind.i64))], rs := [RM.v (SD.own 3 false)], orc := none }
  | 76 => some { ps := [PM.ro (SD.int (IntKind.i64))], rs := [RM.v (SD.bool)], orc := none }
  | 11 => some { ps := [PM.ro (SD.sc (SD.bor 3) (SD.sc (SD.int (IntKind.i64)) (SD.sc (SD.int (IntKind.i64)) (SD.sc (SD.int (IntKind.i64)) (SD.sn))))), PM.ro (SD.sc (SD.bor 3) (SD.sc (SD.int (IntKind.i64)) (SD.sc (SD.int (IntKind.i64)) (SD.sc (SD.int (IntKind.i64)) (SD.sn)))))], rs := [RM.v (SD.bool)], orc := none }
  | 73 => some { ps := [PM.ro (SD.bor 3), PM.ro (SD.int (IntKind.i64))], rs := [RM.v (SD.bool)], orc := none }
  | 8 => some { ps := [PM.ro (SD.sc (SD.bor 3) (SD.sc (SD.int (IntKind.i64)) (SD.sc (SD.int (IntKind.i64)) (SD.sc (SD.int (IntKind.i64)) (SD.sn)))))], rs := [RM.v (SD.sc (SD.own 3 false) (SD.sc (SD.int (IntKind.i64)) (SD.sc (SD.int (IntKind.i64)) (SD.sc (SD.int (IntKind.i64)) (SD.sn)))))], orc := none }
  | 88 => some { ps := [PM.ro (SD.int (IntKind.i64)), PM.ro (SD.int (IntKind.i64))], rs := [RM.v (SD.bool)], orc := none }
  | 6 => some { ps := [PM.ro (SD.sc (SD.bor 3) (SD.sc (SD.int (IntKind.i64)) (SD.sc (SD.int (IntKind.i64)) (SD.sc (SD.int (IntKind.i64)) (SD.sn))))), PM.ro (SD.int (IntKind.i64))], rs := [RM.v (SD.int (IntKind.i64))], orc := none }
  | 53 => some { ps := [PM.ro (SD.bor 3), PM.ro (SD.int (IntKind.i64))], rs := [RM.v (SD.own 3 false)], orc := none }
  | 66 => some { ps := [PM.ro (SD.int (IntKind.i64))], rs := [RM.v (SD.bool), RM.v (SD.int (IntKind.i64)), RM.v (SD.int (IntKind.i64)), RM.v (SD.bool)], orc := none }
  | 55 => some { ps := [PM.ro (SD.sc (SD.bor 3) (SD.sc (SD.int (IntKind.i64)) (SD.sc (SD.int (IntKind.i64)) (SD.sc (SD.int (IntKind.i64)) (SD.sn)))))], rs := [RM.v (SD.own 3 false), RM.v (SD.bool)], orc := none }
  | 65 => some { ps := [PM.ro (SD.bor 3), PM.ref 76 (SD.mp true) (SD.mp true), PM.ref 22 (SD.own 3 false) (SD.own 3 false)], rs := [], orc := none }
  | 4161 => some { ps := [PM.mut (SD.own 3 false), PM.ref 76 (SD.mp true) (SD.mp true), PM.ref 22 (SD.own 3 false) (SD.own 3 false)], rs := [], orc := none }
  | 8257 => some { ps := [PM.mv (SD.own 3 false), PM.ref 76 (SD.mp true) (SD.mp true), PM.ref 22 (SD.own 3 false) (SD.own 3 false)], rs := [], orc := none }
  | 81 => some { ps := [PM.ro (SD.bor 3), PM.ro (SD.int (IntKind.i64))], rs := [RM.v (SD.int (IntKind.i64)), RM.v (SD.bool)], orc := none }
  | 36 => some { ps := [PM.ro (SD.sc (SD.bor 3) (SD.sc (SD.int (IntKind.i64)) (SD.sc (SD.int (IntKind.i64)) (SD.sc (SD.int (IntKind.i64)) (SD.sn))))), PM.ro (SD.int (IntKind.i64))], rs := [RM.v (SD.bor 3)], orc := none }
  | 60 => some { ps := [PM.ro (SD.sc (SD.bor 3) (SD.sc (SD.int (IntKind.i64)) (SD.sc (SD.int (IntKind.i64)) (SD.sc (SD.int (IntKind.i64)) (SD.sn)))))], rs := [RM.v (SD.own 3 false), RM.v (SD.bool)], orc := none }
  | 63 => some { ps := [PM.ro (SD.int (IntKind.i64))], rs := [RM.v (SD.bool)], orc := none }
  | 52 => some { ps := [PM.ro (SD.sc (SD.bor 3) (SD.sc (SD.int (IntKind.i64)) (SD.sc (SD.int (IntKind.i64)) (SD.sc (SD.int (IntKind.i64)) (SD.sn))))), PM.ro (SD.bor 3)], rs := [RM.v (SD.own 3 false)], orc := none }
  | 64 => some { ps := [PM.ro (SD.bor 3), PM.ro (SD.int (IntKind.i64))], rs := [RM.v (SD.bool)], orc := none }
  | 35 => some { ps := [PM.ro (SD.sc (SD.bor 3) (SD.sc (SD.int (IntKind.i64)) (SD.sc (SD.int (IntKind.i64)) (SD.sc (SD.int (IntKind.i64)) (SD.sn))))), PM.ro (SD.bor 3)], rs := [RM.v (SD.own 3 false)], orc := none }
  | 56 => some { ps := [PM.ro (SD.bor 3), PM.ro (SD.int (IntKind.i64))], rs := [RM.v (SD.bool)], orc := none }
  | 54 => some { ps := [PM.ro (SD.sc (SD.bor 3) (SD.sc (SD.int (IntKind.i64)) (SD.sc (SD.int (IntKind.i64)) (SD.sc (SD.int (IntKind.i64)) (SD.sn)))))], rs := [RM.v (SD.bool)], orc := none }
  | 62 => some { ps := [PM.ro (SD.int (IntKind.i64)), PM.rp (SD.bor 3)], rs := [RM.v (SD.bool)], orc := none }
  | 29 => some { ps := [PM.ro (SD.sc (SD.bor 3) (SD.sc (SD.int (IntKind.i64)) (SD.sc (SD.int (IntKind.i64)) (SD.sc (SD.int (IntKind.i64)) (SD.sn))))), PM.ro (SD.bor 3)], rs := [RM.v (SD.bool)], orc := none }
  | 69 => some { ps := [PM.ro (SD.bor 3), PM.clo 62 [CM.rp (SD.bor 3)]], rs := [RM.v (SD.int (IntKind.i64))], orc := none }
  | 4165 => some { ps := [PM.mv (SD.own 3 false), PM.clo 62 [CM.rp (SD.bor 3)]], rs := [RM.v (SD.int (IntKind.i64))], orc := none }
  | 61 => some { ps := [PM.ro (SD.bor 3), PM.clo 62 [CM.rp (SD.bor 3)]], rs := [RM.v (SD.bool)], orc := none }
  | 4157 => some { ps := [PM.mv (SD.own 3 false), PM.clo 62 [CM.rp (SD.bor 3)]], rs := [RM.v (SD.bool)], orc := none }
  | 59 => some { ps := [PM.ro (SD.sc (SD.bor 3) (SD.sc (SD.int (IntKind.i64)) (SD.sc (SD.int (IntKind.i64)) (SD.sc (SD.int (IntKind.i64)) (SD.sn)))))], rs := [RM.v (SD.bool)], orc := none }
  | 26 => some { ps := [PM.ro (SD.sc (SD.bor 3) (SD.sc (SD.int (IntKind.i64)) (SD.sc (SD.int (IntKind.i64)) (SD.sc (SD.int (IntKind.i64)) (SD.sn))))), PM.ro (SD.bor 3)], rs := [RM.v (SD.own 3 false)], orc := none }
  | 32 => some { ps := [PM.ro (SD.sc (SD.bor 3) (SD.sc (SD.int (IntKind.i64)) (SD.sc (SD.int (IntKind.i64)) (SD.sc (SD.int (IntKind.i64)) (SD.sn))))), PM.ro (SD.bor 3)], rs := [RM.v (SD.bool)], orc := none }
  | 27 => some { ps := [PM.ro (SD.sc (SD.bor 3) (SD.sc (SD.int (IntKind.i64)) (SD.sc (SD.int (IntKind.i64)) (SD.sc (SD.int (IntKind.i64)) (SD.sn))))), PM.ro (SD.bor 3)], rs := [RM.v (SD.own 3 false)], orc := none }
  | 5 => some { ps := [PM.ro (SD.sc (SD.bor 3) (SD.sc (SD.int (IntKind.i64)) (SD.sc (SD.int (IntKind.i64)) (SD.sc (SD.int (IntKind.i64)) (SD.sn))))), PM.ro (SD.bor 3)], rs := [RM.v (SD.bool)], orc := none }
  | _ => none
/-! impl.within -/
noncomputable def F67 (I : Interp) (n : Nat) (a : List PV) : Option (List PV) :=
  (some [(selB (geI (nth a 0).toInt (nth a 1).toInt) (selB ((geI (nth a 0).toInt (nth a 1).toInt) == true) (PV.bool (leI (selB ((geI (nth a 0).toInt (nth a 1).toInt) == true) (nth a 0) PV.unit).toInt (selB ((geI (nth a 0).toInt (nth a 1).toInt) == true) (nth a 2) PV.unit).toInt)) PV.unit) (PV.bool false))])
theorem e67 : ∀ I n a, (compF Try.prog sg 67).map (fun d => d.ev I n a) = some (F67 I n a) := fun I n a => by kernel_rfl
/-! laws.heldIntS -/
noncomputable def L16_0 (I : Interp) (n : Nat) (p0 : List PV) : Option (Ex × List PV) :=
  (iff (ltI (nth p0 0).toInt ((nth p0 1).toList.length : Int))
  (iff (geI (nth p0 0).toInt (0 : Int))
  (iff (ltI (nth p0 0).toInt ((nth p0 1).toList.length : Int))
  (iff (neI (nth (nth p0 1).toList (nth p0 0).toInt.toNat).toInt (nth p0 2).toInt)
  (some (Ex.r, [(PV.int (-1 : Int))]))
  (some (Ex.n, [(PV.int (IntKind.i64.wrap ((nth p0 0).toInt + (1 : Int)))), (nth p0 1), (PV.int (IntKind.i64.wrap ((nth p0 2).toInt + (1 : Int))))])))
  none)
  none)
  (some (Ex.x 0, [(nth p0 2)])))
noncomputable def F16 (I : Interp) (n : Nat) (a : List PV) : Option (List PV) :=
  (thenN (thenE (loopEv (L16_0 I n) n [(PV.int (0 : Int)), (nth a 0), (nth a 1)])
  (passB 0))
  (fun p1 => (some [(nth p1 0)]))
  (retE fun q2 => [(nth q2 0)]))
theorem e16 : ∀ I n a, (compF Try.prog sg 16).map (fun d => d.ev I n a) = some (F16 I n a) := fun I n a => by kernel_rfl
/-! spec.WordInt -/
noncomputable def F77 (I : Interp) (n : Nat) (a : List PV) : Option (List PV) :=
  (iff (geI (1 : Int) (0 : Int))
  (some [(PV.int (arith BinOp.shr IntKind.i64 (nth a 0).toInt (1 : Int)))])
  none)
theorem e77 : ∀ I n a, (compF Try.prog sg 77).map (fun d => d.ev I n a) = some (F77 I n a) := fun I n a => by kernel_rfl
/-! laws.markIntS -/
noncomputable def L14_0 (I : Interp) (n : Nat) (p0 : List PV) : Option (Ex × List PV) :=
  (iff (ltI (nth p0 0).toInt ((nth p0 2).toList.length : Int))
  (iff (geI (nth p0 0).toInt (0 : Int))
  (iff (ltI (nth p0 0).toInt ((nth p0 2).toList.length : Int))
  (some (Ex.n, [(PV.int (IntKind.i64.wrap ((nth p0 0).toInt + (1 : Int)))), (PV.int (IntKind.i64.wrap ((nth p0 1).toInt + (1 : Int)))), (PV.list ((nth p0 2).toList.set (nth p0 0).toInt.toNat (nth p0 1)))]))
  none)
  none)
  (some (Ex.x 0, [(nth p0 2), (nth p0 1)])))
noncomputable def F14 (I : Interp) (n : Nat) (a : List PV) : Option (List PV) :=
  (thenN (thenE (loopEv (L14_0 I n) n [(PV.int (0 : Int)), (nth a 1), (nth a 0)])
  (passB 0))
  (fun p1 => (some [(nth p1 1), (nth p1 0)]))
  (retE fun q2 => [(nth q2 1), (nth q2 0)]))
theorem e14 : ∀ I n a, (compF Try.prog sg 14).map (fun d => d.ev I n a) = some (F14 I n a) := fun I n a => by kernel_rfl
/-! laws.markIntS -/
noncomputable def L4110_0 (I : Interp) (n : Nat) (p0 : List PV) : Option (Ex × List PV) :=
  (iff (ltI (nth p0 0).toInt ((nth p0 1).toList.length : Int))
  (iff (geI (nth p0 0).toInt (0 : Int))
  (iff (ltI (nth p0 0).toInt ((nth p0 1).toList.length : Int))
  (some (Ex.n, [(PV.int (IntKind.i64.wrap ((nth p0 0).toInt + (1 : Int)))), (PV.list ((nth p0 1).toList.set (nth p0 0).toInt.toNat (nth p0 2))), (PV.int (IntKind.i64.wrap ((nth p0 2).toInt + (1 : Int))))]))
  none)
  none)
  (some (Ex.x 0, [(nth p0 2)])))
noncomputable def F4110 (I : Interp) (n : Nat) (a : List PV) : Option (List PV) :=
  (thenN (thenE (loopEv (L4110_0 I n) n [(PV.int (0 : Int)), (nth a 0), (nth a 1)])
  (passB 0))
  (fun p1 => (some [(nth p1 0)]))
  (retE fun q2 => [(nth q2 0)]))
theorem e4110 : ∀ I n a, (compF Try.prog sg 4110).map (fun d => d.ev I n a) = some (F4110 I n a) := fun I n a => by kernel_rfl
/-! laws.eqIntS -/
noncomputable def L12_0 (I : Interp) (n : Nat) (p0 : List PV) : Option (Ex × List PV) :=
  (iff (ltI (nth p0 0).toInt ((nth p0 1).toList.length : Int))
  (iff (geI (nth p0 0).toInt (0 : Int))
  (iff (ltI (nth p0 0).toInt ((nth p0 1).toList.length : Int))
  (iff (geI (nth p0 0).toInt (0 : Int))
  (iff (ltI (nth p0 0).toInt ((nth p0 2).toList.length : Int))
  (iff (neI (nth (nth p0 1).toList (nth p0 0).toInt.toNat).toInt (nth (nth p0 2).toList (nth p0 0).toInt.toNat).toInt)
  (some (Ex.r, [(PV.bool false)]))
  (some (Ex.n, [(PV.int (IntKind.i64.wrap ((nth p0 0).toInt + (1 : Int)))), (nth p0 1), (nth p0 2)])))
  none)
  none)
  none)
  none)
  (some (Ex.x 0, [])))
noncomputable def F12 (I : Interp) (n : Nat) (a : List PV) : Option (List PV) :=
  (iff (neI ((nth a 0).toList.length : Int) ((nth a 1).toList.length : Int))
  (some [(PV.bool false)])
  (thenN (thenE (loopEv (L12_0 I n) n [(PV.int (0 : Int)), (nth a 0), (nth a 1)])
  (passB 0))
  (fun p1 => (some [(PV.bool true)]))
  (retE fun q2 => [(nth q2 0)])))
theorem e12 : ∀ I n a, (compF Try.prog sg 12).map (fun d => d.ev I n a) = some (F12 I n a) := fun I n a => by kernel_rfl
/-! slices.isNaN[int] -/
noncomputable def F93 (I : Interp) (n : Nat) (a : List PV) : Option (List PV) :=
  (some [(PV.bool (neI (nth a 0).toInt (nth a 0).toInt))])
theorem e93 : ∀ I n a, (compF Try.prog sg 93).map (fun d => d.ev I n a) = some (F93 I n a) := fun I n a => by kernel_rfl
/-! cmp.isNaN[int] -/
noncomputable def F99 (I : Interp) (n : Nat) (a : List PV) : Option (List PV) :=
  (some [(PV.bool (neI (nth a 0).toInt (nth a 0).toInt))])
theorem e99 : ∀ I n a, (compF Try.prog sg 99).map (fun d => d.ev I n a) = some (F99 I n a) := fun I n a => by kernel_rfl
/-! impl.WordRef -/
noncomputable def F40 (I : Interp) (n : Nat) (a : List PV) : Option (List PV) :=
  (iff (geI (1 : Int) (0 : Int))
  (some [(PV.int (arith BinOp.shr IntKind.i64 (nth a 0).toInt (1 : Int)))])
  none)
theorem e40 : ∀ I n a, (compF Try.prog sg 40).map (fun d => d.ev I n a) = some (F40 I n a) := fun I n a => by kernel_rfl
/-! impl.IsRef -/
noncomputable def F38 (I : Interp) (n : Nat) (a : List PV) : Option (List PV) :=
  (some [(PV.bool (eqI (arith BinOp.and IntKind.i64 (nth a 0).toInt (1 : Int)) (0 : Int)))])
theorem e38 : ∀ I n a, (compF Try.prog sg 38).map (fun d => d.ev I n a) = some (F38 I n a) := fun I n a => by kernel_rfl
/-! impl.WordInt -/
noncomputable def F80 (I : Interp) (n : Nat) (a : List PV) : Option (List PV) :=
  (iff (geI (1 : Int) (0 : Int))
  (some [(PV.int (arith BinOp.shr IntKind.i64 (nth a 0).toInt (1 : Int)))])
  none)
theorem e80 : ∀ I n a, (compF Try.prog sg 80).map (fun d => d.ev I n a) = some (F80 I n a) := fun I n a => by kernel_rfl
/-! spec.l17Of -/
noncomputable def F58 (I : Interp) (n : Nat) (a : List PV) : Option (List PV) :=
  (iff (geI (1 : Int) (0 : Int))
  (iff (geI (1 : Int) (0 : Int))
  (iff (neI (64 : Int) (0 : Int))
  (iff (geI (1 : Int) (0 : Int))
  (some [(PV.bool (eqI (arith BinOp.and IntKind.i64 (arith BinOp.shr IntKind.i64 (nth a 0).toInt (1 : Int)) (1 : Int)) (1 : Int))), (PV.int (arith BinOp.quo IntKind.i64 (arith BinOp.shr IntKind.i64 (arith BinOp.shr IntKind.i64 (nth a 0).toInt (1 : Int)) (1 : Int)) (64 : Int))), (PV.int (arith BinOp.and IntKind.i64 (arith BinOp.shr IntKind.i64 (arith BinOp.shr IntKind.i64 (nth a 0).toInt (1 : Int)) (1 : Int)) (63 : Int)))])
  none)
  none)
  none)
  none)
theorem e58 : ∀ I n a, (compF Try.prog sg 58).map (fun d => d.ev I n a) = some (F58 I n a) := fun I n a => by kernel_rfl
/-! spec.l4Has -/
noncomputable def L68_0 (I : Interp) (n : Nat) (p0 : List PV) : Option (Ex × List PV) :=
  (iff (ltI (nth p0 0).toInt ((nth p0 1).toList.length : Int))
  (iff (geI (nth p0 0).toInt (0 : Int))
  (iff (ltI (nth p0 0).toInt ((nth p0 1).toList.length : Int))
  (iff (eqI (nth (nth p0 1).toList (nth p0 0).toInt.toNat).toInt (nth p0 2).toInt)
  (some (Ex.r, [(PV.bool true)]))
  (some (Ex.n, [(PV.int (IntKind.i64.wrap ((nth p0 0).toInt + (1 : Int)))), (nth p0 1), (nth p0 2)])))
  none)
  none)
  (some (Ex.x 0, [])))
noncomputable def F68 (I : Interp) (n : Nat) (a : List PV) : Option (List PV) :=
  (thenN (thenE (loopEv (L68_0 I n) n [(PV.int (0 : Int)), (nth a 0), (nth a 1)])
  (passB 0))
  (fun p1 => (some [(PV.bool false)]))
  (retE fun q2 => [(nth q2 0)]))
theorem e68 : ∀ I n a, (compF Try.prog sg 68).map (fun d => d.ev I n a) = some (F68 I n a) := fun I n a => by kernel_rfl
/-! spec.WordRef -/
noncomputable def F74 (I : Interp) (n : Nat) (a : List PV) : Option (List PV) :=
  (iff (geI (1 : Int) (0 : Int))
  (some [(PV.int (arith BinOp.shr IntKind.i64 (nth a 0).toInt (1 : Int)))])
  none)
theorem e74 : ∀ I n a, (compF Try.prog sg 74).map (fun d => d.ev I n a) = some (F74 I n a) := fun I n a => by kernel_rfl
/-! spec.IsRef -/
noncomputable def F72 (I : Interp) (n : Nat) (a : List PV) : Option (List PV) :=
  (some [(PV.bool (eqI (arith BinOp.and IntKind.i64 (nth a 0).toInt (1 : Int)) (0 : Int)))])
theorem e72 : ∀ I n a, (compF Try.prog sg 72).map (fun d => d.ev I n a) = some (F72 I n a) := fun I n a => by kernel_rfl
/-! laws.toIntS -/
noncomputable def L9_0 (I : Interp) (n : Nat) (p0 : List PV) : Option (Ex × List PV) :=
  (iff (ltI (nth p0 0).toInt ((nth p0 1).toList.length : Int))
  (iff (geI (nth p0 0).toInt (0 : Int))
  (iff (ltI (nth p0 0).toInt ((nth p0 1).toList.length : Int))
  (iff (geI (nth p0 0).toInt (0 : Int))
  (iff (ltI (nth p0 0).toInt ((nth p0 2).toList.length : Int))
  (some (Ex.n, [(PV.int (IntKind.i64.wrap ((nth p0 0).toInt + (1 : Int)))), (nth p0 1), (PV.list ((nth p0 2).toList.set (nth p0 0).toInt.toNat (nth (nth p0 1).toList (nth p0 0).toInt.toNat)))]))
  none)
  none)
  none)
  none)
  (some (Ex.x 0, [(nth p0 2)])))
noncomputable def F9 (I : Interp) (n : Nat) (a : List PV) : Option (List PV) :=
  (iff (geI ((nth a 0).toList.length : Int) (0 : Int))
  (iff (leI ((nth a 0).toList.length : Int) ((nth a 0).toList.length : Int))
  (iff (leI ((nth a 0).toList.length : Int) (17592186044416 : Int))
  (thenN (thenE (loopEv (L9_0 I n) n [(PV.int (0 : Int)), (nth a 0), (PV.list (List.replicate ((nth a 0).toList.length : Int).toNat (PV.int (0 : Int))))])
  (passB 0))
  (fun p1 => (some [(nth p1 0)]))
  (retE fun q2 => [(nth q2 0)]))
  none)
  none)
  none)
theorem e9 : ∀ I n a, (compF Try.prog sg 9).map (fun d => d.ev I n a) = some (F9 I n a) := fun I n a => by kernel_rfl
/-! spec.l1In -/
noncomputable def F75 (I : Interp) (n : Nat) (a : List PV) : Option (List PV) :=
  (some [(selB (geI (nth a 0).toInt (nth a 1).toInt) (selB ((geI (nth a 0).toInt (nth a 1).toInt) == true) (PV.bool (leI (selB ((geI (nth a 0).toInt (nth a 1).toInt) == true) (nth a 0) PV.unit).toInt (selB ((geI (nth a 0).toInt (nth a 1).toInt) == true) (nth a 2) PV.unit).toInt)) PV.unit) (PV.bool false))])
theorem e75 : ∀ I n a, (compF Try.prog sg 75).map (fun d => d.ev I n a) = some (F75 I n a) := fun I n a => by kernel_rfl
/-! laws.szIntS -/
noncomputable def F28 (I : Interp) (n : Nat) (a : List PV) : Option (List PV) :=
  (iff (ltI (IntKind.i64.wrap ((nth a 1).toInt - ((nth a 0).toList.length : Int))) (0 : Int))
  (some [(PV.int (-1 : Int))])
  (some [(PV.int (IntKind.i64.wrap ((nth a 1).toInt - ((nth a 0).toList.length : Int))))]))
theorem e28 : ∀ I n a, (compF Try.prog sg 28).map (fun d => d.ev I n a) = some (F28 I n a) := fun I n a => by kernel_rfl
/-! laws.markHeap -/
noncomputable def F13 (I : Interp) (n : Nat) (a : List PV) : Option (List PV) :=
  ((I 14 [((nth a 0).fld 0), (nth a 1)]).bind fun r0 =>
  (some [(nth r0 0), ((nth a 0).setFld 0 (nth r0 1))]))
theorem e13 : ∀ I n a, (compF Try.prog sg 13).map (fun d => d.ev I n a) = some (F13 I n a) := fun I n a => by kernel_rfl
/-! laws.markHeap -/
noncomputable def F4109 (I : Interp) (n : Nat) (a : List PV) : Option (List PV) :=
  ((I 14 [((nth a 0).fld 0), (nth a 1)]).bind fun r0 =>
  (some [(nth r0 0)]))
theorem e4109 : ∀ I n a, (compF Try.prog sg 4109).map (fun d => d.ev I n a) = some (F4109 I n a) := fun I n a => by kernel_rfl
/-! impl.WordOk -/
noncomputable def F79 (I : Interp) (n : Nat) (a : List PV) : Option (List PV) :=
  ((I 67 [(nth a 0), (PV.int (-1073741824 : Int)), (PV.int (1073741823 : Int))]).bind fun r0 =>
  (some [(nth r0 0)]))
theorem e79 : ∀ I n a, (compF Try.prog sg 79).map (fun d => d.ev I n a) = some (F79 I n a) := fun I n a => by kernel_rfl
/-! spec.With -/
noncomputable def L41_0 (I : Interp) (n : Nat) (p1 : List PV) : Option (Ex × List PV) :=
  ((iff ((ltI (nth p1 2).toInt ((nth p1 1).toList.length : Int)) == true)
  (iff (geI (selB ((ltI (nth p1 2).toInt ((nth p1 1).toList.length : Int)) == true) (nth p1 2) PV.unit).toInt (0 : Int))
  (iff (ltI (selB ((ltI (nth p1 2).toInt ((nth p1 1).toList.length : Int)) == true) (nth p1 2) PV.unit).toInt ((selB ((ltI (nth p1 2).toInt ((nth p1 1).toList.length : Int)) == true) (nth p1 1) PV.unit).toList.length : Int))
  (some [(nth (selB ((ltI (nth p1 2).toInt ((nth p1 1).toList.length : Int)) == true) (nth p1 1) PV.unit).toList (selB ((ltI (nth p1 2).toInt ((nth p1 1).toList.length : Int)) == true) (nth p1 2) PV.unit).toInt.toNat), (nth (selB ((ltI (nth p1 2).toInt ((nth p1 1).toList.length : Int)) == true) (nth p1 1) PV.unit).toList (selB ((ltI (nth p1 2).toInt ((nth p1 1).toList.length : Int)) == true) (nth p1 2) PV.unit).toInt.toNat)])
  none)
  none)
  (some [PV.unit, PV.unit])).bind fun g2 =>
  (iff (selB (ltI (nth p1 2).toInt ((nth p1 1).toList.length : Int)) (selB ((ltI (nth p1 2).toInt ((nth p1 1).toList.length : Int)) == true) (PV.bool (ltI (selB ((ltI (nth p1 2).toInt ((nth p1 1).toList.length : Int)) == true) (nth g2 0) PV.unit).toInt (selB ((ltI (nth p1 2).toInt ((nth p1 1).toList.length : Int)) == true) (nth p1 0) PV.unit).toInt)) PV.unit) (PV.bool false)).toBool
  (some (Ex.n, [(nth p1 0), (nth p1 1), (PV.int (IntKind.i64.wrap ((nth p1 2).toInt + (1 : Int))))]))
  (some (Ex.x 0, [(nth p1 0), (nth p1 1), (nth p1 2)]))))
noncomputable def F41 (I : Interp) (n : Nat) (a : List PV) : Option (List PV) :=
  ((I 68 [(nth a 0), (nth a 1)]).bind fun r0 =>
  (iff (nth r0 0).toBool
  (iff (leN (([] : List PV).length + (nth a 0).toList.length) 17592186044416)
  (some [(PV.list (([] : List PV) ++ (nth a 0).toList))])
  none)
  (thenN (thenE (loopEv (L41_0 I n) n [(nth a 1), (nth a 0), (PV.int (0 : Int))])
  (passB 0))
  (fun p3 => (iff (geI (0 : Int) (0 : Int))
  (iff (leI (0 : Int) (nth p3 2).toInt)
  (iff (leI (nth p3 2).toInt ((nth p3 1).toList.length : Int))
  (iff (leN (([] : List PV).length + (((nth p3 1).toList.drop (0 : Int).toNat).take ((nth p3 2).toInt.toNat - (0 : Int).toNat)).length) 17592186044416)
  (iff (leN ((([] : List PV) ++ (((nth p3 1).toList.drop (0 : Int).toNat).take ((nth p3 2).toInt.toNat - (0 : Int).toNat))).length + ((nth p3 0) :: ([] : List PV)).length) 17592186044416)
  (iff (geI (nth p3 2).toInt (0 : Int))
  (iff (leI (nth p3 2).toInt ((nth p3 1).toList.length : Int))
  (iff (leI ((nth p3 1).toList.length : Int) ((nth p3 1).toList.length : Int))
  (iff (leN (((([] : List PV) ++ (((nth p3 1).toList.drop (0 : Int).toNat).take ((nth p3 2).toInt.toNat - (0 : Int).toNat))) ++ ((nth p3 0) :: ([] : List PV))).length + (((nth p3 1).toList.drop (nth p3 2).toInt.toNat).take (((nth p3 1).toList.length : Int).toNat - (nth p3 2).toInt.toNat)).length) 17592186044416)
  (some [(PV.list (((([] : List PV) ++ (((nth p3 1).toList.drop (0 : Int).toNat).take ((nth p3 2).toInt.toNat - (0 : Int).toNat))) ++ ((nth p3 0) :: ([] : List PV))) ++ (((nth p3 1).toList.drop (nth p3 2).toInt.toNat).take (((nth p3 1).toList.length : Int).toNat - (nth p3 2).toInt.toNat))))])
  none)
  none)
  none)
  none)
  none)
  none)
  none)
  none)
  none))
  (retE fun q4 => [(nth q4 0)]))))
theorem e41 : ∀ I n a, (compF Try.prog sg 41).map (fun d => d.ev I n a) = some (F41 I n a) := fun I n a => by kernel_rfl
/-! spec.WordOk -/
noncomputable def F76 (I : Interp) (n : Nat) (a : List PV) : Option (List PV) :=
  ((I 75 [(nth a 0), (PV.int (-1073741824 : Int)), (PV.int (1073741823 : Int))]).bind fun r0 =>
  (some [(nth r0 0)]))
theorem e76 : ∀ I n a, (compF Try.prog sg 76).map (fun d => d.ev I n a) = some (F76 I n a) := fun I n a => by kernel_rfl
/-! laws.eqHeap -/
noncomputable def F11 (I : Interp) (n : Nat) (a : List PV) : Option (List PV) :=
  ((I 12 [((nth a 0).fld 0), ((nth a 1).fld 0)]).bind fun r0 =>
  (iff (!(nth r0 0).toBool)
  (some [(PV.bool false)])
  (iff (neI ((nth a 0).fld 1).toInt ((nth a 1).fld 1).toInt)
  (some [(PV.bool false)])
  (iff (neI ((nth a 0).fld 2).toInt ((nth a 1).fld 2).toInt)
  (some [(PV.bool false)])
  (iff (neI ((nth a 0).fld 3).toInt ((nth a 1).fld 3).toInt)
  (some [(PV.bool false)])
  (some [(PV.bool true)]))))))
theorem e11 : ∀ I n a, (compF Try.prog sg 11).map (fun d => d.ev I n a) = some (F11 I n a) := fun I n a => by kernel_rfl
/-! spec.l7In -/
noncomputable def F73 (I : Interp) (n : Nat) (a : List PV) : Option (List PV) :=
  ((I 68 [(nth a 0), (nth a 1)]).bind fun r0 =>
  (some [(nth r0 0)]))
theorem e73 : ∀ I n a, (compF Try.prog sg 73).map (fun d => d.ev I n a) = some (F73 I n a) := fun I n a => by kernel_rfl
/-! laws.toHeap -/
noncomputable def F8 (I : Interp) (n : Nat) (a : List PV) : Option (List PV) :=
  ((I 9 [((nth a 0).fld 0)]).bind fun r0 =>
  (some [(PV.agg [(nth r0 0), ((nth a 0).fld 1), ((nth a 0).fld 2), ((nth a 0).fld 3)])]))
theorem e8 : ∀ I n a, (compF Try.prog sg 8).map (fun d => d.ev I n a) = some (F8 I n a) := fun I n a => by kernel_rfl
/-! cmp.Less[int] -/
noncomputable def F88 (I : Interp) (n : Nat) (a : List PV) : Option (List PV) :=
  ((I 99 [(nth a 0)]).bind fun r0 =>
  ((iff ((nth r0 0).isB true)
  ((I 99 [(selB ((nth r0 0).isB true) (nth a 1) PV.unit)]).bind fun r1 =>
  (some [(nth r1 0), (nth r1 0)]))
  (some [PV.unit, PV.unit])).bind fun g2 =>
  (some [(selB (selB (nth r0 0).toBool (selB ((nth r0 0).isB true) (PV.bool (!(nth g2 0).toBool)) PV.unit) (PV.bool false)).toBool (PV.bool true) (selB ((selB (nth r0 0).toBool (selB ((nth r0 0).isB true) (PV.bool (!(nth g2 0).toBool)) PV.unit) (PV.bool false)).isB false) (PV.bool (ltI (selB ((selB (nth r0 0).toBool (selB ((nth r0 0).isB true) (PV.bool (!(nth g2 0).toBool)) PV.unit) (PV.bool false)).isB false) (nth a 0) PV.unit).toInt (selB ((selB (nth r0 0).toBool (selB ((nth r0 0).isB true) (PV.bool (!(nth g2 0).toBool)) PV.unit) (PV.bool false)).isB false) (nth a 1) PV.unit).toInt)) PV.unit))])))
theorem e88 : ∀ I n a, (compF Try.prog sg 88).map (fun d => d.ev I n a) = some (F88 I n a) := fun I n a => by kernel_rfl
/-! laws.szHeap -/
noncomputable def F6 (I : Interp) (n : Nat) (a : List PV) : Option (List PV) :=
  ((I 28 [((nth a 0).fld 0), (nth a 1)]).bind fun r0 =>
  (iff (ltI (nth r0 0).toInt (0 : Int))
  (some [(PV.int (-1 : Int))])
  (some [(nth r0 0)])))
theorem e6 : ∀ I n a, (compF Try.prog sg 6).map (fun d => d.ev I n a) = some (F6 I n a) := fun I n a => by kernel_rfl
/-! spec.l5Insert -/
noncomputable def F53 (I : Interp) (n : Nat) (a : List PV) : Option (List PV) :=
  ((I 41 [(nth a 0), (nth a 1)]).bind fun r0 =>
  (some [(nth r0 0)]))
theorem e53 : ∀ I n a, (compF Try.prog sg 53).map (fun d => d.ev I n a) = some (F53 I n a) := fun I n a => by kernel_rfl
/-! impl.header -/
noncomputable def F66 (I : Interp) (n : Nat) (a : List PV) : Option (List PV) :=
  ((I 80 [(nth a 0)]).bind fun r0 =>
  (iff (geI (7 : Int) (0 : Int))
  (iff (geI (1 : Int) (0 : Int))
  ((I 38 [(nth a 0)]).bind fun r1 =>
  (some [(PV.bool (eqI (arith BinOp.and IntKind.i64 (nth r0 0).toInt (1 : Int)) (1 : Int))), (PV.int (arith BinOp.shr IntKind.i64 (nth r0 0).toInt (7 : Int))), (PV.int (arith BinOp.and IntKind.i64 (arith BinOp.shr IntKind.i64 (nth r0 0).toInt (1 : Int)) (63 : Int))), (selB (selB (selB (!(nth r1 0).toBool) (selB ((!(nth r1 0).toBool) == true) (PV.bool (geI (selB ((!(nth r1 0).toBool) == true) (nth r0 0) PV.unit).toInt (0 : Int))) PV.unit) (PV.bool false)).toBool (selB ((selB (!(nth r1 0).toBool) (selB ((!(nth r1 0).toBool) == true) (PV.bool (geI (selB ((!(nth r1 0).toBool) == true) (nth r0 0) PV.unit).toInt (0 : Int))) PV.unit) (PV.bool false)).isB true) (PV.bool (leI (selB ((selB (!(nth r1 0).toBool) (selB ((!(nth r1 0).toBool) == true) (PV.bool (geI (selB ((!(nth r1 0).toBool) == true) (nth r0 0) PV.unit).toInt (0 : Int))) PV.unit) (PV.bool false)).isB true) (PV.int (arith BinOp.shr IntKind.i64 (nth r0 0).toInt (7 : Int))) PV.unit).toInt (3000 : Int))) PV.unit) (PV.bool false)).toBool (selB ((selB (selB (!(nth r1 0).toBool) (selB ((!(nth r1 0).toBool) == true) (PV.bool (geI (selB ((!(nth r1 0).toBool) == true) (nth r0 0) PV.unit).toInt (0 : Int))) PV.unit) (PV.bool false)).toBool (selB ((selB (!(nth r1 0).toBool) (selB ((!(nth r1 0).toBool) == true) (PV.bool (geI (selB ((!(nth r1 0).toBool) == true) (nth r0 0) PV.unit).toInt (0 : Int))) PV.unit) (PV.bool false)).isB true) (PV.bool (leI (selB ((selB (!(nth r1 0).toBool) (selB ((!(nth r1 0).toBool) == true) (PV.bool (geI (selB ((!(nth r1 0).toBool) == true) (nth r0 0) PV.unit).toInt (0 : Int))) PV.unit) (PV.bool false)).isB true) (PV.int (arith BinOp.shr IntKind.i64 (nth r0 0).toInt (7 : Int))) PV.unit).toInt (3000 : Int))) PV.unit) (PV.bool false)).isB true) (PV.bool (leI (selB ((selB (selB (!(nth r1 0).toBool) (selB ((!(nth r1 0).toBool) == true) (PV.bool (geI (selB ((!(nth r1 0).toBool) == true) (nth r0 0) PV.unit).toInt (0 : Int))) PV.unit) (PV.bool false)).toBool (selB ((selB (!(nth r1 0).toBool) (selB ((!(nth r1 0).toBool) == true) (PV.bool (geI (selB ((!(nth r1 0).toBool) == true) (nth r0 0) PV.unit).toInt (0 : Int))) PV.unit) (PV.bool false)).isB true) (PV.bool (leI (selB ((selB (!(nth r1 0).toBool) (selB ((!(nth r1 0).toBool) == true) (PV.bool (geI (selB ((!(nth r1 0).toBool) == true) (nth r0 0) PV.unit).toInt (0 : Int))) PV.unit) (PV.bool false)).isB true) (PV.int (arith BinOp.shr IntKind.i64 (nth r0 0).toInt (7 : Int))) PV.unit).toInt (3000 : Int))) PV.unit) (PV.bool false)).isB true) (PV.int (arith BinOp.and IntKind.i64 (arith BinOp.shr IntKind.i64 (nth r0 0).toInt (1 : Int)) (63 : Int))) PV.unit).toInt (20 : Int))) PV.unit) (PV.bool false))]))
  none)
  none))
theorem e66 : ∀ I n a, (compF Try.prog sg 66).map (fun d => d.ev I n a) = some (F66 I n a) := fun I n a => by kernel_rfl
/-! spec.l17Places -/
noncomputable def L55_0 (I : Interp) (n : Nat) (p0 : List PV) : Option (Ex × List PV) :=
  (iff (ltI (nth p0 0).toInt ((nth p0 2).fld 3).toInt)
  (iff (geI (nth p0 0).toInt (0 : Int))
  (iff (ltI (nth p0 0).toInt (((nth p0 2).fld 0).toList.length : Int))
  ((I 58 [(nth ((nth p0 2).fld 0).toList (nth p0 0).toInt.toNat)]).bind fun r1 =>
  ((iff ((ltI (nth ((nth p0 2).fld 0).toList (nth p0 0).toInt.toNat).toInt (0 : Int)) == false)
  ((I 72 [(selB ((ltI (nth ((nth p0 2).fld 0).toList (nth p0 0).toInt.toNat).toInt (0 : Int)) == false) (nth ((nth p0 2).fld 0).toList (nth p0 0).toInt.toNat) PV.unit)]).bind fun r2 =>
  (some [(nth r2 0), (nth r2 0)]))
  (some [PV.unit, PV.unit])).bind fun g3 =>
  (iff (selB (selB (selB (selB (ltI (nth ((nth p0 2).fld 0).toList (nth p0 0).toInt.toNat).toInt (0 : Int)) (PV.bool true) (nth g3 0)).toBool (PV.bool true) (selB ((selB (ltI (nth ((nth p0 2).fld 0).toList (nth p0 0).toInt.toNat).toInt (0 : Int)) (PV.bool true) (nth g3 0)).isB false) (PV.bool (gtI (selB ((selB (ltI (nth ((nth p0 2).fld 0).toList (nth p0 0).toInt.toNat).toInt (0 : Int)) (PV.bool true) (nth g3 0)).isB false) (nth r1 1) PV.unit).toInt (3000 : Int))) PV.unit)).toBool (PV.bool true) (selB ((selB (selB (ltI (nth ((nth p0 2).fld 0).toList (nth p0 0).toInt.toNat).toInt (0 : Int)) (PV.bool true) (nth g3 0)).toBool (PV.bool true) (selB ((selB (ltI (nth ((nth p0 2).fld 0).toList (nth p0 0).toInt.toNat).toInt (0 : Int)) (PV.bool true) (nth g3 0)).isB false) (PV.bool (gtI (selB ((selB (ltI (nth ((nth p0 2).fld 0).toList (nth p0 0).toInt.toNat).toInt (0 : Int)) (PV.bool true) (nth g3 0)).isB false) (nth r1 1) PV.unit).toInt (3000 : Int))) PV.unit)).isB false) (PV.bool (gtI (selB ((selB (selB (ltI (nth ((nth p0 2).fld 0).toList (nth p0 0).toInt.toNat).toInt (0 : Int)) (PV.bool true) (nth g3 0)).toBool (PV.bool true) (selB ((selB (ltI (nth ((nth p0 2).fld 0).toList (nth p0 0).toInt.toNat).toInt (0 : Int)) (PV.bool true) (nth g3 0)).isB false) (PV.bool (gtI (selB ((selB (ltI (nth ((nth p0 2).fld 0).toList (nth p0 0).toInt.toNat).toInt (0 : Int)) (PV.bool true) (nth g3 0)).isB false) (nth r1 1) PV.unit).toInt (3000 : Int))) PV.unit)).isB false) (nth r1 2) PV.unit).toInt (20 : Int))) PV.unit)).toBool (PV.bool true) (selB ((selB (selB (selB (ltI (nth ((nth p0 2).fld 0).toList (nth p0 0).toInt.toNat).toInt (0 : Int)) (PV.bool true) (nth g3 0)).toBool (PV.bool true) (selB ((selB (ltI (nth ((nth p0 2).fld 0).toList (nth p0 0).toInt.toNat).toInt (0 : Int)) (PV.bool true) (nth g3 0)).isB false) (PV.bool (gtI (selB ((selB (ltI (nth ((nth p0 2).fld 0).toList (nth p0 0).toInt.toNat).toInt (0 : Int)) (PV.bool true) (nth g3 0)).isB false) (nth r1 1) PV.unit).toInt (3000 : Int))) PV.unit)).toBool (PV.bool true) (selB ((selB (selB (ltI (nth ((nth p0 2).fld 0).toList (nth p0 0).toInt.toNat).toInt (0 : Int)) (PV.bool true) (nth g3 0)).toBool (PV.bool true) (selB ((selB (ltI (nth ((nth p0 2).fld 0).toList (nth p0 0).toInt.toNat).toInt (0 : Int)) (PV.bool true) (nth g3 0)).isB false) (PV.bool (gtI (selB ((selB (ltI (nth ((nth p0 2).fld 0).toList (nth p0 0).toInt.toNat).toInt (0 : Int)) (PV.bool true) (nth g3 0)).isB false) (nth r1 1) PV.unit).toInt (3000 : Int))) PV.unit)).isB false) (PV.bool (gtI (selB ((selB (selB (ltI (nth ((nth p0 2).fld 0).toList (nth p0 0).toInt.toNat).toInt (0 : Int)) (PV.bool true) (nth g3 0)).toBool (PV.bool true) (selB ((selB (ltI (nth ((nth p0 2).fld 0).toList (nth p0 0).toInt.toNat).toInt (0 : Int)) (PV.bool true) (nth g3 0)).isB false) (PV.bool (gtI (selB ((selB (ltI (nth ((nth p0 2).fld 0).toList (nth p0 0).toInt.toNat).toInt (0 : Int)) (PV.bool true) (nth g3 0)).isB false) (nth r1 1) PV.unit).toInt (3000 : Int))) PV.unit)).isB false) (nth r1 2) PV.unit).toInt (20 : Int))) PV.unit)).isB false) (PV.bool (geI (selB ((selB (selB (selB (ltI (nth ((nth p0 2).fld 0).toList (nth p0 0).toInt.toNat).toInt (0 : Int)) (PV.bool true) (nth g3 0)).toBool (PV.bool true) (selB ((selB (ltI (nth ((nth p0 2).fld 0).toList (nth p0 0).toInt.toNat).toInt (0 : Int)) (PV.bool true) (nth g3 0)).isB false) (PV.bool (gtI (selB ((selB (ltI (nth ((nth p0 2).fld 0).toList (nth p0 0).toInt.toNat).toInt (0 : Int)) (PV.bool true) (nth g3 0)).isB false) (nth r1 1) PV.unit).toInt (3000 : Int))) PV.unit)).toBool (PV.bool true) (selB ((selB (selB (ltI (nth ((nth p0 2).fld 0).toList (nth p0 0).toInt.toNat).toInt (0 : Int)) (PV.bool true) (nth g3 0)).toBool (PV.bool true) (selB ((selB (ltI (nth ((nth p0 2).fld 0).toList (nth p0 0).toInt.toNat).toInt (0 : Int)) (PV.bool true) (nth g3 0)).isB false) (PV.bool (gtI (selB ((selB (ltI (nth ((nth p0 2).fld 0).toList (nth p0 0).toInt.toNat).toInt (0 : Int)) (PV.bool true) (nth g3 0)).isB false) (nth r1 1) PV.unit).toInt (3000 : Int))) PV.unit)).isB false) (PV.bool (gtI (selB ((selB (selB (ltI (nth ((nth p0 2).fld 0).toList (nth p0 0).toInt.toNat).toInt (0 : Int)) (PV.bool true) (nth g3 0)).toBool (PV.bool true) (selB ((selB (ltI (nth ((nth p0 2).fld 0).toList (nth p0 0).toInt.toNat).toInt (0 : Int)) (PV.bool true) (nth g3 0)).isB false) (PV.bool (gtI (selB ((selB (ltI (nth ((nth p0 2).fld 0).toList (nth p0 0).toInt.toNat).toInt (0 : Int)) (PV.bool true) (nth g3 0)).isB false) (nth r1 1) PV.unit).toInt (3000 : Int))) PV.unit)).isB false) (nth r1 2) PV.unit).toInt (20 : Int))) PV.unit)).isB false) (nth r1 2) PV.unit).toInt (selB ((selB (selB (selB (ltI (nth ((nth p0 2).fld 0).toList (nth p0 0).toInt.toNat).toInt (0 : Int)) (PV.bool true) (nth g3 0)).toBool (PV.bool true) (selB ((selB (ltI (nth ((nth p0 2).fld 0).toList (nth p0 0).toInt.toNat).toInt (0 : Int)) (PV.bool true) (nth g3 0)).isB false) (PV.bool (gtI (selB ((selB (ltI (nth ((nth p0 2).fld 0).toList (nth p0 0).toInt.toNat).toInt (0 : Int)) (PV.bool true) (nth g3 0)).isB false) (nth r1 1) PV.unit).toInt (3000 : Int))) PV.unit)).toBool (PV.bool true) (selB ((selB (selB (ltI (nth ((nth p0 2).fld 0).toList (nth p0 0).toInt.toNat).toInt (0 : Int)) (PV.bool true) (nth g3 0)).toBool (PV.bool true) (selB ((selB (ltI (nth ((nth p0 2).fld 0).toList (nth p0 0).toInt.toNat).toInt (0 : Int)) (PV.bool true) (nth g3 0)).isB false) (PV.bool (gtI (selB ((selB (ltI (nth ((nth p0 2).fld 0).toList (nth p0 0).toInt.toNat).toInt (0 : Int)) (PV.bool true) (nth g3 0)).isB false) (nth r1 1) PV.unit).toInt (3000 : Int))) PV.unit)).isB false) (PV.bool (gtI (selB ((selB (selB (ltI (nth ((nth p0 2).fld 0).toList (nth p0 0).toInt.toNat).toInt (0 : Int)) (PV.bool true) (nth g3 0)).toBool (PV.bool true) (selB ((selB (ltI (nth ((nth p0 2).fld 0).toList (nth p0 0).toInt.toNat).toInt (0 : Int)) (PV.bool true) (nth g3 0)).isB false) (PV.bool (gtI (selB ((selB (ltI (nth ((nth p0 2).fld 0).toList (nth p0 0).toInt.toNat).toInt (0 : Int)) (PV.bool true) (nth g3 0)).isB false) (nth r1 1) PV.unit).toInt (3000 : Int))) PV.unit)).isB false) (nth r1 2) PV.unit).toInt (20 : Int))) PV.unit)).isB false) (PV.int (IntKind.i64.wrap ((selB ((selB (selB (selB (ltI (nth ((nth p0 2).fld 0).toList (nth p0 0).toInt.toNat).toInt (0 : Int)) (PV.bool true) (nth g3 0)).toBool (PV.bool true) (selB ((selB (ltI (nth ((nth p0 2).fld 0).toList (nth p0 0).toInt.toNat).toInt (0 : Int)) (PV.bool true) (nth g3 0)).isB false) (PV.bool (gtI (selB ((selB (ltI (nth ((nth p0 2).fld 0).toList (nth p0 0).toInt.toNat).toInt (0 : Int)) (PV.bool true) (nth g3 0)).isB false) (nth r1 1) PV.unit).toInt (3000 : Int))) PV.unit)).toBool (PV.bool true) (selB ((selB (selB (ltI (nth ((nth p0 2).fld 0).toList (nth p0 0).toInt.toNat).toInt (0 : Int)) (PV.bool true) (nth g3 0)).toBool (PV.bool true) (selB ((selB (ltI (nth ((nth p0 2).fld 0).toList (nth p0 0).toInt.toNat).toInt (0 : Int)) (PV.bool true) (nth g3 0)).isB false) (PV.bool (gtI (selB ((selB (ltI (nth ((nth p0 2).fld 0).toList (nth p0 0).toInt.toNat).toInt (0 : Int)) (PV.bool true) (nth g3 0)).isB false) (nth r1 1) PV.unit).toInt (3000 : Int))) PV.unit)).isB false) (PV.bool (gtI (selB ((selB (selB (ltI (nth ((nth p0 2).fld 0).toList (nth p0 0).toInt.toNat).toInt (0 : Int)) (PV.bool true) (nth g3 0)).toBool (PV.bool true) (selB ((selB (ltI (nth ((nth p0 2).fld 0).toList (nth p0 0).toInt.toNat).toInt (0 : Int)) (PV.bool true) (nth g3 0)).isB false) (PV.bool (gtI (selB ((selB (ltI (nth ((nth p0 2).fld 0).toList (nth p0 0).toInt.toNat).toInt (0 : Int)) (PV.bool true) (nth g3 0)).isB false) (nth r1 1) PV.unit).toInt (3000 : Int))) PV.unit)).isB false) (nth r1 2) PV.unit).toInt (20 : Int))) PV.unit)).isB false) ((nth p0 2).fld 3) PV.unit).toInt - (selB ((selB (selB (selB (ltI (nth ((nth p0 2).fld 0).toList (nth p0 0).toInt.toNat).toInt (0 : Int)) (PV.bool true) (nth g3 0)).toBool (PV.bool true) (selB ((selB (ltI (nth ((nth p0 2).fld 0).toList (nth p0 0).toInt.toNat).toInt (0 : Int)) (PV.bool true) (nth g3 0)).isB false) (PV.bool (gtI (selB ((selB (ltI (nth ((nth p0 2).fld 0).toList (nth p0 0).toInt.toNat).toInt (0 : Int)) (PV.bool true) (nth g3 0)).isB false) (nth r1 1) PV.unit).toInt (3000 : Int))) PV.unit)).toBool (PV.bool true) (selB ((selB (selB (ltI (nth ((nth p0 2).fld 0).toList (nth p0 0).toInt.toNat).toInt (0 : Int)) (PV.bool true) (nth g3 0)).toBool (PV.bool true) (selB ((selB (ltI (nth ((nth p0 2).fld 0).toList (nth p0 0).toInt.toNat).toInt (0 : Int)) (PV.bool true) (nth g3 0)).isB false) (PV.bool (gtI (selB ((selB (ltI (nth ((nth p0 2).fld 0).toList (nth p0 0).toInt.toNat).toInt (0 : Int)) (PV.bool true) (nth g3 0)).isB false) (nth r1 1) PV.unit).toInt (3000 : Int))) PV.unit)).isB false) (PV.bool (gtI (selB ((selB (selB (ltI (nth ((nth p0 2).fld 0).toList (nth p0 0).toInt.toNat).toInt (0 : Int)) (PV.bool true) (nth g3 0)).toBool (PV.bool true) (selB ((selB (ltI (nth ((nth p0 2).fld 0).toList (nth p0 0).toInt.toNat).toInt (0 : Int)) (PV.bool true) (nth g3 0)).isB false) (PV.bool (gtI (selB ((selB (ltI (nth ((nth p0 2).fld 0).toList (nth p0 0).toInt.toNat).toInt (0 : Int)) (PV.bool true) (nth g3 0)).isB false) (nth r1 1) PV.unit).toInt (3000 : Int))) PV.unit)).isB false) (nth r1 2) PV.unit).toInt (20 : Int))) PV.unit)).isB false) (nth p0 0) PV.unit).toInt))) PV.unit).toInt)) PV.unit)).toBool
  (some (Ex.r, [(nth p0 1), (PV.bool false)]))
  (iff (leN ((nth p0 1).toList.length + ((nth p0 0) :: ([] : List PV)).length) 17592186044416)
  (some (Ex.n, [(PV.int (IntKind.i64.wrap ((IntKind.i64.wrap ((nth p0 0).toInt + (1 : Int))) + (nth r1 2).toInt))), (PV.list ((nth p0 1).toList ++ ((nth p0 0) :: ([] : List PV)))), (nth p0 2)]))
  none))))
  none)
  none)
  (some (Ex.x 0, [(nth p0 1)])))
noncomputable def F55 (I : Interp) (n : Nat) (a : List PV) : Option (List PV) :=
  (thenN (thenE (loopEv (L55_0 I n) n [((nth a 0).fld 2), (PV.list ([] : List PV)), (nth a 0)])
  (passB 0))
  (fun p4 => (some [(nth p4 0), (PV.bool true)]))
  (retE fun q5 => [(nth q5 0), (nth q5 1)]))
theorem e55 : ∀ I n a, (compF Try.prog sg 55).map (fun d => d.ev I n a) = some (F55 I n a) := fun I n a => by kernel_rfl
/-! impl.met$1 -/
noncomputable def L65_0 (I : Interp) (n : Nat) (p0 : List PV) : Option (Ex × List PV) :=
  (iff (ltI (nth p0 0).toInt (nth p0 1).toInt)
  (thenN (iff (geI (nth p0 0).toInt (0 : Int))
  (iff (ltI (nth p0 0).toInt ((nth p0 2).toList.length : Int))
  ((I 38 [(nth (nth p0 2).toList (nth p0 0).toInt.toNat)]).bind fun r1 =>
  (iff (selB (nth r1 0).toBool (selB ((nth r1 0).isB true) (PV.bool (!(selB ((nth r1 0).isB true) (mgetL (PV.bool false) (selB ((nth r1 0).isB true) (nth (nth p0 2).toList (nth p0 0).toInt.toNat) PV.unit).toInt (nth p0 3).toList) PV.unit).toBool)) PV.unit) (PV.bool false)).toBool
  ((I 40 [(nth (nth p0 2).toList (nth p0 0).toInt.toNat)]).bind fun r2 =>
  (iff (leN ((nth p0 4).toList.length + ((nth r2 0) :: ([] : List PV)).length) 17592186044416)
  (some (Ex.n, [(nth p0 0), (nth p0 1), (nth p0 2), (PV.list (msetL (nth (nth p0 2).toList (nth p0 0).toInt.toNat).toInt (PV.bool true) (nth p0 3).toList)), (PV.list ((nth p0 4).toList ++ ((nth r2 0) :: ([] : List PV))))]))
  none))
  (some (Ex.n, [(nth p0 0), (nth p0 1), (nth p0 2), (nth p0 3), (nth p0 4)]))))
  none)
  none)
  (fun p3 => (some (Ex.n, [(PV.int (IntKind.i64.wrap ((nth p3 0).toInt + (1 : Int)))), (nth p3 1), (nth p3 2), (nth p3 3), (nth p3 4)])))
  passE)
  (some (Ex.x 0, [(nth p0 3), (nth p0 4)])))
noncomputable def F65 (I : Interp) (n : Nat) (a : List PV) : Option (List PV) :=
  (thenN (thenE (loopEv (L65_0 I n) n [(PV.int (0 : Int)), (PV.int ((nth a 0).toList.length : Int)), (nth a 0), (nth a 1), (nth a 2)])
  (passB 0))
  (fun p4 => (some [(nth p4 0), (nth p4 1)]))
  (retE fun q5 => [(nth q5 0), (nth q5 1)]))
theorem e65 : ∀ I n a, (compF Try.prog sg 65).map (fun d => d.ev I n a) = some (F65 I n a) := fun I n a => by kernel_rfl
/-! impl.met$1 -/
noncomputable def L4161_0 (I : Interp) (n : Nat) (p0 : List PV) : Option (Ex × List PV) :=
  (iff (ltI (nth p0 0).toInt (nth p0 1).toInt)
  (thenN (iff (geI (nth p0 0).toInt (0 : Int))
  (iff (ltI (nth p0 0).toInt ((nth p0 2).toList.length : Int))
  ((I 38 [(nth (nth p0 2).toList (nth p0 0).toInt.toNat)]).bind fun r1 =>
  (iff (selB (nth r1 0).toBool (selB ((nth r1 0).isB true) (PV.bool (!(selB ((nth r1 0).isB true) (mgetL (PV.bool false) (selB ((nth r1 0).isB true) (nth (nth p0 2).toList (nth p0 0).toInt.toNat) PV.unit).toInt (nth p0 3).toList) PV.unit).toBool)) PV.unit) (PV.bool false)).toBool
  ((I 40 [(nth (nth p0 2).toList (nth p0 0).toInt.toNat)]).bind fun r2 =>
  (iff (leN ((nth p0 4).toList.length + ((nth r2 0) :: ([] : List PV)).length) 17592186044416)
  (some (Ex.n, [(nth p0 0), (nth p0 1), (nth p0 2), (PV.list (msetL (nth (nth p0 2).toList (nth p0 0).toInt.toNat).toInt (PV.bool true) (nth p0 3).toList)), (PV.list ((nth p0 4).toList ++ ((nth r2 0) :: ([] : List PV))))]))
  none))
  (some (Ex.n, [(nth p0 0), (nth p0 1), (nth p0 2), (nth p0 3), (nth p0 4)]))))
  none)
  none)
  (fun p3 => (some (Ex.n, [(PV.int (IntKind.i64.wrap ((nth p3 0).toInt + (1 : Int)))), (nth p3 1), (nth p3 2), (nth p3 3), (nth p3 4)])))
  passE)
  (some (Ex.x 0, [(nth p0 2), (nth p0 3), (nth p0 4)])))
noncomputable def F4161 (I : Interp) (n : Nat) (a : List PV) : Option (List PV) :=
  (thenN (thenE (loopEv (L4161_0 I n) n [(PV.int (0 : Int)), (PV.int ((nth a 0).toList.length : Int)), (nth a 0), (nth a 1), (nth a 2)])
  (passB 0))
  (fun p4 => (some [(nth p4 0), (nth p4 1), (nth p4 2)]))
  (retE fun q5 => [(nth q5 0), (nth q5 1), (nth q5 2)]))
theorem e4161 : ∀ I n a, (compF Try.prog sg 4161).map (fun d => d.ev I n a) = some (F4161 I n a) := fun I n a => by kernel_rfl
/-! impl.met$1 -/
noncomputable def L8257_0 (I : Interp) (n : Nat) (p0 : List PV) : Option (Ex × List PV) :=
  (iff (ltI (nth p0 0).toInt (nth p0 1).toInt)
  (thenN (iff (geI (nth p0 0).toInt (0 : Int))
  (iff (ltI (nth p0 0).toInt ((nth p0 2).toList.length : Int))
  ((I 38 [(nth (nth p0 2).toList (nth p0 0).toInt.toNat)]).bind fun r1 =>
  (iff (selB (nth r1 0).toBool (selB ((nth r1 0).isB true) (PV.bool (!(selB ((nth r1 0).isB true) (mgetL (PV.bool false) (selB ((nth r1 0).isB true) (nth (nth p0 2).toList (nth p0 0).toInt.toNat) PV.unit).toInt (nth p0 3).toList) PV.unit).toBool)) PV.unit) (PV.bool false)).toBool
  ((I 40 [(nth (nth p0 2).toList (nth p0 0).toInt.toNat)]).bind fun r2 =>
  (iff (leN ((nth p0 4).toList.length + ((nth r2 0) :: ([] : List PV)).length) 17592186044416)
  (some (Ex.n, [(nth p0 0), (nth p0 1), (nth p0 2), (PV.list (msetL (nth (nth p0 2).toList (nth p0 0).toInt.toNat).toInt (PV.bool true) (nth p0 3).toList)), (PV.list ((nth p0 4).toList ++ ((nth r2 0) :: ([] : List PV))))]))
  none))
  (some (Ex.n, [(nth p0 0), (nth p0 1), (nth p0 2), (nth p0 3), (nth p0 4)]))))
  none)
  none)
  (fun p3 => (some (Ex.n, [(PV.int (IntKind.i64.wrap ((nth p3 0).toInt + (1 : Int)))), (nth p3 1), (nth p3 2), (nth p3 3), (nth p3 4)])))
  passE)
  (some (Ex.x 0, [(nth p0 3), (nth p0 4)])))
noncomputable def F8257 (I : Interp) (n : Nat) (a : List PV) : Option (List PV) :=
  (thenN (thenE (loopEv (L8257_0 I n) n [(PV.int (0 : Int)), (PV.int ((nth a 0).toList.length : Int)), (nth a 0), (nth a 1), (nth a 2)])
  (passB 0))
  (fun p4 => (some [(nth p4 0), (nth p4 1)]))
  (retE fun q5 => [(nth q5 0), (nth q5 1)]))
theorem e8257 : ∀ I n a, (compF Try.prog sg 8257).map (fun d => d.ev I n a) = some (F8257 I n a) := fun I n a => by kernel_rfl
/-! slices.BinarySearch[[]int,int] -/
noncomputable def L81_0 (I : Interp) (n : Nat) (p0 : List PV) : Option (Ex × List PV) :=
  (iff (ltI (nth p0 3).toInt (nth p0 0).toInt)
  (iff (geI (1 : Int) (0 : Int))
  (iff (geI (IntKind.i64.wrap (arith BinOp.shr IntKind.u64 (IntKind.u64.wrap (IntKind.i64.wrap ((nth p0 3).toInt + (nth p0 0).toInt))) (1 : Int))) (0 : Int))
  (iff (ltI (IntKind.i64.wrap (arith BinOp.shr IntKind.u64 (IntKind.u64.wrap (IntKind.i64.wrap ((nth p0 3).toInt + (nth p0 0).toInt))) (1 : Int))) ((nth p0 2).toList.length : Int))
  ((I 88 [(nth (nth p0 2).toList (IntKind.i64.wrap (arith BinOp.shr IntKind.u64 (IntKind.u64.wrap (IntKind.i64.wrap ((nth p0 3).toInt + (nth p0 0).toInt))) (1 : Int))).toNat), (nth p0 4)]).bind fun r1 =>
  (iff (nth r1 0).toBool
  (some (Ex.n, [(nth p0 0), (nth p0 1), (nth p0 2), (PV.int (IntKind.i64.wrap ((IntKind.i64.wrap (arith BinOp.shr IntKind.u64 (IntKind.u64.wrap (IntKind.i64.wrap ((nth p0 3).toInt + (nth p0 0).toInt))) (1 : Int))) + (1 : Int)))), (nth p0 4)]))
  (some (Ex.n, [(PV.int (IntKind.i64.wrap (arith BinOp.shr IntKind.u64 (IntKind.u64.wrap (IntKind.i64.wrap ((nth p0 3).toInt + (nth p0 0).toInt))) (1 : Int)))), (nth p0 1), (nth p0 2), (nth p0 3), (nth p0 4)]))))
  none)
  none)
  none)
  (some (Ex.x 0, [(nth p0 1), (nth p0 2), (nth p0 3), (nth p0 4)])))
noncomputable def F81 (I : Interp) (n : Nat) (a : List PV) : Option (List PV) :=
  (thenN (thenE (loopEv (L81_0 I n) n [(PV.int ((nth a 0).toList.length : Int)), (PV.int ((nth a 0).toList.length : Int)), (nth a 0), (PV.int (0 : Int)), (nth a 1)])
  (passB 0))
  (fun p2 => ((iff ((ltI (nth p2 2).toInt (nth p2 0).toInt) == true)
  (iff (geI (selB ((ltI (nth p2 2).toInt (nth p2 0).toInt) == true) (nth p2 2) PV.unit).toInt (0 : Int))
  (iff (ltI (selB ((ltI (nth p2 2).toInt (nth p2 0).toInt) == true) (nth p2 2) PV.unit).toInt ((selB ((ltI (nth p2 2).toInt (nth p2 0).toInt) == true) (nth p2 1) PV.unit).toList.length : Int))
  (some [(nth (selB ((ltI (nth p2 2).toInt (nth p2 0).toInt) == true) (nth p2 1) PV.unit).toList (selB ((ltI (nth p2 2).toInt (nth p2 0).toInt) == true) (nth p2 2) PV.unit).toInt.toNat), (nth (selB ((ltI (nth p2 2).toInt (nth p2 0).toInt) == true) (nth p2 1) PV.unit).toList (selB ((ltI (nth p2 2).toInt (nth p2 0).toInt) == true) (nth p2 2) PV.unit).toInt.toNat)])
  none)
  none)
  (some [PV.unit, PV.unit])).bind fun g3 =>
  ((iff ((selB ((ltI (nth p2 2).toInt (nth p2 0).toInt) == true) (selB ((ltI (nth p2 2).toInt (nth p2 0).toInt) == true) (PV.bool (eqI (selB ((ltI (nth p2 2).toInt (nth p2 0).toInt) == true) (nth g3 0) PV.unit).toInt (selB ((ltI (nth p2 2).toInt (nth p2 0).toInt) == true) (nth p2 3) PV.unit).toInt)) PV.unit) PV.unit).isB false)
  (iff (geI (selB ((selB ((ltI (nth p2 2).toInt (nth p2 0).toInt) == true) (selB ((ltI (nth p2 2).toInt (nth p2 0).toInt) == true) (PV.bool (eqI (selB ((ltI (nth p2 2).toInt (nth p2 0).toInt) == true) (nth g3 0) PV.unit).toInt (selB ((ltI (nth p2 2).toInt (nth p2 0).toInt) == true) (nth p2 3) PV.unit).toInt)) PV.unit) PV.unit).isB false) (nth p2 2) PV.unit).toInt (0 : Int))
  (iff (ltI (selB ((selB ((ltI (nth p2 2).toInt (nth p2 0).toInt) == true) (selB ((ltI (nth p2 2).toInt (nth p2 0).toInt) == true) (PV.bool (eqI (selB ((ltI (nth p2 2).toInt (nth p2 0).toInt) == true) (nth g3 0) PV.unit).toInt (selB ((ltI (nth p2 2).toInt (nth p2 0).toInt) == true) (nth p2 3) PV.unit).toInt)) PV.unit) PV.unit).isB false) (nth p2 2) PV.unit).toInt ((selB ((selB ((ltI (nth p2 2).toInt (nth p2 0).toInt) == true) (selB ((ltI (nth p2 2).toInt (nth p2 0).toInt) == true) (PV.bool (eqI (selB ((ltI (nth p2 2).toInt (nth p2 0).toInt) == true) (nth g3 0) PV.unit).toInt (selB ((ltI (nth p2 2).toInt (nth p2 0).toInt) == true) (nth p2 3) PV.unit).toInt)) PV.unit) PV.unit).isB false) (nth p2 1) PV.unit).toList.length : Int))
  (some [(nth (selB ((selB ((ltI (nth p2 2).toInt (nth p2 0).toInt) == true) (selB ((ltI (nth p2 2).toInt (nth p2 0).toInt) == true) (PV.bool (eqI (selB ((ltI (nth p2 2).toInt (nth p2 0).toInt) == true) (nth g3 0) PV.unit).toInt (selB ((ltI (nth p2 2).toInt (nth p2 0).toInt) == true) (nth p2 3) PV.unit).toInt)) PV.unit) PV.unit).isB false) (nth p2 1) PV.unit).toList (selB ((selB ((ltI (nth p2 2).toInt (nth p2 0).toInt) == true) (selB ((ltI (nth p2 2).toInt (nth p2 0).toInt) == true) (PV.bool (eqI (selB ((ltI (nth p2 2).toInt (nth p2 0).toInt) == true) (nth g3 0) PV.unit).toInt (selB ((ltI (nth p2 2).toInt (nth p2 0).toInt) == true) (nth p2 3) PV.unit).toInt)) PV.unit) PV.unit).isB false) (nth p2 2) PV.unit).toInt.toNat), (nth (selB ((selB ((ltI (nth p2 2).toInt (nth p2 0).toInt) == true) (selB ((ltI (nth p2 2).toInt (nth p2 0).toInt) == true) (PV.bool (eqI (selB ((ltI (nth p2 2).toInt (nth p2 0).toInt) == true) (nth g3 0) PV.unit).toInt (selB ((ltI (nth p2 2).toInt (nth p2 0).toInt) == true) (nth p2 3) PV.unit).toInt)) PV.unit) PV.unit).isB false) (nth p2 1) PV.unit).toList (selB ((selB ((ltI (nth p2 2).toInt (nth p2 0).toInt) == true) (selB ((ltI (nth p2 2).toInt (nth p2 0).toInt) == true) (PV.bool (eqI (selB ((ltI (nth p2 2).toInt (nth p2 0).toInt) == true) (nth g3 0) PV.unit).toInt (selB ((ltI (nth p2 2).toInt (nth p2 0).toInt) == true) (nth p2 3) PV.unit).toInt)) PV.unit) PV.unit).isB false) (nth p2 2) PV.unit).toInt.toNat)])
  none)
  none)
  (some [PV.unit, PV.unit])).bind fun g4 =>
  ((iff ((selB ((ltI (nth p2 2).toInt (nth p2 0).toInt) == true) (selB ((ltI (nth p2 2).toInt (nth p2 0).toInt) == true) (PV.bool (eqI (selB ((ltI (nth p2 2).toInt (nth p2 0).toInt) == true) (nth g3 0) PV.unit).toInt (selB ((ltI (nth p2 2).toInt (nth p2 0).toInt) == true) (nth p2 3) PV.unit).toInt)) PV.unit) PV.unit).isB false)
  ((I 93 [(selB ((selB ((ltI (nth p2 2).toInt (nth p2 0).toInt) == true) (selB ((ltI (nth p2 2).toInt (nth p2 0).toInt) == true) (PV.bool (eqI (selB ((ltI (nth p2 2).toInt (nth p2 0).toInt) == true) (nth g3 0) PV.unit).toInt (selB ((ltI (nth p2 2).toInt (nth p2 0).toInt) == true) (nth p2 3) PV.unit).toInt)) PV.unit) PV.unit).isB false) (nth g4 0) PV.unit)]).bind fun r5 =>
  (some [(nth r5 0), (nth r5 0)]))
  (some [PV.unit, PV.unit])).bind fun g6 =>
  ((iff ((selB ((selB ((ltI (nth p2 2).toInt (nth p2 0).toInt) == true) (selB ((ltI (nth p2 2).toInt (nth p2 0).toInt) == true) (PV.bool (eqI (selB ((ltI (nth p2 2).toInt (nth p2 0).toInt) == true) (nth g3 0) PV.unit).toInt (selB ((ltI (nth p2 2).toInt (nth p2 0).toInt) == true) (nth p2 3) PV.unit).toInt)) PV.unit) PV.unit).isB false) (nth g6 0) PV.unit).isB true)
  ((I 93 [(selB ((selB ((selB ((ltI (nth p2 2).toInt (nth p2 0).toInt) == true) (selB ((ltI (nth p2 2).toInt (nth p2 0).toInt) == true) (PV.bool (eqI (selB ((ltI (nth p2 2).toInt (nth p2 0).toInt) == true) (nth g3 0) PV.unit).toInt (selB ((ltI (nth p2 2).toInt (nth p2 0).toInt) == true) (nth p2 3) PV.unit).toInt)) PV.unit) PV.unit).isB false) (nth g6 0) PV.unit).isB true) (nth p2 3) PV.unit)]).bind fun r7 =>
  (some [(nth r7 0), (nth r7 0)]))
  (some [PV.unit, PV.unit])).bind fun g8 =>
  (some [(nth p2 2), (selB (ltI (nth p2 2).toInt (nth p2 0).toInt) (selB ((ltI (nth p2 2).toInt (nth p2 0).toInt) == true) (selB (selB ((ltI (nth p2 2).toInt (nth p2 0).toInt) == true) (selB ((ltI (nth p2 2).toInt (nth p2 0).toInt) == true) (PV.bool (eqI (selB ((ltI (nth p2 2).toInt (nth p2 0).toInt) == true) (nth g3 0) PV.unit).toInt (selB ((ltI (nth p2 2).toInt (nth p2 0).toInt) == true) (nth p2 3) PV.unit).toInt)) PV.unit) PV.unit).toBool (PV.bool true) (selB ((selB ((ltI (nth p2 2).toInt (nth p2 0).toInt) == true) (selB ((ltI (nth p2 2).toInt (nth p2 0).toInt) == true) (PV.bool (eqI (selB ((ltI (nth p2 2).toInt (nth p2 0).toInt) == true) (nth g3 0) PV.unit).toInt (selB ((ltI (nth p2 2).toInt (nth p2 0).toInt) == true) (nth p2 3) PV.unit).toInt)) PV.unit) PV.unit).isB false) (selB (selB ((selB ((ltI (nth p2 2).toInt (nth p2 0).toInt) == true) (selB ((ltI (nth p2 2).toInt (nth p2 0).toInt) == true) (PV.bool (eqI (selB ((ltI (nth p2 2).toInt (nth p2 0).toInt) == true) (nth g3 0) PV.unit).toInt (selB ((ltI (nth p2 2).toInt (nth p2 0).toInt) == true) (nth p2 3) PV.unit).toInt)) PV.unit) PV.unit).isB false) (nth g6 0) PV.unit).toBool (nth g8 0) (PV.bool false)) PV.unit)) PV.unit) (PV.bool false))]))))))
  (retE fun q9 => [(nth q9 0), (nth q9 1)]))
theorem e81 : ∀ I n a, (compF Try.prog sg 81).map (fun d => d.ev I n a) = some (F81 I n a) := fun I n a => by kernel_rfl
/-! impl.kidsAt -/
noncomputable def F36 (I : Interp) (n : Nat) (a : List PV) : Option (List PV) :=
  (iff (geI (nth a 1).toInt (0 : Int))
  (iff (ltI (nth a 1).toInt (((nth a 0).fld 0).toList.length : Int))
  ((I 66 [(nth ((nth a 0).fld 0).toList (nth a 1).toInt.toNat)]).bind fun r0 =>
  (iff (geI (IntKind.i64.wrap ((nth a 1).toInt + (1 : Int))) (0 : Int))
  (iff (leI (IntKind.i64.wrap ((nth a 1).toInt + (1 : Int))) (IntKind.i64.wrap ((IntKind.i64.wrap ((nth a 1).toInt + (1 : Int))) + (nth r0 2).toInt)))
  (iff (leI (IntKind.i64.wrap ((IntKind.i64.wrap ((nth a 1).toInt + (1 : Int))) + (nth r0 2).toInt)) (((nth a 0).fld 0).toList.length : Int))
  (some [(PV.list ((((nth a 0).fld 0).toList.drop (IntKind.i64.wrap ((nth a 1).toInt + (1 : Int))).toNat).take ((IntKind.i64.wrap ((IntKind.i64.wrap ((nth a 1).toInt + (1 : Int))) + (nth r0 2).toInt)).toNat - (IntKind.i64.wrap ((nth a 1).toInt + (1 : Int))).toNat)))])
  none)
  none)
  none))
  none)
  none)
theorem e36 : ∀ I n a, (compF Try.prog sg 36).map (fun d => d.ev I n a) = some (F36 I n a) := fun I n a => by kernel_rfl
/-! impl.blocksOf -/
noncomputable def L60_0 (I : Interp) (n : Nat) (p7 : List PV) : Option (Ex × List PV) :=
  (iff (ltI (nth p7 0).toInt ((nth p7 2).fld 3).toInt)
  (iff (geI (nth p7 0).toInt (0 : Int))
  (iff (ltI (nth p7 0).toInt (((nth p7 2).fld 0).toList.length : Int))
  ((I 66 [(nth ((nth p7 2).fld 0).toList (nth p7 0).toInt.toNat)]).bind fun r8 =>
  (letB (selB (!(nth r8 3).toBool) (PV.bool true) (selB ((!(nth r8 3).toBool) == false) (PV.bool (gtI (selB ((!(nth r8 3).toBool) == false) (PV.int (IntKind.i64.wrap ((selB ((!(nth r8 3).toBool) == false) (PV.int (IntKind.i64.wrap ((selB ((!(nth r8 3).toBool) == false) (nth p7 0) PV.unit).toInt + (1 : Int)))) PV.unit).toInt + (selB ((!(nth r8 3).toBool) == false) (nth r8 2) PV.unit).toInt))) PV.unit).toInt (selB ((!(nth r8 3).toBool) == false) ((nth p7 2).fld 3) PV.unit).toInt)) PV.unit)) fun v9 =>
  (iff v9.toBool
  (some (Ex.r, [(PV.list ([] : List PV)), (PV.bool false)]))
  (iff (leN ((nth p7 1).toList.length + ((nth p7 0) :: ([] : List PV)).length) 17592186044416)
  (some (Ex.n, [(PV.int (IntKind.i64.wrap ((nth p7 0).toInt + (IntKind.i64.wrap ((1 : Int) + (nth r8 2).toInt))))), (PV.list ((nth p7 1).toList ++ ((nth p7 0) :: ([] : List PV)))), (nth p7 2)]))
  none))))
  none)
  none)
  (some (Ex.x 0, [(nth p7 1)])))
noncomputable def F60 (I : Interp) (n : Nat) (a : List PV) : Option (List PV) :=
  ((I 67 [((nth a 0).fld 1), (PV.int (1 : Int)), (PV.int (3000 : Int))]).bind fun r0 =>
  (letB (selB (!(nth r0 0).toBool) (PV.bool true) (selB ((!(nth r0 0).toBool) == false) (PV.bool (neI (selB ((!(nth r0 0).toBool) == false) (PV.int ((selB ((!(nth r0 0).toBool) == false) ((nth a 0).fld 0) PV.unit).toList.length : Int)) PV.unit).toInt (selB ((!(nth r0 0).toBool) == false) (PV.int (IntKind.i64.wrap ((2 : Int) * (selB ((!(nth r0 0).toBool) == false) ((nth a 0).fld 1) PV.unit).toInt))) PV.unit).toInt)) PV.unit)) fun v1 =>
  (letB (selB (v1.isB false) (selB (selB (v1.isB false) (selB (v1.isB false) (PV.bool (neI (selB (v1.isB false) ((nth a 0).fld 2) PV.unit).toInt (0 : Int))) PV.unit) PV.unit).toBool (selB ((selB (v1.isB false) (selB (v1.isB false) (PV.bool (neI (selB (v1.isB false) ((nth a 0).fld 2) PV.unit).toInt (0 : Int))) PV.unit) PV.unit).isB true) (PV.bool (neI (selB ((selB (v1.isB false) (selB (v1.isB false) (PV.bool (neI (selB (v1.isB false) ((nth a 0).fld 2) PV.unit).toInt (0 : Int))) PV.unit) PV.unit).isB true) ((nth a 0).fld 2) PV.unit).toInt (selB ((selB (v1.isB false) (selB (v1.isB false) (PV.bool (neI (selB (v1.isB false) ((nth a 0).fld 2) PV.unit).toInt (0 : Int))) PV.unit) PV.unit).isB true) ((nth a 0).fld 1) PV.unit).toInt)) PV.unit) (PV.bool false)) PV.unit) fun v2 =>
  (letB (selB v1.toBool (PV.bool true) v2) fun v3 =>
  ((iff (v3.isB false)
  ((I 67 [(selB (v3.isB false) ((nth a 0).fld 3) PV.unit), (selB (v3.isB false) ((nth a 0).fld 2) PV.unit), (selB (v3.isB false) (PV.int (IntKind.i64.wrap ((selB (v3.isB false) ((nth a 0).fld 2) PV.unit).toInt + (selB (v3.isB false) ((nth a 0).fld 1) PV.unit).toInt))) PV.unit)]).bind fun r4 =>
  (some [(nth r4 0), (nth r4 0)]))
  (some [PV.unit, PV.unit])).bind fun g5 =>
  (letB (selB v3.toBool (PV.bool true) (selB (v3.isB false) (PV.bool (!(nth g5 0).toBool)) PV.unit)) fun v6 =>
  (iff v6.toBool
  (some [(PV.list ([] : List PV)), (PV.bool false)])
  (thenN (thenE (loopEv (L60_0 I n) n [((nth a 0).fld 2), (PV.list ([] : List PV)), (nth a 0)])
  (passB 0))
  (fun p10 => (some [(nth p10 0), (PV.bool true)]))
  (retE fun q11 => [(nth q11 0), (nth q11 1)])))))))))
theorem e60 : ∀ I n a, (compF Try.prog sg 60).map (fun d => d.ev I n a) = some (F60 I n a) := fun I n a => ew_ev (g := F60) (fun I n a => by kernel_rfl) I n a
/-! impl.isInt -/
noncomputable def F63 (I : Interp) (n : Nat) (a : List PV) : Option (List PV) :=
  ((I 38 [(nth a 0)]).bind fun r0 =>
  ((iff ((!(nth r0 0).toBool) == true)
  ((I 80 [(selB ((!(nth r0 0).toBool) == true) (nth a 0) PV.unit)]).bind fun r1 =>
  (some [(nth r1 0), (nth r1 0)]))
  (some [PV.unit, PV.unit])).bind fun g2 =>
  ((iff ((!(nth r0 0).toBool) == true)
  ((I 79 [(nth g2 0)]).bind fun r3 =>
  (some [(nth r3 0), (nth r3 0)]))
  (some [PV.unit, PV.unit])).bind fun g4 =>
  (some [(selB (!(nth r0 0).toBool) (nth g4 0) (PV.bool false))]))))
theorem e63 : ∀ I n a, (compF Try.prog sg 63).map (fun d => d.ev I n a) = some (F63 I n a) := fun I n a => by kernel_rfl
/-! spec.l18Order -/
noncomputable def L52_0 (I : Interp) (n : Nat) (p0 : List PV) : Option (Ex × List PV) :=
  (iff (ltI (nth p0 0).toInt ((nth p0 1).toList.length : Int))
  (thenN (iff (geI (nth p0 0).toInt (0 : Int))
  (iff (ltI (nth p0 0).toInt ((nth p0 1).toList.length : Int))
  ((I 72 [(nth (nth p0 1).toList (nth p0 0).toInt.toNat)]).bind fun r1 =>
  ((iff ((nth r1 0).isB true)
  (iff (geI (selB ((nth r1 0).isB true) (nth p0 0) PV.unit).toInt (0 : Int))
  (iff (ltI (selB ((nth r1 0).isB true) (nth p0 0) PV.unit).toInt ((selB ((nth r1 0).isB true) (nth p0 1) PV.unit).toList.length : Int))
  (some [(nth (selB ((nth r1 0).isB true) (nth p0 1) PV.unit).toList (selB ((nth r1 0).isB true) (nth p0 0) PV.unit).toInt.toNat), (nth (selB ((nth r1 0).isB true) (nth p0 1) PV.unit).toList (selB ((nth r1 0).isB true) (nth p0 0) PV.unit).toInt.toNat)])
  none)
  none)
  (some [PV.unit, PV.unit])).bind fun g2 =>
  ((iff ((nth r1 0).isB true)
  ((I 74 [(selB ((nth r1 0).isB true) (nth g2 0) PV.unit)]).bind fun r3 =>
  (some [(nth r3 0), (nth r3 0)]))
  (some [PV.unit, PV.unit])).bind fun g4 =>
  ((iff ((nth r1 0).isB true)
  ((I 73 [(nth p0 2), (nth g4 0)]).bind fun r5 =>
  (some [(nth r5 0), (nth r5 0)]))
  (some [PV.unit, PV.unit])).bind fun g6 =>
  (iff (selB (nth r1 0).toBool (selB ((nth r1 0).isB true) (PV.bool (!(nth g6 0).toBool)) PV.unit) (PV.bool false)).toBool
  (iff (geI (nth p0 0).toInt (0 : Int))
  (iff (ltI (nth p0 0).toInt ((nth p0 1).toList.length : Int))
  ((I 74 [(nth (nth p0 1).toList (nth p0 0).toInt.toNat)]).bind fun r7 =>
  (iff (leN ((nth p0 2).toList.length + ((nth r7 0) :: ([] : List PV)).length) 17592186044416)
  (some (Ex.n, [(nth p0 0), (nth p0 1), (PV.list ((nth p0 2).toList ++ ((nth r7 0) :: ([] : List PV)))), (nth p0 3)]))
  none))
  none)
  none)
  (some (Ex.n, [(nth p0 0), (nth p0 1), (nth p0 2), (nth p0 3)])))))))
  none)
  none)
  (fun p8 => (some (Ex.n, [(PV.int (IntKind.i64.wrap ((nth p8 0).toInt + (1 : Int)))), (nth p8 1), (nth p8 2), (nth p8 3)])))
  passE)
  (some (Ex.x 0, [(nth p0 2), (nth p0 3)])))
noncomputable def L52_1 (I : Interp) (n : Nat) (p12 : List PV) : Option (Ex × List PV) :=
  (iff (leI (nth p12 0).toInt (nth p12 1).toInt)
  (thenN (iff (geI (nth p12 2).toInt (0 : Int))
  (iff (ltI (nth p12 2).toInt ((nth p12 3).toList.length : Int))
  (iff (geI (IntKind.i64.wrap ((nth (nth p12 3).toList (nth p12 2).toInt.toNat).toInt + (nth p12 0).toInt)) (0 : Int))
  (iff (ltI (IntKind.i64.wrap ((nth (nth p12 3).toList (nth p12 2).toInt.toNat).toInt + (nth p12 0).toInt)) (((nth p12 4).fld 0).toList.length : Int))
  ((I 72 [(nth ((nth p12 4).fld 0).toList (IntKind.i64.wrap ((nth (nth p12 3).toList (nth p12 2).toInt.toNat).toInt + (nth p12 0).toInt)).toNat)]).bind fun r13 =>
  ((iff ((nth r13 0).isB true)
  ((I 74 [(selB ((nth r13 0).isB true) (nth ((nth p12 4).fld 0).toList (IntKind.i64.wrap ((nth (nth p12 3).toList (nth p12 2).toInt.toNat).toInt + (nth p12 0).toInt)).toNat) PV.unit)]).bind fun r14 =>
  (some [(nth r14 0), (nth r14 0)]))
  (some [PV.unit, PV.unit])).bind fun g15 =>
  ((iff ((nth r13 0).isB true)
  ((I 73 [(nth p12 3), (nth g15 0)]).bind fun r16 =>
  (some [(nth r16 0), (nth r16 0)]))
  (some [PV.unit, PV.unit])).bind fun g17 =>
  (iff (selB (nth r13 0).toBool (selB ((nth r13 0).isB true) (PV.bool (!(nth g17 0).toBool)) PV.unit) (PV.bool false)).toBool
  ((I 74 [(nth ((nth p12 4).fld 0).toList (IntKind.i64.wrap ((nth (nth p12 3).toList (nth p12 2).toInt.toNat).toInt + (nth p12 0).toInt)).toNat)]).bind fun r18 =>
  (iff (leN ((nth p12 3).toList.length + ((nth r18 0) :: ([] : List PV)).length) 17592186044416)
  (some (Ex.n, [(nth p12 0), (nth p12 1), (nth p12 2), (PV.list ((nth p12 3).toList ++ ((nth r18 0) :: ([] : List PV)))), (nth p12 4)]))
  none))
  (some (Ex.n, [(nth p12 0), (nth p12 1), (nth p12 2), (nth p12 3), (nth p12 4)]))))))
  none)
  none)
  none)
  none)
  (fun p19 => (some (Ex.n, [(PV.int (IntKind.i64.wrap ((nth p19 0).toInt + (1 : Int)))), (nth p19 1), (nth p19 2), (nth p19 3), (nth p19 4)])))
  passE)
  (some (Ex.x 4, [(nth p12 2), (nth p12 3), (nth p12 4)])))
noncomputable def L52_2 (I : Interp) (n : Nat) (p10 : List PV) : Option (Ex × List PV) :=
  (iff (ltI (nth p10 0).toInt ((nth p10 1).toList.length : Int))
  (iff (geI (nth p10 0).toInt (0 : Int))
  (iff (ltI (nth p10 0).toInt ((nth p10 1).toList.length : Int))
  (iff (geI (nth (nth p10 1).toList (nth p10 0).toInt.toNat).toInt (0 : Int))
  (iff (ltI (nth (nth p10 1).toList (nth p10 0).toInt.toNat).toInt (((nth p10 2).fld 0).toList.length : Int))
  ((I 58 [(nth ((nth p10 2).fld 0).toList (nth (nth p10 1).toList (nth p10 0).toInt.toNat).toInt.toNat)]).bind fun r11 =>
  (thenN (thenE (loopEv (L52_1 I n) n [(PV.int (1 : Int)), (nth r11 2), (nth p10 0), (nth p10 1), (nth p10 2)])
  (passB 4))
  (fun p20 => (some (Ex.n, [(PV.int (IntKind.i64.wrap ((nth p20 0).toInt + (1 : Int)))), (nth p20 1), (nth p20 2)])))
  passE))
  none)
  none)
  none)
  none)
  (some (Ex.x 2, [(nth p10 1)])))
noncomputable def F52 (I : Interp) (n : Nat) (a : List PV) : Option (List PV) :=
  (thenN (thenE (loopEv (L52_0 I n) n [(PV.int (0 : Int)), (nth a 1), (PV.list ([] : List PV)), (nth a 0)])
  (passB 0))
  (fun p9 => (thenN (thenE (loopEv (L52_2 I n) n [(PV.int (0 : Int)), (nth p9 0), (nth p9 1)])
  (passB 2))
  (fun p21 => (some [(nth p21 0)]))
  (retE fun q22 => [(nth q22 0)])))
  (retE fun q23 => [(nth q23 0)]))
theorem e52 : ∀ I n a, (compF Try.prog sg 52).map (fun d => d.ev I n a) = some (F52 I n a) := fun I n a => by kernel_rfl
/-! impl.isBlock -/
noncomputable def F64 (I : Interp) (n : Nat) (a : List PV) : Option (List PV) :=
  ((I 40 [(nth a 1)]).bind fun r0 =>
  ((I 81 [(nth a 0), (nth r0 0)]).bind fun r1 =>
  ((I 38 [(nth a 1)]).bind fun r2 =>
  (some [(selB (nth r2 0).toBool (selB ((nth r2 0).isB true) (nth r1 1) PV.unit) (PV.bool false))]))))
theorem e64 : ∀ I n a, (compF Try.prog sg 64).map (fun d => d.ev I n a) = some (F64 I n a) := fun I n a => by kernel_rfl
/-! impl.met -/
noncomputable def L35_0 (I : Interp) (n : Nat) (p1 : List PV) : Option (Ex × List PV) :=
  (iff (ltI (nth p1 0).toInt ((nth p1 3).toList.length : Int))
  (iff (geI (nth p1 0).toInt (0 : Int))
  (iff (ltI (nth p1 0).toInt ((nth p1 3).toList.length : Int))
  ((I 36 [(nth p1 1), (nth (nth p1 3).toList (nth p1 0).toInt.toNat)]).bind fun r2 =>
  ((I 65 [(nth r2 0), (nth p1 2), (nth p1 3)]).bind fun r3 =>
  (some (Ex.n, [(PV.int (IntKind.i64.wrap ((nth p1 0).toInt + (1 : Int)))), (nth p1 1), (nth r3 0), (nth r3 1)]))))
  none)
  none)
  (some (Ex.x 0, [(nth p1 3)])))
noncomputable def F35 (I : Interp) (n : Nat) (a : List PV) : Option (List PV) :=
  ((I 65 [(nth a 1), (PV.list ([] : List PV)), (PV.list ([] : List PV))]).bind fun r0 =>
  (thenN (thenE (loopEv (L35_0 I n) n [(PV.int (0 : Int)), (nth a 0), (nth r0 0), (nth r0 1)])
  (passB 0))
  (fun p4 => (some [(nth p4 0)]))
  (retE fun q5 => [(nth q5 0)])))
theorem e35 : ∀ I n a, (compF Try.prog sg 35).map (fun d => d.ev I n a) = some (F35 I n a) := fun I n a => by kernel_rfl
/-! spec.l17There -/
noncomputable def F56 (I : Interp) (n : Nat) (a : List PV) : Option (List PV) :=
  ((I 72 [(nth a 1)]).bind fun r0 =>
  (iff (nth r0 0).toBool
  ((I 74 [(nth a 1)]).bind fun r1 =>
  ((I 73 [(nth a 0), (nth r1 0)]).bind fun r2 =>
  (some [(nth r2 0)])))
  ((I 77 [(nth a 1)]).bind fun r3 =>
  ((I 76 [(nth r3 0)]).bind fun r4 =>
  (some [(nth r4 0)])))))
theorem e56 : ∀ I n a, (compF Try.prog sg 56).map (fun d => d.ev I n a) = some (F56 I n a) := fun I n a => by kernel_rfl
/-! spec.HeapOk -/
noncomputable def L54_0 (I : Interp) (n : Nat) (p10 : List PV) : Option (Ex × List PV) :=
  (iff (leI (nth p10 0).toInt (nth p10 1).toInt)
  (iff (geI (nth p10 2).toInt (0 : Int))
  (iff (ltI (nth p10 2).toInt ((nth p10 3).toList.length : Int))
  (iff (geI (IntKind.i64.wrap ((nth (nth p10 3).toList (nth p10 2).toInt.toNat).toInt + (nth p10 0).toInt)) (0 : Int))
  (iff (ltI (IntKind.i64.wrap ((nth (nth p10 3).toList (nth p10 2).toInt.toNat).toInt + (nth p10 0).toInt)) (((nth p10 4).fld 0).toList.length : Int))
  ((I 56 [(nth p10 3), (nth ((nth p10 4).fld 0).toList (IntKind.i64.wrap ((nth (nth p10 3).toList (nth p10 2).toInt.toNat).toInt + (nth p10 0).toInt)).toNat)]).bind fun r11 =>
  (iff (!(nth r11 0).toBool)
  (some (Ex.r, [(PV.bool false)]))
  (some (Ex.n, [(PV.int (IntKind.i64.wrap ((nth p10 0).toInt + (1 : Int)))), (nth p10 1), (nth p10 2), (nth p10 3), (nth p10 4)]))))
  none)
  none)
  none)
  none)
  (some (Ex.x 2, [(nth p10 2), (nth p10 3), (nth p10 4)])))
noncomputable def L54_1 (I : Interp) (n : Nat) (p8 : List PV) : Option (Ex × List PV) :=
  (iff (ltI (nth p8 0).toInt ((nth p8 1).toList.length : Int))
  (iff (geI (nth p8 0).toInt (0 : Int))
  (iff (ltI (nth p8 0).toInt ((nth p8 1).toList.length : Int))
  (iff (geI (nth (nth p8 1).toList (nth p8 0).toInt.toNat).toInt (0 : Int))
  (iff (ltI (nth (nth p8 1).toList (nth p8 0).toInt.toNat).toInt (((nth p8 2).fld 0).toList.length : Int))
  ((I 58 [(nth ((nth p8 2).fld 0).toList (nth (nth p8 1).toList (nth p8 0).toInt.toNat).toInt.toNat)]).bind fun r9 =>
  (thenN (thenE (loopEv (L54_0 I n) n [(PV.int (1 : Int)), (nth r9 2), (nth p8 0), (nth p8 1), (nth p8 2)])
  (passB 2))
  (fun p12 => (some (Ex.n, [(PV.int (IntKind.i64.wrap ((nth p12 0).toInt + (1 : Int)))), (nth p12 1), (nth p12 2)])))
  passE))
  none)
  none)
  none)
  none)
  (some (Ex.x 0, [])))
noncomputable def F54 (I : Interp) (n : Nat) (a : List PV) : Option (List PV) :=
  ((I 75 [((nth a 0).fld 1), (PV.int (1 : Int)), (PV.int (3000 : Int))]).bind fun r0 =>
  (letB (selB (!(nth r0 0).toBool) (PV.bool true) (selB ((!(nth r0 0).toBool) == false) (PV.bool (neI (selB ((!(nth r0 0).toBool) == false) (PV.int ((selB ((!(nth r0 0).toBool) == false) ((nth a 0).fld 0) PV.unit).toList.length : Int)) PV.unit).toInt (selB ((!(nth r0 0).toBool) == false) (PV.int (IntKind.i64.wrap ((2 : Int) * (selB ((!(nth r0 0).toBool) == false) ((nth a 0).fld 1) PV.unit).toInt))) PV.unit).toInt)) PV.unit)) fun v1 =>
  (letB (selB (v1.isB false) (selB (selB (v1.isB false) (selB (v1.isB false) (PV.bool (neI (selB (v1.isB false) ((nth a 0).fld 2) PV.unit).toInt (0 : Int))) PV.unit) PV.unit).toBool (selB ((selB (v1.isB false) (selB (v1.isB false) (PV.bool (neI (selB (v1.isB false) ((nth a 0).fld 2) PV.unit).toInt (0 : Int))) PV.unit) PV.unit).isB true) (PV.bool (neI (selB ((selB (v1.isB false) (selB (v1.isB false) (PV.bool (neI (selB (v1.isB false) ((nth a 0).fld 2) PV.unit).toInt (0 : Int))) PV.unit) PV.unit).isB true) ((nth a 0).fld 2) PV.unit).toInt (selB ((selB (v1.isB false) (selB (v1.isB false) (PV.bool (neI (selB (v1.isB false) ((nth a 0).fld 2) PV.unit).toInt (0 : Int))) PV.unit) PV.unit).isB true) ((nth a 0).fld 1) PV.unit).toInt)) PV.unit) (PV.bool false)) PV.unit) fun v2 =>
  (letB (selB v1.toBool (PV.bool true) v2) fun v3 =>
  ((iff (v3.isB false)
  ((I 75 [(selB (v3.isB false) ((nth a 0).fld 3) PV.unit), (selB (v3.isB false) ((nth a 0).fld 2) PV.unit), (selB (v3.isB false) (PV.int (IntKind.i64.wrap ((selB (v3.isB false) ((nth a 0).fld 2) PV.unit).toInt + (selB (v3.isB false) ((nth a 0).fld 1) PV.unit).toInt))) PV.unit)]).bind fun r4 =>
  (some [(nth r4 0), (nth r4 0)]))
  (some [PV.unit, PV.unit])).bind fun g5 =>
  (letB (selB v3.toBool (PV.bool true) (selB (v3.isB false) (PV.bool (!(nth g5 0).toBool)) PV.unit)) fun v6 =>
  (iff v6.toBool
  (some [(PV.bool false)])
  ((I 55 [(nth a 0)]).bind fun r7 =>
  (iff (!(nth r7 1).toBool)
  (some [(PV.bool false)])
  (thenN (thenE (loopEv (L54_1 I n) n [(PV.int (0 : Int)), (nth r7 0), (nth a 0)])
  (passB 0))
  (fun p13 => (some [(PV.bool true)]))
  (retE fun q14 => [(nth q14 0)])))))))))))
theorem e54 : ∀ I n a, (compF Try.prog sg 54).map (fun d => d.ev I n a) = some (F54 I n a) := fun I n a => ew_ev (g := F54) (fun I n a => by kernel_rfl) I n a
/-! impl.rootsOk$1 -/
noncomputable def F62 (I : Interp) (n : Nat) (a : List PV) : Option (List PV) :=
  ((I 63 [(nth a 0)]).bind fun r0 =>
  ((iff ((!(nth r0 0).toBool) == true)
  ((I 64 [(selB ((!(nth r0 0).toBool) == true) (nth a 1) PV.unit), (selB ((!(nth r0 0).toBool) == true) (nth a 0) PV.unit)]).bind fun r1 =>
  (some [(nth r1 0), (nth r1 0)]))
  (some [PV.unit, PV.unit])).bind fun g2 =>
  (some [(selB (!(nth r0 0).toBool) (selB ((!(nth r0 0).toBool) == true) (PV.bool (!(nth g2 0).toBool)) PV.unit) (PV.bool false))])))
theorem e62 : ∀ I n a, (compF Try.prog sg 62).map (fun d => d.ev I n a) = some (F62 I n a) := fun I n a => by kernel_rfl
/-! spec.l18Right -/
noncomputable def L29_0 (I : Interp) (n : Nat) (p2 : List PV) : Option (Ex × List PV) :=
  (iff (ltI (nth p2 0).toInt ((nth p2 2).toList.length : Int))
  (iff (geI (nth p2 0).toInt (0 : Int))
  (iff (ltI (nth p2 0).toInt ((nth p2 2).toList.length : Int))
  ((I 56 [(nth p2 1), (nth (nth p2 2).toList (nth p2 0).toInt.toNat)]).bind fun r3 =>
  (iff (!(nth r3 0).toBool)
  (some (Ex.r, [(PV.bool false)]))
  (some (Ex.n, [(PV.int (IntKind.i64.wrap ((nth p2 0).toInt + (1 : Int)))), (nth p2 1), (nth p2 2)]))))
  none)
  none)
  (some (Ex.x 0, [])))
noncomputable def F29 (I : Interp) (n : Nat) (a : List PV) : Option (List PV) :=
  ((I 54 [(nth a 0)]).bind fun r0 =>
  (iff (!(nth r0 0).toBool)
  (some [(PV.bool false)])
  ((I 55 [(nth a 0)]).bind fun r1 =>
  (thenN (thenE (loopEv (L29_0 I n) n [(PV.int (0 : Int)), (nth r1 0), (nth a 1)])
  (passB 0))
  (fun p4 => (some [(PV.bool true)]))
  (retE fun q5 => [(nth q5 0)])))))
theorem e29 : ∀ I n a, (compF Try.prog sg 29).map (fun d => d.ev I n a) = some (F29 I n a) := fun I n a => by kernel_rfl
/-! slices.IndexFunc[[]int,int] -/
noncomputable def L69_0 (I : Interp) (n : Nat) (p0 : List PV) : Option (Ex × List PV) :=
  (iff (ltI (nth p0 0).toInt (nth p0 1).toInt)
  (iff (geI (nth p0 0).toInt (0 : Int))
  (iff (ltI (nth p0 0).toInt ((nth p0 2).toList.length : Int))
  ((I 62 [(nth (nth p0 2).toList (nth p0 0).toInt.toNat), (nth p0 3)]).bind fun r1 =>
  (iff (nth r1 0).toBool
  (some (Ex.r, [(nth p0 0)]))
  (some (Ex.n, [(PV.int (IntKind.i64.wrap ((nth p0 0).toInt + (1 : Int)))), (nth p0 1), (nth p0 2), (nth p0 3)]))))
  none)
  none)
  (some (Ex.x 0, [])))
noncomputable def F69 (I : Interp) (n : Nat) (a : List PV) : Option (List PV) :=
  (thenN (thenE (loopEv (L69_0 I n) n [(PV.int (0 : Int)), (PV.int ((nth a 0).toList.length : Int)), (nth a 0), (nth a 1)])
  (passB 0))
  (fun p2 => (some [(PV.int (-1 : Int))]))
  (retE fun q3 => [(nth q3 0)]))
theorem e69 : ∀ I n a, (compF Try.prog sg 69).map (fun d => d.ev I n a) = some (F69 I n a) := fun I n a => by kernel_rfl
/-! slices.IndexFunc[[]int,int] -/
noncomputable def L4165_0 (I : Interp) (n : Nat) (p0 : List PV) : Option (Ex × List PV) :=
  (iff (ltI (nth p0 0).toInt (nth p0 1).toInt)
  (iff (geI (nth p0 0).toInt (0 : Int))
  (iff (ltI (nth p0 0).toInt ((nth p0 2).toList.length : Int))
  ((I 62 [(nth (nth p0 2).toList (nth p0 0).toInt.toNat), (nth p0 3)]).bind fun r1 =>
  (iff (nth r1 0).toBool
  (some (Ex.r, [(nth p0 0)]))
  (some (Ex.n, [(PV.int (IntKind.i64.wrap ((nth p0 0).toInt + (1 : Int)))), (nth p0 1), (nth p0 2), (nth p0 3)]))))
  none)
  none)
  (some (Ex.x 0, [])))
noncomputable def F4165 (I : Interp) (n : Nat) (a : List PV) : Option (List PV) :=
  (thenN (thenE (loopEv (L4165_0 I n) n [(PV.int (0 : Int)), (PV.int ((nth a 0).toList.length : Int)), (nth a 0), (nth a 1)])
  (passB 0))
  (fun p2 => (some [(PV.int (-1 : Int))]))
  (retE fun q3 => [(nth q3 0)]))
theorem e4165 : ∀ I n a, (compF Try.prog sg 4165).map (fun d => d.ev I n a) = some (F4165 I n a) := fun I n a => by kernel_rfl
/-! slices.ContainsFunc[[]int,int] -/
noncomputable def F61 (I : Interp) (n : Nat) (a : List PV) : Option (List PV) :=
  ((I 69 [(nth a 0), (nth a 1)]).bind fun r0 =>
  (some [(PV.bool (geI (nth r0 0).toInt (0 : Int)))]))
theorem e61 : ∀ I n a, (compF Try.prog sg 61).map (fun d => d.ev I n a) = some (F61 I n a) := fun I n a => by kernel_rfl
/-! slices.ContainsFunc[[]int,int] -/
noncomputable def F4157 (I : Interp) (n : Nat) (a : List PV) : Option (List PV) :=
  ((I 69 [(nth a 0), (nth a 1)]).bind fun r0 =>
  (some [(PV.bool (geI (nth r0 0).toInt (0 : Int)))]))
theorem e4157 : ∀ I n a, (compF Try.prog sg 4157).map (fun d => d.ev I n a) = some (F4157 I n a) := fun I n a => by kernel_rfl
/-! impl.HeapOk -/
noncomputable def L59_0 (I : Interp) (n : Nat) (p3 : List PV) : Option (Ex × List PV) :=
  (iff (ltI (nth p3 0).toInt (nth p3 1).toInt)
  (iff (geI (nth p3 0).toInt (0 : Int))
  (iff (ltI (nth p3 0).toInt ((nth p3 2).toList.length : Int))
  ((I 63 [(nth (nth p3 2).toList (nth p3 0).toInt.toNat)]).bind fun r4 =>
  ((iff ((!(nth r4 0).toBool) == true)
  ((I 64 [(nth p3 5), (selB ((!(nth r4 0).toBool) == true) (nth (nth p3 2).toList (nth p3 0).toInt.toNat) PV.unit)]).bind fun r5 =>
  (some [(nth r5 0), (nth r5 0)]))
  (some [PV.unit, PV.unit])).bind fun g6 =>
  (iff (selB (!(nth r4 0).toBool) (selB ((!(nth r4 0).toBool) == true) (PV.bool (!(nth g6 0).toBool)) PV.unit) (PV.bool false)).toBool
  (some (Ex.r, [(PV.bool false)]))
  (some (Ex.n, [(PV.int (IntKind.i64.wrap ((nth p3 0).toInt + (1 : Int)))), (nth p3 1), (nth p3 2), (nth p3 3), (nth p3 4), (nth p3 5), (nth p3 6)])))))
  none)
  none)
  (some (Ex.x 2, [(nth p3 3), (nth p3 4), (nth p3 5), (nth p3 6)])))
noncomputable def L59_1 (I : Interp) (n : Nat) (p1 : List PV) : Option (Ex × List PV) :=
  (iff (ltI (nth p1 0).toInt (nth p1 1).toInt)
  (iff (geI (nth p1 0).toInt (0 : Int))
  (iff (ltI (nth p1 0).toInt ((nth p1 2).toList.length : Int))
  ((I 36 [(nth p1 3), (nth (nth p1 2).toList (nth p1 0).toInt.toNat)]).bind fun r2 =>
  (thenN (thenE (loopEv (L59_0 I n) n [(PV.int (0 : Int)), (PV.int ((nth r2 0).toList.length : Int)), (nth r2 0), (nth p1 0), (nth p1 1), (nth p1 2), (nth p1 3)])
  (passB 2))
  (fun p7 => (some (Ex.n, [(PV.int (IntKind.i64.wrap ((nth p7 0).toInt + (1 : Int)))), (nth p7 1), (nth p7 2), (nth p7 3)])))
  passE))
  none)
  none)
  (some (Ex.x 0, [])))
noncomputable def F59 (I : Interp) (n : Nat) (a : List PV) : Option (List PV) :=
  ((I 60 [(nth a 0)]).bind fun r0 =>
  (iff (!(nth r0 1).toBool)
  (some [(PV.bool false)])
  (thenN (thenE (loopEv (L59_1 I n) n [(PV.int (0 : Int)), (PV.int ((nth r0 0).toList.length : Int)), (nth r0 0), (nth a 0)])
  (passB 0))
  (fun p8 => (some [(PV.bool true)]))
  (retE fun q9 => [(nth q9 0)]))))
theorem e59 : ∀ I n a, (compF Try.prog sg 59).map (fun d => d.ev I n a) = some (F59 I n a) := fun I n a => by kernel_rfl
/-! spec.Reach -/
noncomputable def L26_0 (I : Interp) (n : Nat) (p2 : List PV) : Option (Ex × List PV) :=
  (iff (ltI (nth p2 0).toInt ((nth p2 1).toList.length : Int))
  (iff (geI (nth p2 0).toInt (0 : Int))
  (iff (ltI (nth p2 0).toInt ((nth p2 1).toList.length : Int))
  ((I 53 [(nth p2 2), (nth (nth p2 1).toList (nth p2 0).toInt.toNat)]).bind fun r3 =>
  (some (Ex.n, [(PV.int (IntKind.i64.wrap ((nth p2 0).toInt + (1 : Int)))), (nth p2 1), (nth r3 0)])))
  none)
  none)
  (some (Ex.x 0, [(nth p2 2)])))
noncomputable def F26 (I : Interp) (n : Nat) (a : List PV) : Option (List PV) :=
  ((I 29 [(nth a 0), (nth a 1)]).bind fun r0 =>
  (iff (!(nth r0 0).toBool)
  (some [(PV.list ([] : List PV))])
  ((I 52 [(nth a 0), (nth a 1)]).bind fun r1 =>
  (thenN (thenE (loopEv (L26_0 I n) n [(PV.int (0 : Int)), (nth r1 0), (PV.list ([] : List PV))])
  (passB 0))
  (fun p4 => (some [(nth p4 0)]))
  (retE fun q5 => [(nth q5 0)])))))
theorem e26 : ∀ I n a, (compF Try.prog sg 26).map (fun d => d.ev I n a) = some (F26 I n a) := fun I n a => by kernel_rfl
/-! impl.rootsOk -/
noncomputable def F32 (I : Interp) (n : Nat) (a : List PV) : Option (List PV) :=
  ((I 59 [(nth a 0)]).bind fun r0 =>
  (iff (!(nth r0 0).toBool)
  (some [(PV.bool false)])
  ((I 60 [(nth a 0)]).bind fun r1 =>
  ((I 61 [(nth a 1), (nth r1 0)]).bind fun r2 =>
  (some [(PV.bool (!(nth r2 0).toBool))])))))
theorem e32 : ∀ I n a, (compF Try.prog sg 32).map (fun d => d.ev I n a) = some (F32 I n a) := fun I n a => by kernel_rfl
/-! impl.Reach -/
noncomputable def F27 (I : Interp) (n : Nat) (a : List PV) : Option (List PV) :=
  ((I 32 [(nth a 0), (nth a 1)]).bind fun r0 =>
  (iff (!(nth r0 0).toBool)
  (some [(PV.list ([] : List PV))])
  ((I 35 [(nth a 0), (nth a 1)]).bind fun r1 =>
  ((I 47 [(nth r1 0)]).bind fun r2 =>
  (some [(nth r2 0)])))))
theorem e27 : ∀ I n a, (compF Try.prog sg 27).map (fun d => d.ev I n a) = some (F27 I n a) := fun I n a => by kernel_rfl
/-! laws.FnExactReach -/
noncomputable def F5 (I : Interp) (n : Nat) (a : List PV) : Option (List PV) :=
  (iff (gtI ((nth a 1).toList.length : Int) (1048576 : Int))
  (some [(PV.bool true)])
  ((I 6 [(nth a 0), (PV.int (1048576 : Int))]).bind fun r0 =>
  (iff (ltI (nth r0 0).toInt (0 : Int))
  (some [(PV.bool true)])
  ((I 8 [(nth a 0)]).bind fun r1 =>
  ((I 9 [(nth a 1)]).bind fun r2 =>
  ((I 26 [(nth r1 0), (nth r2 0)]).bind fun r3 =>
  ((I 8 [(nth a 0)]).bind fun r4 =>
  ((I 9 [(nth a 1)]).bind fun r5 =>
  ((I 27 [(nth r4 0), (nth r5 0)]).bind fun r6 =>
  ((I 12 [(nth r6 0), (nth r3 0)]).bind fun r7 =>
  (iff (!(nth r7 0).toBool)
  (some [(PV.bool false)])
  ((I 8 [(nth a 0)]).bind fun r8 =>
  ((I 11 [(nth r4 0), (nth r8 0)]).bind fun r9 =>
  (iff (!(nth r9 0).toBool)
  (some [(PV.bool false)])
  ((I 9 [(nth a 1)]).bind fun r10 =>
  ((I 12 [(nth r5 0), (nth r10 0)]).bind fun r11 =>
  (iff (!(nth r11 0).toBool)
  (some [(PV.bool false)])
  ((I 13 [(nth r4 0), (PV.int (1 : Int))]).bind fun r12 =>
  ((I 14 [(nth r5 0), (nth r12 0)]).bind fun r13 =>
  ((iff ((ltI (nth r13 0).toInt (0 : Int)) == false)
  ((I 12 [(nth r6 0), (nth r3 0)]).bind fun r14 =>
  (some [(nth r14 0), (nth r14 0)]))
  (some [PV.unit, PV.unit])).bind fun g15 =>
  (iff (selB (ltI (nth r13 0).toInt (0 : Int)) (PV.bool true) (selB ((ltI (nth r13 0).toInt (0 : Int)) == false) (PV.bool (!(nth g15 0).toBool)) PV.unit)).toBool
  (some [(PV.bool false)])
  ((I 14 [(nth r6 0), (PV.int (1 : Int))]).bind fun r16 =>
  ((I 16 [(nth r16 1), (PV.int (1 : Int))]).bind fun r17 =>
  (iff (ltI (nth r17 0).toInt (0 : Int))
  (some [(PV.bool false)])
  (iff (neI (nth r17 0).toInt (nth r16 0).toInt)
  (some [(PV.bool false)])
  ((I 8 [(nth a 0)]).bind fun r18 =>
  ((I 9 [(nth a 1)]).bind fun r19 =>
  ((I 27 [(nth r18 0), (nth r19 0)]).bind fun r20 =>
  ((I 12 [(nth r20 0), (nth r3 0)]).bind fun r21 =>
  (iff (!(nth r21 0).toBool)
  (some [(PV.bool false)])
  ((I 16 [(nth r16 1), (PV.int (1 : Int))]).bind fun r22 =>
  (iff (ltI (nth r22 0).toInt (0 : Int))
  (some [(PV.bool false)])
  (iff (neI (nth r22 0).toInt (nth r16 0).toInt)
  (some [(PV.bool false)])
  (some [(PV.bool true)]))))))))))))))))))))))))))))))))))
theorem e5 : ∀ I n a, (compF Try.prog sg 5).map (fun d => d.ev I n a) = some (F5 I n a) := fun I n a => by kernel_rfl
end Go.Proofs.Ythmhgnnaihkjaaa.GFnExactReach
