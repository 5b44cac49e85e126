/- The pure programs of the functions that the law FnExactKin reaches, out of the compiled code. No conditions. -/
import Derived.Test.YthmhgnnaihkjaaaRows
import Derived.Test.YthmhgnnaihkjaaaRscZs
namespace Go.Proofs.Ythmhgnnaihkjaaa.GFnExactKin
open Go Go.Rsc Go.Proofs.Ythmhgnnaihkjaaa
set_option maxRecDepth 100000
set_option linter.unusedVariables false
def sg : FuncId → Option Sig := fun f => match f with
  | 48 => some { ps := [PM.mv (SD.own 3 false)], rs := [RM.v (SD.own 3 false)], orc := some (Orc.compact) }
  | 47 => some { ps := [PM.mut (SD.own 3 false)], rs := [], orc := some (Orc.sort) }
  | 45 => some { ps := [PM.mv (SD.own 3 false), PM.clo 46 []], rs := [RM.v (SD.own 3 false)], orc := some (Orc.delneg) }
  | 50 => some { ps := [PM.ro (SD.bor 3), PM.ref 50 (SD.mp false) (SD.mp false), PM.rp (SD.int (IntKind.i64))], rs := [RM.v (SD.bool)], orc := none }
  | 4146 => some { ps := [PM.ro (SD.bor 3), PM.ref 50 (SD.mp false) (SD.mp false), PM.ref 3 (SD.int (IntKind.i64)) (SD.int (IntKind.i64))], rs := [RM.v (SD.bool)], orc := none }
  | 8242 => some { ps := [PM.ro (SD.bor 3), PM.ref 50 (SD.mp false) (SD.mp false), PM.ref 3 (SD.int (IntKind.i64)) (SD.int (IntKind.i64))], rs := [RM.v (SD.bool)], orc := none }
  | 12338 => some { ps := [PM.mut (SD.own 3 false), PM.ref 50 (SD.mp false) (SD.mp false), PM.rp (SD.int (IntKind.i64))], rs := [RM.v (SD.bool)], orc := none }
  | 16434 => some { ps := [PM.mut (SD.own 3 false), PM.ref 50 (SD.mp false) (SD.mp false), PM.ref 3 (SD.int (IntKind.i64)) (SD.int (IntKind.i64))], rs := [RM.v (SD.bool)], orc := none }
  | 20530 => some { ps := [PM.mut (SD.own 3 false), PM.ref 50 (SD.mp false) (SD.mp false), PM.ref 3 (SD.int (IntKind.i64)) (SD.int (IntKind.i64))], rs := [RM.v (SD.bool)], orc := none }
  | 24626 => some { ps := [PM.mv (SD.own 3 false), PM.ref 50 (SD.mp false) (SD.mp false), PM.rp (SD.int (IntKind.i64))], rs := [RM.v (SD.bool)], orc := none }
  | 28722 => some { ps := [PM.mv (SD.own 3 false), PM.ref 50 (SD.mp false) (SD.mp false), PM.ref 3 (SD.int (IntKind.i64)) (SD.int (IntKind.i64))], rs := [RM.v (SD.bool)], orc := none }
  | 32818 => some { ps := [PM.mv (SD.own 3 false), PM.ref 50 (SD.mp false) (SD.mp false), PM.ref 3 (SD.int (IntKind.i64)) (SD.int (IntKind.i64))], rs := [RM.v (SD.bool)], orc := none }
  | 16 => some { ps := [PM.ro (SD.bor 3), PM.ro (SD.int (IntKind.i64))], rs := [RM.v (SD.int (IntKind.i64))], orc := none }
  | 46 => some { ps := [PM.ro (SD.int (IntKind.i64))], rs := [RM.v (SD.bool)], orc := none }
  | 43 => some { ps := [PM.ro (SD.int (IntKind.i64)), PM.ro (SD.int (IntKind.i64))], rs := [RM.v (SD.int (IntKind.i64))], orc := none }
  | 14 => some { ps := [PM.mut (SD.own 3 false), PM.ro (SD.int (IntKind.i64))], rs := [RM.v (SD.int (IntKind.i64))], orc := none }
  | 4110 => some { ps := [PM.mv (SD.own 3 false), PM.ro (SD.int (IntKind.i64))], rs := [RM.v (SD.int (IntKind.i64))], orc := none }
  | 23 => some { ps := [PM.mut (SD.own 55 false), PM.ro (SD.int (IntKind.i64))], rs := [RM.v (SD.int (IntKind.i64))], orc := none }
  | 4119 => some { ps := [PM.mv (SD.own 55 false), PM.ro (SD.int (IntKind.i64))], rs := [RM.v (SD.int (IntKind.i64))], orc := none }
  | 51 => some { ps := [PM.ro (SD.sc (SD.int (IntKind.i64)) (SD.sc (SD.int (IntKind.i64)) (SD.sn))), PM.ro (SD.sc (SD.int (IntKind.i64)) (SD.sc (SD.int (IntKind.i64)) (SD.sn)))], rs := [RM.v (SD.bool)], orc := none }
  | 12 => some { ps := [PM.ro (SD.bor 3), PM.ro (SD.bor 3)], rs := [RM.v (SD.bool)], orc := none }
  | 68 => some { ps := [PM.ro (SD.bor 3), PM.ro (SD.int (IntKind.i64))], rs := [RM.v (SD.bool)], orc := none }
  | 42 => some { ps := [PM.ro (SD.bor 3), PM.ro (SD.int (IntKind.i64))], rs := [RM.v (SD.int (IntKind.i64))], orc := none }
  | 44 => some { ps := [PM.ro (SD.sc (SD.int (IntKind.i64)) (SD.sc (SD.int (IntKind.i64)) (SD.sn)))], rs := [RM.v (SD.sc (SD.int (IntKind.i64)) (SD.sc (SD.int (IntKind.i64)) (SD.sn)))], orc := none }
  | 17 => some { ps := [PM.ro (SD.bor 59), PM.ro (SD.int (IntKind.i64))], rs := [RM.v (SD.int (IntKind.i64))], orc := none }
  | 24 => some { ps := [PM.mut (SD.own 22 true), PM.ro (SD.int (IntKind.i64))], rs := [RM.v (SD.int (IntKind.i64))], orc := none }
  | 4120 => some { ps := [PM.mv (SD.own 22 true), PM.ro (SD.int (IntKind.i64))], rs := [RM.v (SD.int (IntKind.i64))], orc := none }
  | 41 => some { ps := [PM.ro (SD.bor 3), PM.ro (SD.int (IntKind.i64))], rs := [RM.v (SD.own 3 false)], orc := none }
  | 22 => some { ps := [PM.ro (SD.bor 55), PM.ro (SD.bor 55)], rs := [RM.v (SD.bool)], orc := none }
  | 21 => some { ps := [PM.ro (SD.bor 22), PM.ro (SD.bor 22)], rs := [RM.v (SD.bool)], orc := none }
  | 49 => some { ps := [PM.ro (SD.bor 22), PM.clo 50 [CM.ref 50 (SD.mp false) (SD.mp false), CM.rp (SD.int (IntKind.i64))]], rs := [RM.v (SD.int (IntKind.i64))], orc := none }
  | 4145 => some { ps := [PM.ro (SD.bor 22), PM.clo 4146 [CM.ref 50 (SD.mp false) (SD.mp false), CM.ref 3 (SD.int (IntKind.i64)) (SD.int (IntKind.i64))]], rs := [RM.v (SD.int (IntKind.i64))], orc := none }
  | 8241 => some { ps := [PM.ro (SD.bor 22), PM.clo 8242 [CM.ref 50 (SD.mp false) (SD.mp false), CM.ref 3 (SD.int (IntKind.i64)) (SD.int (IntKind.i64))]], rs := [RM.v (SD.int (IntKind.i64))], orc := none }
  | 12337 => some { ps := [PM.ro (SD.bor 22), PM.clo 12338 [CM.ref 50 (SD.mp false) (SD.mp false), CM.rp (SD.int (IntKind.i64))]], rs := [RM.v (SD.int (IntKind.i64))], orc := none }
  | 16433 => some { ps := [PM.ro (SD.bor 22), PM.clo 16434 [CM.ref 50 (SD.mp false) (SD.mp false), CM.ref 3 (SD.int (IntKind.i64)) (SD.int (IntKind.i64))]], rs := [RM.v (SD.int (IntKind.i64))], orc := none }
  | 20529 => some { ps := [PM.ro (SD.bor 22), PM.clo 20530 [CM.ref 50 (SD.mp false) (SD.mp false), CM.ref 3 (SD.int (IntKind.i64)) (SD.int (IntKind.i64))]], rs := [RM.v (SD.int (IntKind.i64))], orc := none }
  | 24625 => some { ps := [PM.ro (SD.bor 22), PM.clo 24626 [CM.ref 50 (SD.mp false) (SD.mp false), CM.rp (SD.int (IntKind.i64))]], rs := [RM.v (SD.int (IntKind.i64))], orc := none }
  | 28721 => some { ps := [PM.ro (SD.bor 22), PM.clo 28722 [CM.ref 50 (SD.mp false) (SD.mp false), CM.ref 3 (SD.int (IntKind.i64)) (SD.int (IntKind.i64))]], rs := [RM.v (SD.int (IntKind.i64))], orc := none }
  | 32817 => some { ps := [PM.ro (SD.bor 22), PM.clo 32818 [CM.ref 50 (SD.mp false) (SD.mp false), CM.ref 3 (SD.int (IntKind.i64)) (SD.int (IntKind.i64))]], rs := [RM.v (SD.int (IntKind.i64))], orc := none }
  | 36913 => some { ps := [PM.mv (SD.own 22 true), PM.clo 50 [CM.ref 50 (SD.mp false) (SD.mp false), CM.rp (SD.int (IntKind.i64))]], rs := [RM.v (SD.int (IntKind.i64))], orc := none }
  | 41009 => some { ps := [PM.mv (SD.own 22 true), PM.clo 4146 [CM.ref 50 (SD.mp false) (SD.mp false), CM.ref 3 (SD.int (IntKind.i64)) (SD.int (IntKind.i64))]], rs := [RM.v (SD.int (IntKind.i64))], orc := none }
  | 45105 => some { ps := [PM.mv (SD.own 22 true), PM.clo 8242 [CM.ref 50 (SD.mp false) (SD.mp false), CM.ref 3 (SD.int (IntKind.i64)) (SD.int (IntKind.i64))]], rs := [RM.v (SD.int (IntKind.i64))], orc := none }
  | 49201 => some { ps := [PM.mv (SD.own 22 true), PM.clo 12338 [CM.ref 50 (SD.mp false) (SD.mp false), CM.rp (SD.int (IntKind.i64))]], rs := [RM.v (SD.int (IntKind.i64))], orc := none }
  | 53297 => some { ps := [PM.mv (SD.own 22 true), PM.clo 16434 [CM.ref 50 (SD.mp false) (SD.mp false), CM.ref 3 (SD.int (IntKind.i64)) (SD.int (IntKind.i64))]], rs := [RM.v (SD.int (IntKind.i64))], orc := none }
  | 57393 => some { ps := [PM.mv (SD.own 22 true), PM.clo 20530 [CM.ref 50 (SD.mp false) (SD.mp false), CM.ref 3 (SD.int (IntKind.i64)) (SD.int (IntKind.i64))]], rs := [RM.v (SD.int (IntKind.i64))], orc := none }
  | 61489 => some { ps := [PM.mv (SD.own 22 true), PM.clo 24626 [CM.ref 50 (SD.mp false) (SD.mp false), CM.rp (SD.int (IntKind.i64))]], rs := [RM.v (SD.int (IntKind.i64))], orc := none }
  | 65585 => some { ps := [PM.mv (SD.own 22 true), PM.clo 28722 [CM.ref 50 (SD.mp false) (SD.mp false), CM.ref 3 (SD.int (IntKind.i64)) (SD.int (IntKind.i64))]], rs := [RM.v (SD.int (IntKind.i64))], orc := none }
  | 69681 => some { ps := [PM.mv (SD.own 22 true), PM.clo 32818 [CM.ref 50 (SD.mp false) (SD.mp false), CM.ref 3 (SD.int (IntKind.i64)) (SD.int (IntKind.i64))]], rs := [RM.v (SD.int (IntKind.i64))], orc := none }
  | 19 => some { ps := [PM.ro (SD.bor 59)], rs := [RM.v (SD.own 55 false)], orc := none }
  | 25 => some { ps := [PM.ro (SD.bor 22), PM.ro (SD.int (IntKind.i64))], rs := [RM.v (SD.int (IntKind.i64))], orc := none }
  | 18 => some { ps := [PM.ro (SD.bor 55)], rs := [RM.v (SD.own 22 true)], orc := none }
  | 20 => some { ps := [PM.ro (SD.bor 55)], rs := [RM.v (SD.own 22 true)], orc := none }
  | 4 => some { ps := [PM.ro (SD.bor 59)], rs := [RM.v (SD.bool)], orc := none }
  | _ => none
/-! impl.Kin$2 -/
noncomputable def F50 (I : Interp) (n : Nat) (a : List PV) : Option (List PV) :=
  (iff (geI (0 : Int) (0 : Int))
  (iff (ltI (0 : Int) ((nth a 0).toList.length : Int))
  (some [(PV.bool (eqI (mgetL (PV.int (0 : Int)) (nth (nth a 0).toList (0 : Int).toNat).toInt (nth a 1).toList).toInt (mgetL (PV.int (0 : Int)) (nth a 2).toInt (nth a 1).toList).toInt)), (nth a 1)])
  none)
  none)
theorem e50 : ∀ I n a, (compF Try.prog sg 50).map (fun d => d.ev I n a) = some (F50 I n a) := fun I n a => by kernel_rfl
/-! impl.Kin$2 -/
noncomputable def F4146 (I : Interp) (n : Nat) (a : List PV) : Option (List PV) :=
  (iff (geI (0 : Int) (0 : Int))
  (iff (ltI (0 : Int) ((nth a 0).toList.length : Int))
  (some [(PV.bool (eqI (mgetL (PV.int (0 : Int)) (nth (nth a 0).toList (0 : Int).toNat).toInt (nth a 1).toList).toInt (mgetL (PV.int (0 : Int)) (nth a 2).toInt (nth a 1).toList).toInt)), (nth a 1), (nth a 2)])
  none)
  none)
theorem e4146 : ∀ I n a, (compF Try.prog sg 4146).map (fun d => d.ev I n a) = some (F4146 I n a) := fun I n a => by kernel_rfl
/-! impl.Kin$2 -/
noncomputable def F8242 (I : Interp) (n : Nat) (a : List PV) : Option (List PV) :=
  (iff (geI (0 : Int) (0 : Int))
  (iff (ltI (0 : Int) ((nth a 0).toList.length : Int))
  (some [(PV.bool (eqI (mgetL (PV.int (0 : Int)) (nth (nth a 0).toList (0 : Int).toNat).toInt (nth a 1).toList).toInt (mgetL (PV.int (0 : Int)) (nth a 2).toInt (nth a 1).toList).toInt)), (nth a 1), (nth a 2)])
  none)
  none)
theorem e8242 : ∀ I n a, (compF Try.prog sg 8242).map (fun d => d.ev I n a) = some (F8242 I n a) := fun I n a => by kernel_rfl
/-! impl.Kin$2 -/
noncomputable def F12338 (I : Interp) (n : Nat) (a : List PV) : Option (List PV) :=
  (iff (geI (0 : Int) (0 : Int))
  (iff (ltI (0 : Int) ((nth a 0).toList.length : Int))
  (some [(PV.bool (eqI (mgetL (PV.int (0 : Int)) (nth (nth a 0).toList (0 : Int).toNat).toInt (nth a 1).toList).toInt (mgetL (PV.int (0 : Int)) (nth a 2).toInt (nth a 1).toList).toInt)), (nth a 0), (nth a 1)])
  none)
  none)
theorem e12338 : ∀ I n a, (compF Try.prog sg 12338).map (fun d => d.ev I n a) = some (F12338 I n a) := fun I n a => by kernel_rfl
/-! impl.Kin$2 -/
noncomputable def F16434 (I : Interp) (n : Nat) (a : List PV) : Option (List PV) :=
  (iff (geI (0 : Int) (0 : Int))
  (iff (ltI (0 : Int) ((nth a 0).toList.length : Int))
  (some [(PV.bool (eqI (mgetL (PV.int (0 : Int)) (nth (nth a 0).toList (0 : Int).toNat).toInt (nth a 1).toList).toInt (mgetL (PV.int (0 : Int)) (nth a 2).toInt (nth a 1).toList).toInt)), (nth a 0), (nth a 1), (nth a 2)])
  none)
  none)
theorem e16434 : ∀ I n a, (compF Try.prog sg 16434).map (fun d => d.ev I n a) = some (F16434 I n a) := fun I n a => by kernel_rfl
/-! impl.Kin$2 -/
noncomputable def F20530 (I : Interp) (n : Nat) (a : List PV) : Option (List PV) :=
  (iff (geI (0 : Int) (0 : Int))
  (iff (ltI (0 : Int) ((nth a 0).toList.length : Int))
  (some [(PV.bool (eqI (mgetL (PV.int (0 : Int)) (nth (nth a 0).toList (0 : Int).toNat).toInt (nth a 1).toList).toInt (mgetL (PV.int (0 : Int)) (nth a 2).toInt (nth a 1).toList).toInt)), (nth a 0), (nth a 1), (nth a 2)])
  none)
  none)
theorem e20530 : ∀ I n a, (compF Try.prog sg 20530).map (fun d => d.ev I n a) = some (F20530 I n a) := fun I n a => by kernel_rfl
/-! impl.Kin$2 -/
noncomputable def F24626 (I : Interp) (n : Nat) (a : List PV) : Option (List PV) :=
  (iff (geI (0 : Int) (0 : Int))
  (iff (ltI (0 : Int) ((nth a 0).toList.length : Int))
  (some [(PV.bool (eqI (mgetL (PV.int (0 : Int)) (nth (nth a 0).toList (0 : Int).toNat).toInt (nth a 1).toList).toInt (mgetL (PV.int (0 : Int)) (nth a 2).toInt (nth a 1).toList).toInt)), (nth a 1)])
  none)
  none)
theorem e24626 : ∀ I n a, (compF Try.prog sg 24626).map (fun d => d.ev I n a) = some (F24626 I n a) := fun I n a => by kernel_rfl
/-! impl.Kin$2 -/
noncomputable def F28722 (I : Interp) (n : Nat) (a : List PV) : Option (List PV) :=
  (iff (geI (0 : Int) (0 : Int))
  (iff (ltI (0 : Int) ((nth a 0).toList.length : Int))
  (some [(PV.bool (eqI (mgetL (PV.int (0 : Int)) (nth (nth a 0).toList (0 : Int).toNat).toInt (nth a 1).toList).toInt (mgetL (PV.int (0 : Int)) (nth a 2).toInt (nth a 1).toList).toInt)), (nth a 1), (nth a 2)])
  none)
  none)
theorem e28722 : ∀ I n a, (compF Try.prog sg 28722).map (fun d => d.ev I n a) = some (F28722 I n a) := fun I n a => by kernel_rfl
/-! impl.Kin$2 -/
noncomputable def F32818 (I : Interp) (n : Nat) (a : List PV) : Option (List PV) :=
  (iff (geI (0 : Int) (0 : Int))
  (iff (ltI (0 : Int) ((nth a 0).toList.length : Int))
  (some [(PV.bool (eqI (mgetL (PV.int (0 : Int)) (nth (nth a 0).toList (0 : Int).toNat).toInt (nth a 1).toList).toInt (mgetL (PV.int (0 : Int)) (nth a 2).toInt (nth a 1).toList).toInt)), (nth a 1), (nth a 2)])
  none)
  none)
theorem e32818 : ∀ I n a, (compF Try.prog sg 32818).map (fun d => d.ev I n a) = some (F32818 I n a) := fun I n a => by kernel_rfl
/-! laws.heldIntS -/
noncomputable def L16_0 (I : Interp) (n : Nat) (p0 : List PV) : Option (Ex × List PV) :=
  (iff (ltI (nth p0 0).toInt ((nth p0 1).toList.length : Int))
  (iff (geI (nth p0 0).toInt (0 : Int))
  (iff (ltI (nth p0 0).toInt ((nth p0 1).toList.length : Int))
  (iff (neI (nth (nth p0 1).toList (nth p0 0).toInt.toNat).toInt (nth p0 2).toInt)
  (some (Ex.r, [(PV.int (-1 : Int))]))
  (some (Ex.n, [(PV.int (IntKind.i64.wrap ((nth p0 0).toInt + (1 : Int)))), (nth p0 1), (PV.int (IntKind.i64.wrap ((nth p0 2).toInt + (1 : Int))))])))
  none)
  none)
  (some (Ex.x 0, [(nth p0 2)])))
noncomputable def F16 (I : Interp) (n : Nat) (a : List PV) : Option (List PV) :=
  (thenN (thenE (loopEv (L16_0 I n) n [(PV.int (0 : Int)), (nth a 0), (nth a 1)])
  (passB 0))
  (fun p1 => (some [(nth p1 0)]))
  (retE fun q2 => [(nth q2 0)]))
theorem e16 : ∀ I n a, (compF Try.prog sg 16).map (fun d => d.ev I n a) = some (F16 I n a) := fun I n a => by kernel_rfl
/-! impl.Kin$1 -/
noncomputable def F46 (I : Interp) (n : Nat) (a : List PV) : Option (List PV) :=
  (some [(PV.bool (ltI (nth a 0).toInt (0 : Int)))])
theorem e46 : ∀ I n a, (compF Try.prog sg 46).map (fun d => d.ev I n a) = some (F46 I n a) := fun I n a => by kernel_rfl
/-! spec.l1Min -/
noncomputable def F43 (I : Interp) (n : Nat) (a : List PV) : Option (List PV) :=
  (iff (ltI (nth a 0).toInt (nth a 1).toInt)
  (some [(nth a 0)])
  (some [(nth a 1)]))
theorem e43 : ∀ I n a, (compF Try.prog sg 43).map (fun d => d.ev I n a) = some (F43 I n a) := fun I n a => by kernel_rfl
/-! laws.markIntS -/
noncomputable def L14_0 (I : Interp) (n : Nat) (p0 : List PV) : Option (Ex × List PV) :=
  (iff (ltI (nth p0 0).toInt ((nth p0 2).toList.length : Int))
  (iff (geI (nth p0 0).toInt (0 : Int))
  (iff (ltI (nth p0 0).toInt ((nth p0 2).toList.length : Int))
  (some (Ex.n, [(PV.int (IntKind.i64.wrap ((nth p0 0).toInt + (1 : Int)))), (PV.int (IntKind.i64.wrap ((nth p0 1).toInt + (1 : Int)))), (PV.list ((nth p0 2).toList.set (nth p0 0).toInt.toNat (nth p0 1)))]))
  none)
  none)
  (some (Ex.x 0, [(nth p0 2), (nth p0 1)])))
noncomputable def F14 (I : Interp) (n : Nat) (a : List PV) : Option (List PV) :=
  (thenN (thenE (loopEv (L14_0 I n) n [(PV.int (0 : Int)), (nth a 1), (nth a 0)])
  (passB 0))
  (fun p1 => (some [(nth p1 1), (nth p1 0)]))
  (retE fun q2 => [(nth q2 1), (nth q2 0)]))
theorem e14 : ∀ I n a, (compF Try.prog sg 14).map (fun d => d.ev I n a) = some (F14 I n a) := fun I n a => by kernel_rfl
/-! laws.markIntS -/
noncomputable def L4110_0 (I : Interp) (n : Nat) (p0 : List PV) : Option (Ex × List PV) :=
  (iff (ltI (nth p0 0).toInt ((nth p0 1).toList.length : Int))
  (iff (geI (nth p0 0).toInt (0 : Int))
  (iff (ltI (nth p0 0).toInt ((nth p0 1).toList.length : Int))
  (some (Ex.n, [(PV.int (IntKind.i64.wrap ((nth p0 0).toInt + (1 : Int)))), (PV.list ((nth p0 1).toList.set (nth p0 0).toInt.toNat (nth p0 2))), (PV.int (IntKind.i64.wrap ((nth p0 2).toInt + (1 : Int))))]))
  none)
  none)
  (some (Ex.x 0, [(nth p0 2)])))
noncomputable def F4110 (I : Interp) (n : Nat) (a : List PV) : Option (List PV) :=
  (thenN (thenE (loopEv (L4110_0 I n) n [(PV.int (0 : Int)), (nth a 0), (nth a 1)])
  (passB 0))
  (fun p1 => (some [(nth p1 0)]))
  (retE fun q2 => [(nth q2 0)]))
theorem e4110 : ∀ I n a, (compF Try.prog sg 4110).map (fun d => d.ev I n a) = some (F4110 I n a) := fun I n a => by kernel_rfl
/-! laws.markRefS -/
noncomputable def L23_0 (I : Interp) (n : Nat) (p0 : List PV) : Option (Ex × List PV) :=
  (iff (ltI (nth p0 0).toInt ((nth p0 2).toList.length : Int))
  (iff (geI (nth p0 0).toInt (0 : Int))
  (iff (ltI (nth p0 0).toInt ((nth p0 2).toList.length : Int))
  (iff (geI (nth p0 0).toInt (0 : Int))
  (iff (ltI (nth p0 0).toInt (((nth p0 2).toList.set (nth p0 0).toInt.toNat ((nth (nth p0 2).toList (nth p0 0).toInt.toNat).setFld 0 (nth p0 1))).length : Int))
  (some (Ex.n, [(PV.int (IntKind.i64.wrap ((nth p0 0).toInt + (1 : Int)))), (PV.int (IntKind.i64.wrap ((IntKind.i64.wrap ((nth p0 1).toInt + (1 : Int))) + (1 : Int)))), (PV.list (((nth p0 2).toList.set (nth p0 0).toInt.toNat ((nth (nth p0 2).toList (nth p0 0).toInt.toNat).setFld 0 (nth p0 1))).set (nth p0 0).toInt.toNat ((nth ((nth p0 2).toList.set (nth p0 0).toInt.toNat ((nth (nth p0 2).toList (nth p0 0).toInt.toNat).setFld 0 (nth p0 1))) (nth p0 0).toInt.toNat).setFld 1 (PV.int (IntKind.i64.wrap ((nth p0 1).toInt + (1 : Int)))))))]))
  none)
  none)
  none)
  none)
  (some (Ex.x 0, [(nth p0 2), (nth p0 1)])))
noncomputable def F23 (I : Interp) (n : Nat) (a : List PV) : Option (List PV) :=
  (thenN (thenE (loopEv (L23_0 I n) n [(PV.int (0 : Int)), (nth a 1), (nth a 0)])
  (passB 0))
  (fun p1 => (some [(nth p1 1), (nth p1 0)]))
  (retE fun q2 => [(nth q2 1), (nth q2 0)]))
theorem e23 : ∀ I n a, (compF Try.prog sg 23).map (fun d => d.ev I n a) = some (F23 I n a) := fun I n a => by kernel_rfl
/-! laws.markRefS -/
noncomputable def L4119_0 (I : Interp) (n : Nat) (p0 : List PV) : Option (Ex × List PV) :=
  (iff (ltI (nth p0 0).toInt ((nth p0 1).toList.length : Int))
  (iff (geI (nth p0 0).toInt (0 : Int))
  (iff (ltI (nth p0 0).toInt ((nth p0 1).toList.length : Int))
  (iff (geI (nth p0 0).toInt (0 : Int))
  (iff (ltI (nth p0 0).toInt (((nth p0 1).toList.set (nth p0 0).toInt.toNat ((nth (nth p0 1).toList (nth p0 0).toInt.toNat).setFld 0 (nth p0 2))).length : Int))
  (some (Ex.n, [(PV.int (IntKind.i64.wrap ((nth p0 0).toInt + (1 : Int)))), (PV.list (((nth p0 1).toList.set (nth p0 0).toInt.toNat ((nth (nth p0 1).toList (nth p0 0).toInt.toNat).setFld 0 (nth p0 2))).set (nth p0 0).toInt.toNat ((nth ((nth p0 1).toList.set (nth p0 0).toInt.toNat ((nth (nth p0 1).toList (nth p0 0).toInt.toNat).setFld 0 (nth p0 2))) (nth p0 0).toInt.toNat).setFld 1 (PV.int (IntKind.i64.wrap ((nth p0 2).toInt + (1 : Int))))))), (PV.int (IntKind.i64.wrap ((IntKind.i64.wrap ((nth p0 2).toInt + (1 : Int))) + (1 : Int))))]))
  none)
  none)
  none)
  none)
  (some (Ex.x 0, [(nth p0 2)])))
noncomputable def F4119 (I : Interp) (n : Nat) (a : List PV) : Option (List PV) :=
  (thenN (thenE (loopEv (L4119_0 I n) n [(PV.int (0 : Int)), (nth a 0), (nth a 1)])
  (passB 0))
  (fun p1 => (some [(nth p1 0)]))
  (retE fun q2 => [(nth q2 0)]))
theorem e4119 : ∀ I n a, (compF Try.prog sg 4119).map (fun d => d.ev I n a) = some (F4119 I n a) := fun I n a => by kernel_rfl
/-! laws.eqRef -/
noncomputable def F51 (I : Interp) (n : Nat) (a : List PV) : Option (List PV) :=
  (iff (neI ((nth a 0).fld 0).toInt ((nth a 1).fld 0).toInt)
  (some [(PV.bool false)])
  (iff (neI ((nth a 0).fld 1).toInt ((nth a 1).fld 1).toInt)
  (some [(PV.bool false)])
  (some [(PV.bool true)])))
theorem e51 : ∀ I n a, (compF Try.prog sg 51).map (fun d => d.ev I n a) = some (F51 I n a) := fun I n a => by kernel_rfl
/-! laws.eqIntS -/
noncomputable def L12_0 (I : Interp) (n : Nat) (p0 : List PV) : Option (Ex × List PV) :=
  (iff (ltI (nth p0 0).toInt ((nth p0 1).toList.length : Int))
  (iff (geI (nth p0 0).toInt (0 : Int))
  (iff (ltI (nth p0 0).toInt ((nth p0 1).toList.length : Int))
  (iff (geI (nth p0 0).toInt (0 : Int))
  (iff (ltI (nth p0 0).toInt ((nth p0 2).toList.length : Int))
  (iff (neI (nth (nth p0 1).toList (nth p0 0).toInt.toNat).toInt (nth (nth p0 2).toList (nth p0 0).toInt.toNat).toInt)
  (some (Ex.r, [(PV.bool false)]))
  (some (Ex.n, [(PV.int (IntKind.i64.wrap ((nth p0 0).toInt + (1 : Int)))), (nth p0 1), (nth p0 2)])))
  none)
  none)
  none)
  none)
  (some (Ex.x 0, [])))
noncomputable def F12 (I : Interp) (n : Nat) (a : List PV) : Option (List PV) :=
  (iff (neI ((nth a 0).toList.length : Int) ((nth a 1).toList.length : Int))
  (some [(PV.bool false)])
  (thenN (thenE (loopEv (L12_0 I n) n [(PV.int (0 : Int)), (nth a 0), (nth a 1)])
  (passB 0))
  (fun p1 => (some [(PV.bool true)]))
  (retE fun q2 => [(nth q2 0)])))
theorem e12 : ∀ I n a, (compF Try.prog sg 12).map (fun d => d.ev I n a) = some (F12 I n a) := fun I n a => by kernel_rfl
/-! spec.l4Has -/
noncomputable def L68_0 (I : Interp) (n : Nat) (p0 : List PV) : Option (Ex × List PV) :=
  (iff (ltI (nth p0 0).toInt ((nth p0 1).toList.length : Int))
  (iff (geI (nth p0 0).toInt (0 : Int))
  (iff (ltI (nth p0 0).toInt ((nth p0 1).toList.length : Int))
  (iff (eqI (nth (nth p0 1).toList (nth p0 0).toInt.toNat).toInt (nth p0 2).toInt)
  (some (Ex.r, [(PV.bool true)]))
  (some (Ex.n, [(PV.int (IntKind.i64.wrap ((nth p0 0).toInt + (1 : Int)))), (nth p0 1), (nth p0 2)])))
  none)
  none)
  (some (Ex.x 0, [])))
noncomputable def F68 (I : Interp) (n : Nat) (a : List PV) : Option (List PV) :=
  (thenN (thenE (loopEv (L68_0 I n) n [(PV.int (0 : Int)), (nth a 0), (nth a 1)])
  (passB 0))
  (fun p1 => (some [(PV.bool false)]))
  (retE fun q2 => [(nth q2 0)]))
theorem e68 : ∀ I n a, (compF Try.prog sg 68).map (fun d => d.ev I n a) = some (F68 I n a) := fun I n a => by kernel_rfl
/-! spec.l22At -/
noncomputable def L42_0 (I : Interp) (n : Nat) (p0 : List PV) : Option (Ex × List PV) :=
  (iff (ltI (nth p0 0).toInt ((nth p0 1).toList.length : Int))
  (iff (geI (nth p0 0).toInt (0 : Int))
  (iff (ltI (nth p0 0).toInt ((nth p0 1).toList.length : Int))
  (iff (eqI (nth (nth p0 1).toList (nth p0 0).toInt.toNat).toInt (nth p0 2).toInt)
  (some (Ex.r, [(nth p0 0)]))
  (some (Ex.n, [(PV.int (IntKind.i64.wrap ((nth p0 0).toInt + (1 : Int)))), (nth p0 1), (nth p0 2)])))
  none)
  none)
  (some (Ex.x 0, [])))
noncomputable def F42 (I : Interp) (n : Nat) (a : List PV) : Option (List PV) :=
  (thenN (thenE (loopEv (L42_0 I n) n [(PV.int (0 : Int)), (nth a 0), (nth a 1)])
  (passB 0))
  (fun p1 => (some [(PV.int (-1 : Int))]))
  (retE fun q2 => [(nth q2 0)]))
theorem e42 : ∀ I n a, (compF Try.prog sg 42).map (fun d => d.ev I n a) = some (F42 I n a) := fun I n a => by kernel_rfl
/-! laws.toRef -/
noncomputable def F44 (I : Interp) (n : Nat) (a : List PV) : Option (List PV) :=
  (some [(PV.agg [((nth a 0).fld 0), ((nth a 0).fld 1)])])
theorem e44 : ∀ I n a, (compF Try.prog sg 44).map (fun d => d.ev I n a) = some (F44 I n a) := fun I n a => by kernel_rfl
/-! laws.szRefS -/
noncomputable def F17 (I : Interp) (n : Nat) (a : List PV) : Option (List PV) :=
  (iff (ltI (IntKind.i64.wrap ((nth a 1).toInt - ((nth a 0).toList.length : Int))) (0 : Int))
  (some [(PV.int (-1 : Int))])
  (some [(PV.int (IntKind.i64.wrap ((nth a 1).toInt - ((nth a 0).toList.length : Int))))]))
theorem e17 : ∀ I n a, (compF Try.prog sg 17).map (fun d => d.ev I n a) = some (F17 I n a) := fun I n a => by kernel_rfl
/-! laws.markIntSS -/
noncomputable def L24_0 (I : Interp) (n : Nat) (p0 : List PV) : Option (Ex × List PV) :=
  (iff (ltI (nth p0 0).toInt ((nth p0 2).toList.length : Int))
  (iff (geI (nth p0 0).toInt (0 : Int))
  (iff (ltI (nth p0 0).toInt ((nth p0 2).toList.length : Int))
  ((I 14 [(nth (nth p0 2).toList (nth p0 0).toInt.toNat), (nth p0 1)]).bind fun r1 =>
  (some (Ex.n, [(PV.int (IntKind.i64.wrap ((nth p0 0).toInt + (1 : Int)))), (nth r1 0), (PV.list ((nth p0 2).toList.set (nth p0 0).toInt.toNat (nth r1 1)))])))
  none)
  none)
  (some (Ex.x 0, [(nth p0 2), (nth p0 1)])))
noncomputable def F24 (I : Interp) (n : Nat) (a : List PV) : Option (List PV) :=
  (thenN (thenE (loopEv (L24_0 I n) n [(PV.int (0 : Int)), (nth a 1), (nth a 0)])
  (passB 0))
  (fun p2 => (some [(nth p2 1), (nth p2 0)]))
  (retE fun q3 => [(nth q3 1), (nth q3 0)]))
theorem e24 : ∀ I n a, (compF Try.prog sg 24).map (fun d => d.ev I n a) = some (F24 I n a) := fun I n a => by kernel_rfl
/-! laws.markIntSS -/
noncomputable def L4120_0 (I : Interp) (n : Nat) (p0 : List PV) : Option (Ex × List PV) :=
  (iff (ltI (nth p0 0).toInt ((nth p0 1).toList.length : Int))
  (iff (geI (nth p0 0).toInt (0 : Int))
  (iff (ltI (nth p0 0).toInt ((nth p0 1).toList.length : Int))
  ((I 14 [(nth (nth p0 1).toList (nth p0 0).toInt.toNat), (nth p0 2)]).bind fun r1 =>
  (some (Ex.n, [(PV.int (IntKind.i64.wrap ((nth p0 0).toInt + (1 : Int)))), (PV.list ((nth p0 1).toList.set (nth p0 0).toInt.toNat (nth r1 1))), (nth r1 0)])))
  none)
  none)
  (some (Ex.x 0, [(nth p0 2)])))
noncomputable def F4120 (I : Interp) (n : Nat) (a : List PV) : Option (List PV) :=
  (thenN (thenE (loopEv (L4120_0 I n) n [(PV.int (0 : Int)), (nth a 0), (nth a 1)])
  (passB 0))
  (fun p2 => (some [(nth p2 0)]))
  (retE fun q3 => [(nth q3 0)]))
theorem e4120 : ∀ I n a, (compF Try.prog sg 4120).map (fun d => d.ev I n a) = some (F4120 I n a) := fun I n a => by kernel_rfl
/-! spec.With -/
noncomputable def L41_0 (I : Interp) (n : Nat) (p1 : List PV) : Option (Ex × List PV) :=
  ((iff ((ltI (nth p1 2).toInt ((nth p1 1).toList.length : Int)) == true)
  (iff (geI (selB ((ltI (nth p1 2).toInt ((nth p1 1).toList.length : Int)) == true) (nth p1 2) PV.unit).toInt (0 : Int))
  (iff (ltI (selB ((ltI (nth p1 2).toInt ((nth p1 1).toList.length : Int)) == true) (nth p1 2) PV.unit).toInt ((selB ((ltI (nth p1 2).toInt ((nth p1 1).toList.length : Int)) == true) (nth p1 1) PV.unit).toList.length : Int))
  (some [(nth (selB ((ltI (nth p1 2).toInt ((nth p1 1).toList.length : Int)) == true) (nth p1 1) PV.unit).toList (selB ((ltI (nth p1 2).toInt ((nth p1 1).toList.length : Int)) == true) (nth p1 2) PV.unit).toInt.toNat), (nth (selB ((ltI (nth p1 2).toInt ((nth p1 1).toList.length : Int)) == true) (nth p1 1) PV.unit).toList (selB ((ltI (nth p1 2).toInt ((nth p1 1).toList.length : Int)) == true) (nth p1 2) PV.unit).toInt.toNat)])
  none)
  none)
  (some [PV.unit, PV.unit])).bind fun g2 =>
  (iff (selB (ltI (nth p1 2).toInt ((nth p1 1).toList.length : Int)) (selB ((ltI (nth p1 2).toInt ((nth p1 1).toList.length : Int)) == true) (PV.bool (ltI (selB ((ltI (nth p1 2).toInt ((nth p1 1).toList.length : Int)) == true) (nth g2 0) PV.unit).toInt (selB ((ltI (nth p1 2).toInt ((nth p1 1).toList.length : Int)) == true) (nth p1 0) PV.unit).toInt)) PV.unit) (PV.bool false)).toBool
  (some (Ex.n, [(nth p1 0), (nth p1 1), (PV.int (IntKind.i64.wrap ((nth p1 2).toInt + (1 : Int))))]))
  (some (Ex.x 0, [(nth p1 0), (nth p1 1), (nth p1 2)]))))
noncomputable def F41 (I : Interp) (n : Nat) (a : List PV) : Option (List PV) :=
  ((I 68 [(nth a 0), (nth a 1)]).bind fun r0 =>
  (iff (nth r0 0).toBool
  (iff (leN (([] : List PV).length + (nth a 0).toList.length) 17592186044416)
  (some [(PV.list (([] : List PV) ++ (nth a 0).toList))])
  none)
  (thenN (thenE (loopEv (L41_0 I n) n [(nth a 1), (nth a 0), (PV.int (0 : Int))])
  (passB 0))
  (fun p3 => (iff (geI (0 : Int) (0 : Int))
  (iff (leI (0 : Int) (nth p3 2).toInt)
  (iff (leI (nth p3 2).toInt ((nth p3 1).toList.length : Int))
  (iff (leN (([] : List PV).length + (((nth p3 1).toList.drop (0 : Int).toNat).take ((nth p3 2).toInt.toNat - (0 : Int).toNat)).length) 17592186044416)
  (iff (leN ((([] : List PV) ++ (((nth p3 1).toList.drop (0 : Int).toNat).take ((nth p3 2).toInt.toNat - (0 : Int).toNat))).length + ((nth p3 0) :: ([] : List PV)).length) 17592186044416)
  (iff (geI (nth p3 2).toInt (0 : Int))
  (iff (leI (nth p3 2).toInt ((nth p3 1).toList.length : Int))
  (iff (leI ((nth p3 1).toList.length : Int) ((nth p3 1).toList.length : Int))
  (iff (leN (((([] : List PV) ++ (((nth p3 1).toList.drop (0 : Int).toNat).take ((nth p3 2).toInt.toNat - (0 : Int).toNat))) ++ ((nth p3 0) :: ([] : List PV))).length + (((nth p3 1).toList.drop (nth p3 2).toInt.toNat).take (((nth p3 1).toList.length : Int).toNat - (nth p3 2).toInt.toNat)).length) 17592186044416)
  (some [(PV.list (((([] : List PV) ++ (((nth p3 1).toList.drop (0 : Int).toNat).take ((nth p3 2).toInt.toNat - (0 : Int).toNat))) ++ ((nth p3 0) :: ([] : List PV))) ++ (((nth p3 1).toList.drop (nth p3 2).toInt.toNat).take (((nth p3 1).toList.length : Int).toNat - (nth p3 2).toInt.toNat))))])
  none)
  none)
  none)
  none)
  none)
  none)
  none)
  none)
  none))
  (retE fun q4 => [(nth q4 0)]))))
theorem e41 : ∀ I n a, (compF Try.prog sg 41).map (fun d => d.ev I n a) = some (F41 I n a) := fun I n a => by kernel_rfl
/-! laws.eqRefS -/
noncomputable def L22_0 (I : Interp) (n : Nat) (p0 : List PV) : Option (Ex × List PV) :=
  (iff (ltI (nth p0 0).toInt ((nth p0 1).toList.length : Int))
  (iff (geI (nth p0 0).toInt (0 : Int))
  (iff (ltI (nth p0 0).toInt ((nth p0 1).toList.length : Int))
  (iff (geI (nth p0 0).toInt (0 : Int))
  (iff (ltI (nth p0 0).toInt ((nth p0 2).toList.length : Int))
  ((I 51 [(nth (nth p0 1).toList (nth p0 0).toInt.toNat), (nth (nth p0 2).toList (nth p0 0).toInt.toNat)]).bind fun r1 =>
  (iff (!(nth r1 0).toBool)
  (some (Ex.r, [(PV.bool false)]))
  (some (Ex.n, [(PV.int (IntKind.i64.wrap ((nth p0 0).toInt + (1 : Int)))), (nth p0 1), (nth p0 2)]))))
  none)
  none)
  none)
  none)
  (some (Ex.x 0, [])))
noncomputable def F22 (I : Interp) (n : Nat) (a : List PV) : Option (List PV) :=
  (iff (neI ((nth a 0).toList.length : Int) ((nth a 1).toList.length : Int))
  (some [(PV.bool false)])
  (thenN (thenE (loopEv (L22_0 I n) n [(PV.int (0 : Int)), (nth a 0), (nth a 1)])
  (passB 0))
  (fun p2 => (some [(PV.bool true)]))
  (retE fun q3 => [(nth q3 0)])))
theorem e22 : ∀ I n a, (compF Try.prog sg 22).map (fun d => d.ev I n a) = some (F22 I n a) := fun I n a => by kernel_rfl
/-! laws.eqIntSS -/
noncomputable def L21_0 (I : Interp) (n : Nat) (p0 : List PV) : Option (Ex × List PV) :=
  (iff (ltI (nth p0 0).toInt ((nth p0 1).toList.length : Int))
  (iff (geI (nth p0 0).toInt (0 : Int))
  (iff (ltI (nth p0 0).toInt ((nth p0 1).toList.length : Int))
  (iff (geI (nth p0 0).toInt (0 : Int))
  (iff (ltI (nth p0 0).toInt ((nth p0 2).toList.length : Int))
  ((I 12 [(nth (nth p0 1).toList (nth p0 0).toInt.toNat), (nth (nth p0 2).toList (nth p0 0).toInt.toNat)]).bind fun r1 =>
  (iff (!(nth r1 0).toBool)
  (some (Ex.r, [(PV.bool false)]))
  (some (Ex.n, [(PV.int (IntKind.i64.wrap ((nth p0 0).toInt + (1 : Int)))), (nth p0 1), (nth p0 2)]))))
  none)
  none)
  none)
  none)
  (some (Ex.x 0, [])))
noncomputable def F21 (I : Interp) (n : Nat) (a : List PV) : Option (List PV) :=
  (iff (neI ((nth a 0).toList.length : Int) ((nth a 1).toList.length : Int))
  (some [(PV.bool false)])
  (thenN (thenE (loopEv (L21_0 I n) n [(PV.int (0 : Int)), (nth a 0), (nth a 1)])
  (passB 0))
  (fun p2 => (some [(PV.bool true)]))
  (retE fun q3 => [(nth q3 0)])))
theorem e21 : ∀ I n a, (compF Try.prog sg 21).map (fun d => d.ev I n a) = some (F21 I n a) := fun I n a => by kernel_rfl
/-! slices.IndexFunc[[][]int,[]int] -/
noncomputable def L49_0 (I : Interp) (n : Nat) (p0 : List PV) : Option (Ex × List PV) :=
  (iff (ltI (nth p0 0).toInt (nth p0 1).toInt)
  (iff (geI (nth p0 0).toInt (0 : Int))
  (iff (ltI (nth p0 0).toInt ((nth p0 2).toList.length : Int))
  ((I 50 [(nth (nth p0 2).toList (nth p0 0).toInt.toNat), (nth p0 4), (nth p0 3)]).bind fun r1 =>
  (iff (nth r1 0).toBool
  (some (Ex.r, [(nth r1 1), (nth p0 0)]))
  (some (Ex.n, [(PV.int (IntKind.i64.wrap ((nth p0 0).toInt + (1 : Int)))), (nth p0 1), (nth p0 2), (nth p0 3), (nth r1 1)]))))
  none)
  none)
  (some (Ex.x 0, [(nth p0 4)])))
noncomputable def F49 (I : Interp) (n : Nat) (a : List PV) : Option (List PV) :=
  (thenN (thenE (loopEv (L49_0 I n) n [(PV.int (0 : Int)), (PV.int ((nth a 0).toList.length : Int)), (nth a 0), (nth a 2), (nth a 1)])
  (passB 0))
  (fun p2 => (some [(PV.int (-1 : Int)), (nth p2 0)]))
  (retE fun q3 => [(nth q3 1), (nth q3 0)]))
theorem e49 : ∀ I n a, (compF Try.prog sg 49).map (fun d => d.ev I n a) = some (F49 I n a) := fun I n a => by kernel_rfl
/-! slices.IndexFunc[[][]int,[]int] -/
noncomputable def L4145_0 (I : Interp) (n : Nat) (p0 : List PV) : Option (Ex × List PV) :=
  (iff (ltI (nth p0 0).toInt (nth p0 1).toInt)
  (iff (geI (nth p0 0).toInt (0 : Int))
  (iff (ltI (nth p0 0).toInt ((nth p0 2).toList.length : Int))
  ((I 50 [(nth (nth p0 2).toList (nth p0 0).toInt.toNat), (nth p0 3), (nth p0 4)]).bind fun r1 =>
  (iff (nth r1 0).toBool
  (some (Ex.r, [(nth r1 1), (nth p0 4), (nth p0 0)]))
  (some (Ex.n, [(PV.int (IntKind.i64.wrap ((nth p0 0).toInt + (1 : Int)))), (nth p0 1), (nth p0 2), (nth r1 1), (nth p0 4)]))))
  none)
  none)
  (some (Ex.x 0, [(nth p0 3), (nth p0 4)])))
noncomputable def F4145 (I : Interp) (n : Nat) (a : List PV) : Option (List PV) :=
  (thenN (thenE (loopEv (L4145_0 I n) n [(PV.int (0 : Int)), (PV.int ((nth a 0).toList.length : Int)), (nth a 0), (nth a 1), (nth a 2)])
  (passB 0))
  (fun p2 => (some [(PV.int (-1 : Int)), (nth p2 0), (nth p2 1)]))
  (retE fun q3 => [(nth q3 2), (nth q3 0), (nth q3 1)]))
theorem e4145 : ∀ I n a, (compF Try.prog sg 4145).map (fun d => d.ev I n a) = some (F4145 I n a) := fun I n a => by kernel_rfl
/-! slices.IndexFunc[[][]int,[]int] -/
noncomputable def L8241_0 (I : Interp) (n : Nat) (p0 : List PV) : Option (Ex × List PV) :=
  (iff (ltI (nth p0 0).toInt (nth p0 1).toInt)
  (iff (geI (nth p0 0).toInt (0 : Int))
  (iff (ltI (nth p0 0).toInt ((nth p0 2).toList.length : Int))
  ((I 50 [(nth (nth p0 2).toList (nth p0 0).toInt.toNat), (nth p0 3), (nth p0 4)]).bind fun r1 =>
  (iff (nth r1 0).toBool
  (some (Ex.r, [(nth r1 1), (nth p0 4), (nth p0 0)]))
  (some (Ex.n, [(PV.int (IntKind.i64.wrap ((nth p0 0).toInt + (1 : Int)))), (nth p0 1), (nth p0 2), (nth r1 1), (nth p0 4)]))))
  none)
  none)
  (some (Ex.x 0, [(nth p0 3), (nth p0 4)])))
noncomputable def F8241 (I : Interp) (n : Nat) (a : List PV) : Option (List PV) :=
  (thenN (thenE (loopEv (L8241_0 I n) n [(PV.int (0 : Int)), (PV.int ((nth a 0).toList.length : Int)), (nth a 0), (nth a 1), (nth a 2)])
  (passB 0))
  (fun p2 => (some [(PV.int (-1 : Int)), (nth p2 0), (nth p2 1)]))
  (retE fun q3 => [(nth q3 2), (nth q3 0), (nth q3 1)]))
theorem e8241 : ∀ I n a, (compF Try.prog sg 8241).map (fun d => d.ev I n a) = some (F8241 I n a) := fun I n a => by kernel_rfl
/-! slices.IndexFunc[[][]int,[]int] -/
noncomputable def L12337_0 (I : Interp) (n : Nat) (p0 : List PV) : Option (Ex × List PV) :=
  (iff (ltI (nth p0 0).toInt (nth p0 1).toInt)
  (iff (geI (nth p0 0).toInt (0 : Int))
  (iff (ltI (nth p0 0).toInt ((nth p0 2).toList.length : Int))
  ((I 50 [(nth (nth p0 2).toList (nth p0 0).toInt.toNat), (nth p0 4), (nth p0 3)]).bind fun r1 =>
  (iff (nth r1 0).toBool
  (some (Ex.r, [(nth r1 1), (nth p0 0)]))
  (some (Ex.n, [(PV.int (IntKind.i64.wrap ((nth p0 0).toInt + (1 : Int)))), (nth p0 1), (nth p0 2), (nth p0 3), (nth r1 1)]))))
  none)
  none)
  (some (Ex.x 0, [(nth p0 4)])))
noncomputable def F12337 (I : Interp) (n : Nat) (a : List PV) : Option (List PV) :=
  (thenN (thenE (loopEv (L12337_0 I n) n [(PV.int (0 : Int)), (PV.int ((nth a 0).toList.length : Int)), (nth a 0), (nth a 2), (nth a 1)])
  (passB 0))
  (fun p2 => (some [(PV.int (-1 : Int)), (nth p2 0)]))
  (retE fun q3 => [(nth q3 1), (nth q3 0)]))
theorem e12337 : ∀ I n a, (compF Try.prog sg 12337).map (fun d => d.ev I n a) = some (F12337 I n a) := fun I n a => by kernel_rfl
/-! slices.IndexFunc[[][]int,[]int] -/
noncomputable def L16433_0 (I : Interp) (n : Nat) (p0 : List PV) : Option (Ex × List PV) :=
  (iff (ltI (nth p0 0).toInt (nth p0 1).toInt)
  (iff (geI (nth p0 0).toInt (0 : Int))
  (iff (ltI (nth p0 0).toInt ((nth p0 2).toList.length : Int))
  ((I 50 [(nth (nth p0 2).toList (nth p0 0).toInt.toNat), (nth p0 3), (nth p0 4)]).bind fun r1 =>
  (iff (nth r1 0).toBool
  (some (Ex.r, [(nth r1 1), (nth p0 4), (nth p0 0)]))
  (some (Ex.n, [(PV.int (IntKind.i64.wrap ((nth p0 0).toInt + (1 : Int)))), (nth p0 1), (nth p0 2), (nth r1 1), (nth p0 4)]))))
  none)
  none)
  (some (Ex.x 0, [(nth p0 3), (nth p0 4)])))
noncomputable def F16433 (I : Interp) (n : Nat) (a : List PV) : Option (List PV) :=
  (thenN (thenE (loopEv (L16433_0 I n) n [(PV.int (0 : Int)), (PV.int ((nth a 0).toList.length : Int)), (nth a 0), (nth a 1), (nth a 2)])
  (passB 0))
  (fun p2 => (some [(PV.int (-1 : Int)), (nth p2 0), (nth p2 1)]))
  (retE fun q3 => [(nth q3 2), (nth q3 0), (nth q3 1)]))
theorem e16433 : ∀ I n a, (compF Try.prog sg 16433).map (fun d => d.ev I n a) = some (F16433 I n a) := fun I n a => by kernel_rfl
/-! slices.IndexFunc[[][]int,[]int] -/
noncomputable def L20529_0 (I : Interp) (n : Nat) (p0 : List PV) : Option (Ex × List PV) :=
  (iff (ltI (nth p0 0).toInt (nth p0 1).toInt)
  (iff (geI (nth p0 0).toInt (0 : Int))
  (iff (ltI (nth p0 0).toInt ((nth p0 2).toList.length : Int))
  ((I 50 [(nth (nth p0 2).toList (nth p0 0).toInt.toNat), (nth p0 3), (nth p0 4)]).bind fun r1 =>
  (iff (nth r1 0).toBool
  (some (Ex.r, [(nth r1 1), (nth p0 4), (nth p0 0)]))
  (some (Ex.n, [(PV.int (IntKind.i64.wrap ((nth p0 0).toInt + (1 : Int)))), (nth p0 1), (nth p0 2), (nth r1 1), (nth p0 4)]))))
  none)
  none)
  (some (Ex.x 0, [(nth p0 3), (nth p0 4)])))
noncomputable def F20529 (I : Interp) (n : Nat) (a : List PV) : Option (List PV) :=
  (thenN (thenE (loopEv (L20529_0 I n) n [(PV.int (0 : Int)), (PV.int ((nth a 0).toList.length : Int)), (nth a 0), (nth a 1), (nth a 2)])
  (passB 0))
  (fun p2 => (some [(PV.int (-1 : Int)), (nth p2 0), (nth p2 1)]))
  (retE fun q3 => [(nth q3 2), (nth q3 0), (nth q3 1)]))
theorem e20529 : ∀ I n a, (compF Try.prog sg 20529).map (fun d => d.ev I n a) = some (F20529 I n a) := fun I n a => by kernel_rfl
/-! slices.IndexFunc[[][]int,[]int] -/
noncomputable def L24625_0 (I : Interp) (n : Nat) (p0 : List PV) : Option (Ex × List PV) :=
  (iff (ltI (nth p0 0).toInt (nth p0 1).toInt)
  (iff (geI (nth p0 0).toInt (0 : Int))
  (iff (ltI (nth p0 0).toInt ((nth p0 2).toList.length : Int))
  ((I 50 [(nth (nth p0 2).toList (nth p0 0).toInt.toNat), (nth p0 4), (nth p0 3)]).bind fun r1 =>
  (iff (nth r1 0).toBool
  (some (Ex.r, [(nth r1 1), (nth p0 0)]))
  (some (Ex.n, [(PV.int (IntKind.i64.wrap ((nth p0 0).toInt + (1 : Int)))), (nth p0 1), (nth p0 2), (nth p0 3), (nth r1 1)]))))
  none)
  none)
  (some (Ex.x 0, [(nth p0 4)])))
noncomputable def F24625 (I : Interp) (n : Nat) (a : List PV) : Option (List PV) :=
  (thenN (thenE (loopEv (L24625_0 I n) n [(PV.int (0 : Int)), (PV.int ((nth a 0).toList.length : Int)), (nth a 0), (nth a 2), (nth a 1)])
  (passB 0))
  (fun p2 => (some [(PV.int (-1 : Int)), (nth p2 0)]))
  (retE fun q3 => [(nth q3 1), (nth q3 0)]))
theorem e24625 : ∀ I n a, (compF Try.prog sg 24625).map (fun d => d.ev I n a) = some (F24625 I n a) := fun I n a => by kernel_rfl
/-! slices.IndexFunc[[][]int,[]int] -/
noncomputable def L28721_0 (I : Interp) (n : Nat) (p0 : List PV) : Option (Ex × List PV) :=
  (iff (ltI (nth p0 0).toInt (nth p0 1).toInt)
  (iff (geI (nth p0 0).toInt (0 : Int))
  (iff (ltI (nth p0 0).toInt ((nth p0 2).toList.length : Int))
  ((I 50 [(nth (nth p0 2).toList (nth p0 0).toInt.toNat), (nth p0 3), (nth p0 4)]).bind fun r1 =>
  (iff (nth r1 0).toBool
  (some (Ex.r, [(nth r1 1), (nth p0 4), (nth p0 0)]))
  (some (Ex.n, [(PV.int (IntKind.i64.wrap ((nth p0 0).toInt + (1 : Int)))), (nth p0 1), (nth p0 2), (nth r1 1), (nth p0 4)]))))
  none)
  none)
  (some (Ex.x 0, [(nth p0 3), (nth p0 4)])))
noncomputable def F28721 (I : Interp) (n : Nat) (a : List PV) : Option (List PV) :=
  (thenN (thenE (loopEv (L28721_0 I n) n [(PV.int (0 : Int)), (PV.int ((nth a 0).toList.length : Int)), (nth a 0), (nth a 1), (nth a 2)])
  (passB 0))
  (fun p2 => (some [(PV.int (-1 : Int)), (nth p2 0), (nth p2 1)]))
  (retE fun q3 => [(nth q3 2), (nth q3 0), (nth q3 1)]))
theorem e28721 : ∀ I n a, (compF Try.prog sg 28721).map (fun d => d.ev I n a) = some (F28721 I n a) := fun I n a => by kernel_rfl
/-! slices.IndexFunc[[][]int,[]int] -/
noncomputable def L32817_0 (I : Interp) (n : Nat) (p0 : List PV) : Option (Ex × List PV) :=
  (iff (ltI (nth p0 0).toInt (nth p0 1).toInt)
  (iff (geI (nth p0 0).toInt (0 : Int))
  (iff (ltI (nth p0 0).toInt ((nth p0 2).toList.length : Int))
  ((I 50 [(nth (nth p0 2).toList (nth p0 0).toInt.toNat), (nth p0 3), (nth p0 4)]).bind fun r1 =>
  (iff (nth r1 0).toBool
  (some (Ex.r, [(nth r1 1), (nth p0 4), (nth p0 0)]))
  (some (Ex.n, [(PV.int (IntKind.i64.wrap ((nth p0 0).toInt + (1 : Int)))), (nth p0 1), (nth p0 2), (nth r1 1), (nth p0 4)]))))
  none)
  none)
  (some (Ex.x 0, [(nth p0 3), (nth p0 4)])))
noncomputable def F32817 (I : Interp) (n : Nat) (a : List PV) : Option (List PV) :=
  (thenN (thenE (loopEv (L32817_0 I n) n [(PV.int (0 : Int)), (PV.int ((nth a 0).toList.length : Int)), (nth a 0), (nth a 1), (nth a 2)])
  (passB 0))
  (fun p2 => (some [(PV.int (-1 : Int)), (nth p2 0), (nth p2 1)]))
  (retE fun q3 => [(nth q3 2), (nth q3 0), (nth q3 1)]))
theorem e32817 : ∀ I n a, (compF Try.prog sg 32817).map (fun d => d.ev I n a) = some (F32817 I n a) := fun I n a => by kernel_rfl
/-! slices.IndexFunc[[][]int,[]int] -/
noncomputable def L36913_0 (I : Interp) (n : Nat) (p0 : List PV) : Option (Ex × List PV) :=
  (iff (ltI (nth p0 0).toInt (nth p0 1).toInt)
  (iff (geI (nth p0 0).toInt (0 : Int))
  (iff (ltI (nth p0 0).toInt ((nth p0 2).toList.length : Int))
  ((I 50 [(nth (nth p0 2).toList (nth p0 0).toInt.toNat), (nth p0 4), (nth p0 3)]).bind fun r1 =>
  (iff (nth r1 0).toBool
  (some (Ex.r, [(nth r1 1), (nth p0 0)]))
  (some (Ex.n, [(PV.int (IntKind.i64.wrap ((nth p0 0).toInt + (1 : Int)))), (nth p0 1), (nth p0 2), (nth p0 3), (nth r1 1)]))))
  none)
  none)
  (some (Ex.x 0, [(nth p0 4)])))
noncomputable def F36913 (I : Interp) (n : Nat) (a : List PV) : Option (List PV) :=
  (thenN (thenE (loopEv (L36913_0 I n) n [(PV.int (0 : Int)), (PV.int ((nth a 0).toList.length : Int)), (nth a 0), (nth a 2), (nth a 1)])
  (passB 0))
  (fun p2 => (some [(PV.int (-1 : Int)), (nth p2 0)]))
  (retE fun q3 => [(nth q3 1), (nth q3 0)]))
theorem e36913 : ∀ I n a, (compF Try.prog sg 36913).map (fun d => d.ev I n a) = some (F36913 I n a) := fun I n a => by kernel_rfl
/-! slices.IndexFunc[[][]int,[]int] -/
noncomputable def L41009_0 (I : Interp) (n : Nat) (p0 : List PV) : Option (Ex × List PV) :=
  (iff (ltI (nth p0 0).toInt (nth p0 1).toInt)
  (iff (geI (nth p0 0).toInt (0 : Int))
  (iff (ltI (nth p0 0).toInt ((nth p0 2).toList.length : Int))
  ((I 50 [(nth (nth p0 2).toList (nth p0 0).toInt.toNat), (nth p0 3), (nth p0 4)]).bind fun r1 =>
  (iff (nth r1 0).toBool
  (some (Ex.r, [(nth r1 1), (nth p0 4), (nth p0 0)]))
  (some (Ex.n, [(PV.int (IntKind.i64.wrap ((nth p0 0).toInt + (1 : Int)))), (nth p0 1), (nth p0 2), (nth r1 1), (nth p0 4)]))))
  none)
  none)
  (some (Ex.x 0, [(nth p0 3), (nth p0 4)])))
noncomputable def F41009 (I : Interp) (n : Nat) (a : List PV) : Option (List PV) :=
  (thenN (thenE (loopEv (L41009_0 I n) n [(PV.int (0 : Int)), (PV.int ((nth a 0).toList.length : Int)), (nth a 0), (nth a 1), (nth a 2)])
  (passB 0))
  (fun p2 => (some [(PV.int (-1 : Int)), (nth p2 0), (nth p2 1)]))
  (retE fun q3 => [(nth q3 2), (nth q3 0), (nth q3 1)]))
theorem e41009 : ∀ I n a, (compF Try.prog sg 41009).map (fun d => d.ev I n a) = some (F41009 I n a) := fun I n a => by kernel_rfl
/-! slices.IndexFunc[[][]int,[]int] -/
noncomputable def L45105_0 (I : Interp) (n : Nat) (p0 : List PV) : Option (Ex × List PV) :=
  (iff (ltI (nth p0 0).toInt (nth p0 1).toInt)
  (iff (geI (nth p0 0).toInt (0 : Int))
  (iff (ltI (nth p0 0).toInt ((nth p0 2).toList.length : Int))
  ((I 50 [(nth (nth p0 2).toList (nth p0 0).toInt.toNat), (nth p0 3), (nth p0 4)]).bind fun r1 =>
  (iff (nth r1 0).toBool
  (some (Ex.r, [(nth r1 1), (nth p0 4), (nth p0 0)]))
  (some (Ex.n, [(PV.int (IntKind.i64.wrap ((nth p0 0).toInt + (1 : Int)))), (nth p0 1), (nth p0 2), (nth r1 1), (nth p0 4)]))))
  none)
  none)
  (some (Ex.x 0, [(nth p0 3), (nth p0 4)])))
noncomputable def F45105 (I : Interp) (n : Nat) (a : List PV) : Option (List PV) :=
  (thenN (thenE (loopEv (L45105_0 I n) n [(PV.int (0 : Int)), (PV.int ((nth a 0).toList.length : Int)), (nth a 0), (nth a 1), (nth a 2)])
  (passB 0))
  (fun p2 => (some [(PV.int (-1 : Int)), (nth p2 0), (nth p2 1)]))
  (retE fun q3 => [(nth q3 2), (nth q3 0), (nth q3 1)]))
theorem e45105 : ∀ I n a, (compF Try.prog sg 45105).map (fun d => d.ev I n a) = some (F45105 I n a) := fun I n a => by kernel_rfl
/-! slices.IndexFunc[[][]int,[]int] -/
noncomputable def L49201_0 (I : Interp) (n : Nat) (p0 : List PV) : Option (Ex × List PV) :=
  (iff (ltI (nth p0 0).toInt (nth p0 1).toInt)
  (iff (geI (nth p0 0).toInt (0 : Int))
  (iff (ltI (nth p0 0).toInt ((nth p0 2).toList.length : Int))
  ((I 50 [(nth (nth p0 2).toList (nth p0 0).toInt.toNat), (nth p0 4), (nth p0 3)]).bind fun r1 =>
  (iff (nth r1 0).toBool
  (some (Ex.r, [(nth r1 1), (nth p0 0)]))
  (some (Ex.n, [(PV.int (IntKind.i64.wrap ((nth p0 0).toInt + (1 : Int)))), (nth p0 1), (nth p0 2), (nth p0 3), (nth r1 1)]))))
  none)
  none)
  (some (Ex.x 0, [(nth p0 4)])))
noncomputable def F49201 (I : Interp) (n : Nat) (a : List PV) : Option (List PV) :=
  (thenN (thenE (loopEv (L49201_0 I n) n [(PV.int (0 : Int)), (PV.int ((nth a 0).toList.length : Int)), (nth a 0), (nth a 2), (nth a 1)])
  (passB 0))
  (fun p2 => (some [(PV.int (-1 : Int)), (nth p2 0)]))
  (retE fun q3 => [(nth q3 1), (nth q3 0)]))
theorem e49201 : ∀ I n a, (compF Try.prog sg 49201).map (fun d => d.ev I n a) = some (F49201 I n a) := fun I n a => by kernel_rfl
/-! slices.IndexFunc[[][]int,[]int] -/
noncomputable def L53297_0 (I : Interp) (n : Nat) (p0 : List PV) : Option (Ex × List PV) :=
  (iff (ltI (nth p0 0).toInt (nth p0 1).toInt)
  (iff (geI (nth p0 0).toInt (0 : Int))
  (iff (ltI (nth p0 0).toInt ((nth p0 2).toList.length : Int))
  ((I 50 [(nth (nth p0 2).toList (nth p0 0).toInt.toNat), (nth p0 3), (nth p0 4)]).bind fun r1 =>
  (iff (nth r1 0).toBool
  (some (Ex.r, [(nth r1 1), (nth p0 4), (nth p0 0)]))
  (some (Ex.n, [(PV.int (IntKind.i64.wrap ((nth p0 0).toInt + (1 : Int)))), (nth p0 1), (nth p0 2), (nth r1 1), (nth p0 4)]))))
  none)
  none)
  (some (Ex.x 0, [(nth p0 3), (nth p0 4)])))
noncomputable def F53297 (I : Interp) (n : Nat) (a : List PV) : Option (List PV) :=
  (thenN (thenE (loopEv (L53297_0 I n) n [(PV.int (0 : Int)), (PV.int ((nth a 0).toList.length : Int)), (nth a 0), (nth a 1), (nth a 2)])
  (passB 0))
  (fun p2 => (some [(PV.int (-1 : Int)), (nth p2 0), (nth p2 1)]))
  (retE fun q3 => [(nth q3 2), (nth q3 0), (nth q3 1)]))
theorem e53297 : ∀ I n a, (compF Try.prog sg 53297).map (fun d => d.ev I n a) = some (F53297 I n a) := fun I n a => by kernel_rfl
/-! slices.IndexFunc[[][]int,[]int] -/
noncomputable def L57393_0 (I : Interp) (n : Nat) (p0 : List PV) : Option (Ex × List PV) :=
  (iff (ltI (nth p0 0).toInt (nth p0 1).toInt)
  (iff (geI (nth p0 0).toInt (0 : Int))
  (iff (ltI (nth p0 0).toInt ((nth p0 2).toList.length : Int))
  ((I 50 [(nth (nth p0 2).toList (nth p0 0).toInt.toNat), (nth p0 3), (nth p0 4)]).bind fun r1 =>
  (iff (nth r1 0).toBool
  (some (Ex.r, [(nth r1 1), (nth p0 4), (nth p0 0)]))
  (some (Ex.n, [(PV.int (IntKind.i64.wrap ((nth p0 0).toInt + (1 : Int)))), (nth p0 1), (nth p0 2), (nth r1 1), (nth p0 4)]))))
  none)
  none)
  (some (Ex.x 0, [(nth p0 3), (nth p0 4)])))
noncomputable def F57393 (I : Interp) (n : Nat) (a : List PV) : Option (List PV) :=
  (thenN (thenE (loopEv (L57393_0 I n) n [(PV.int (0 : Int)), (PV.int ((nth a 0).toList.length : Int)), (nth a 0), (nth a 1), (nth a 2)])
  (passB 0))
  (fun p2 => (some [(PV.int (-1 : Int)), (nth p2 0), (nth p2 1)]))
  (retE fun q3 => [(nth q3 2), (nth q3 0), (nth q3 1)]))
theorem e57393 : ∀ I n a, (compF Try.prog sg 57393).map (fun d => d.ev I n a) = some (F57393 I n a) := fun I n a => by kernel_rfl
/-! slices.IndexFunc[[][]int,[]int] -/
noncomputable def L61489_0 (I : Interp) (n : Nat) (p0 : List PV) : Option (Ex × List PV) :=
  (iff (ltI (nth p0 0).toInt (nth p0 1).toInt)
  (iff (geI (nth p0 0).toInt (0 : Int))
  (iff (ltI (nth p0 0).toInt ((nth p0 2).toList.length : Int))
  ((I 50 [(nth (nth p0 2).toList (nth p0 0).toInt.toNat), (nth p0 4), (nth p0 3)]).bind fun r1 =>
  (iff (nth r1 0).toBool
  (some (Ex.r, [(nth r1 1), (nth p0 0)]))
  (some (Ex.n, [(PV.int (IntKind.i64.wrap ((nth p0 0).toInt + (1 : Int)))), (nth p0 1), (nth p0 2), (nth p0 3), (nth r1 1)]))))
  none)
  none)
  (some (Ex.x 0, [(nth p0 4)])))
noncomputable def F61489 (I : Interp) (n : Nat) (a : List PV) : Option (List PV) :=
  (thenN (thenE (loopEv (L61489_0 I n) n [(PV.int (0 : Int)), (PV.int ((nth a 0).toList.length : Int)), (nth a 0), (nth a 2), (nth a 1)])
  (passB 0))
  (fun p2 => (some [(PV.int (-1 : Int)), (nth p2 0)]))
  (retE fun q3 => [(nth q3 1), (nth q3 0)]))
theorem e61489 : ∀ I n a, (compF Try.prog sg 61489).map (fun d => d.ev I n a) = some (F61489 I n a) := fun I n a => by kernel_rfl
/-! slices.IndexFunc[[][]int,[]int] -/
noncomputable def L65585_0 (I : Interp) (n : Nat) (p0 : List PV) : Option (Ex × List PV) :=
  (iff (ltI (nth p0 0).toInt (nth p0 1).toInt)
  (iff (geI (nth p0 0).toInt (0 : Int))
  (iff (ltI (nth p0 0).toInt ((nth p0 2).toList.length : Int))
  ((I 50 [(nth (nth p0 2).toList (nth p0 0).toInt.toNat), (nth p0 3), (nth p0 4)]).bind fun r1 =>
  (iff (nth r1 0).toBool
  (some (Ex.r, [(nth r1 1), (nth p0 4), (nth p0 0)]))
  (some (Ex.n, [(PV.int (IntKind.i64.wrap ((nth p0 0).toInt + (1 : Int)))), (nth p0 1), (nth p0 2), (nth r1 1), (nth p0 4)]))))
  none)
  none)
  (some (Ex.x 0, [(nth p0 3), (nth p0 4)])))
noncomputable def F65585 (I : Interp) (n : Nat) (a : List PV) : Option (List PV) :=
  (thenN (thenE (loopEv (L65585_0 I n) n [(PV.int (0 : Int)), (PV.int ((nth a 0).toList.length : Int)), (nth a 0), (nth a 1), (nth a 2)])
  (passB 0))
  (fun p2 => (some [(PV.int (-1 : Int)), (nth p2 0), (nth p2 1)]))
  (retE fun q3 => [(nth q3 2), (nth q3 0), (nth q3 1)]))
theorem e65585 : ∀ I n a, (compF Try.prog sg 65585).map (fun d => d.ev I n a) = some (F65585 I n a) := fun I n a => by kernel_rfl
/-! slices.IndexFunc[[][]int,[]int] -/
noncomputable def L69681_0 (I : Interp) (n : Nat) (p0 : List PV) : Option (Ex × List PV) :=
  (iff (ltI (nth p0 0).toInt (nth p0 1).toInt)
  (iff (geI (nth p0 0).toInt (0 : Int))
  (iff (ltI (nth p0 0).toInt ((nth p0 2).toList.length : Int))
  ((I 50 [(nth (nth p0 2).toList (nth p0 0).toInt.toNat), (nth p0 3), (nth p0 4)]).bind fun r1 =>
  (iff (nth r1 0).toBool
  (some (Ex.r, [(nth r1 1), (nth p0 4), (nth p0 0)]))
  (some (Ex.n, [(PV.int (IntKind.i64.wrap ((nth p0 0).toInt + (1 : Int)))), (nth p0 1), (nth p0 2), (nth r1 1), (nth p0 4)]))))
  none)
  none)
  (some (Ex.x 0, [(nth p0 3), (nth p0 4)])))
noncomputable def F69681 (I : Interp) (n : Nat) (a : List PV) : Option (List PV) :=
  (thenN (thenE (loopEv (L69681_0 I n) n [(PV.int (0 : Int)), (PV.int ((nth a 0).toList.length : Int)), (nth a 0), (nth a 1), (nth a 2)])
  (passB 0))
  (fun p2 => (some [(PV.int (-1 : Int)), (nth p2 0), (nth p2 1)]))
  (retE fun q3 => [(nth q3 2), (nth q3 0), (nth q3 1)]))
theorem e69681 : ∀ I n a, (compF Try.prog sg 69681).map (fun d => d.ev I n a) = some (F69681 I n a) := fun I n a => by kernel_rfl
/-! laws.toRefS -/
noncomputable def L19_0 (I : Interp) (n : Nat) (p0 : List PV) : Option (Ex × List PV) :=
  (iff (ltI (nth p0 0).toInt ((nth p0 1).toList.length : Int))
  (iff (geI (nth p0 0).toInt (0 : Int))
  (iff (ltI (nth p0 0).toInt ((nth p0 1).toList.length : Int))
  ((I 44 [(nth (nth p0 1).toList (nth p0 0).toInt.toNat)]).bind fun r1 =>
  (iff (geI (nth p0 0).toInt (0 : Int))
  (iff (ltI (nth p0 0).toInt ((nth p0 2).toList.length : Int))
  (some (Ex.n, [(PV.int (IntKind.i64.wrap ((nth p0 0).toInt + (1 : Int)))), (nth p0 1), (PV.list ((nth p0 2).toList.set (nth p0 0).toInt.toNat (nth r1 0)))]))
  none)
  none))
  none)
  none)
  (some (Ex.x 0, [(nth p0 2)])))
noncomputable def F19 (I : Interp) (n : Nat) (a : List PV) : Option (List PV) :=
  (iff (geI ((nth a 0).toList.length : Int) (0 : Int))
  (iff (leI ((nth a 0).toList.length : Int) ((nth a 0).toList.length : Int))
  (iff (leI ((nth a 0).toList.length : Int) (8796093022208 : Int))
  (thenN (thenE (loopEv (L19_0 I n) n [(PV.int (0 : Int)), (nth a 0), (PV.list (List.replicate ((nth a 0).toList.length : Int).toNat (PV.agg [(PV.int (0 : Int)), (PV.int (0 : Int))])))])
  (passB 0))
  (fun p2 => (some [(nth p2 0)]))
  (retE fun q3 => [(nth q3 0)]))
  none)
  none)
  none)
theorem e19 : ∀ I n a, (compF Try.prog sg 19).map (fun d => d.ev I n a) = some (F19 I n a) := fun I n a => by kernel_rfl
/-! laws.heldIntSS -/
noncomputable def L25_0 (I : Interp) (n : Nat) (p0 : List PV) : Option (Ex × List PV) :=
  (iff (ltI (nth p0 0).toInt ((nth p0 1).toList.length : Int))
  (iff (geI (nth p0 0).toInt (0 : Int))
  (iff (ltI (nth p0 0).toInt ((nth p0 1).toList.length : Int))
  ((I 16 [(nth (nth p0 1).toList (nth p0 0).toInt.toNat), (nth p0 2)]).bind fun r1 =>
  (iff (ltI (nth r1 0).toInt (0 : Int))
  (some (Ex.r, [(PV.int (-1 : Int))]))
  (some (Ex.n, [(PV.int (IntKind.i64.wrap ((nth p0 0).toInt + (1 : Int)))), (nth p0 1), (nth r1 0)]))))
  none)
  none)
  (some (Ex.x 0, [(nth p0 2)])))
noncomputable def F25 (I : Interp) (n : Nat) (a : List PV) : Option (List PV) :=
  (thenN (thenE (loopEv (L25_0 I n) n [(PV.int (0 : Int)), (nth a 0), (nth a 1)])
  (passB 0))
  (fun p2 => (some [(nth p2 0)]))
  (retE fun q3 => [(nth q3 0)]))
theorem e25 : ∀ I n a, (compF Try.prog sg 25).map (fun d => d.ev I n a) = some (F25 I n a) := fun I n a => by kernel_rfl
/-! spec.Kin -/
noncomputable def L18_0 (I : Interp) (n : Nat) (p0 : List PV) : Option (Ex × List PV) :=
  (iff (ltI (nth p0 0).toInt ((nth p0 1).toList.length : Int))
  (thenN (thenN (iff (geI (nth p0 0).toInt (0 : Int))
  (iff (ltI (nth p0 0).toInt ((nth p0 1).toList.length : Int))
  (iff (geI ((nth (nth p0 1).toList (nth p0 0).toInt.toNat).fld 0).toInt (0 : Int))
  (iff (geI (nth p0 0).toInt (0 : Int))
  (iff (ltI (nth p0 0).toInt ((nth p0 1).toList.length : Int))
  ((I 41 [(nth p0 2), ((nth (nth p0 1).toList (nth p0 0).toInt.toNat).fld 0)]).bind fun r1 =>
  (some (Ex.n, [(nth p0 0), (nth p0 1), (nth r1 0)])))
  none)
  none)
  (some (Ex.n, [(nth p0 0), (nth p0 1), (nth p0 2)])))
  none)
  none)
  (fun p2 => (iff (geI (nth p2 0).toInt (0 : Int))
  (iff (ltI (nth p2 0).toInt ((nth p2 1).toList.length : Int))
  (iff (geI ((nth (nth p2 1).toList (nth p2 0).toInt.toNat).fld 1).toInt (0 : Int))
  (iff (geI (nth p2 0).toInt (0 : Int))
  (iff (ltI (nth p2 0).toInt ((nth p2 1).toList.length : Int))
  ((I 41 [(nth p2 2), ((nth (nth p2 1).toList (nth p2 0).toInt.toNat).fld 1)]).bind fun r3 =>
  (some (Ex.n, [(nth p2 0), (nth p2 1), (nth r3 0)])))
  none)
  none)
  (some (Ex.n, [(nth p2 0), (nth p2 1), (nth p2 2)])))
  none)
  none))
  passE)
  (fun p4 => (some (Ex.n, [(PV.int (IntKind.i64.wrap ((nth p4 0).toInt + (1 : Int)))), (nth p4 1), (nth p4 2)])))
  passE)
  (some (Ex.x 0, [(nth p0 1), (nth p0 2)])))
noncomputable def L18_1 (I : Interp) (n : Nat) (p7 : List PV) : Option (Ex × List PV) :=
  (iff (ltI (nth p7 0).toInt ((nth p7 2).toList.length : Int))
  (thenN (iff (geI (nth p7 0).toInt (0 : Int))
  (iff (ltI (nth p7 0).toInt ((nth p7 2).toList.length : Int))
  ((I 42 [(nth p7 4), ((nth (nth p7 2).toList (nth p7 0).toInt.toNat).fld 0)]).bind fun r8 =>
  (iff (geI (nth p7 0).toInt (0 : Int))
  (iff (ltI (nth p7 0).toInt ((nth p7 2).toList.length : Int))
  ((I 42 [(nth p7 4), ((nth (nth p7 2).toList (nth p7 0).toInt.toNat).fld 1)]).bind fun r9 =>
  ((iff ((selB (ltI (nth r8 0).toInt (0 : Int)) (PV.bool true) (selB ((ltI (nth r8 0).toInt (0 : Int)) == false) (PV.bool (ltI (selB ((ltI (nth r8 0).toInt (0 : Int)) == false) (nth r9 0) PV.unit).toInt (0 : Int))) PV.unit)).isB false)
  (iff (geI (selB ((selB (ltI (nth r8 0).toInt (0 : Int)) (PV.bool true) (selB ((ltI (nth r8 0).toInt (0 : Int)) == false) (PV.bool (ltI (selB ((ltI (nth r8 0).toInt (0 : Int)) == false) (nth r9 0) PV.unit).toInt (0 : Int))) PV.unit)).isB false) (nth r8 0) PV.unit).toInt (0 : Int))
  (iff (ltI (selB ((selB (ltI (nth r8 0).toInt (0 : Int)) (PV.bool true) (selB ((ltI (nth r8 0).toInt (0 : Int)) == false) (PV.bool (ltI (selB ((ltI (nth r8 0).toInt (0 : Int)) == false) (nth r9 0) PV.unit).toInt (0 : Int))) PV.unit)).isB false) (nth r8 0) PV.unit).toInt ((nth p7 3).toList.length : Int))
  (some [(selB ((selB (ltI (nth r8 0).toInt (0 : Int)) (PV.bool true) (selB ((ltI (nth r8 0).toInt (0 : Int)) == false) (PV.bool (ltI (selB ((ltI (nth r8 0).toInt (0 : Int)) == false) (nth r9 0) PV.unit).toInt (0 : Int))) PV.unit)).isB false) (nth r8 0) PV.unit), (selB ((selB (ltI (nth r8 0).toInt (0 : Int)) (PV.bool true) (selB ((ltI (nth r8 0).toInt (0 : Int)) == false) (PV.bool (ltI (selB ((ltI (nth r8 0).toInt (0 : Int)) == false) (nth r9 0) PV.unit).toInt (0 : Int))) PV.unit)).isB false) (nth r8 0) PV.unit)])
  none)
  none)
  (some [PV.unit, PV.unit])).bind fun g10 =>
  ((iff ((selB (ltI (nth r8 0).toInt (0 : Int)) (PV.bool true) (selB ((ltI (nth r8 0).toInt (0 : Int)) == false) (PV.bool (ltI (selB ((ltI (nth r8 0).toInt (0 : Int)) == false) (nth r9 0) PV.unit).toInt (0 : Int))) PV.unit)).isB false)
  (iff (geI (selB ((selB (ltI (nth r8 0).toInt (0 : Int)) (PV.bool true) (selB ((ltI (nth r8 0).toInt (0 : Int)) == false) (PV.bool (ltI (selB ((ltI (nth r8 0).toInt (0 : Int)) == false) (nth r9 0) PV.unit).toInt (0 : Int))) PV.unit)).isB false) (nth r9 0) PV.unit).toInt (0 : Int))
  (iff (ltI (selB ((selB (ltI (nth r8 0).toInt (0 : Int)) (PV.bool true) (selB ((ltI (nth r8 0).toInt (0 : Int)) == false) (PV.bool (ltI (selB ((ltI (nth r8 0).toInt (0 : Int)) == false) (nth r9 0) PV.unit).toInt (0 : Int))) PV.unit)).isB false) (nth r9 0) PV.unit).toInt ((nth p7 3).toList.length : Int))
  (some [(selB ((selB (ltI (nth r8 0).toInt (0 : Int)) (PV.bool true) (selB ((ltI (nth r8 0).toInt (0 : Int)) == false) (PV.bool (ltI (selB ((ltI (nth r8 0).toInt (0 : Int)) == false) (nth r9 0) PV.unit).toInt (0 : Int))) PV.unit)).isB false) (nth r9 0) PV.unit), (selB ((selB (ltI (nth r8 0).toInt (0 : Int)) (PV.bool true) (selB ((ltI (nth r8 0).toInt (0 : Int)) == false) (PV.bool (ltI (selB ((ltI (nth r8 0).toInt (0 : Int)) == false) (nth r9 0) PV.unit).toInt (0 : Int))) PV.unit)).isB false) (nth r9 0) PV.unit)])
  none)
  none)
  (some [PV.unit, PV.unit])).bind fun g11 =>
  (iff (selB (selB (ltI (nth r8 0).toInt (0 : Int)) (PV.bool true) (selB ((ltI (nth r8 0).toInt (0 : Int)) == false) (PV.bool (ltI (selB ((ltI (nth r8 0).toInt (0 : Int)) == false) (nth r9 0) PV.unit).toInt (0 : Int))) PV.unit)).toBool (PV.bool true) (selB ((selB (ltI (nth r8 0).toInt (0 : Int)) (PV.bool true) (selB ((ltI (nth r8 0).toInt (0 : Int)) == false) (PV.bool (ltI (selB ((ltI (nth r8 0).toInt (0 : Int)) == false) (nth r9 0) PV.unit).toInt (0 : Int))) PV.unit)).isB false) (PV.bool (eqI (selB ((selB (ltI (nth r8 0).toInt (0 : Int)) (PV.bool true) (selB ((ltI (nth r8 0).toInt (0 : Int)) == false) (PV.bool (ltI (selB ((ltI (nth r8 0).toInt (0 : Int)) == false) (nth r9 0) PV.unit).toInt (0 : Int))) PV.unit)).isB false) (nth (nth p7 3).toList (nth g10 0).toInt.toNat) PV.unit).toInt (selB ((selB (ltI (nth r8 0).toInt (0 : Int)) (PV.bool true) (selB ((ltI (nth r8 0).toInt (0 : Int)) == false) (PV.bool (ltI (selB ((ltI (nth r8 0).toInt (0 : Int)) == false) (nth r9 0) PV.unit).toInt (0 : Int))) PV.unit)).isB false) (nth (nth p7 3).toList (nth g11 0).toInt.toNat) PV.unit).toInt)) PV.unit)).toBool
  (some (Ex.n, [(nth p7 0), (nth p7 1), (nth p7 2), (nth p7 3), (nth p7 4)]))
  (iff (geI (nth r8 0).toInt (0 : Int))
  (iff (ltI (nth r8 0).toInt ((nth p7 3).toList.length : Int))
  (iff (geI (nth r9 0).toInt (0 : Int))
  (iff (ltI (nth r9 0).toInt ((nth p7 3).toList.length : Int))
  ((I 43 [(nth (nth p7 3).toList (nth r8 0).toInt.toNat), (nth (nth p7 3).toList (nth r9 0).toInt.toNat)]).bind fun r12 =>
  (iff (geI (nth r8 0).toInt (0 : Int))
  (iff (ltI (nth r8 0).toInt ((nth p7 3).toList.length : Int))
  (iff (geI (nth r9 0).toInt (0 : Int))
  (iff (ltI (nth r9 0).toInt (((nth p7 3).toList.set (nth r8 0).toInt.toNat (nth r12 0)).length : Int))
  (some (Ex.n, [(nth p7 0), (PV.bool true), (nth p7 2), (PV.list (((nth p7 3).toList.set (nth r8 0).toInt.toNat (nth r12 0)).set (nth r9 0).toInt.toNat (nth r12 0))), (nth p7 4)]))
  none)
  none)
  none)
  none))
  none)
  none)
  none)
  none)))))
  none)
  none))
  none)
  none)
  (fun p13 => (some (Ex.n, [(PV.int (IntKind.i64.wrap ((nth p13 0).toInt + (1 : Int)))), (nth p13 1), (nth p13 2), (nth p13 3), (nth p13 4)])))
  passE)
  (some (Ex.x 4, [(nth p7 1), (nth p7 2), (nth p7 3), (nth p7 4)])))
noncomputable def L18_2 (I : Interp) (n : Nat) (p6 : List PV) : Option (Ex × List PV) :=
  (iff (nth p6 0).toBool
  (thenN (thenE (loopEv (L18_1 I n) n [(PV.int (0 : Int)), (PV.bool false), (nth p6 1), (nth p6 2), (nth p6 3)])
  (passB 4))
  (fun p14 => (some (Ex.n, [(nth p14 0), (nth p14 1), (nth p14 2), (nth p14 3)])))
  passE)
  (some (Ex.x 2, [(nth p6 2), (nth p6 3)])))
noncomputable def L18_3 (I : Interp) (n : Nat) (p17 : List PV) : Option (Ex × List PV) :=
  (iff (ltI (nth p17 0).toInt ((nth p17 5).toList.length : Int))
  (thenN (iff (geI (nth p17 0).toInt (0 : Int))
  (iff (ltI (nth p17 0).toInt ((nth p17 4).toList.length : Int))
  (iff (geI (nth p17 3).toInt (0 : Int))
  (iff (ltI (nth p17 3).toInt ((nth p17 5).toList.length : Int))
  (iff (eqI (nth (nth p17 4).toList (nth p17 0).toInt.toNat).toInt (nth (nth p17 5).toList (nth p17 3).toInt.toNat).toInt)
  (iff (geI (nth p17 0).toInt (0 : Int))
  (iff (ltI (nth p17 0).toInt ((nth p17 5).toList.length : Int))
  (iff (leN ((nth p17 2).toList.length + ((nth (nth p17 5).toList (nth p17 0).toInt.toNat) :: ([] : List PV)).length) 17592186044416)
  (some (Ex.n, [(nth p17 0), (nth p17 1), (PV.list ((nth p17 2).toList ++ ((nth (nth p17 5).toList (nth p17 0).toInt.toNat) :: ([] : List PV)))), (nth p17 3), (nth p17 4), (nth p17 5)]))
  none)
  none)
  none)
  (some (Ex.n, [(nth p17 0), (nth p17 1), (nth p17 2), (nth p17 3), (nth p17 4), (nth p17 5)])))
  none)
  none)
  none)
  none)
  (fun p18 => (some (Ex.n, [(PV.int (IntKind.i64.wrap ((nth p18 0).toInt + (1 : Int)))), (nth p18 1), (nth p18 2), (nth p18 3), (nth p18 4), (nth p18 5)])))
  passE)
  (some (Ex.x 8, [(nth p17 1), (nth p17 2), (nth p17 3), (nth p17 4), (nth p17 5)])))
noncomputable def L18_4 (I : Interp) (n : Nat) (p16 : List PV) : Option (Ex × List PV) :=
  (iff (ltI (nth p16 0).toInt ((nth p16 2).toList.length : Int))
  (thenN (iff (geI (nth p16 0).toInt (0 : Int))
  (iff (ltI (nth p16 0).toInt ((nth p16 1).toList.length : Int))
  (iff (geI (nth p16 0).toInt (0 : Int))
  (iff (ltI (nth p16 0).toInt ((nth p16 2).toList.length : Int))
  (iff (neI (nth (nth p16 1).toList (nth p16 0).toInt.toNat).toInt (nth (nth p16 2).toList (nth p16 0).toInt.toNat).toInt)
  (some (Ex.n, [(nth p16 0), (nth p16 1), (nth p16 2), (nth p16 3)]))
  (thenN (thenE (loopEv (L18_3 I n) n [(PV.int (0 : Int)), (nth p16 3), (PV.list ([] : List PV)), (nth p16 0), (nth p16 1), (nth p16 2)])
  (passB 8))
  (fun p19 => (iff (leN ((nth p19 0).toList.length + ((nth p19 1) :: ([] : List PV)).length) 5864062014805)
  (some (Ex.n, [(nth p19 2), (nth p19 3), (nth p19 4), (PV.list ((nth p19 0).toList ++ ((nth p19 1) :: ([] : List PV))))]))
  none))
  (passB 7)))
  none)
  none)
  none)
  none)
  (fun p20 => (some (Ex.n, [(PV.int (IntKind.i64.wrap ((nth p20 0).toInt + (1 : Int)))), (nth p20 1), (nth p20 2), (nth p20 3)])))
  passE)
  (some (Ex.x 6, [(nth p16 3)])))
noncomputable def F18 (I : Interp) (n : Nat) (a : List PV) : Option (List PV) :=
  (thenN (thenE (loopEv (L18_0 I n) n [(PV.int (0 : Int)), (nth a 0), (PV.list ([] : List PV))])
  (passB 0))
  (fun p5 => (iff (leN (([] : List PV).length + (nth p5 1).toList.length) 17592186044416)
  (thenN (thenE (loopEv (L18_2 I n) n [(PV.bool true), (nth p5 0), (PV.list (([] : List PV) ++ (nth p5 1).toList)), (nth p5 1)])
  (passB 2))
  (fun p15 => (thenN (thenE (loopEv (L18_4 I n) n [(PV.int (0 : Int)), (nth p15 0), (nth p15 1), (PV.list ([] : List PV))])
  (passB 6))
  (fun p21 => (some [(nth p21 0)]))
  (retE fun q22 => [(nth q22 0)])))
  (retE fun q23 => [(nth q23 0)]))
  none))
  (retE fun q24 => [(nth q24 0)]))
theorem e18 : ∀ I n a, (compF Try.prog sg 18).map (fun d => d.ev I n a) = some (F18 I n a) := fun I n a => by kernel_rfl
/-! impl.Kin -/
noncomputable def L20_0 (I : Interp) (n : Nat) (p0 : List PV) : Option (Ex × List PV) :=
  (iff (ltI (nth p0 0).toInt (nth p0 1).toInt)
  (iff (geI (nth p0 0).toInt (0 : Int))
  (iff (ltI (nth p0 0).toInt ((nth p0 2).toList.length : Int))
  (iff (leN ((nth p0 3).toList.length + (((nth (nth p0 2).toList (nth p0 0).toInt.toNat).fld 0) :: (((nth (nth p0 2).toList (nth p0 0).toInt.toNat).fld 1) :: ([] : List PV))).length) 17592186044416)
  (some (Ex.n, [(PV.int (IntKind.i64.wrap ((nth p0 0).toInt + (1 : Int)))), (nth p0 1), (nth p0 2), (PV.list ((nth p0 3).toList ++ (((nth (nth p0 2).toList (nth p0 0).toInt.toNat).fld 0) :: (((nth (nth p0 2).toList (nth p0 0).toInt.toNat).fld 1) :: ([] : List PV))))), (nth p0 4)]))
  none)
  none)
  none)
  (some (Ex.x 0, [(nth p0 3), (nth p0 4)])))
noncomputable def L20_1 (I : Interp) (n : Nat) (p5 : List PV) : Option (Ex × List PV) :=
  (iff (ltI (nth p5 0).toInt (nth p5 1).toInt)
  (iff (geI (nth p5 0).toInt (0 : Int))
  (iff (ltI (nth p5 0).toInt ((nth p5 3).toList.length : Int))
  (some (Ex.n, [(PV.int (IntKind.i64.wrap ((nth p5 0).toInt + (1 : Int)))), (nth p5 1), (nth p5 2), (nth p5 3), (PV.list (msetL (nth (nth p5 3).toList (nth p5 0).toInt.toNat).toInt (nth (nth p5 3).toList (nth p5 0).toInt.toNat) (nth p5 4).toList))]))
  none)
  none)
  (some (Ex.x 2, [(nth p5 2), (nth p5 3), (nth p5 4)])))
noncomputable def L20_2 (I : Interp) (n : Nat) (p8 : List PV) : Option (Ex × List PV) :=
  (iff (ltI (nth p8 0).toInt (nth p8 1).toInt)
  (thenN (iff (geI (nth p8 0).toInt (0 : Int))
  (iff (ltI (nth p8 0).toInt ((nth p8 2).toList.length : Int))
  (iff (selB (selB (ltI ((nth (nth p8 2).toList (nth p8 0).toInt.toNat).fld 0).toInt (0 : Int)) (PV.bool true) (selB ((ltI ((nth (nth p8 2).toList (nth p8 0).toInt.toNat).fld 0).toInt (0 : Int)) == false) (PV.bool (ltI (selB ((ltI ((nth (nth p8 2).toList (nth p8 0).toInt.toNat).fld 0).toInt (0 : Int)) == false) ((nth (nth p8 2).toList (nth p8 0).toInt.toNat).fld 1) PV.unit).toInt (0 : Int))) PV.unit)).toBool (PV.bool true) (selB ((selB (ltI ((nth (nth p8 2).toList (nth p8 0).toInt.toNat).fld 0).toInt (0 : Int)) (PV.bool true) (selB ((ltI ((nth (nth p8 2).toList (nth p8 0).toInt.toNat).fld 0).toInt (0 : Int)) == false) (PV.bool (ltI (selB ((ltI ((nth (nth p8 2).toList (nth p8 0).toInt.toNat).fld 0).toInt (0 : Int)) == false) ((nth (nth p8 2).toList (nth p8 0).toInt.toNat).fld 1) PV.unit).toInt (0 : Int))) PV.unit)).isB false) (PV.bool (eqI (selB ((selB (ltI ((nth (nth p8 2).toList (nth p8 0).toInt.toNat).fld 0).toInt (0 : Int)) (PV.bool true) (selB ((ltI ((nth (nth p8 2).toList (nth p8 0).toInt.toNat).fld 0).toInt (0 : Int)) == false) (PV.bool (ltI (selB ((ltI ((nth (nth p8 2).toList (nth p8 0).toInt.toNat).fld 0).toInt (0 : Int)) == false) ((nth (nth p8 2).toList (nth p8 0).toInt.toNat).fld 1) PV.unit).toInt (0 : Int))) PV.unit)).isB false) (mgetL (PV.int (0 : Int)) (selB ((selB (ltI ((nth (nth p8 2).toList (nth p8 0).toInt.toNat).fld 0).toInt (0 : Int)) (PV.bool true) (selB ((ltI ((nth (nth p8 2).toList (nth p8 0).toInt.toNat).fld 0).toInt (0 : Int)) == false) (PV.bool (ltI (selB ((ltI ((nth (nth p8 2).toList (nth p8 0).toInt.toNat).fld 0).toInt (0 : Int)) == false) ((nth (nth p8 2).toList (nth p8 0).toInt.toNat).fld 1) PV.unit).toInt (0 : Int))) PV.unit)).isB false) ((nth (nth p8 2).toList (nth p8 0).toInt.toNat).fld 0) PV.unit).toInt (nth p8 6).toList) PV.unit).toInt (selB ((selB (ltI ((nth (nth p8 2).toList (nth p8 0).toInt.toNat).fld 0).toInt (0 : Int)) (PV.bool true) (selB ((ltI ((nth (nth p8 2).toList (nth p8 0).toInt.toNat).fld 0).toInt (0 : Int)) == false) (PV.bool (ltI (selB ((ltI ((nth (nth p8 2).toList (nth p8 0).toInt.toNat).fld 0).toInt (0 : Int)) == false) ((nth (nth p8 2).toList (nth p8 0).toInt.toNat).fld 1) PV.unit).toInt (0 : Int))) PV.unit)).isB false) (mgetL (PV.int (0 : Int)) (selB ((selB (ltI ((nth (nth p8 2).toList (nth p8 0).toInt.toNat).fld 0).toInt (0 : Int)) (PV.bool true) (selB ((ltI ((nth (nth p8 2).toList (nth p8 0).toInt.toNat).fld 0).toInt (0 : Int)) == false) (PV.bool (ltI (selB ((ltI ((nth (nth p8 2).toList (nth p8 0).toInt.toNat).fld 0).toInt (0 : Int)) == false) ((nth (nth p8 2).toList (nth p8 0).toInt.toNat).fld 1) PV.unit).toInt (0 : Int))) PV.unit)).isB false) ((nth (nth p8 2).toList (nth p8 0).toInt.toNat).fld 1) PV.unit).toInt (nth p8 6).toList) PV.unit).toInt)) PV.unit)).toBool
  (some (Ex.n, [(nth p8 0), (nth p8 1), (nth p8 2), (nth p8 3), (nth p8 4), (nth p8 5), (nth p8 6)]))
  (some (Ex.n, [(nth p8 0), (nth p8 1), (nth p8 2), (PV.bool true), (nth p8 4), (nth p8 5), (PV.list (msetL ((nth (nth p8 2).toList (nth p8 0).toInt.toNat).fld 1).toInt (selB (ltI (mgetL (PV.int (0 : Int)) ((nth (nth p8 2).toList (nth p8 0).toInt.toNat).fld 1).toInt (nth p8 6).toList).toInt (mgetL (PV.int (0 : Int)) ((nth (nth p8 2).toList (nth p8 0).toInt.toNat).fld 0).toInt (nth p8 6).toList).toInt) (mgetL (PV.int (0 : Int)) ((nth (nth p8 2).toList (nth p8 0).toInt.toNat).fld 1).toInt (nth p8 6).toList) (mgetL (PV.int (0 : Int)) ((nth (nth p8 2).toList (nth p8 0).toInt.toNat).fld 0).toInt (nth p8 6).toList)) (msetL ((nth (nth p8 2).toList (nth p8 0).toInt.toNat).fld 0).toInt (selB (ltI (mgetL (PV.int (0 : Int)) ((nth (nth p8 2).toList (nth p8 0).toInt.toNat).fld 1).toInt (nth p8 6).toList).toInt (mgetL (PV.int (0 : Int)) ((nth (nth p8 2).toList (nth p8 0).toInt.toNat).fld 0).toInt (nth p8 6).toList).toInt) (mgetL (PV.int (0 : Int)) ((nth (nth p8 2).toList (nth p8 0).toInt.toNat).fld 1).toInt (nth p8 6).toList) (mgetL (PV.int (0 : Int)) ((nth (nth p8 2).toList (nth p8 0).toInt.toNat).fld 0).toInt (nth p8 6).toList)) (nth p8 6).toList)))])))
  none)
  none)
  (fun p9 => (some (Ex.n, [(PV.int (IntKind.i64.wrap ((nth p9 0).toInt + (1 : Int)))), (nth p9 1), (nth p9 2), (nth p9 3), (nth p9 4), (nth p9 5), (nth p9 6)])))
  passE)
  (some (Ex.x 6, [(nth p8 3), (nth p8 4), (nth p8 5), (nth p8 6)])))
noncomputable def L20_3 (I : Interp) (n : Nat) (p7 : List PV) : Option (Ex × List PV) :=
  (iff (nth p7 0).toBool
  (thenN (thenE (loopEv (L20_2 I n) n [(PV.int (0 : Int)), (PV.int ((nth p7 1).toList.length : Int)), (nth p7 1), (PV.bool false), (nth p7 1), (nth p7 2), (nth p7 3)])
  (passB 6))
  (fun p10 => (some (Ex.n, [(nth p10 0), (nth p10 1), (nth p10 2), (nth p10 3)])))
  passE)
  (some (Ex.x 4, [(nth p7 2), (nth p7 3)])))
noncomputable def L20_4 (I : Interp) (n : Nat) (p12 : List PV) : Option (Ex × List PV) :=
  (iff (ltI (nth p12 0).toInt (nth p12 1).toInt)
  (thenN (iff (geI (nth p12 0).toInt (0 : Int))
  (iff (ltI (nth p12 0).toInt ((nth p12 3).toList.length : Int))
  ((I 49 [(nth p12 2), (nth p12 4), (nth (nth p12 3).toList (nth p12 0).toInt.toNat)]).bind fun r13 =>
  (iff (ltI (nth r13 0).toInt (0 : Int))
  (iff (leN ((nth p12 2).toList.length + ((PV.list ((nth (nth p12 3).toList (nth p12 0).toInt.toNat) :: ([] : List PV))) :: ([] : List PV)).length) 5864062014805)
  (some (Ex.n, [(nth p12 0), (nth p12 1), (PV.list ((nth p12 2).toList ++ ((PV.list ((nth (nth p12 3).toList (nth p12 0).toInt.toNat) :: ([] : List PV))) :: ([] : List PV)))), (nth p12 3), (nth r13 1)]))
  none)
  (iff (geI (nth r13 0).toInt (0 : Int))
  (iff (ltI (nth r13 0).toInt ((nth p12 2).toList.length : Int))
  (iff (leN ((nth (nth p12 2).toList (nth r13 0).toInt.toNat).toList.length + ((nth (nth p12 3).toList (nth p12 0).toInt.toNat) :: ([] : List PV)).length) 17592186044416)
  (iff (geI (nth r13 0).toInt (0 : Int))
  (iff (ltI (nth r13 0).toInt ((nth p12 2).toList.length : Int))
  (iff (eqI (nth r13 0).toInt (nth r13 0).toInt)
  (some (Ex.n, [(nth p12 0), (nth p12 1), (PV.list ((nth p12 2).toList.set (nth r13 0).toInt.toNat (PV.list ((nth (nth p12 2).toList (nth r13 0).toInt.toNat).toList ++ ((nth (nth p12 3).toList (nth p12 0).toInt.toNat) :: ([] : List PV)))))), (nth p12 3), (nth r13 1)]))
  none)
  none)
  none)
  none)
  none)
  none)))
  none)
  none)
  (fun p14 => (some (Ex.n, [(PV.int (IntKind.i64.wrap ((nth p14 0).toInt + (1 : Int)))), (nth p14 1), (nth p14 2), (nth p14 3), (nth p14 4)])))
  passE)
  (some (Ex.x 8, [(nth p12 2)])))
noncomputable def F20 (I : Interp) (n : Nat) (a : List PV) : Option (List PV) :=
  (thenN (thenE (loopEv (L20_0 I n) n [(PV.int (0 : Int)), (PV.int ((nth a 0).toList.length : Int)), (nth a 0), (PV.list ([] : List PV)), (nth a 0)])
  (passB 0))
  (fun p1 => ((I 45 [(nth p1 0)]).bind fun r2 =>
  ((I 47 [(nth r2 0)]).bind fun r3 =>
  ((I 48 [(nth r3 0)]).bind fun r4 =>
  (thenN (thenE (loopEv (L20_1 I n) n [(PV.int (0 : Int)), (PV.int ((nth r4 0).toList.length : Int)), (nth p1 1), (nth r4 0), (PV.list ([] : List PV))])
  (passB 2))
  (fun p6 => (thenN (thenE (loopEv (L20_3 I n) n [(PV.bool true), (nth p6 0), (nth p6 1), (nth p6 2)])
  (passB 4))
  (fun p11 => (thenN (thenE (loopEv (L20_4 I n) n [(PV.int (0 : Int)), (PV.int ((nth p11 0).toList.length : Int)), (PV.list ([] : List PV)), (nth p11 0), (nth p11 1)])
  (passB 8))
  (fun p15 => (some [(nth p15 0)]))
  (retE fun q16 => [(nth q16 0)])))
  (retE fun q17 => [(nth q17 0)])))
  (retE fun q18 => [(nth q18 0)]))))))
  (retE fun q19 => [(nth q19 0)]))
theorem e20 : ∀ I n a, (compF Try.prog sg 20).map (fun d => d.ev I n a) = some (F20 I n a) := fun I n a => by kernel_rfl
/-! laws.FnExactKin -/
noncomputable def F4 (I : Interp) (n : Nat) (a : List PV) : Option (List PV) :=
  ((I 17 [(nth a 0), (PV.int (1048576 : Int))]).bind fun r0 =>
  (iff (ltI (nth r0 0).toInt (0 : Int))
  (some [(PV.bool true)])
  ((I 19 [(nth a 0)]).bind fun r1 =>
  ((I 18 [(nth r1 0)]).bind fun r2 =>
  ((I 19 [(nth a 0)]).bind fun r3 =>
  ((I 20 [(nth r3 0)]).bind fun r4 =>
  ((I 21 [(nth r4 0), (nth r2 0)]).bind fun r5 =>
  (iff (!(nth r5 0).toBool)
  (some [(PV.bool false)])
  ((I 19 [(nth a 0)]).bind fun r6 =>
  ((I 22 [(nth r3 0), (nth r6 0)]).bind fun r7 =>
  (iff (!(nth r7 0).toBool)
  (some [(PV.bool false)])
  ((I 23 [(nth r3 0), (PV.int (1 : Int))]).bind fun r8 =>
  ((iff ((ltI (nth r8 0).toInt (0 : Int)) == false)
  ((I 21 [(nth r4 0), (nth r2 0)]).bind fun r9 =>
  (some [(nth r9 0), (nth r9 0)]))
  (some [PV.unit, PV.unit])).bind fun g10 =>
  (iff (selB (ltI (nth r8 0).toInt (0 : Int)) (PV.bool true) (selB ((ltI (nth r8 0).toInt (0 : Int)) == false) (PV.bool (!(nth g10 0).toBool)) PV.unit)).toBool
  (some [(PV.bool false)])
  ((I 24 [(nth r4 0), (PV.int (1 : Int))]).bind fun r11 =>
  ((I 25 [(nth r11 1), (PV.int (1 : Int))]).bind fun r12 =>
  (iff (ltI (nth r12 0).toInt (0 : Int))
  (some [(PV.bool false)])
  (iff (neI (nth r12 0).toInt (nth r11 0).toInt)
  (some [(PV.bool false)])
  ((I 19 [(nth a 0)]).bind fun r13 =>
  ((I 20 [(nth r13 0)]).bind fun r14 =>
  ((I 21 [(nth r14 0), (nth r2 0)]).bind fun r15 =>
  (iff (!(nth r15 0).toBool)
  (some [(PV.bool false)])
  ((I 25 [(nth r11 1), (PV.int (1 : Int))]).bind fun r16 =>
  (iff (ltI (nth r16 0).toInt (0 : Int))
  (some [(PV.bool false)])
  (iff (neI (nth r16 0).toInt (nth r11 0).toInt)
  (some [(PV.bool false)])
  (some [(PV.bool true)]))))))))))))))))))))))))))
theorem e4 : ∀ I n a, (compF Try.prog sg 4).map (fun d => d.ev I n a) = some (F4 I n a) := fun I n a => by kernel_rfl
end Go.Proofs.Ythmhgnnaihkjaaa.GFnExactKin
