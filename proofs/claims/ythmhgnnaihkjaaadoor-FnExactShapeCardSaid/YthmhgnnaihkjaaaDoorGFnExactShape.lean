/- The pure programs of the functions that the law FnExactShape reaches, out of the compiled code. No conditions. -/
import Derived.Test.YthmhgnnaihkjaaaDoorRows
import Derived.Test.YthmhgnnaihkjaaaDoorRscZr
namespace Go.Proofs.YthmhgnnaihkjaaaDoor.GFnExactShape
open Go Go.Rsc Go.Proofs.YthmhgnnaihkjaaaDoor
set_option maxRecDepth 100000
set_option linter.unusedVariables false
def sg : FuncId → Option Sig := fun f => match f with
  | 54 => some { ps := [PM.ro (SD.int (IntKind.i64))], rs := [RM.v (SD.str)], orc := some (Orc.itoa) }
  | 55 => some { ps := [PM.ro (SD.int (IntKind.i64)), PM.ro (SD.int (IntKind.i64)), PM.ro (SD.int (IntKind.i64))], rs := [RM.v (SD.bool)], orc := none }
  | 63 => some { ps := [PM.ro (SD.int (IntKind.i64))], rs := [RM.v (SD.int (IntKind.i64))], orc := none }
  | 18 => some { ps := [PM.ro (SD.bor 3), PM.ro (SD.bor 3)], rs := [RM.v (SD.bool)], orc := none }
  | 89 => some { ps := [PM.ro (SD.int (IntKind.i64))], rs := [RM.v (SD.bool)], orc := none }
  | 97 => some { ps := [PM.ro (SD.int (IntKind.i64))], rs := [RM.v (SD.bool)], orc := none }
  | 39 => some { ps := [PM.ro (SD.int (IntKind.i64))], rs := [RM.v (SD.int (IntKind.i64))], orc := none }
  | 38 => some { ps := [PM.ro (SD.int (IntKind.i64))], rs := [RM.v (SD.bool)], orc := none }
  | 40 => some { ps := [PM.ro (SD.int (IntKind.i64))], rs := [RM.v (SD.int (IntKind.i64))], orc := none }
  | 24 => some { ps := [PM.ro (SD.int (IntKind.i64))], rs := [RM.v (SD.str)], orc := none }
  | 34 => some { ps := [PM.ro (SD.int (IntKind.i64))], rs := [RM.v (SD.bool), RM.v (SD.int (IntKind.i64)), RM.v (SD.int (IntKind.i64))], orc := none }
  | 49 => some { ps := [PM.ro (SD.bor 3), PM.ro (SD.int (IntKind.i64))], rs := [RM.v (SD.bool)], orc := none }
  | 62 => some { ps := [PM.ro (SD.int (IntKind.i64))], rs := [RM.v (SD.int (IntKind.i64))], orc := none }
  | 60 => some { ps := [PM.ro (SD.int (IntKind.i64))], rs := [RM.v (SD.bool)], orc := none }
  | 15 => some { ps := [PM.ro (SD.bor 3)], rs := [RM.v (SD.own 3 false)], orc := none }
  | 51 => some { ps := [PM.ro (SD.int (IntKind.i64)), PM.ro (SD.int (IntKind.i64)), PM.ro (SD.int (IntKind.i64))], rs := [RM.v (SD.bool)], orc := none }
  | 30 => some { ps := [PM.ro (SD.bor 3), PM.ro (SD.int (IntKind.i64))], rs := [RM.v (SD.int (IntKind.i64))], orc := none }
  | 17 => some { ps := [PM.ro (SD.sc (SD.bor 3) (SD.sc (SD.int (IntKind.i64)) (SD.sc (SD.int (IntKind.i64)) (SD.sc (SD.int (IntKind.i64)) (SD.sn))))), PM.ro (SD.sc (SD.bor 3) (SD.sc (SD.int (IntKind.i64)) (SD.sc (SD.int (IntKind.i64)) (SD.sc (SD.int (IntKind.i64)) (SD.sn)))))], rs := [RM.v (SD.bool)], orc := none }
  | 88 => some { ps := [PM.ro (SD.int (IntKind.i64)), PM.ro (SD.int (IntKind.i64))], rs := [RM.v (SD.bool)], orc := none }
  | 61 => some { ps := [PM.ro (SD.bor 3), PM.ro (SD.int (IntKind.i64))], rs := [RM.v (SD.bool)], orc := none }
  | 81 => some { ps := [PM.ro (SD.int (IntKind.i64))], rs := [RM.v (SD.bool)], orc := none }
  | 27 => some { ps := [PM.ro (SD.int (IntKind.i64))], rs := [RM.v (SD.str)], orc := none }
  | 83 => some { ps := [PM.ro (SD.int (IntKind.i64))], rs := [RM.v (SD.bool)], orc := none }
  | 14 => some { ps := [PM.ro (SD.sc (SD.bor 3) (SD.sc (SD.int (IntKind.i64)) (SD.sc (SD.int (IntKind.i64)) (SD.sc (SD.int (IntKind.i64)) (SD.sn)))))], rs := [RM.v (SD.sc (SD.own 3 false) (SD.sc (SD.int (IntKind.i64)) (SD.sc (SD.int (IntKind.i64)) (SD.sc (SD.int (IntKind.i64)) (SD.sn)))))], orc := none }
  | 12 => some { ps := [PM.ro (SD.sc (SD.bor 3) (SD.sc (SD.int (IntKind.i64)) (SD.sc (SD.int (IntKind.i64)) (SD.sc (SD.int (IntKind.i64)) (SD.sn))))), PM.ro (SD.int (IntKind.i64))], rs := [RM.v (SD.int (IntKind.i64))], orc := none }
  | 58 => some { ps := [PM.ro (SD.sc (SD.bor 3) (SD.sc (SD.int (IntKind.i64)) (SD.sc (SD.int (IntKind.i64)) (SD.sc (SD.int (IntKind.i64)) (SD.sn)))))], rs := [RM.v (SD.own 3 false), RM.v (SD.bool)], orc := none }
  | 41 => some { ps := [PM.ro (SD.int (IntKind.i64))], rs := [RM.v (SD.bool), RM.v (SD.int (IntKind.i64)), RM.v (SD.int (IntKind.i64)), RM.v (SD.bool)], orc := none }
  | 70 => some { ps := [PM.ro (SD.bor 3), PM.ref 88 (SD.mp true) (SD.mp true), PM.ref 33 (SD.own 3 false) (SD.own 3 false)], rs := [], orc := none }
  | 4166 => some { ps := [PM.mut (SD.own 3 false), PM.ref 88 (SD.mp true) (SD.mp true), PM.ref 33 (SD.own 3 false) (SD.own 3 false)], rs := [], orc := none }
  | 8262 => some { ps := [PM.mv (SD.own 3 false), PM.ref 88 (SD.mp true) (SD.mp true), PM.ref 33 (SD.own 3 false) (SD.own 3 false)], rs := [], orc := none }
  | 42 => some { ps := [PM.ro (SD.sc (SD.bor 3) (SD.sc (SD.int (IntKind.i64)) (SD.sc (SD.int (IntKind.i64)) (SD.sc (SD.int (IntKind.i64)) (SD.sn))))), PM.ro (SD.int (IntKind.i64))], rs := [RM.v (SD.bor 3)], orc := none }
  | 84 => some { ps := [PM.ro (SD.bor 3), PM.ro (SD.int (IntKind.i64))], rs := [RM.v (SD.int (IntKind.i64)), RM.v (SD.bool)], orc := none }
  | 65 => some { ps := [PM.ro (SD.sc (SD.bor 3) (SD.sc (SD.int (IntKind.i64)) (SD.sc (SD.int (IntKind.i64)) (SD.sc (SD.int (IntKind.i64)) (SD.sn)))))], rs := [RM.v (SD.own 3 false), RM.v (SD.bool)], orc := none }
  | 68 => some { ps := [PM.ro (SD.int (IntKind.i64))], rs := [RM.v (SD.bool)], orc := none }
  | 33 => some { ps := [PM.ro (SD.int (IntKind.i64)), PM.ro (SD.bor 3)], rs := [RM.v (SD.str)], orc := none }
  | 37 => some { ps := [PM.ro (SD.bor 3), PM.ref 53 (SD.own 5 false) (SD.own 5 false), PM.ref 61 (SD.mp false) (SD.mp false)], rs := [], orc := none }
  | 4133 => some { ps := [PM.mut (SD.own 3 false), PM.ref 53 (SD.own 5 false) (SD.own 5 false), PM.ref 61 (SD.mp false) (SD.mp false)], rs := [], orc := none }
  | 8229 => some { ps := [PM.mv (SD.own 3 false), PM.ref 53 (SD.own 5 false) (SD.own 5 false), PM.ref 61 (SD.mp false) (SD.mp false)], rs := [], orc := none }
  | 32 => some { ps := [PM.ro (SD.sc (SD.bor 3) (SD.sc (SD.int (IntKind.i64)) (SD.sc (SD.int (IntKind.i64)) (SD.sc (SD.int (IntKind.i64)) (SD.sn))))), PM.ro (SD.bor 3)], rs := [RM.v (SD.own 3 false)], orc := none }
  | 36 => some { ps := [PM.ro (SD.sc (SD.bor 3) (SD.sc (SD.int (IntKind.i64)) (SD.sc (SD.int (IntKind.i64)) (SD.sc (SD.int (IntKind.i64)) (SD.sn))))), PM.ro (SD.bor 3)], rs := [RM.v (SD.own 3 false)], orc := none }
  | 69 => some { ps := [PM.ro (SD.bor 3), PM.ro (SD.int (IntKind.i64))], rs := [RM.v (SD.bool)], orc := none }
  | 59 => some { ps := [PM.ro (SD.bor 3), PM.ro (SD.int (IntKind.i64))], rs := [RM.v (SD.bool)], orc := none }
  | 57 => some { ps := [PM.ro (SD.sc (SD.bor 3) (SD.sc (SD.int (IntKind.i64)) (SD.sc (SD.int (IntKind.i64)) (SD.sc (SD.int (IntKind.i64)) (SD.sn)))))], rs := [RM.v (SD.bool)], orc := none }
  | 67 => some { ps := [PM.ro (SD.int (IntKind.i64)), PM.rp (SD.bor 3)], rs := [RM.v (SD.bool)], orc := none }
  | 31 => some { ps := [PM.ro (SD.sc (SD.bor 3) (SD.sc (SD.int (IntKind.i64)) (SD.sc (SD.int (IntKind.i64)) (SD.sc (SD.int (IntKind.i64)) (SD.sn))))), PM.ro (SD.bor 3)], rs := [RM.v (SD.bool)], orc := none }
  | 82 => some { ps := [PM.ro (SD.bor 3), PM.clo 67 [CM.rp (SD.bor 3)]], rs := [RM.v (SD.int (IntKind.i64))], orc := none }
  | 4178 => some { ps := [PM.mv (SD.own 3 false), PM.clo 67 [CM.rp (SD.bor 3)]], rs := [RM.v (SD.int (IntKind.i64))], orc := none }
  | 66 => some { ps := [PM.ro (SD.bor 3), PM.clo 67 [CM.rp (SD.bor 3)]], rs := [RM.v (SD.bool)], orc := none }
  | 4162 => some { ps := [PM.mv (SD.own 3 false), PM.clo 67 [CM.rp (SD.bor 3)]], rs := [RM.v (SD.bool)], orc := none }
  | 64 => some { ps := [PM.ro (SD.sc (SD.bor 3) (SD.sc (SD.int (IntKind.i64)) (SD.sc (SD.int (IntKind.i64)) (SD.sc (SD.int (IntKind.i64)) (SD.sn)))))], rs := [RM.v (SD.bool)], orc := none }
  | 13 => some { ps := [PM.ro (SD.sc (SD.bor 3) (SD.sc (SD.int (IntKind.i64)) (SD.sc (SD.int (IntKind.i64)) (SD.sc (SD.int (IntKind.i64)) (SD.sn))))), PM.ro (SD.bor 3)], rs := [RM.v (SD.str)], orc := none }
  | 35 => some { ps := [PM.ro (SD.sc (SD.bor 3) (SD.sc (SD.int (IntKind.i64)) (SD.sc (SD.int (IntKind.i64)) (SD.sc (SD.int (IntKind.i64)) (SD.sn))))), PM.ro (SD.bor 3)], rs := [RM.v (SD.bool)], orc := none }
  | 16 => some { ps := [PM.ro (SD.sc (SD.bor 3) (SD.sc (SD.int (IntKind.i64)) (SD.sc (SD.int (IntKind.i64)) (SD.sc (SD.int (IntKind.i64)) (SD.sn))))), PM.ro (SD.bor 3)], rs := [RM.v (SD.str)], orc := none }
  | 4 => some { ps := [PM.ro (SD.sc (SD.bor 3) (SD.sc (SD.int (IntKind.i64)) (SD.sc (SD.int (IntKind.i64)) (SD.sc (SD.int (IntKind.i64)) (SD.sn))))), PM.ro (SD.bor 3)], rs := [RM.v (SD.bool)], orc := none }
  | _ => none
/-! impl.within -/
noncomputable def F55 (I : Interp) (n : Nat) (a : List PV) : Option (List PV) :=
  (some [(selB (geI (nth a 0).toInt (nth a 1).toInt) (selB ((geI (nth a 0).toInt (nth a 1).toInt) == true) (PV.bool (leI (selB ((geI (nth a 0).toInt (nth a 1).toInt) == true) (nth a 0) PV.unit).toInt (selB ((geI (nth a 0).toInt (nth a 1).toInt) == true) (nth a 2) PV.unit).toInt)) PV.unit) (PV.bool false))])
theorem e55 : ∀ I n a, (compF Tryd.prog sg 55).map (fun d => d.ev I n a) = some (F55 I n a) := fun I n a => by kernel_rfl
/-! spec.WordInt -/
noncomputable def F63 (I : Interp) (n : Nat) (a : List PV) : Option (List PV) :=
  (iff (geI (1 : Int) (0 : Int))
  (some [(PV.int (arith BinOp.shr IntKind.i64 (nth a 0).toInt (1 : Int)))])
  none)
theorem e63 : ∀ I n a, (compF Tryd.prog sg 63).map (fun d => d.ev I n a) = some (F63 I n a) := fun I n a => by kernel_rfl
/-! laws.eqIntS -/
noncomputable def L18_0 (I : Interp) (n : Nat) (p0 : List PV) : Option (Ex × List PV) :=
  (iff (ltI (nth p0 0).toInt ((nth p0 1).toList.length : Int))
  (iff (geI (nth p0 0).toInt (0 : Int))
  (iff (ltI (nth p0 0).toInt ((nth p0 1).toList.length : Int))
  (iff (geI (nth p0 0).toInt (0 : Int))
  (iff (ltI (nth p0 0).toInt ((nth p0 2).toList.length : Int))
  (iff (neI (nth (nth p0 1).toList (nth p0 0).toInt.toNat).toInt (nth (nth p0 2).toList (nth p0 0).toInt.toNat).toInt)
  (some (Ex.r, [(PV.bool false)]))
  (some (Ex.n, [(PV.int (IntKind.i64.wrap ((nth p0 0).toInt + (1 : Int)))), (nth p0 1), (nth p0 2)])))
  none)
  none)
  none)
  none)
  (some (Ex.x 0, [])))
noncomputable def F18 (I : Interp) (n : Nat) (a : List PV) : Option (List PV) :=
  (iff (neI ((nth a 0).toList.length : Int) ((nth a 1).toList.length : Int))
  (some [(PV.bool false)])
  (thenN (thenE (loopEv (L18_0 I n) n [(PV.int (0 : Int)), (nth a 0), (nth a 1)])
  (passB 0))
  (fun p1 => (some [(PV.bool true)]))
  (retE fun q2 => [(nth q2 0)])))
theorem e18 : ∀ I n a, (compF Tryd.prog sg 18).map (fun d => d.ev I n a) = some (F18 I n a) := fun I n a => by kernel_rfl
/-! slices.isNaN[int] -/
noncomputable def F89 (I : Interp) (n : Nat) (a : List PV) : Option (List PV) :=
  (some [(PV.bool (neI (nth a 0).toInt (nth a 0).toInt))])
theorem e89 : ∀ I n a, (compF Tryd.prog sg 89).map (fun d => d.ev I n a) = some (F89 I n a) := fun I n a => by kernel_rfl
/-! cmp.isNaN[int] -/
noncomputable def F97 (I : Interp) (n : Nat) (a : List PV) : Option (List PV) :=
  (some [(PV.bool (neI (nth a 0).toInt (nth a 0).toInt))])
theorem e97 : ∀ I n a, (compF Tryd.prog sg 97).map (fun d => d.ev I n a) = some (F97 I n a) := fun I n a => by kernel_rfl
/-! impl.WordRef -/
noncomputable def F39 (I : Interp) (n : Nat) (a : List PV) : Option (List PV) :=
  (iff (geI (1 : Int) (0 : Int))
  (some [(PV.int (arith BinOp.shr IntKind.i64 (nth a 0).toInt (1 : Int)))])
  none)
theorem e39 : ∀ I n a, (compF Tryd.prog sg 39).map (fun d => d.ev I n a) = some (F39 I n a) := fun I n a => by kernel_rfl
/-! impl.IsRef -/
noncomputable def F38 (I : Interp) (n : Nat) (a : List PV) : Option (List PV) :=
  (some [(PV.bool (eqI (arith BinOp.and IntKind.i64 (nth a 0).toInt (1 : Int)) (0 : Int)))])
theorem e38 : ∀ I n a, (compF Tryd.prog sg 38).map (fun d => d.ev I n a) = some (F38 I n a) := fun I n a => by kernel_rfl
/-! impl.WordInt -/
noncomputable def F40 (I : Interp) (n : Nat) (a : List PV) : Option (List PV) :=
  (iff (geI (1 : Int) (0 : Int))
  (some [(PV.int (arith BinOp.shr IntKind.i64 (nth a 0).toInt (1 : Int)))])
  none)
theorem e40 : ∀ I n a, (compF Tryd.prog sg 40).map (fun d => d.ev I n a) = some (F40 I n a) := fun I n a => by kernel_rfl
/-! spec.Digits -/
noncomputable def L24_0 (I : Interp) (n : Nat) (p0 : List PV) : Option (Ex × List PV) :=
  (iff (neI (nth p0 0).toInt (0 : Int))
  (iff (neI (10 : Int) (0 : Int))
  (thenN (iff (ltI (arith BinOp.rem IntKind.i64 (nth p0 0).toInt (10 : Int)) (0 : Int))
  (some (Ex.n, [(PV.int (IntKind.i64.wrap ((0 : Int) - (arith BinOp.rem IntKind.i64 (nth p0 0).toInt (10 : Int))))), (nth p0 2), (nth p0 0), (nth p0 1)]))
  (some (Ex.n, [(PV.int (arith BinOp.rem IntKind.i64 (nth p0 0).toInt (10 : Int))), (nth p0 2), (nth p0 0), (nth p0 1)])))
  (fun p1 => (iff (leI ((catB (b2sL ((PV.int (IntKind.u8.wrap (IntKind.i64.wrap ((48 : Int) + (nth p1 0).toInt)))) :: ([] : List PV))) (nth p1 1).toStr).size : Int) (9223372036854775807 : Int))
  (iff (neI (10 : Int) (0 : Int))
  (some (Ex.n, [(PV.int (arith BinOp.quo IntKind.i64 (nth p1 2).toInt (10 : Int))), (nth p1 3), (PV.str (catB (b2sL ((PV.int (IntKind.u8.wrap (IntKind.i64.wrap ((48 : Int) + (nth p1 0).toInt)))) :: ([] : List PV))) (nth p1 1).toStr))]))
  none)
  none))
  passE)
  none)
  (some (Ex.x 0, [(nth p0 1), (nth p0 2)])))
noncomputable def F24 (I : Interp) (n : Nat) (a : List PV) : Option (List PV) :=
  (iff (eqI (nth a 0).toInt (0 : Int))
  (some [(PV.str (⟨#[48]⟩ : ByteArray))])
  (thenN (thenE (loopEv (L24_0 I n) n [(nth a 0), (PV.bool (ltI (nth a 0).toInt (0 : Int))), (PV.str (⟨#[]⟩ : ByteArray))])
  (passB 0))
  (fun p2 => (iff (nth p2 0).toBool
  (iff (leI ((catB (⟨#[45]⟩ : ByteArray) (nth p2 1).toStr).size : Int) (9223372036854775807 : Int))
  (some [(PV.str (catB (⟨#[45]⟩ : ByteArray) (nth p2 1).toStr))])
  none)
  (some [(nth p2 1)])))
  (retE fun q3 => [(nth q3 0)])))
theorem e24 : ∀ I n a, (compF Tryd.prog sg 24).map (fun d => d.ev I n a) = some (F24 I n a) := fun I n a => by kernel_rfl
/-! spec.l17Of -/
noncomputable def F34 (I : Interp) (n : Nat) (a : List PV) : Option (List PV) :=
  (iff (geI (1 : Int) (0 : Int))
  (iff (geI (1 : Int) (0 : Int))
  (iff (neI (64 : Int) (0 : Int))
  (iff (geI (1 : Int) (0 : Int))
  (some [(PV.bool (eqI (arith BinOp.and IntKind.i64 (arith BinOp.shr IntKind.i64 (nth a 0).toInt (1 : Int)) (1 : Int)) (1 : Int))), (PV.int (arith BinOp.quo IntKind.i64 (arith BinOp.shr IntKind.i64 (arith BinOp.shr IntKind.i64 (nth a 0).toInt (1 : Int)) (1 : Int)) (64 : Int))), (PV.int (arith BinOp.and IntKind.i64 (arith BinOp.shr IntKind.i64 (arith BinOp.shr IntKind.i64 (nth a 0).toInt (1 : Int)) (1 : Int)) (63 : Int)))])
  none)
  none)
  none)
  none)
theorem e34 : ∀ I n a, (compF Tryd.prog sg 34).map (fun d => d.ev I n a) = some (F34 I n a) := fun I n a => by kernel_rfl
/-! spec.l4Has -/
noncomputable def L49_0 (I : Interp) (n : Nat) (p0 : List PV) : Option (Ex × List PV) :=
  (iff (ltI (nth p0 0).toInt ((nth p0 1).toList.length : Int))
  (iff (geI (nth p0 0).toInt (0 : Int))
  (iff (ltI (nth p0 0).toInt ((nth p0 1).toList.length : Int))
  (iff (eqI (nth (nth p0 1).toList (nth p0 0).toInt.toNat).toInt (nth p0 2).toInt)
  (some (Ex.r, [(PV.bool true)]))
  (some (Ex.n, [(PV.int (IntKind.i64.wrap ((nth p0 0).toInt + (1 : Int)))), (nth p0 1), (nth p0 2)])))
  none)
  none)
  (some (Ex.x 0, [])))
noncomputable def F49 (I : Interp) (n : Nat) (a : List PV) : Option (List PV) :=
  (thenN (thenE (loopEv (L49_0 I n) n [(PV.int (0 : Int)), (nth a 0), (nth a 1)])
  (passB 0))
  (fun p1 => (some [(PV.bool false)]))
  (retE fun q2 => [(nth q2 0)]))
theorem e49 : ∀ I n a, (compF Tryd.prog sg 49).map (fun d => d.ev I n a) = some (F49 I n a) := fun I n a => by kernel_rfl
/-! spec.WordRef -/
noncomputable def F62 (I : Interp) (n : Nat) (a : List PV) : Option (List PV) :=
  (iff (geI (1 : Int) (0 : Int))
  (some [(PV.int (arith BinOp.shr IntKind.i64 (nth a 0).toInt (1 : Int)))])
  none)
theorem e62 : ∀ I n a, (compF Tryd.prog sg 62).map (fun d => d.ev I n a) = some (F62 I n a) := fun I n a => by kernel_rfl
/-! spec.IsRef -/
noncomputable def F60 (I : Interp) (n : Nat) (a : List PV) : Option (List PV) :=
  (some [(PV.bool (eqI (arith BinOp.and IntKind.i64 (nth a 0).toInt (1 : Int)) (0 : Int)))])
theorem e60 : ∀ I n a, (compF Tryd.prog sg 60).map (fun d => d.ev I n a) = some (F60 I n a) := fun I n a => by kernel_rfl
/-! laws.toIntS -/
noncomputable def L15_0 (I : Interp) (n : Nat) (p0 : List PV) : Option (Ex × List PV) :=
  (iff (ltI (nth p0 0).toInt ((nth p0 1).toList.length : Int))
  (iff (geI (nth p0 0).toInt (0 : Int))
  (iff (ltI (nth p0 0).toInt ((nth p0 1).toList.length : Int))
  (iff (geI (nth p0 0).toInt (0 : Int))
  (iff (ltI (nth p0 0).toInt ((nth p0 2).toList.length : Int))
  (some (Ex.n, [(PV.int (IntKind.i64.wrap ((nth p0 0).toInt + (1 : Int)))), (nth p0 1), (PV.list ((nth p0 2).toList.set (nth p0 0).toInt.toNat (nth (nth p0 1).toList (nth p0 0).toInt.toNat)))]))
  none)
  none)
  none)
  none)
  (some (Ex.x 0, [(nth p0 2)])))
noncomputable def F15 (I : Interp) (n : Nat) (a : List PV) : Option (List PV) :=
  (iff (geI ((nth a 0).toList.length : Int) (0 : Int))
  (iff (leI ((nth a 0).toList.length : Int) ((nth a 0).toList.length : Int))
  (iff (leI ((nth a 0).toList.length : Int) (17592186044416 : Int))
  (thenN (thenE (loopEv (L15_0 I n) n [(PV.int (0 : Int)), (nth a 0), (PV.list (List.replicate ((nth a 0).toList.length : Int).toNat (PV.int (0 : Int))))])
  (passB 0))
  (fun p1 => (some [(nth p1 0)]))
  (retE fun q2 => [(nth q2 0)]))
  none)
  none)
  none)
theorem e15 : ∀ I n a, (compF Tryd.prog sg 15).map (fun d => d.ev I n a) = some (F15 I n a) := fun I n a => by kernel_rfl
/-! spec.l1In -/
noncomputable def F51 (I : Interp) (n : Nat) (a : List PV) : Option (List PV) :=
  (some [(selB (geI (nth a 0).toInt (nth a 1).toInt) (selB ((geI (nth a 0).toInt (nth a 1).toInt) == true) (PV.bool (leI (selB ((geI (nth a 0).toInt (nth a 1).toInt) == true) (nth a 0) PV.unit).toInt (selB ((geI (nth a 0).toInt (nth a 1).toInt) == true) (nth a 2) PV.unit).toInt)) PV.unit) (PV.bool false))])
theorem e51 : ∀ I n a, (compF Tryd.prog sg 51).map (fun d => d.ev I n a) = some (F51 I n a) := fun I n a => by kernel_rfl
/-! laws.szIntS -/
noncomputable def F30 (I : Interp) (n : Nat) (a : List PV) : Option (List PV) :=
  (iff (ltI (IntKind.i64.wrap ((nth a 1).toInt - ((nth a 0).toList.length : Int))) (0 : Int))
  (some [(PV.int (-1 : Int))])
  (some [(PV.int (IntKind.i64.wrap ((nth a 1).toInt - ((nth a 0).toList.length : Int))))]))
theorem e30 : ∀ I n a, (compF Tryd.prog sg 30).map (fun d => d.ev I n a) = some (F30 I n a) := fun I n a => by kernel_rfl
/-! laws.eqHeap -/
noncomputable def F17 (I : Interp) (n : Nat) (a : List PV) : Option (List PV) :=
  ((I 18 [((nth a 0).fld 0), ((nth a 1).fld 0)]).bind fun r0 =>
  (iff (!(nth r0 0).toBool)
  (some [(PV.bool false)])
  (iff (neI ((nth a 0).fld 1).toInt ((nth a 1).fld 1).toInt)
  (some [(PV.bool false)])
  (iff (neI ((nth a 0).fld 2).toInt ((nth a 1).fld 2).toInt)
  (some [(PV.bool false)])
  (iff (neI ((nth a 0).fld 3).toInt ((nth a 1).fld 3).toInt)
  (some [(PV.bool false)])
  (some [(PV.bool true)]))))))
theorem e17 : ∀ I n a, (compF Tryd.prog sg 17).map (fun d => d.ev I n a) = some (F17 I n a) := fun I n a => by kernel_rfl
/-! cmp.Less[int] -/
noncomputable def F88 (I : Interp) (n : Nat) (a : List PV) : Option (List PV) :=
  ((I 97 [(nth a 0)]).bind fun r0 =>
  ((iff ((nth r0 0).isB true)
  ((I 97 [(selB ((nth r0 0).isB true) (nth a 1) PV.unit)]).bind fun r1 =>
  (some [(nth r1 0), (nth r1 0)]))
  (some [PV.unit, PV.unit])).bind fun g2 =>
  (some [(selB (selB (nth r0 0).toBool (selB ((nth r0 0).isB true) (PV.bool (!(nth g2 0).toBool)) PV.unit) (PV.bool false)).toBool (PV.bool true) (selB ((selB (nth r0 0).toBool (selB ((nth r0 0).isB true) (PV.bool (!(nth g2 0).toBool)) PV.unit) (PV.bool false)).isB false) (PV.bool (ltI (selB ((selB (nth r0 0).toBool (selB ((nth r0 0).isB true) (PV.bool (!(nth g2 0).toBool)) PV.unit) (PV.bool false)).isB false) (nth a 0) PV.unit).toInt (selB ((selB (nth r0 0).toBool (selB ((nth r0 0).isB true) (PV.bool (!(nth g2 0).toBool)) PV.unit) (PV.bool false)).isB false) (nth a 1) PV.unit).toInt)) PV.unit))])))
theorem e88 : ∀ I n a, (compF Tryd.prog sg 88).map (fun d => d.ev I n a) = some (F88 I n a) := fun I n a => by kernel_rfl
/-! spec.l7In -/
noncomputable def F61 (I : Interp) (n : Nat) (a : List PV) : Option (List PV) :=
  ((I 49 [(nth a 0), (nth a 1)]).bind fun r0 =>
  (some [(nth r0 0)]))
theorem e61 : ∀ I n a, (compF Tryd.prog sg 61).map (fun d => d.ev I n a) = some (F61 I n a) := fun I n a => by kernel_rfl
/-! spec.WordOk -/
noncomputable def F81 (I : Interp) (n : Nat) (a : List PV) : Option (List PV) :=
  ((I 51 [(nth a 0), (PV.int (-1073741824 : Int)), (PV.int (1073741823 : Int))]).bind fun r0 =>
  (some [(nth r0 0)]))
theorem e81 : ∀ I n a, (compF Tryd.prog sg 81).map (fun d => d.ev I n a) = some (F81 I n a) := fun I n a => by kernel_rfl
/-! impl.Digits -/
noncomputable def F27 (I : Interp) (n : Nat) (a : List PV) : Option (List PV) :=
  ((I 54 [(nth a 0)]).bind fun r0 =>
  (some [(nth r0 0)]))
theorem e27 : ∀ I n a, (compF Tryd.prog sg 27).map (fun d => d.ev I n a) = some (F27 I n a) := fun I n a => by kernel_rfl
/-! impl.WordOk -/
noncomputable def F83 (I : Interp) (n : Nat) (a : List PV) : Option (List PV) :=
  ((I 55 [(nth a 0), (PV.int (-1073741824 : Int)), (PV.int (1073741823 : Int))]).bind fun r0 =>
  (some [(nth r0 0)]))
theorem e83 : ∀ I n a, (compF Tryd.prog sg 83).map (fun d => d.ev I n a) = some (F83 I n a) := fun I n a => by kernel_rfl
/-! laws.toHeap -/
noncomputable def F14 (I : Interp) (n : Nat) (a : List PV) : Option (List PV) :=
  ((I 15 [((nth a 0).fld 0)]).bind fun r0 =>
  (some [(PV.agg [(nth r0 0), ((nth a 0).fld 1), ((nth a 0).fld 2), ((nth a 0).fld 3)])]))
theorem e14 : ∀ I n a, (compF Tryd.prog sg 14).map (fun d => d.ev I n a) = some (F14 I n a) := fun I n a => by kernel_rfl
/-! laws.szHeap -/
noncomputable def F12 (I : Interp) (n : Nat) (a : List PV) : Option (List PV) :=
  ((I 30 [((nth a 0).fld 0), (nth a 1)]).bind fun r0 =>
  (iff (ltI (nth r0 0).toInt (0 : Int))
  (some [(PV.int (-1 : Int))])
  (some [(nth r0 0)])))
theorem e12 : ∀ I n a, (compF Tryd.prog sg 12).map (fun d => d.ev I n a) = some (F12 I n a) := fun I n a => by kernel_rfl
/-! spec.l17Places -/
noncomputable def L58_0 (I : Interp) (n : Nat) (p0 : List PV) : Option (Ex × List PV) :=
  (iff (ltI (nth p0 0).toInt ((nth p0 2).fld 3).toInt)
  (iff (geI (nth p0 0).toInt (0 : Int))
  (iff (ltI (nth p0 0).toInt (((nth p0 2).fld 0).toList.length : Int))
  ((I 34 [(nth ((nth p0 2).fld 0).toList (nth p0 0).toInt.toNat)]).bind fun r1 =>
  ((iff ((ltI (nth ((nth p0 2).fld 0).toList (nth p0 0).toInt.toNat).toInt (0 : Int)) == false)
  ((I 60 [(selB ((ltI (nth ((nth p0 2).fld 0).toList (nth p0 0).toInt.toNat).toInt (0 : Int)) == false) (nth ((nth p0 2).fld 0).toList (nth p0 0).toInt.toNat) PV.unit)]).bind fun r2 =>
  (some [(nth r2 0), (nth r2 0)]))
  (some [PV.unit, PV.unit])).bind fun g3 =>
  (iff (selB (selB (selB (selB (ltI (nth ((nth p0 2).fld 0).toList (nth p0 0).toInt.toNat).toInt (0 : Int)) (PV.bool true) (nth g3 0)).toBool (PV.bool true) (selB ((selB (ltI (nth ((nth p0 2).fld 0).toList (nth p0 0).toInt.toNat).toInt (0 : Int)) (PV.bool true) (nth g3 0)).isB false) (PV.bool (gtI (selB ((selB (ltI (nth ((nth p0 2).fld 0).toList (nth p0 0).toInt.toNat).toInt (0 : Int)) (PV.bool true) (nth g3 0)).isB false) (nth r1 1) PV.unit).toInt (3000 : Int))) PV.unit)).toBool (PV.bool true) (selB ((selB (selB (ltI (nth ((nth p0 2).fld 0).toList (nth p0 0).toInt.toNat).toInt (0 : Int)) (PV.bool true) (nth g3 0)).toBool (PV.bool true) (selB ((selB (ltI (nth ((nth p0 2).fld 0).toList (nth p0 0).toInt.toNat).toInt (0 : Int)) (PV.bool true) (nth g3 0)).isB false) (PV.bool (gtI (selB ((selB (ltI (nth ((nth p0 2).fld 0).toList (nth p0 0).toInt.toNat).toInt (0 : Int)) (PV.bool true) (nth g3 0)).isB false) (nth r1 1) PV.unit).toInt (3000 : Int))) PV.unit)).isB false) (PV.bool (gtI (selB ((selB (selB (ltI (nth ((nth p0 2).fld 0).toList (nth p0 0).toInt.toNat).toInt (0 : Int)) (PV.bool true) (nth g3 0)).toBool (PV.bool true) (selB ((selB (ltI (nth ((nth p0 2).fld 0).toList (nth p0 0).toInt.toNat).toInt (0 : Int)) (PV.bool true) (nth g3 0)).isB false) (PV.bool (gtI (selB ((selB (ltI (nth ((nth p0 2).fld 0).toList (nth p0 0).toInt.toNat).toInt (0 : Int)) (PV.bool true) (nth g3 0)).isB false) (nth r1 1) PV.unit).toInt (3000 : Int))) PV.unit)).isB false) (nth r1 2) PV.unit).toInt (20 : Int))) PV.unit)).toBool (PV.bool true) (selB ((selB (selB (selB (ltI (nth ((nth p0 2).fld 0).toList (nth p0 0).toInt.toNat).toInt (0 : Int)) (PV.bool true) (nth g3 0)).toBool (PV.bool true) (selB ((selB (ltI (nth ((nth p0 2).fld 0).toList (nth p0 0).toInt.toNat).toInt (0 : Int)) (PV.bool true) (nth g3 0)).isB false) (PV.bool (gtI (selB ((selB (ltI (nth ((nth p0 2).fld 0).toList (nth p0 0).toInt.toNat).toInt (0 : Int)) (PV.bool true) (nth g3 0)).isB false) (nth r1 1) PV.unit).toInt (3000 : Int))) PV.unit)).toBool (PV.bool true) (selB ((selB (selB (ltI (nth ((nth p0 2).fld 0).toList (nth p0 0).toInt.toNat).toInt (0 : Int)) (PV.bool true) (nth g3 0)).toBool (PV.bool true) (selB ((selB (ltI (nth ((nth p0 2).fld 0).toList (nth p0 0).toInt.toNat).toInt (0 : Int)) (PV.bool true) (nth g3 0)).isB false) (PV.bool (gtI (selB ((selB (ltI (nth ((nth p0 2).fld 0).toList (nth p0 0).toInt.toNat).toInt (0 : Int)) (PV.bool true) (nth g3 0)).isB false) (nth r1 1) PV.unit).toInt (3000 : Int))) PV.unit)).isB false) (PV.bool (gtI (selB ((selB (selB (ltI (nth ((nth p0 2).fld 0).toList (nth p0 0).toInt.toNat).toInt (0 : Int)) (PV.bool true) (nth g3 0)).toBool (PV.bool true) (selB ((selB (ltI (nth ((nth p0 2).fld 0).toList (nth p0 0).toInt.toNat).toInt (0 : Int)) (PV.bool true) (nth g3 0)).isB false) (PV.bool (gtI (selB ((selB (ltI (nth ((nth p0 2).fld 0).toList (nth p0 0).toInt.toNat).toInt (0 : Int)) (PV.bool true) (nth g3 0)).isB false) (nth r1 1) PV.unit).toInt (3000 : Int))) PV.unit)).isB false) (nth r1 2) PV.unit).toInt (20 : Int))) PV.unit)).isB false) (PV.bool (geI (selB ((selB (selB (selB (ltI (nth ((nth p0 2).fld 0).toList (nth p0 0).toInt.toNat).toInt (0 : Int)) (PV.bool true) (nth g3 0)).toBool (PV.bool true) (selB ((selB (ltI (nth ((nth p0 2).fld 0).toList (nth p0 0).toInt.toNat).toInt (0 : Int)) (PV.bool true) (nth g3 0)).isB false) (PV.bool (gtI (selB ((selB (ltI (nth ((nth p0 2).fld 0).toList (nth p0 0).toInt.toNat).toInt (0 : Int)) (PV.bool true) (nth g3 0)).isB false) (nth r1 1) PV.unit).toInt (3000 : Int))) PV.unit)).toBool (PV.bool true) (selB ((selB (selB (ltI (nth ((nth p0 2).fld 0).toList (nth p0 0).toInt.toNat).toInt (0 : Int)) (PV.bool true) (nth g3 0)).toBool (PV.bool true) (selB ((selB (ltI (nth ((nth p0 2).fld 0).toList (nth p0 0).toInt.toNat).toInt (0 : Int)) (PV.bool true) (nth g3 0)).isB false) (PV.bool (gtI (selB ((selB (ltI (nth ((nth p0 2).fld 0).toList (nth p0 0).toInt.toNat).toInt (0 : Int)) (PV.bool true) (nth g3 0)).isB false) (nth r1 1) PV.unit).toInt (3000 : Int))) PV.unit)).isB false) (PV.bool (gtI (selB ((selB (selB (ltI (nth ((nth p0 2).fld 0).toList (nth p0 0).toInt.toNat).toInt (0 : Int)) (PV.bool true) (nth g3 0)).toBool (PV.bool true) (selB ((selB (ltI (nth ((nth p0 2).fld 0).toList (nth p0 0).toInt.toNat).toInt (0 : Int)) (PV.bool true) (nth g3 0)).isB false) (PV.bool (gtI (selB ((selB (ltI (nth ((nth p0 2).fld 0).toList (nth p0 0).toInt.toNat).toInt (0 : Int)) (PV.bool true) (nth g3 0)).isB false) (nth r1 1) PV.unit).toInt (3000 : Int))) PV.unit)).isB false) (nth r1 2) PV.unit).toInt (20 : Int))) PV.unit)).isB false) (nth r1 2) PV.unit).toInt (selB ((selB (selB (selB (ltI (nth ((nth p0 2).fld 0).toList (nth p0 0).toInt.toNat).toInt (0 : Int)) (PV.bool true) (nth g3 0)).toBool (PV.bool true) (selB ((selB (ltI (nth ((nth p0 2).fld 0).toList (nth p0 0).toInt.toNat).toInt (0 : Int)) (PV.bool true) (nth g3 0)).isB false) (PV.bool (gtI (selB ((selB (ltI (nth ((nth p0 2).fld 0).toList (nth p0 0).toInt.toNat).toInt (0 : Int)) (PV.bool true) (nth g3 0)).isB false) (nth r1 1) PV.unit).toInt (3000 : Int))) PV.unit)).toBool (PV.bool true) (selB ((selB (selB (ltI (nth ((nth p0 2).fld 0).toList (nth p0 0).toInt.toNat).toInt (0 : Int)) (PV.bool true) (nth g3 0)).toBool (PV.bool true) (selB ((selB (ltI (nth ((nth p0 2).fld 0).toList (nth p0 0).toInt.toNat).toInt (0 : Int)) (PV.bool true) (nth g3 0)).isB false) (PV.bool (gtI (selB ((selB (ltI (nth ((nth p0 2).fld 0).toList (nth p0 0).toInt.toNat).toInt (0 : Int)) (PV.bool true) (nth g3 0)).isB false) (nth r1 1) PV.unit).toInt (3000 : Int))) PV.unit)).isB false) (PV.bool (gtI (selB ((selB (selB (ltI (nth ((nth p0 2).fld 0).toList (nth p0 0).toInt.toNat).toInt (0 : Int)) (PV.bool true) (nth g3 0)).toBool (PV.bool true) (selB ((selB (ltI (nth ((nth p0 2).fld 0).toList (nth p0 0).toInt.toNat).toInt (0 : Int)) (PV.bool true) (nth g3 0)).isB false) (PV.bool (gtI (selB ((selB (ltI (nth ((nth p0 2).fld 0).toList (nth p0 0).toInt.toNat).toInt (0 : Int)) (PV.bool true) (nth g3 0)).isB false) (nth r1 1) PV.unit).toInt (3000 : Int))) PV.unit)).isB false) (nth r1 2) PV.unit).toInt (20 : Int))) PV.unit)).isB false) (PV.int (IntKind.i64.wrap ((selB ((selB (selB (selB (ltI (nth ((nth p0 2).fld 0).toList (nth p0 0).toInt.toNat).toInt (0 : Int)) (PV.bool true) (nth g3 0)).toBool (PV.bool true) (selB ((selB (ltI (nth ((nth p0 2).fld 0).toList (nth p0 0).toInt.toNat).toInt (0 : Int)) (PV.bool true) (nth g3 0)).isB false) (PV.bool (gtI (selB ((selB (ltI (nth ((nth p0 2).fld 0).toList (nth p0 0).toInt.toNat).toInt (0 : Int)) (PV.bool true) (nth g3 0)).isB false) (nth r1 1) PV.unit).toInt (3000 : Int))) PV.unit)).toBool (PV.bool true) (selB ((selB (selB (ltI (nth ((nth p0 2).fld 0).toList (nth p0 0).toInt.toNat).toInt (0 : Int)) (PV.bool true) (nth g3 0)).toBool (PV.bool true) (selB ((selB (ltI (nth ((nth p0 2).fld 0).toList (nth p0 0).toInt.toNat).toInt (0 : Int)) (PV.bool true) (nth g3 0)).isB false) (PV.bool (gtI (selB ((selB (ltI (nth ((nth p0 2).fld 0).toList (nth p0 0).toInt.toNat).toInt (0 : Int)) (PV.bool true) (nth g3 0)).isB false) (nth r1 1) PV.unit).toInt (3000 : Int))) PV.unit)).isB false) (PV.bool (gtI (selB ((selB (selB (ltI (nth ((nth p0 2).fld 0).toList (nth p0 0).toInt.toNat).toInt (0 : Int)) (PV.bool true) (nth g3 0)).toBool (PV.bool true) (selB ((selB (ltI (nth ((nth p0 2).fld 0).toList (nth p0 0).toInt.toNat).toInt (0 : Int)) (PV.bool true) (nth g3 0)).isB false) (PV.bool (gtI (selB ((selB (ltI (nth ((nth p0 2).fld 0).toList (nth p0 0).toInt.toNat).toInt (0 : Int)) (PV.bool true) (nth g3 0)).isB false) (nth r1 1) PV.unit).toInt (3000 : Int))) PV.unit)).isB false) (nth r1 2) PV.unit).toInt (20 : Int))) PV.unit)).isB false) ((nth p0 2).fld 3) PV.unit).toInt - (selB ((selB (selB (selB (ltI (nth ((nth p0 2).fld 0).toList (nth p0 0).toInt.toNat).toInt (0 : Int)) (PV.bool true) (nth g3 0)).toBool (PV.bool true) (selB ((selB (ltI (nth ((nth p0 2).fld 0).toList (nth p0 0).toInt.toNat).toInt (0 : Int)) (PV.bool true) (nth g3 0)).isB false) (PV.bool (gtI (selB ((selB (ltI (nth ((nth p0 2).fld 0).toList (nth p0 0).toInt.toNat).toInt (0 : Int)) (PV.bool true) (nth g3 0)).isB false) (nth r1 1) PV.unit).toInt (3000 : Int))) PV.unit)).toBool (PV.bool true) (selB ((selB (selB (ltI (nth ((nth p0 2).fld 0).toList (nth p0 0).toInt.toNat).toInt (0 : Int)) (PV.bool true) (nth g3 0)).toBool (PV.bool true) (selB ((selB (ltI (nth ((nth p0 2).fld 0).toList (nth p0 0).toInt.toNat).toInt (0 : Int)) (PV.bool true) (nth g3 0)).isB false) (PV.bool (gtI (selB ((selB (ltI (nth ((nth p0 2).fld 0).toList (nth p0 0).toInt.toNat).toInt (0 : Int)) (PV.bool true) (nth g3 0)).isB false) (nth r1 1) PV.unit).toInt (3000 : Int))) PV.unit)).isB false) (PV.bool (gtI (selB ((selB (selB (ltI (nth ((nth p0 2).fld 0).toList (nth p0 0).toInt.toNat).toInt (0 : Int)) (PV.bool true) (nth g3 0)).toBool (PV.bool true) (selB ((selB (ltI (nth ((nth p0 2).fld 0).toList (nth p0 0).toInt.toNat).toInt (0 : Int)) (PV.bool true) (nth g3 0)).isB false) (PV.bool (gtI (selB ((selB (ltI (nth ((nth p0 2).fld 0).toList (nth p0 0).toInt.toNat).toInt (0 : Int)) (PV.bool true) (nth g3 0)).isB false) (nth r1 1) PV.unit).toInt (3000 : Int))) PV.unit)).isB false) (nth r1 2) PV.unit).toInt (20 : Int))) PV.unit)).isB false) (nth p0 0) PV.unit).toInt))) PV.unit).toInt)) PV.unit)).toBool
  (some (Ex.r, [(nth p0 1), (PV.bool false)]))
  (iff (leN ((nth p0 1).toList.length + ((nth p0 0) :: ([] : List PV)).length) 17592186044416)
  (some (Ex.n, [(PV.int (IntKind.i64.wrap ((IntKind.i64.wrap ((nth p0 0).toInt + (1 : Int))) + (nth r1 2).toInt))), (PV.list ((nth p0 1).toList ++ ((nth p0 0) :: ([] : List PV)))), (nth p0 2)]))
  none))))
  none)
  none)
  (some (Ex.x 0, [(nth p0 1)])))
noncomputable def F58 (I : Interp) (n : Nat) (a : List PV) : Option (List PV) :=
  (thenN (thenE (loopEv (L58_0 I n) n [((nth a 0).fld 2), (PV.list ([] : List PV)), (nth a 0)])
  (passB 0))
  (fun p4 => (some [(nth p4 0), (PV.bool true)]))
  (retE fun q5 => [(nth q5 0), (nth q5 1)]))
theorem e58 : ∀ I n a, (compF Tryd.prog sg 58).map (fun d => d.ev I n a) = some (F58 I n a) := fun I n a => by kernel_rfl
/-! impl.header -/
noncomputable def F41 (I : Interp) (n : Nat) (a : List PV) : Option (List PV) :=
  ((I 40 [(nth a 0)]).bind fun r0 =>
  (iff (geI (7 : Int) (0 : Int))
  (iff (geI (1 : Int) (0 : Int))
  ((I 38 [(nth a 0)]).bind fun r1 =>
  (some [(PV.bool (eqI (arith BinOp.and IntKind.i64 (nth r0 0).toInt (1 : Int)) (1 : Int))), (PV.int (arith BinOp.shr IntKind.i64 (nth r0 0).toInt (7 : Int))), (PV.int (arith BinOp.and IntKind.i64 (arith BinOp.shr IntKind.i64 (nth r0 0).toInt (1 : Int)) (63 : Int))), (selB (selB (selB (!(nth r1 0).toBool) (selB ((!(nth r1 0).toBool) == true) (PV.bool (geI (selB ((!(nth r1 0).toBool) == true) (nth r0 0) PV.unit).toInt (0 : Int))) PV.unit) (PV.bool false)).toBool (selB ((selB (!(nth r1 0).toBool) (selB ((!(nth r1 0).toBool) == true) (PV.bool (geI (selB ((!(nth r1 0).toBool) == true) (nth r0 0) PV.unit).toInt (0 : Int))) PV.unit) (PV.bool false)).isB true) (PV.bool (leI (selB ((selB (!(nth r1 0).toBool) (selB ((!(nth r1 0).toBool) == true) (PV.bool (geI (selB ((!(nth r1 0).toBool) == true) (nth r0 0) PV.unit).toInt (0 : Int))) PV.unit) (PV.bool false)).isB true) (PV.int (arith BinOp.shr IntKind.i64 (nth r0 0).toInt (7 : Int))) PV.unit).toInt (3000 : Int))) PV.unit) (PV.bool false)).toBool (selB ((selB (selB (!(nth r1 0).toBool) (selB ((!(nth r1 0).toBool) == true) (PV.bool (geI (selB ((!(nth r1 0).toBool) == true) (nth r0 0) PV.unit).toInt (0 : Int))) PV.unit) (PV.bool false)).toBool (selB ((selB (!(nth r1 0).toBool) (selB ((!(nth r1 0).toBool) == true) (PV.bool (geI (selB ((!(nth r1 0).toBool) == true) (nth r0 0) PV.unit).toInt (0 : Int))) PV.unit) (PV.bool false)).isB true) (PV.bool (leI (selB ((selB (!(nth r1 0).toBool) (selB ((!(nth r1 0).toBool) == true) (PV.bool (geI (selB ((!(nth r1 0).toBool) == true) (nth r0 0) PV.unit).toInt (0 : Int))) PV.unit) (PV.bool false)).isB true) (PV.int (arith BinOp.shr IntKind.i64 (nth r0 0).toInt (7 : Int))) PV.unit).toInt (3000 : Int))) PV.unit) (PV.bool false)).isB true) (PV.bool (leI (selB ((selB (selB (!(nth r1 0).toBool) (selB ((!(nth r1 0).toBool) == true) (PV.bool (geI (selB ((!(nth r1 0).toBool) == true) (nth r0 0) PV.unit).toInt (0 : Int))) PV.unit) (PV.bool false)).toBool (selB ((selB (!(nth r1 0).toBool) (selB ((!(nth r1 0).toBool) == true) (PV.bool (geI (selB ((!(nth r1 0).toBool) == true) (nth r0 0) PV.unit).toInt (0 : Int))) PV.unit) (PV.bool false)).isB true) (PV.bool (leI (selB ((selB (!(nth r1 0).toBool) (selB ((!(nth r1 0).toBool) == true) (PV.bool (geI (selB ((!(nth r1 0).toBool) == true) (nth r0 0) PV.unit).toInt (0 : Int))) PV.unit) (PV.bool false)).isB true) (PV.int (arith BinOp.shr IntKind.i64 (nth r0 0).toInt (7 : Int))) PV.unit).toInt (3000 : Int))) PV.unit) (PV.bool false)).isB true) (PV.int (arith BinOp.and IntKind.i64 (arith BinOp.shr IntKind.i64 (nth r0 0).toInt (1 : Int)) (63 : Int))) PV.unit).toInt (20 : Int))) PV.unit) (PV.bool false))]))
  none)
  none))
theorem e41 : ∀ I n a, (compF Tryd.prog sg 41).map (fun d => d.ev I n a) = some (F41 I n a) := fun I n a => by kernel_rfl
/-! impl.met$1 -/
noncomputable def L70_0 (I : Interp) (n : Nat) (p0 : List PV) : Option (Ex × List PV) :=
  (iff (ltI (nth p0 0).toInt (nth p0 1).toInt)
  (thenN (iff (geI (nth p0 0).toInt (0 : Int))
  (iff (ltI (nth p0 0).toInt ((nth p0 2).toList.length : Int))
  ((I 38 [(nth (nth p0 2).toList (nth p0 0).toInt.toNat)]).bind fun r1 =>
  (iff (selB (nth r1 0).toBool (selB ((nth r1 0).isB true) (PV.bool (!(selB ((nth r1 0).isB true) (mgetL (PV.bool false) (selB ((nth r1 0).isB true) (nth (nth p0 2).toList (nth p0 0).toInt.toNat) PV.unit).toInt (nth p0 3).toList) PV.unit).toBool)) PV.unit) (PV.bool false)).toBool
  ((I 39 [(nth (nth p0 2).toList (nth p0 0).toInt.toNat)]).bind fun r2 =>
  (iff (leN ((nth p0 4).toList.length + ((nth r2 0) :: ([] : List PV)).length) 17592186044416)
  (some (Ex.n, [(nth p0 0), (nth p0 1), (nth p0 2), (PV.list (msetL (nth (nth p0 2).toList (nth p0 0).toInt.toNat).toInt (PV.bool true) (nth p0 3).toList)), (PV.list ((nth p0 4).toList ++ ((nth r2 0) :: ([] : List PV))))]))
  none))
  (some (Ex.n, [(nth p0 0), (nth p0 1), (nth p0 2), (nth p0 3), (nth p0 4)]))))
  none)
  none)
  (fun p3 => (some (Ex.n, [(PV.int (IntKind.i64.wrap ((nth p3 0).toInt + (1 : Int)))), (nth p3 1), (nth p3 2), (nth p3 3), (nth p3 4)])))
  passE)
  (some (Ex.x 0, [(nth p0 3), (nth p0 4)])))
noncomputable def F70 (I : Interp) (n : Nat) (a : List PV) : Option (List PV) :=
  (thenN (thenE (loopEv (L70_0 I n) n [(PV.int (0 : Int)), (PV.int ((nth a 0).toList.length : Int)), (nth a 0), (nth a 1), (nth a 2)])
  (passB 0))
  (fun p4 => (some [(nth p4 0), (nth p4 1)]))
  (retE fun q5 => [(nth q5 0), (nth q5 1)]))
theorem e70 : ∀ I n a, (compF Tryd.prog sg 70).map (fun d => d.ev I n a) = some (F70 I n a) := fun I n a => by kernel_rfl
/-! impl.met$1 -/
noncomputable def L4166_0 (I : Interp) (n : Nat) (p0 : List PV) : Option (Ex × List PV) :=
  (iff (ltI (nth p0 0).toInt (nth p0 1).toInt)
  (thenN (iff (geI (nth p0 0).toInt (0 : Int))
  (iff (ltI (nth p0 0).toInt ((nth p0 2).toList.length : Int))
  ((I 38 [(nth (nth p0 2).toList (nth p0 0).toInt.toNat)]).bind fun r1 =>
  (iff (selB (nth r1 0).toBool (selB ((nth r1 0).isB true) (PV.bool (!(selB ((nth r1 0).isB true) (mgetL (PV.bool false) (selB ((nth r1 0).isB true) (nth (nth p0 2).toList (nth p0 0).toInt.toNat) PV.unit).toInt (nth p0 3).toList) PV.unit).toBool)) PV.unit) (PV.bool false)).toBool
  ((I 39 [(nth (nth p0 2).toList (nth p0 0).toInt.toNat)]).bind fun r2 =>
  (iff (leN ((nth p0 4).toList.length + ((nth r2 0) :: ([] : List PV)).length) 17592186044416)
  (some (Ex.n, [(nth p0 0), (nth p0 1), (nth p0 2), (PV.list (msetL (nth (nth p0 2).toList (nth p0 0).toInt.toNat).toInt (PV.bool true) (nth p0 3).toList)), (PV.list ((nth p0 4).toList ++ ((nth r2 0) :: ([] : List PV))))]))
  none))
  (some (Ex.n, [(nth p0 0), (nth p0 1), (nth p0 2), (nth p0 3), (nth p0 4)]))))
  none)
  none)
  (fun p3 => (some (Ex.n, [(PV.int (IntKind.i64.wrap ((nth p3 0).toInt + (1 : Int)))), (nth p3 1), (nth p3 2), (nth p3 3), (nth p3 4)])))
  passE)
  (some (Ex.x 0, [(nth p0 2), (nth p0 3), (nth p0 4)])))
noncomputable def F4166 (I : Interp) (n : Nat) (a : List PV) : Option (List PV) :=
  (thenN (thenE (loopEv (L4166_0 I n) n [(PV.int (0 : Int)), (PV.int ((nth a 0).toList.length : Int)), (nth a 0), (nth a 1), (nth a 2)])
  (passB 0))
  (fun p4 => (some [(nth p4 0), (nth p4 1), (nth p4 2)]))
  (retE fun q5 => [(nth q5 0), (nth q5 1), (nth q5 2)]))
theorem e4166 : ∀ I n a, (compF Tryd.prog sg 4166).map (fun d => d.ev I n a) = some (F4166 I n a) := fun I n a => by kernel_rfl
/-! impl.met$1 -/
noncomputable def L8262_0 (I : Interp) (n : Nat) (p0 : List PV) : Option (Ex × List PV) :=
  (iff (ltI (nth p0 0).toInt (nth p0 1).toInt)
  (thenN (iff (geI (nth p0 0).toInt (0 : Int))
  (iff (ltI (nth p0 0).toInt ((nth p0 2).toList.length : Int))
  ((I 38 [(nth (nth p0 2).toList (nth p0 0).toInt.toNat)]).bind fun r1 =>
  (iff (selB (nth r1 0).toBool (selB ((nth r1 0).isB true) (PV.bool (!(selB ((nth r1 0).isB true) (mgetL (PV.bool false) (selB ((nth r1 0).isB true) (nth (nth p0 2).toList (nth p0 0).toInt.toNat) PV.unit).toInt (nth p0 3).toList) PV.unit).toBool)) PV.unit) (PV.bool false)).toBool
  ((I 39 [(nth (nth p0 2).toList (nth p0 0).toInt.toNat)]).bind fun r2 =>
  (iff (leN ((nth p0 4).toList.length + ((nth r2 0) :: ([] : List PV)).length) 17592186044416)
  (some (Ex.n, [(nth p0 0), (nth p0 1), (nth p0 2), (PV.list (msetL (nth (nth p0 2).toList (nth p0 0).toInt.toNat).toInt (PV.bool true) (nth p0 3).toList)), (PV.list ((nth p0 4).toList ++ ((nth r2 0) :: ([] : List PV))))]))
  none))
  (some (Ex.n, [(nth p0 0), (nth p0 1), (nth p0 2), (nth p0 3), (nth p0 4)]))))
  none)
  none)
  (fun p3 => (some (Ex.n, [(PV.int (IntKind.i64.wrap ((nth p3 0).toInt + (1 : Int)))), (nth p3 1), (nth p3 2), (nth p3 3), (nth p3 4)])))
  passE)
  (some (Ex.x 0, [(nth p0 3), (nth p0 4)])))
noncomputable def F8262 (I : Interp) (n : Nat) (a : List PV) : Option (List PV) :=
  (thenN (thenE (loopEv (L8262_0 I n) n [(PV.int (0 : Int)), (PV.int ((nth a 0).toList.length : Int)), (nth a 0), (nth a 1), (nth a 2)])
  (passB 0))
  (fun p4 => (some [(nth p4 0), (nth p4 1)]))
  (retE fun q5 => [(nth q5 0), (nth q5 1)]))
theorem e8262 : ∀ I n a, (compF Tryd.prog sg 8262).map (fun d => d.ev I n a) = some (F8262 I n a) := fun I n a => by kernel_rfl
/-! impl.kidsAt -/
noncomputable def F42 (I : Interp) (n : Nat) (a : List PV) : Option (List PV) :=
  (iff (geI (nth a 1).toInt (0 : Int))
  (iff (ltI (nth a 1).toInt (((nth a 0).fld 0).toList.length : Int))
  ((I 41 [(nth ((nth a 0).fld 0).toList (nth a 1).toInt.toNat)]).bind fun r0 =>
  (iff (geI (IntKind.i64.wrap ((nth a 1).toInt + (1 : Int))) (0 : Int))
  (iff (leI (IntKind.i64.wrap ((nth a 1).toInt + (1 : Int))) (IntKind.i64.wrap ((IntKind.i64.wrap ((nth a 1).toInt + (1 : Int))) + (nth r0 2).toInt)))
  (iff (leI (IntKind.i64.wrap ((IntKind.i64.wrap ((nth a 1).toInt + (1 : Int))) + (nth r0 2).toInt)) (((nth a 0).fld 0).toList.length : Int))
  (some [(PV.list ((((nth a 0).fld 0).toList.drop (IntKind.i64.wrap ((nth a 1).toInt + (1 : Int))).toNat).take ((IntKind.i64.wrap ((IntKind.i64.wrap ((nth a 1).toInt + (1 : Int))) + (nth r0 2).toInt)).toNat - (IntKind.i64.wrap ((nth a 1).toInt + (1 : Int))).toNat)))])
  none)
  none)
  none))
  none)
  none)
theorem e42 : ∀ I n a, (compF Tryd.prog sg 42).map (fun d => d.ev I n a) = some (F42 I n a) := fun I n a => by kernel_rfl
/-! slices.BinarySearch[[]int,int] -/
noncomputable def L84_0 (I : Interp) (n : Nat) (p0 : List PV) : Option (Ex × List PV) :=
  (iff (ltI (nth p0 3).toInt (nth p0 0).toInt)
  (iff (geI (1 : Int) (0 : Int))
  (iff (geI (IntKind.i64.wrap (arith BinOp.shr IntKind.u64 (IntKind.u64.wrap (IntKind.i64.wrap ((nth p0 3).toInt + (nth p0 0).toInt))) (1 : Int))) (0 : Int))
  (iff (ltI (IntKind.i64.wrap (arith BinOp.shr IntKind.u64 (IntKind.u64.wrap (IntKind.i64.wrap ((nth p0 3).toInt + (nth p0 0).toInt))) (1 : Int))) ((nth p0 2).toList.length : Int))
  ((I 88 [(nth (nth p0 2).toList (IntKind.i64.wrap (arith BinOp.shr IntKind.u64 (IntKind.u64.wrap (IntKind.i64.wrap ((nth p0 3).toInt + (nth p0 0).toInt))) (1 : Int))).toNat), (nth p0 4)]).bind fun r1 =>
  (iff (nth r1 0).toBool
  (some (Ex.n, [(nth p0 0), (nth p0 1), (nth p0 2), (PV.int (IntKind.i64.wrap ((IntKind.i64.wrap (arith BinOp.shr IntKind.u64 (IntKind.u64.wrap (IntKind.i64.wrap ((nth p0 3).toInt + (nth p0 0).toInt))) (1 : Int))) + (1 : Int)))), (nth p0 4)]))
  (some (Ex.n, [(PV.int (IntKind.i64.wrap (arith BinOp.shr IntKind.u64 (IntKind.u64.wrap (IntKind.i64.wrap ((nth p0 3).toInt + (nth p0 0).toInt))) (1 : Int)))), (nth p0 1), (nth p0 2), (nth p0 3), (nth p0 4)]))))
  none)
  none)
  none)
  (some (Ex.x 0, [(nth p0 1), (nth p0 2), (nth p0 3), (nth p0 4)])))
noncomputable def F84 (I : Interp) (n : Nat) (a : List PV) : Option (List PV) :=
  (thenN (thenE (loopEv (L84_0 I n) n [(PV.int ((nth a 0).toList.length : Int)), (PV.int ((nth a 0).toList.length : Int)), (nth a 0), (PV.int (0 : Int)), (nth a 1)])
  (passB 0))
  (fun p2 => ((iff ((ltI (nth p2 2).toInt (nth p2 0).toInt) == true)
  (iff (geI (selB ((ltI (nth p2 2).toInt (nth p2 0).toInt) == true) (nth p2 2) PV.unit).toInt (0 : Int))
  (iff (ltI (selB ((ltI (nth p2 2).toInt (nth p2 0).toInt) == true) (nth p2 2) PV.unit).toInt ((selB ((ltI (nth p2 2).toInt (nth p2 0).toInt) == true) (nth p2 1) PV.unit).toList.length : Int))
  (some [(nth (selB ((ltI (nth p2 2).toInt (nth p2 0).toInt) == true) (nth p2 1) PV.unit).toList (selB ((ltI (nth p2 2).toInt (nth p2 0).toInt) == true) (nth p2 2) PV.unit).toInt.toNat), (nth (selB ((ltI (nth p2 2).toInt (nth p2 0).toInt) == true) (nth p2 1) PV.unit).toList (selB ((ltI (nth p2 2).toInt (nth p2 0).toInt) == true) (nth p2 2) PV.unit).toInt.toNat)])
  none)
  none)
  (some [PV.unit, PV.unit])).bind fun g3 =>
  ((iff ((selB ((ltI (nth p2 2).toInt (nth p2 0).toInt) == true) (selB ((ltI (nth p2 2).toInt (nth p2 0).toInt) == true) (PV.bool (eqI (selB ((ltI (nth p2 2).toInt (nth p2 0).toInt) == true) (nth g3 0) PV.unit).toInt (selB ((ltI (nth p2 2).toInt (nth p2 0).toInt) == true) (nth p2 3) PV.unit).toInt)) PV.unit) PV.unit).isB false)
  (iff (geI (selB ((selB ((ltI (nth p2 2).toInt (nth p2 0).toInt) == true) (selB ((ltI (nth p2 2).toInt (nth p2 0).toInt) == true) (PV.bool (eqI (selB ((ltI (nth p2 2).toInt (nth p2 0).toInt) == true) (nth g3 0) PV.unit).toInt (selB ((ltI (nth p2 2).toInt (nth p2 0).toInt) == true) (nth p2 3) PV.unit).toInt)) PV.unit) PV.unit).isB false) (nth p2 2) PV.unit).toInt (0 : Int))
  (iff (ltI (selB ((selB ((ltI (nth p2 2).toInt (nth p2 0).toInt) == true) (selB ((ltI (nth p2 2).toInt (nth p2 0).toInt) == true) (PV.bool (eqI (selB ((ltI (nth p2 2).toInt (nth p2 0).toInt) == true) (nth g3 0) PV.unit).toInt (selB ((ltI (nth p2 2).toInt (nth p2 0).toInt) == true) (nth p2 3) PV.unit).toInt)) PV.unit) PV.unit).isB false) (nth p2 2) PV.unit).toInt ((selB ((selB ((ltI (nth p2 2).toInt (nth p2 0).toInt) == true) (selB ((ltI (nth p2 2).toInt (nth p2 0).toInt) == true) (PV.bool (eqI (selB ((ltI (nth p2 2).toInt (nth p2 0).toInt) == true) (nth g3 0) PV.unit).toInt (selB ((ltI (nth p2 2).toInt (nth p2 0).toInt) == true) (nth p2 3) PV.unit).toInt)) PV.unit) PV.unit).isB false) (nth p2 1) PV.unit).toList.length : Int))
  (some [(nth (selB ((selB ((ltI (nth p2 2).toInt (nth p2 0).toInt) == true) (selB ((ltI (nth p2 2).toInt (nth p2 0).toInt) == true) (PV.bool (eqI (selB ((ltI (nth p2 2).toInt (nth p2 0).toInt) == true) (nth g3 0) PV.unit).toInt (selB ((ltI (nth p2 2).toInt (nth p2 0).toInt) == true) (nth p2 3) PV.unit).toInt)) PV.unit) PV.unit).isB false) (nth p2 1) PV.unit).toList (selB ((selB ((ltI (nth p2 2).toInt (nth p2 0).toInt) == true) (selB ((ltI (nth p2 2).toInt (nth p2 0).toInt) == true) (PV.bool (eqI (selB ((ltI (nth p2 2).toInt (nth p2 0).toInt) == true) (nth g3 0) PV.unit).toInt (selB ((ltI (nth p2 2).toInt (nth p2 0).toInt) == true) (nth p2 3) PV.unit).toInt)) PV.unit) PV.unit).isB false) (nth p2 2) PV.unit).toInt.toNat), (nth (selB ((selB ((ltI (nth p2 2).toInt (nth p2 0).toInt) == true) (selB ((ltI (nth p2 2).toInt (nth p2 0).toInt) == true) (PV.bool (eqI (selB ((ltI (nth p2 2).toInt (nth p2 0).toInt) == true) (nth g3 0) PV.unit).toInt (selB ((ltI (nth p2 2).toInt (nth p2 0).toInt) == true) (nth p2 3) PV.unit).toInt)) PV.unit) PV.unit).isB false) (nth p2 1) PV.unit).toList (selB ((selB ((ltI (nth p2 2).toInt (nth p2 0).toInt) == true) (selB ((ltI (nth p2 2).toInt (nth p2 0).toInt) == true) (PV.bool (eqI (selB ((ltI (nth p2 2).toInt (nth p2 0).toInt) == true) (nth g3 0) PV.unit).toInt (selB ((ltI (nth p2 2).toInt (nth p2 0).toInt) == true) (nth p2 3) PV.unit).toInt)) PV.unit) PV.unit).isB false) (nth p2 2) PV.unit).toInt.toNat)])
  none)
  none)
  (some [PV.unit, PV.unit])).bind fun g4 =>
  ((iff ((selB ((ltI (nth p2 2).toInt (nth p2 0).toInt) == true) (selB ((ltI (nth p2 2).toInt (nth p2 0).toInt) == true) (PV.bool (eqI (selB ((ltI (nth p2 2).toInt (nth p2 0).toInt) == true) (nth g3 0) PV.unit).toInt (selB ((ltI (nth p2 2).toInt (nth p2 0).toInt) == true) (nth p2 3) PV.unit).toInt)) PV.unit) PV.unit).isB false)
  ((I 89 [(selB ((selB ((ltI (nth p2 2).toInt (nth p2 0).toInt) == true) (selB ((ltI (nth p2 2).toInt (nth p2 0).toInt) == true) (PV.bool (eqI (selB ((ltI (nth p2 2).toInt (nth p2 0).toInt) == true) (nth g3 0) PV.unit).toInt (selB ((ltI (nth p2 2).toInt (nth p2 0).toInt) == true) (nth p2 3) PV.unit).toInt)) PV.unit) PV.unit).isB false) (nth g4 0) PV.unit)]).bind fun r5 =>
  (some [(nth r5 0), (nth r5 0)]))
  (some [PV.unit, PV.unit])).bind fun g6 =>
  ((iff ((selB ((selB ((ltI (nth p2 2).toInt (nth p2 0).toInt) == true) (selB ((ltI (nth p2 2).toInt (nth p2 0).toInt) == true) (PV.bool (eqI (selB ((ltI (nth p2 2).toInt (nth p2 0).toInt) == true) (nth g3 0) PV.unit).toInt (selB ((ltI (nth p2 2).toInt (nth p2 0).toInt) == true) (nth p2 3) PV.unit).toInt)) PV.unit) PV.unit).isB false) (nth g6 0) PV.unit).isB true)
  ((I 89 [(selB ((selB ((selB ((ltI (nth p2 2).toInt (nth p2 0).toInt) == true) (selB ((ltI (nth p2 2).toInt (nth p2 0).toInt) == true) (PV.bool (eqI (selB ((ltI (nth p2 2).toInt (nth p2 0).toInt) == true) (nth g3 0) PV.unit).toInt (selB ((ltI (nth p2 2).toInt (nth p2 0).toInt) == true) (nth p2 3) PV.unit).toInt)) PV.unit) PV.unit).isB false) (nth g6 0) PV.unit).isB true) (nth p2 3) PV.unit)]).bind fun r7 =>
  (some [(nth r7 0), (nth r7 0)]))
  (some [PV.unit, PV.unit])).bind fun g8 =>
  (some [(nth p2 2), (selB (ltI (nth p2 2).toInt (nth p2 0).toInt) (selB ((ltI (nth p2 2).toInt (nth p2 0).toInt) == true) (selB (selB ((ltI (nth p2 2).toInt (nth p2 0).toInt) == true) (selB ((ltI (nth p2 2).toInt (nth p2 0).toInt) == true) (PV.bool (eqI (selB ((ltI (nth p2 2).toInt (nth p2 0).toInt) == true) (nth g3 0) PV.unit).toInt (selB ((ltI (nth p2 2).toInt (nth p2 0).toInt) == true) (nth p2 3) PV.unit).toInt)) PV.unit) PV.unit).toBool (PV.bool true) (selB ((selB ((ltI (nth p2 2).toInt (nth p2 0).toInt) == true) (selB ((ltI (nth p2 2).toInt (nth p2 0).toInt) == true) (PV.bool (eqI (selB ((ltI (nth p2 2).toInt (nth p2 0).toInt) == true) (nth g3 0) PV.unit).toInt (selB ((ltI (nth p2 2).toInt (nth p2 0).toInt) == true) (nth p2 3) PV.unit).toInt)) PV.unit) PV.unit).isB false) (selB (selB ((selB ((ltI (nth p2 2).toInt (nth p2 0).toInt) == true) (selB ((ltI (nth p2 2).toInt (nth p2 0).toInt) == true) (PV.bool (eqI (selB ((ltI (nth p2 2).toInt (nth p2 0).toInt) == true) (nth g3 0) PV.unit).toInt (selB ((ltI (nth p2 2).toInt (nth p2 0).toInt) == true) (nth p2 3) PV.unit).toInt)) PV.unit) PV.unit).isB false) (nth g6 0) PV.unit).toBool (nth g8 0) (PV.bool false)) PV.unit)) PV.unit) (PV.bool false))]))))))
  (retE fun q9 => [(nth q9 0), (nth q9 1)]))
theorem e84 : ∀ I n a, (compF Tryd.prog sg 84).map (fun d => d.ev I n a) = some (F84 I n a) := fun I n a => by kernel_rfl
/-! impl.blocksOf -/
noncomputable def L65_0 (I : Interp) (n : Nat) (p7 : List PV) : Option (Ex × List PV) :=
  (iff (ltI (nth p7 0).toInt ((nth p7 2).fld 3).toInt)
  (iff (geI (nth p7 0).toInt (0 : Int))
  (iff (ltI (nth p7 0).toInt (((nth p7 2).fld 0).toList.length : Int))
  ((I 41 [(nth ((nth p7 2).fld 0).toList (nth p7 0).toInt.toNat)]).bind fun r8 =>
  (letB (selB (!(nth r8 3).toBool) (PV.bool true) (selB ((!(nth r8 3).toBool) == false) (PV.bool (gtI (selB ((!(nth r8 3).toBool) == false) (PV.int (IntKind.i64.wrap ((selB ((!(nth r8 3).toBool) == false) (PV.int (IntKind.i64.wrap ((selB ((!(nth r8 3).toBool) == false) (nth p7 0) PV.unit).toInt + (1 : Int)))) PV.unit).toInt + (selB ((!(nth r8 3).toBool) == false) (nth r8 2) PV.unit).toInt))) PV.unit).toInt (selB ((!(nth r8 3).toBool) == false) ((nth p7 2).fld 3) PV.unit).toInt)) PV.unit)) fun v9 =>
  (iff v9.toBool
  (some (Ex.r, [(PV.list ([] : List PV)), (PV.bool false)]))
  (iff (leN ((nth p7 1).toList.length + ((nth p7 0) :: ([] : List PV)).length) 17592186044416)
  (some (Ex.n, [(PV.int (IntKind.i64.wrap ((nth p7 0).toInt + (IntKind.i64.wrap ((1 : Int) + (nth r8 2).toInt))))), (PV.list ((nth p7 1).toList ++ ((nth p7 0) :: ([] : List PV)))), (nth p7 2)]))
  none))))
  none)
  none)
  (some (Ex.x 0, [(nth p7 1)])))
noncomputable def F65 (I : Interp) (n : Nat) (a : List PV) : Option (List PV) :=
  ((I 55 [((nth a 0).fld 1), (PV.int (1 : Int)), (PV.int (3000 : Int))]).bind fun r0 =>
  (letB (selB (!(nth r0 0).toBool) (PV.bool true) (selB ((!(nth r0 0).toBool) == false) (PV.bool (neI (selB ((!(nth r0 0).toBool) == false) (PV.int ((selB ((!(nth r0 0).toBool) == false) ((nth a 0).fld 0) PV.unit).toList.length : Int)) PV.unit).toInt (selB ((!(nth r0 0).toBool) == false) (PV.int (IntKind.i64.wrap ((2 : Int) * (selB ((!(nth r0 0).toBool) == false) ((nth a 0).fld 1) PV.unit).toInt))) PV.unit).toInt)) PV.unit)) fun v1 =>
  (letB (selB (v1.isB false) (selB (selB (v1.isB false) (selB (v1.isB false) (PV.bool (neI (selB (v1.isB false) ((nth a 0).fld 2) PV.unit).toInt (0 : Int))) PV.unit) PV.unit).toBool (selB ((selB (v1.isB false) (selB (v1.isB false) (PV.bool (neI (selB (v1.isB false) ((nth a 0).fld 2) PV.unit).toInt (0 : Int))) PV.unit) PV.unit).isB true) (PV.bool (neI (selB ((selB (v1.isB false) (selB (v1.isB false) (PV.bool (neI (selB (v1.isB false) ((nth a 0).fld 2) PV.unit).toInt (0 : Int))) PV.unit) PV.unit).isB true) ((nth a 0).fld 2) PV.unit).toInt (selB ((selB (v1.isB false) (selB (v1.isB false) (PV.bool (neI (selB (v1.isB false) ((nth a 0).fld 2) PV.unit).toInt (0 : Int))) PV.unit) PV.unit).isB true) ((nth a 0).fld 1) PV.unit).toInt)) PV.unit) (PV.bool false)) PV.unit) fun v2 =>
  (letB (selB v1.toBool (PV.bool true) v2) fun v3 =>
  ((iff (v3.isB false)
  ((I 55 [(selB (v3.isB false) ((nth a 0).fld 3) PV.unit), (selB (v3.isB false) ((nth a 0).fld 2) PV.unit), (selB (v3.isB false) (PV.int (IntKind.i64.wrap ((selB (v3.isB false) ((nth a 0).fld 2) PV.unit).toInt + (selB (v3.isB false) ((nth a 0).fld 1) PV.unit).toInt))) PV.unit)]).bind fun r4 =>
  (some [(nth r4 0), (nth r4 0)]))
  (some [PV.unit, PV.unit])).bind fun g5 =>
  (letB (selB v3.toBool (PV.bool true) (selB (v3.isB false) (PV.bool (!(nth g5 0).toBool)) PV.unit)) fun v6 =>
  (iff v6.toBool
  (some [(PV.list ([] : List PV)), (PV.bool false)])
  (thenN (thenE (loopEv (L65_0 I n) n [((nth a 0).fld 2), (PV.list ([] : List PV)), (nth a 0)])
  (passB 0))
  (fun p10 => (some [(nth p10 0), (PV.bool true)]))
  (retE fun q11 => [(nth q11 0), (nth q11 1)])))))))))
theorem e65 : ∀ I n a, (compF Tryd.prog sg 65).map (fun d => d.ev I n a) = some (F65 I n a) := fun I n a => ew_ev (g := F65) (fun I n a => by kernel_rfl) I n a
/-! impl.isInt -/
noncomputable def F68 (I : Interp) (n : Nat) (a : List PV) : Option (List PV) :=
  ((I 38 [(nth a 0)]).bind fun r0 =>
  ((iff ((!(nth r0 0).toBool) == true)
  ((I 40 [(selB ((!(nth r0 0).toBool) == true) (nth a 0) PV.unit)]).bind fun r1 =>
  (some [(nth r1 0), (nth r1 0)]))
  (some [PV.unit, PV.unit])).bind fun g2 =>
  ((iff ((!(nth r0 0).toBool) == true)
  ((I 83 [(nth g2 0)]).bind fun r3 =>
  (some [(nth r3 0), (nth r3 0)]))
  (some [PV.unit, PV.unit])).bind fun g4 =>
  (some [(selB (!(nth r0 0).toBool) (nth g4 0) (PV.bool false))]))))
theorem e68 : ∀ I n a, (compF Tryd.prog sg 68).map (fun d => d.ev I n a) = some (F68 I n a) := fun I n a => by kernel_rfl
/-! spec.l18Word -/
noncomputable def L33_0 (I : Interp) (n : Nat) (p3 : List PV) : Option (Ex × List PV) :=
  (iff (ltI (nth p3 0).toInt ((nth p3 1).toList.length : Int))
  (iff (geI (nth p3 0).toInt (0 : Int))
  (iff (ltI (nth p3 0).toInt ((nth p3 1).toList.length : Int))
  ((I 62 [(nth p3 2)]).bind fun r4 =>
  (iff (eqI (nth (nth p3 1).toList (nth p3 0).toInt.toNat).toInt (nth r4 0).toInt)
  ((I 24 [(nth p3 0)]).bind fun r5 =>
  (iff (leI ((catB (⟨#[32, 64]⟩ : ByteArray) (nth r5 0).toStr).size : Int) (9223372036854775807 : Int))
  (some (Ex.r, [(PV.str (catB (⟨#[32, 64]⟩ : ByteArray) (nth r5 0).toStr))]))
  none))
  (some (Ex.n, [(PV.int (IntKind.i64.wrap ((nth p3 0).toInt + (1 : Int)))), (nth p3 1), (nth p3 2)]))))
  none)
  none)
  (some (Ex.x 0, [])))
noncomputable def F33 (I : Interp) (n : Nat) (a : List PV) : Option (List PV) :=
  ((I 60 [(nth a 0)]).bind fun r0 =>
  (iff (!(nth r0 0).toBool)
  ((I 63 [(nth a 0)]).bind fun r1 =>
  ((I 24 [(nth r1 0)]).bind fun r2 =>
  (iff (leI ((catB (⟨#[32]⟩ : ByteArray) (nth r2 0).toStr).size : Int) (9223372036854775807 : Int))
  (some [(PV.str (catB (⟨#[32]⟩ : ByteArray) (nth r2 0).toStr))])
  none)))
  (thenN (thenE (loopEv (L33_0 I n) n [(PV.int (0 : Int)), (nth a 1), (nth a 0)])
  (passB 0))
  (fun p6 => (some [(PV.str (⟨#[32, 64]⟩ : ByteArray))]))
  (retE fun q7 => [(nth q7 0)]))))
theorem e33 : ∀ I n a, (compF Tryd.prog sg 33).map (fun d => d.ev I n a) = some (F33 I n a) := fun I n a => by kernel_rfl
/-! impl.Shape$1 -/
noncomputable def L37_0 (I : Interp) (n : Nat) (p0 : List PV) : Option (Ex × List PV) :=
  (iff (ltI (nth p0 0).toInt (nth p0 1).toInt)
  (thenN (iff (geI (nth p0 0).toInt (0 : Int))
  (iff (ltI (nth p0 0).toInt ((nth p0 2).toList.length : Int))
  ((I 38 [(nth (nth p0 2).toList (nth p0 0).toInt.toNat)]).bind fun r1 =>
  (iff (nth r1 0).toBool
  ((I 39 [(nth (nth p0 2).toList (nth p0 0).toInt.toNat)]).bind fun r2 =>
  ((I 27 [(mgetL (PV.int (0 : Int)) (nth r2 0).toInt (nth p0 3).toList)]).bind fun r3 =>
  (iff (leI ((catB (⟨#[32, 64]⟩ : ByteArray) (nth r3 0).toStr).size : Int) (9223372036854775807 : Int))
  (iff (leN ((nth p0 4).toList.length + (s2bL (catB (⟨#[32, 64]⟩ : ByteArray) (nth r3 0).toStr)).length) 140737488355328)
  (some (Ex.n, [(nth p0 0), (nth p0 1), (nth p0 2), (nth p0 3), (PV.list ((nth p0 4).toList ++ (s2bL (catB (⟨#[32, 64]⟩ : ByteArray) (nth r3 0).toStr))))]))
  none)
  none)))
  ((I 40 [(nth (nth p0 2).toList (nth p0 0).toInt.toNat)]).bind fun r4 =>
  ((I 27 [(nth r4 0)]).bind fun r5 =>
  (iff (leI ((catB (⟨#[32]⟩ : ByteArray) (nth r5 0).toStr).size : Int) (9223372036854775807 : Int))
  (iff (leN ((nth p0 4).toList.length + (s2bL (catB (⟨#[32]⟩ : ByteArray) (nth r5 0).toStr)).length) 140737488355328)
  (some (Ex.n, [(nth p0 0), (nth p0 1), (nth p0 2), (nth p0 3), (PV.list ((nth p0 4).toList ++ (s2bL (catB (⟨#[32]⟩ : ByteArray) (nth r5 0).toStr))))]))
  none)
  none)))))
  none)
  none)
  (fun p6 => (some (Ex.n, [(PV.int (IntKind.i64.wrap ((nth p6 0).toInt + (1 : Int)))), (nth p6 1), (nth p6 2), (nth p6 3), (nth p6 4)])))
  passE)
  (some (Ex.x 0, [(nth p0 3), (nth p0 4)])))
noncomputable def F37 (I : Interp) (n : Nat) (a : List PV) : Option (List PV) :=
  (thenN (thenE (loopEv (L37_0 I n) n [(PV.int (0 : Int)), (PV.int ((nth a 0).toList.length : Int)), (nth a 0), (nth a 2), (nth a 1)])
  (passB 0))
  (fun p7 => (iff (leN ((nth p7 1).toList.length + ((PV.int (10 : Int)) :: ([] : List PV)).length) 140737488355328)
  (some [(PV.list ((nth p7 1).toList ++ ((PV.int (10 : Int)) :: ([] : List PV)))), (nth p7 0)])
  none))
  (retE fun q8 => [(nth q8 1), (nth q8 0)]))
theorem e37 : ∀ I n a, (compF Tryd.prog sg 37).map (fun d => d.ev I n a) = some (F37 I n a) := fun I n a => by kernel_rfl
/-! impl.Shape$1 -/
noncomputable def L4133_0 (I : Interp) (n : Nat) (p0 : List PV) : Option (Ex × List PV) :=
  (iff (ltI (nth p0 0).toInt (nth p0 1).toInt)
  (thenN (iff (geI (nth p0 0).toInt (0 : Int))
  (iff (ltI (nth p0 0).toInt ((nth p0 2).toList.length : Int))
  ((I 38 [(nth (nth p0 2).toList (nth p0 0).toInt.toNat)]).bind fun r1 =>
  (iff (nth r1 0).toBool
  ((I 39 [(nth (nth p0 2).toList (nth p0 0).toInt.toNat)]).bind fun r2 =>
  ((I 27 [(mgetL (PV.int (0 : Int)) (nth r2 0).toInt (nth p0 3).toList)]).bind fun r3 =>
  (iff (leI ((catB (⟨#[32, 64]⟩ : ByteArray) (nth r3 0).toStr).size : Int) (9223372036854775807 : Int))
  (iff (leN ((nth p0 4).toList.length + (s2bL (catB (⟨#[32, 64]⟩ : ByteArray) (nth r3 0).toStr)).length) 140737488355328)
  (some (Ex.n, [(nth p0 0), (nth p0 1), (nth p0 2), (nth p0 3), (PV.list ((nth p0 4).toList ++ (s2bL (catB (⟨#[32, 64]⟩ : ByteArray) (nth r3 0).toStr))))]))
  none)
  none)))
  ((I 40 [(nth (nth p0 2).toList (nth p0 0).toInt.toNat)]).bind fun r4 =>
  ((I 27 [(nth r4 0)]).bind fun r5 =>
  (iff (leI ((catB (⟨#[32]⟩ : ByteArray) (nth r5 0).toStr).size : Int) (9223372036854775807 : Int))
  (iff (leN ((nth p0 4).toList.length + (s2bL (catB (⟨#[32]⟩ : ByteArray) (nth r5 0).toStr)).length) 140737488355328)
  (some (Ex.n, [(nth p0 0), (nth p0 1), (nth p0 2), (nth p0 3), (PV.list ((nth p0 4).toList ++ (s2bL (catB (⟨#[32]⟩ : ByteArray) (nth r5 0).toStr))))]))
  none)
  none)))))
  none)
  none)
  (fun p6 => (some (Ex.n, [(PV.int (IntKind.i64.wrap ((nth p6 0).toInt + (1 : Int)))), (nth p6 1), (nth p6 2), (nth p6 3), (nth p6 4)])))
  passE)
  (some (Ex.x 0, [(nth p0 2), (nth p0 3), (nth p0 4)])))
noncomputable def F4133 (I : Interp) (n : Nat) (a : List PV) : Option (List PV) :=
  (thenN (thenE (loopEv (L4133_0 I n) n [(PV.int (0 : Int)), (PV.int ((nth a 0).toList.length : Int)), (nth a 0), (nth a 2), (nth a 1)])
  (passB 0))
  (fun p7 => (iff (leN ((nth p7 2).toList.length + ((PV.int (10 : Int)) :: ([] : List PV)).length) 140737488355328)
  (some [(nth p7 0), (PV.list ((nth p7 2).toList ++ ((PV.int (10 : Int)) :: ([] : List PV)))), (nth p7 1)])
  none))
  (retE fun q8 => [(nth q8 0), (nth q8 2), (nth q8 1)]))
theorem e4133 : ∀ I n a, (compF Tryd.prog sg 4133).map (fun d => d.ev I n a) = some (F4133 I n a) := fun I n a => by kernel_rfl
/-! impl.Shape$1 -/
noncomputable def L8229_0 (I : Interp) (n : Nat) (p0 : List PV) : Option (Ex × List PV) :=
  (iff (ltI (nth p0 0).toInt (nth p0 1).toInt)
  (thenN (iff (geI (nth p0 0).toInt (0 : Int))
  (iff (ltI (nth p0 0).toInt ((nth p0 2).toList.length : Int))
  ((I 38 [(nth (nth p0 2).toList (nth p0 0).toInt.toNat)]).bind fun r1 =>
  (iff (nth r1 0).toBool
  ((I 39 [(nth (nth p0 2).toList (nth p0 0).toInt.toNat)]).bind fun r2 =>
  ((I 27 [(mgetL (PV.int (0 : Int)) (nth r2 0).toInt (nth p0 3).toList)]).bind fun r3 =>
  (iff (leI ((catB (⟨#[32, 64]⟩ : ByteArray) (nth r3 0).toStr).size : Int) (9223372036854775807 : Int))
  (iff (leN ((nth p0 4).toList.length + (s2bL (catB (⟨#[32, 64]⟩ : ByteArray) (nth r3 0).toStr)).length) 140737488355328)
  (some (Ex.n, [(nth p0 0), (nth p0 1), (nth p0 2), (nth p0 3), (PV.list ((nth p0 4).toList ++ (s2bL (catB (⟨#[32, 64]⟩ : ByteArray) (nth r3 0).toStr))))]))
  none)
  none)))
  ((I 40 [(nth (nth p0 2).toList (nth p0 0).toInt.toNat)]).bind fun r4 =>
  ((I 27 [(nth r4 0)]).bind fun r5 =>
  (iff (leI ((catB (⟨#[32]⟩ : ByteArray) (nth r5 0).toStr).size : Int) (9223372036854775807 : Int))
  (iff (leN ((nth p0 4).toList.length + (s2bL (catB (⟨#[32]⟩ : ByteArray) (nth r5 0).toStr)).length) 140737488355328)
  (some (Ex.n, [(nth p0 0), (nth p0 1), (nth p0 2), (nth p0 3), (PV.list ((nth p0 4).toList ++ (s2bL (catB (⟨#[32]⟩ : ByteArray) (nth r5 0).toStr))))]))
  none)
  none)))))
  none)
  none)
  (fun p6 => (some (Ex.n, [(PV.int (IntKind.i64.wrap ((nth p6 0).toInt + (1 : Int)))), (nth p6 1), (nth p6 2), (nth p6 3), (nth p6 4)])))
  passE)
  (some (Ex.x 0, [(nth p0 3), (nth p0 4)])))
noncomputable def F8229 (I : Interp) (n : Nat) (a : List PV) : Option (List PV) :=
  (thenN (thenE (loopEv (L8229_0 I n) n [(PV.int (0 : Int)), (PV.int ((nth a 0).toList.length : Int)), (nth a 0), (nth a 2), (nth a 1)])
  (passB 0))
  (fun p7 => (iff (leN ((nth p7 1).toList.length + ((PV.int (10 : Int)) :: ([] : List PV)).length) 140737488355328)
  (some [(PV.list ((nth p7 1).toList ++ ((PV.int (10 : Int)) :: ([] : List PV)))), (nth p7 0)])
  none))
  (retE fun q8 => [(nth q8 1), (nth q8 0)]))
theorem e8229 : ∀ I n a, (compF Tryd.prog sg 8229).map (fun d => d.ev I n a) = some (F8229 I n a) := fun I n a => by kernel_rfl
/-! spec.l18Order -/
noncomputable def L32_0 (I : Interp) (n : Nat) (p0 : List PV) : Option (Ex × List PV) :=
  (iff (ltI (nth p0 0).toInt ((nth p0 1).toList.length : Int))
  (thenN (iff (geI (nth p0 0).toInt (0 : Int))
  (iff (ltI (nth p0 0).toInt ((nth p0 1).toList.length : Int))
  ((I 60 [(nth (nth p0 1).toList (nth p0 0).toInt.toNat)]).bind fun r1 =>
  ((iff ((nth r1 0).isB true)
  (iff (geI (selB ((nth r1 0).isB true) (nth p0 0) PV.unit).toInt (0 : Int))
  (iff (ltI (selB ((nth r1 0).isB true) (nth p0 0) PV.unit).toInt ((selB ((nth r1 0).isB true) (nth p0 1) PV.unit).toList.length : Int))
  (some [(nth (selB ((nth r1 0).isB true) (nth p0 1) PV.unit).toList (selB ((nth r1 0).isB true) (nth p0 0) PV.unit).toInt.toNat), (nth (selB ((nth r1 0).isB true) (nth p0 1) PV.unit).toList (selB ((nth r1 0).isB true) (nth p0 0) PV.unit).toInt.toNat)])
  none)
  none)
  (some [PV.unit, PV.unit])).bind fun g2 =>
  ((iff ((nth r1 0).isB true)
  ((I 62 [(selB ((nth r1 0).isB true) (nth g2 0) PV.unit)]).bind fun r3 =>
  (some [(nth r3 0), (nth r3 0)]))
  (some [PV.unit, PV.unit])).bind fun g4 =>
  ((iff ((nth r1 0).isB true)
  ((I 61 [(nth p0 2), (nth g4 0)]).bind fun r5 =>
  (some [(nth r5 0), (nth r5 0)]))
  (some [PV.unit, PV.unit])).bind fun g6 =>
  (iff (selB (nth r1 0).toBool (selB ((nth r1 0).isB true) (PV.bool (!(nth g6 0).toBool)) PV.unit) (PV.bool false)).toBool
  (iff (geI (nth p0 0).toInt (0 : Int))
  (iff (ltI (nth p0 0).toInt ((nth p0 1).toList.length : Int))
  ((I 62 [(nth (nth p0 1).toList (nth p0 0).toInt.toNat)]).bind fun r7 =>
  (iff (leN ((nth p0 2).toList.length + ((nth r7 0) :: ([] : List PV)).length) 17592186044416)
  (some (Ex.n, [(nth p0 0), (nth p0 1), (PV.list ((nth p0 2).toList ++ ((nth r7 0) :: ([] : List PV)))), (nth p0 3)]))
  none))
  none)
  none)
  (some (Ex.n, [(nth p0 0), (nth p0 1), (nth p0 2), (nth p0 3)])))))))
  none)
  none)
  (fun p8 => (some (Ex.n, [(PV.int (IntKind.i64.wrap ((nth p8 0).toInt + (1 : Int)))), (nth p8 1), (nth p8 2), (nth p8 3)])))
  passE)
  (some (Ex.x 0, [(nth p0 2), (nth p0 3)])))
noncomputable def L32_1 (I : Interp) (n : Nat) (p12 : List PV) : Option (Ex × List PV) :=
  (iff (leI (nth p12 0).toInt (nth p12 1).toInt)
  (thenN (iff (geI (nth p12 2).toInt (0 : Int))
  (iff (ltI (nth p12 2).toInt ((nth p12 3).toList.length : Int))
  (iff (geI (IntKind.i64.wrap ((nth (nth p12 3).toList (nth p12 2).toInt.toNat).toInt + (nth p12 0).toInt)) (0 : Int))
  (iff (ltI (IntKind.i64.wrap ((nth (nth p12 3).toList (nth p12 2).toInt.toNat).toInt + (nth p12 0).toInt)) (((nth p12 4).fld 0).toList.length : Int))
  ((I 60 [(nth ((nth p12 4).fld 0).toList (IntKind.i64.wrap ((nth (nth p12 3).toList (nth p12 2).toInt.toNat).toInt + (nth p12 0).toInt)).toNat)]).bind fun r13 =>
  ((iff ((nth r13 0).isB true)
  ((I 62 [(selB ((nth r13 0).isB true) (nth ((nth p12 4).fld 0).toList (IntKind.i64.wrap ((nth (nth p12 3).toList (nth p12 2).toInt.toNat).toInt + (nth p12 0).toInt)).toNat) PV.unit)]).bind fun r14 =>
  (some [(nth r14 0), (nth r14 0)]))
  (some [PV.unit, PV.unit])).bind fun g15 =>
  ((iff ((nth r13 0).isB true)
  ((I 61 [(nth p12 3), (nth g15 0)]).bind fun r16 =>
  (some [(nth r16 0), (nth r16 0)]))
  (some [PV.unit, PV.unit])).bind fun g17 =>
  (iff (selB (nth r13 0).toBool (selB ((nth r13 0).isB true) (PV.bool (!(nth g17 0).toBool)) PV.unit) (PV.bool false)).toBool
  ((I 62 [(nth ((nth p12 4).fld 0).toList (IntKind.i64.wrap ((nth (nth p12 3).toList (nth p12 2).toInt.toNat).toInt + (nth p12 0).toInt)).toNat)]).bind fun r18 =>
  (iff (leN ((nth p12 3).toList.length + ((nth r18 0) :: ([] : List PV)).length) 17592186044416)
  (some (Ex.n, [(nth p12 0), (nth p12 1), (nth p12 2), (PV.list ((nth p12 3).toList ++ ((nth r18 0) :: ([] : List PV)))), (nth p12 4)]))
  none))
  (some (Ex.n, [(nth p12 0), (nth p12 1), (nth p12 2), (nth p12 3), (nth p12 4)]))))))
  none)
  none)
  none)
  none)
  (fun p19 => (some (Ex.n, [(PV.int (IntKind.i64.wrap ((nth p19 0).toInt + (1 : Int)))), (nth p19 1), (nth p19 2), (nth p19 3), (nth p19 4)])))
  passE)
  (some (Ex.x 4, [(nth p12 2), (nth p12 3), (nth p12 4)])))
noncomputable def L32_2 (I : Interp) (n : Nat) (p10 : List PV) : Option (Ex × List PV) :=
  (iff (ltI (nth p10 0).toInt ((nth p10 1).toList.length : Int))
  (iff (geI (nth p10 0).toInt (0 : Int))
  (iff (ltI (nth p10 0).toInt ((nth p10 1).toList.length : Int))
  (iff (geI (nth (nth p10 1).toList (nth p10 0).toInt.toNat).toInt (0 : Int))
  (iff (ltI (nth (nth p10 1).toList (nth p10 0).toInt.toNat).toInt (((nth p10 2).fld 0).toList.length : Int))
  ((I 34 [(nth ((nth p10 2).fld 0).toList (nth (nth p10 1).toList (nth p10 0).toInt.toNat).toInt.toNat)]).bind fun r11 =>
  (thenN (thenE (loopEv (L32_1 I n) n [(PV.int (1 : Int)), (nth r11 2), (nth p10 0), (nth p10 1), (nth p10 2)])
  (passB 4))
  (fun p20 => (some (Ex.n, [(PV.int (IntKind.i64.wrap ((nth p20 0).toInt + (1 : Int)))), (nth p20 1), (nth p20 2)])))
  passE))
  none)
  none)
  none)
  none)
  (some (Ex.x 2, [(nth p10 1)])))
noncomputable def F32 (I : Interp) (n : Nat) (a : List PV) : Option (List PV) :=
  (thenN (thenE (loopEv (L32_0 I n) n [(PV.int (0 : Int)), (nth a 1), (PV.list ([] : List PV)), (nth a 0)])
  (passB 0))
  (fun p9 => (thenN (thenE (loopEv (L32_2 I n) n [(PV.int (0 : Int)), (nth p9 0), (nth p9 1)])
  (passB 2))
  (fun p21 => (some [(nth p21 0)]))
  (retE fun q22 => [(nth q22 0)])))
  (retE fun q23 => [(nth q23 0)]))
theorem e32 : ∀ I n a, (compF Tryd.prog sg 32).map (fun d => d.ev I n a) = some (F32 I n a) := fun I n a => by kernel_rfl
/-! impl.met -/
noncomputable def L36_0 (I : Interp) (n : Nat) (p1 : List PV) : Option (Ex × List PV) :=
  (iff (ltI (nth p1 0).toInt ((nth p1 3).toList.length : Int))
  (iff (geI (nth p1 0).toInt (0 : Int))
  (iff (ltI (nth p1 0).toInt ((nth p1 3).toList.length : Int))
  ((I 42 [(nth p1 1), (nth (nth p1 3).toList (nth p1 0).toInt.toNat)]).bind fun r2 =>
  ((I 70 [(nth r2 0), (nth p1 2), (nth p1 3)]).bind fun r3 =>
  (some (Ex.n, [(PV.int (IntKind.i64.wrap ((nth p1 0).toInt + (1 : Int)))), (nth p1 1), (nth r3 0), (nth r3 1)]))))
  none)
  none)
  (some (Ex.x 0, [(nth p1 3)])))
noncomputable def F36 (I : Interp) (n : Nat) (a : List PV) : Option (List PV) :=
  ((I 70 [(nth a 1), (PV.list ([] : List PV)), (PV.list ([] : List PV))]).bind fun r0 =>
  (thenN (thenE (loopEv (L36_0 I n) n [(PV.int (0 : Int)), (nth a 0), (nth r0 0), (nth r0 1)])
  (passB 0))
  (fun p4 => (some [(nth p4 0)]))
  (retE fun q5 => [(nth q5 0)])))
theorem e36 : ∀ I n a, (compF Tryd.prog sg 36).map (fun d => d.ev I n a) = some (F36 I n a) := fun I n a => by kernel_rfl
/-! impl.isBlock -/
noncomputable def F69 (I : Interp) (n : Nat) (a : List PV) : Option (List PV) :=
  ((I 39 [(nth a 1)]).bind fun r0 =>
  ((I 84 [(nth a 0), (nth r0 0)]).bind fun r1 =>
  ((I 38 [(nth a 1)]).bind fun r2 =>
  (some [(selB (nth r2 0).toBool (selB ((nth r2 0).isB true) (nth r1 1) PV.unit) (PV.bool false))]))))
theorem e69 : ∀ I n a, (compF Tryd.prog sg 69).map (fun d => d.ev I n a) = some (F69 I n a) := fun I n a => by kernel_rfl
/-! spec.l17There -/
noncomputable def F59 (I : Interp) (n : Nat) (a : List PV) : Option (List PV) :=
  ((I 60 [(nth a 1)]).bind fun r0 =>
  (iff (nth r0 0).toBool
  ((I 62 [(nth a 1)]).bind fun r1 =>
  ((I 61 [(nth a 0), (nth r1 0)]).bind fun r2 =>
  (some [(nth r2 0)])))
  ((I 63 [(nth a 1)]).bind fun r3 =>
  ((I 81 [(nth r3 0)]).bind fun r4 =>
  (some [(nth r4 0)])))))
theorem e59 : ∀ I n a, (compF Tryd.prog sg 59).map (fun d => d.ev I n a) = some (F59 I n a) := fun I n a => by kernel_rfl
/-! spec.HeapOk -/
noncomputable def L57_0 (I : Interp) (n : Nat) (p10 : List PV) : Option (Ex × List PV) :=
  (iff (leI (nth p10 0).toInt (nth p10 1).toInt)
  (iff (geI (nth p10 2).toInt (0 : Int))
  (iff (ltI (nth p10 2).toInt ((nth p10 3).toList.length : Int))
  (iff (geI (IntKind.i64.wrap ((nth (nth p10 3).toList (nth p10 2).toInt.toNat).toInt + (nth p10 0).toInt)) (0 : Int))
  (iff (ltI (IntKind.i64.wrap ((nth (nth p10 3).toList (nth p10 2).toInt.toNat).toInt + (nth p10 0).toInt)) (((nth p10 4).fld 0).toList.length : Int))
  ((I 59 [(nth p10 3), (nth ((nth p10 4).fld 0).toList (IntKind.i64.wrap ((nth (nth p10 3).toList (nth p10 2).toInt.toNat).toInt + (nth p10 0).toInt)).toNat)]).bind fun r11 =>
  (iff (!(nth r11 0).toBool)
  (some (Ex.r, [(PV.bool false)]))
  (some (Ex.n, [(PV.int (IntKind.i64.wrap ((nth p10 0).toInt + (1 : Int)))), (nth p10 1), (nth p10 2), (nth p10 3), (nth p10 4)]))))
  none)
  none)
  none)
  none)
  (some (Ex.x 2, [(nth p10 2), (nth p10 3), (nth p10 4)])))
noncomputable def L57_1 (I : Interp) (n : Nat) (p8 : List PV) : Option (Ex × List PV) :=
  (iff (ltI (nth p8 0).toInt ((nth p8 1).toList.length : Int))
  (iff (geI (nth p8 0).toInt (0 : Int))
  (iff (ltI (nth p8 0).toInt ((nth p8 1).toList.length : Int))
  (iff (geI (nth (nth p8 1).toList (nth p8 0).toInt.toNat).toInt (0 : Int))
  (iff (ltI (nth (nth p8 1).toList (nth p8 0).toInt.toNat).toInt (((nth p8 2).fld 0).toList.length : Int))
  ((I 34 [(nth ((nth p8 2).fld 0).toList (nth (nth p8 1).toList (nth p8 0).toInt.toNat).toInt.toNat)]).bind fun r9 =>
  (thenN (thenE (loopEv (L57_0 I n) n [(PV.int (1 : Int)), (nth r9 2), (nth p8 0), (nth p8 1), (nth p8 2)])
  (passB 2))
  (fun p12 => (some (Ex.n, [(PV.int (IntKind.i64.wrap ((nth p12 0).toInt + (1 : Int)))), (nth p12 1), (nth p12 2)])))
  passE))
  none)
  none)
  none)
  none)
  (some (Ex.x 0, [])))
noncomputable def F57 (I : Interp) (n : Nat) (a : List PV) : Option (List PV) :=
  ((I 51 [((nth a 0).fld 1), (PV.int (1 : Int)), (PV.int (3000 : Int))]).bind fun r0 =>
  (letB (selB (!(nth r0 0).toBool) (PV.bool true) (selB ((!(nth r0 0).toBool) == false) (PV.bool (neI (selB ((!(nth r0 0).toBool) == false) (PV.int ((selB ((!(nth r0 0).toBool) == false) ((nth a 0).fld 0) PV.unit).toList.length : Int)) PV.unit).toInt (selB ((!(nth r0 0).toBool) == false) (PV.int (IntKind.i64.wrap ((2 : Int) * (selB ((!(nth r0 0).toBool) == false) ((nth a 0).fld 1) PV.unit).toInt))) PV.unit).toInt)) PV.unit)) fun v1 =>
  (letB (selB (v1.isB false) (selB (selB (v1.isB false) (selB (v1.isB false) (PV.bool (neI (selB (v1.isB false) ((nth a 0).fld 2) PV.unit).toInt (0 : Int))) PV.unit) PV.unit).toBool (selB ((selB (v1.isB false) (selB (v1.isB false) (PV.bool (neI (selB (v1.isB false) ((nth a 0).fld 2) PV.unit).toInt (0 : Int))) PV.unit) PV.unit).isB true) (PV.bool (neI (selB ((selB (v1.isB false) (selB (v1.isB false) (PV.bool (neI (selB (v1.isB false) ((nth a 0).fld 2) PV.unit).toInt (0 : Int))) PV.unit) PV.unit).isB true) ((nth a 0).fld 2) PV.unit).toInt (selB ((selB (v1.isB false) (selB (v1.isB false) (PV.bool (neI (selB (v1.isB false) ((nth a 0).fld 2) PV.unit).toInt (0 : Int))) PV.unit) PV.unit).isB true) ((nth a 0).fld 1) PV.unit).toInt)) PV.unit) (PV.bool false)) PV.unit) fun v2 =>
  (letB (selB v1.toBool (PV.bool true) v2) fun v3 =>
  ((iff (v3.isB false)
  ((I 51 [(selB (v3.isB false) ((nth a 0).fld 3) PV.unit), (selB (v3.isB false) ((nth a 0).fld 2) PV.unit), (selB (v3.isB false) (PV.int (IntKind.i64.wrap ((selB (v3.isB false) ((nth a 0).fld 2) PV.unit).toInt + (selB (v3.isB false) ((nth a 0).fld 1) PV.unit).toInt))) PV.unit)]).bind fun r4 =>
  (some [(nth r4 0), (nth r4 0)]))
  (some [PV.unit, PV.unit])).bind fun g5 =>
  (letB (selB v3.toBool (PV.bool true) (selB (v3.isB false) (PV.bool (!(nth g5 0).toBool)) PV.unit)) fun v6 =>
  (iff v6.toBool
  (some [(PV.bool false)])
  ((I 58 [(nth a 0)]).bind fun r7 =>
  (iff (!(nth r7 1).toBool)
  (some [(PV.bool false)])
  (thenN (thenE (loopEv (L57_1 I n) n [(PV.int (0 : Int)), (nth r7 0), (nth a 0)])
  (passB 0))
  (fun p13 => (some [(PV.bool true)]))
  (retE fun q14 => [(nth q14 0)])))))))))))
theorem e57 : ∀ I n a, (compF Tryd.prog sg 57).map (fun d => d.ev I n a) = some (F57 I n a) := fun I n a => ew_ev (g := F57) (fun I n a => by kernel_rfl) I n a
/-! impl.rootsOk$1 -/
noncomputable def F67 (I : Interp) (n : Nat) (a : List PV) : Option (List PV) :=
  ((I 68 [(nth a 0)]).bind fun r0 =>
  ((iff ((!(nth r0 0).toBool) == true)
  ((I 69 [(selB ((!(nth r0 0).toBool) == true) (nth a 1) PV.unit), (selB ((!(nth r0 0).toBool) == true) (nth a 0) PV.unit)]).bind fun r1 =>
  (some [(nth r1 0), (nth r1 0)]))
  (some [PV.unit, PV.unit])).bind fun g2 =>
  (some [(selB (!(nth r0 0).toBool) (selB ((!(nth r0 0).toBool) == true) (PV.bool (!(nth g2 0).toBool)) PV.unit) (PV.bool false))])))
theorem e67 : ∀ I n a, (compF Tryd.prog sg 67).map (fun d => d.ev I n a) = some (F67 I n a) := fun I n a => by kernel_rfl
/-! spec.l18Right -/
noncomputable def L31_0 (I : Interp) (n : Nat) (p2 : List PV) : Option (Ex × List PV) :=
  (iff (ltI (nth p2 0).toInt ((nth p2 2).toList.length : Int))
  (iff (geI (nth p2 0).toInt (0 : Int))
  (iff (ltI (nth p2 0).toInt ((nth p2 2).toList.length : Int))
  ((I 59 [(nth p2 1), (nth (nth p2 2).toList (nth p2 0).toInt.toNat)]).bind fun r3 =>
  (iff (!(nth r3 0).toBool)
  (some (Ex.r, [(PV.bool false)]))
  (some (Ex.n, [(PV.int (IntKind.i64.wrap ((nth p2 0).toInt + (1 : Int)))), (nth p2 1), (nth p2 2)]))))
  none)
  none)
  (some (Ex.x 0, [])))
noncomputable def F31 (I : Interp) (n : Nat) (a : List PV) : Option (List PV) :=
  ((I 57 [(nth a 0)]).bind fun r0 =>
  (iff (!(nth r0 0).toBool)
  (some [(PV.bool false)])
  ((I 58 [(nth a 0)]).bind fun r1 =>
  (thenN (thenE (loopEv (L31_0 I n) n [(PV.int (0 : Int)), (nth r1 0), (nth a 1)])
  (passB 0))
  (fun p4 => (some [(PV.bool true)]))
  (retE fun q5 => [(nth q5 0)])))))
theorem e31 : ∀ I n a, (compF Tryd.prog sg 31).map (fun d => d.ev I n a) = some (F31 I n a) := fun I n a => by kernel_rfl
/-! slices.IndexFunc[[]int,int] -/
noncomputable def L82_0 (I : Interp) (n : Nat) (p0 : List PV) : Option (Ex × List PV) :=
  (iff (ltI (nth p0 0).toInt (nth p0 1).toInt)
  (iff (geI (nth p0 0).toInt (0 : Int))
  (iff (ltI (nth p0 0).toInt ((nth p0 2).toList.length : Int))
  ((I 67 [(nth (nth p0 2).toList (nth p0 0).toInt.toNat), (nth p0 3)]).bind fun r1 =>
  (iff (nth r1 0).toBool
  (some (Ex.r, [(nth p0 0)]))
  (some (Ex.n, [(PV.int (IntKind.i64.wrap ((nth p0 0).toInt + (1 : Int)))), (nth p0 1), (nth p0 2), (nth p0 3)]))))
  none)
  none)
  (some (Ex.x 0, [])))
noncomputable def F82 (I : Interp) (n : Nat) (a : List PV) : Option (List PV) :=
  (thenN (thenE (loopEv (L82_0 I n) n [(PV.int (0 : Int)), (PV.int ((nth a 0).toList.length : Int)), (nth a 0), (nth a 1)])
  (passB 0))
  (fun p2 => (some [(PV.int (-1 : Int))]))
  (retE fun q3 => [(nth q3 0)]))
theorem e82 : ∀ I n a, (compF Tryd.prog sg 82).map (fun d => d.ev I n a) = some (F82 I n a) := fun I n a => by kernel_rfl
/-! slices.IndexFunc[[]int,int] -/
noncomputable def L4178_0 (I : Interp) (n : Nat) (p0 : List PV) : Option (Ex × List PV) :=
  (iff (ltI (nth p0 0).toInt (nth p0 1).toInt)
  (iff (geI (nth p0 0).toInt (0 : Int))
  (iff (ltI (nth p0 0).toInt ((nth p0 2).toList.length : Int))
  ((I 67 [(nth (nth p0 2).toList (nth p0 0).toInt.toNat), (nth p0 3)]).bind fun r1 =>
  (iff (nth r1 0).toBool
  (some (Ex.r, [(nth p0 0)]))
  (some (Ex.n, [(PV.int (IntKind.i64.wrap ((nth p0 0).toInt + (1 : Int)))), (nth p0 1), (nth p0 2), (nth p0 3)]))))
  none)
  none)
  (some (Ex.x 0, [])))
noncomputable def F4178 (I : Interp) (n : Nat) (a : List PV) : Option (List PV) :=
  (thenN (thenE (loopEv (L4178_0 I n) n [(PV.int (0 : Int)), (PV.int ((nth a 0).toList.length : Int)), (nth a 0), (nth a 1)])
  (passB 0))
  (fun p2 => (some [(PV.int (-1 : Int))]))
  (retE fun q3 => [(nth q3 0)]))
theorem e4178 : ∀ I n a, (compF Tryd.prog sg 4178).map (fun d => d.ev I n a) = some (F4178 I n a) := fun I n a => by kernel_rfl
/-! slices.ContainsFunc[[]int,int] -/
noncomputable def F66 (I : Interp) (n : Nat) (a : List PV) : Option (List PV) :=
  ((I 82 [(nth a 0), (nth a 1)]).bind fun r0 =>
  (some [(PV.bool (geI (nth r0 0).toInt (0 : Int)))]))
theorem e66 : ∀ I n a, (compF Tryd.prog sg 66).map (fun d => d.ev I n a) = some (F66 I n a) := fun I n a => by kernel_rfl
/-! slices.ContainsFunc[[]int,int] -/
noncomputable def F4162 (I : Interp) (n : Nat) (a : List PV) : Option (List PV) :=
  ((I 82 [(nth a 0), (nth a 1)]).bind fun r0 =>
  (some [(PV.bool (geI (nth r0 0).toInt (0 : Int)))]))
theorem e4162 : ∀ I n a, (compF Tryd.prog sg 4162).map (fun d => d.ev I n a) = some (F4162 I n a) := fun I n a => by kernel_rfl
/-! impl.HeapOk -/
noncomputable def L64_0 (I : Interp) (n : Nat) (p3 : List PV) : Option (Ex × List PV) :=
  (iff (ltI (nth p3 0).toInt (nth p3 1).toInt)
  (iff (geI (nth p3 0).toInt (0 : Int))
  (iff (ltI (nth p3 0).toInt ((nth p3 2).toList.length : Int))
  ((I 68 [(nth (nth p3 2).toList (nth p3 0).toInt.toNat)]).bind fun r4 =>
  ((iff ((!(nth r4 0).toBool) == true)
  ((I 69 [(nth p3 5), (selB ((!(nth r4 0).toBool) == true) (nth (nth p3 2).toList (nth p3 0).toInt.toNat) PV.unit)]).bind fun r5 =>
  (some [(nth r5 0), (nth r5 0)]))
  (some [PV.unit, PV.unit])).bind fun g6 =>
  (iff (selB (!(nth r4 0).toBool) (selB ((!(nth r4 0).toBool) == true) (PV.bool (!(nth g6 0).toBool)) PV.unit) (PV.bool false)).toBool
  (some (Ex.r, [(PV.bool false)]))
  (some (Ex.n, [(PV.int (IntKind.i64.wrap ((nth p3 0).toInt + (1 : Int)))), (nth p3 1), (nth p3 2), (nth p3 3), (nth p3 4), (nth p3 5), (nth p3 6)])))))
  none)
  none)
  (some (Ex.x 2, [(nth p3 3), (nth p3 4), (nth p3 5), (nth p3 6)])))
noncomputable def L64_1 (I : Interp) (n : Nat) (p1 : List PV) : Option (Ex × List PV) :=
  (iff (ltI (nth p1 0).toInt (nth p1 1).toInt)
  (iff (geI (nth p1 0).toInt (0 : Int))
  (iff (ltI (nth p1 0).toInt ((nth p1 2).toList.length : Int))
  ((I 42 [(nth p1 3), (nth (nth p1 2).toList (nth p1 0).toInt.toNat)]).bind fun r2 =>
  (thenN (thenE (loopEv (L64_0 I n) n [(PV.int (0 : Int)), (PV.int ((nth r2 0).toList.length : Int)), (nth r2 0), (nth p1 0), (nth p1 1), (nth p1 2), (nth p1 3)])
  (passB 2))
  (fun p7 => (some (Ex.n, [(PV.int (IntKind.i64.wrap ((nth p7 0).toInt + (1 : Int)))), (nth p7 1), (nth p7 2), (nth p7 3)])))
  passE))
  none)
  none)
  (some (Ex.x 0, [])))
noncomputable def F64 (I : Interp) (n : Nat) (a : List PV) : Option (List PV) :=
  ((I 65 [(nth a 0)]).bind fun r0 =>
  (iff (!(nth r0 1).toBool)
  (some [(PV.bool false)])
  (thenN (thenE (loopEv (L64_1 I n) n [(PV.int (0 : Int)), (PV.int ((nth r0 0).toList.length : Int)), (nth r0 0), (nth a 0)])
  (passB 0))
  (fun p8 => (some [(PV.bool true)]))
  (retE fun q9 => [(nth q9 0)]))))
theorem e64 : ∀ I n a, (compF Tryd.prog sg 64).map (fun d => d.ev I n a) = some (F64 I n a) := fun I n a => by kernel_rfl
/-! spec.Shape -/
noncomputable def L13_0 (I : Interp) (n : Nat) (p2 : List PV) : Option (Ex × List PV) :=
  (iff (ltI (nth p2 0).toInt ((nth p2 1).toList.length : Int))
  (iff (geI (nth p2 0).toInt (0 : Int))
  (iff (ltI (nth p2 0).toInt ((nth p2 1).toList.length : Int))
  ((I 33 [(nth (nth p2 1).toList (nth p2 0).toInt.toNat), (nth p2 3)]).bind fun r3 =>
  (iff (leI ((catB (nth p2 2).toStr (nth r3 0).toStr).size : Int) (9223372036854775807 : Int))
  (some (Ex.n, [(PV.int (IntKind.i64.wrap ((nth p2 0).toInt + (1 : Int)))), (nth p2 1), (PV.str (catB (nth p2 2).toStr (nth r3 0).toStr)), (nth p2 3), (nth p2 4)]))
  none))
  none)
  none)
  (some (Ex.x 0, [(nth p2 2), (nth p2 3), (nth p2 4)])))
noncomputable def L13_1 (I : Interp) (n : Nat) (p9 : List PV) : Option (Ex × List PV) :=
  (iff (leI (nth p9 0).toInt (nth p9 1).toInt)
  (iff (geI (nth p9 3).toInt (0 : Int))
  (iff (ltI (nth p9 3).toInt ((nth p9 4).toList.length : Int))
  (iff (geI (IntKind.i64.wrap ((nth (nth p9 4).toList (nth p9 3).toInt.toNat).toInt + (nth p9 0).toInt)) (0 : Int))
  (iff (ltI (IntKind.i64.wrap ((nth (nth p9 4).toList (nth p9 3).toInt.toNat).toInt + (nth p9 0).toInt)) (((nth p9 5).fld 0).toList.length : Int))
  ((I 33 [(nth ((nth p9 5).fld 0).toList (IntKind.i64.wrap ((nth (nth p9 4).toList (nth p9 3).toInt.toNat).toInt + (nth p9 0).toInt)).toNat), (nth p9 4)]).bind fun r10 =>
  (iff (leI ((catB (nth p9 2).toStr (nth r10 0).toStr).size : Int) (9223372036854775807 : Int))
  (some (Ex.n, [(PV.int (IntKind.i64.wrap ((nth p9 0).toInt + (1 : Int)))), (nth p9 1), (PV.str (catB (nth p9 2).toStr (nth r10 0).toStr)), (nth p9 3), (nth p9 4), (nth p9 5)]))
  none))
  none)
  none)
  none)
  none)
  (some (Ex.x 4, [(nth p9 2), (nth p9 3), (nth p9 4), (nth p9 5)])))
noncomputable def L13_2 (I : Interp) (n : Nat) (p5 : List PV) : Option (Ex × List PV) :=
  (iff (ltI (nth p5 0).toInt ((nth p5 1).toList.length : Int))
  (iff (geI (nth p5 0).toInt (0 : Int))
  (iff (ltI (nth p5 0).toInt ((nth p5 1).toList.length : Int))
  (iff (geI (nth (nth p5 1).toList (nth p5 0).toInt.toNat).toInt (0 : Int))
  (iff (ltI (nth (nth p5 1).toList (nth p5 0).toInt.toNat).toInt (((nth p5 3).fld 0).toList.length : Int))
  ((I 34 [(nth ((nth p5 3).fld 0).toList (nth (nth p5 1).toList (nth p5 0).toInt.toNat).toInt.toNat)]).bind fun r6 =>
  (thenN (iff (nth r6 0).toBool
  (iff (leI ((catB (nth p5 2).toStr (⟨#[102, 117, 110]⟩ : ByteArray)).size : Int) (9223372036854775807 : Int))
  (some (Ex.n, [(PV.str (catB (nth p5 2).toStr (⟨#[102, 117, 110]⟩ : ByteArray))), (nth r6 1), (nth r6 2), (nth p5 0), (nth p5 1), (nth p5 3)]))
  none)
  (iff (leI ((catB (nth p5 2).toStr (⟨#[99, 111, 110]⟩ : ByteArray)).size : Int) (9223372036854775807 : Int))
  (some (Ex.n, [(PV.str (catB (nth p5 2).toStr (⟨#[99, 111, 110]⟩ : ByteArray))), (nth r6 1), (nth r6 2), (nth p5 0), (nth p5 1), (nth p5 3)]))
  none))
  (fun p7 => (iff (leI ((catB (nth p7 0).toStr (⟨#[32]⟩ : ByteArray)).size : Int) (9223372036854775807 : Int))
  ((I 24 [(nth p7 1)]).bind fun r8 =>
  (iff (leI ((catB (catB (nth p7 0).toStr (⟨#[32]⟩ : ByteArray)) (nth r8 0).toStr).size : Int) (9223372036854775807 : Int))
  (thenN (thenE (loopEv (L13_1 I n) n [(PV.int (1 : Int)), (nth p7 2), (PV.str (catB (catB (nth p7 0).toStr (⟨#[32]⟩ : ByteArray)) (nth r8 0).toStr)), (nth p7 3), (nth p7 4), (nth p7 5)])
  (passB 4))
  (fun p11 => (iff (leI ((catB (nth p11 0).toStr (⟨#[10]⟩ : ByteArray)).size : Int) (9223372036854775807 : Int))
  (some (Ex.n, [(PV.int (IntKind.i64.wrap ((nth p11 1).toInt + (1 : Int)))), (nth p11 2), (PV.str (catB (nth p11 0).toStr (⟨#[10]⟩ : ByteArray))), (nth p11 3)]))
  none))
  passE)
  none))
  none))
  passE))
  none)
  none)
  none)
  none)
  (some (Ex.x 2, [(nth p5 2)])))
noncomputable def F13 (I : Interp) (n : Nat) (a : List PV) : Option (List PV) :=
  ((I 31 [(nth a 0), (nth a 1)]).bind fun r0 =>
  (iff (!(nth r0 0).toBool)
  (some [(PV.str (⟨#[]⟩ : ByteArray))])
  ((I 32 [(nth a 0), (nth a 1)]).bind fun r1 =>
  (thenN (thenE (loopEv (L13_0 I n) n [(PV.int (0 : Int)), (nth a 1), (PV.str (⟨#[]⟩ : ByteArray)), (nth r1 0), (nth a 0)])
  (passB 0))
  (fun p4 => (iff (leI ((catB (nth p4 0).toStr (⟨#[10]⟩ : ByteArray)).size : Int) (9223372036854775807 : Int))
  (thenN (thenE (loopEv (L13_2 I n) n [(PV.int (0 : Int)), (nth p4 1), (PV.str (catB (nth p4 0).toStr (⟨#[10]⟩ : ByteArray))), (nth p4 2)])
  (passB 2))
  (fun p12 => (some [(nth p12 0)]))
  (retE fun q13 => [(nth q13 0)]))
  none))
  (retE fun q14 => [(nth q14 0)])))))
theorem e13 : ∀ I n a, (compF Tryd.prog sg 13).map (fun d => d.ev I n a) = some (F13 I n a) := fun I n a => by kernel_rfl
/-! impl.rootsOk -/
noncomputable def F35 (I : Interp) (n : Nat) (a : List PV) : Option (List PV) :=
  ((I 64 [(nth a 0)]).bind fun r0 =>
  (iff (!(nth r0 0).toBool)
  (some [(PV.bool false)])
  ((I 65 [(nth a 0)]).bind fun r1 =>
  ((I 66 [(nth a 1), (nth r1 0)]).bind fun r2 =>
  (some [(PV.bool (!(nth r2 0).toBool))])))))
theorem e35 : ∀ I n a, (compF Tryd.prog sg 35).map (fun d => d.ev I n a) = some (F35 I n a) := fun I n a => by kernel_rfl
/-! impl.Shape -/
noncomputable def L16_0 (I : Interp) (n : Nat) (p2 : List PV) : Option (Ex × List PV) :=
  (iff (ltI (nth p2 0).toInt (nth p2 1).toInt)
  (iff (geI (nth p2 0).toInt (0 : Int))
  (iff (ltI (nth p2 0).toInt ((nth p2 3).toList.length : Int))
  (some (Ex.n, [(PV.int (IntKind.i64.wrap ((nth p2 0).toInt + (1 : Int)))), (nth p2 1), (nth p2 2), (nth p2 3), (PV.list (msetL (nth (nth p2 3).toList (nth p2 0).toInt.toNat).toInt (nth p2 0) (nth p2 4).toList)), (nth p2 5)]))
  none)
  none)
  (some (Ex.x 0, [(nth p2 2), (nth p2 3), (nth p2 4), (nth p2 5)])))
noncomputable def L16_1 (I : Interp) (n : Nat) (p5 : List PV) : Option (Ex × List PV) :=
  (iff (ltI (nth p5 0).toInt (nth p5 1).toInt)
  (iff (geI (nth p5 0).toInt (0 : Int))
  (iff (ltI (nth p5 0).toInt ((nth p5 2).toList.length : Int))
  (iff (geI (nth (nth p5 2).toList (nth p5 0).toInt.toNat).toInt (0 : Int))
  (iff (ltI (nth (nth p5 2).toList (nth p5 0).toInt.toNat).toInt (((nth p5 3).fld 0).toList.length : Int))
  ((I 41 [(nth ((nth p5 3).fld 0).toList (nth (nth p5 2).toList (nth p5 0).toInt.toNat).toInt.toNat)]).bind fun r6 =>
  (thenN (iff (nth r6 0).toBool
  (some (Ex.n, [(PV.str (⟨#[102, 117, 110, 32]⟩ : ByteArray)), (nth r6 1), (nth (nth p5 2).toList (nth p5 0).toInt.toNat), (nth p5 0), (nth p5 1), (nth p5 2), (nth p5 3), (nth p5 4), (nth p5 5)]))
  (some (Ex.n, [(PV.str (⟨#[99, 111, 110, 32]⟩ : ByteArray)), (nth r6 1), (nth (nth p5 2).toList (nth p5 0).toInt.toNat), (nth p5 0), (nth p5 1), (nth p5 2), (nth p5 3), (nth p5 4), (nth p5 5)])))
  (fun p7 => ((I 27 [(nth p7 1)]).bind fun r8 =>
  (iff (leI ((catB (nth p7 0).toStr (nth r8 0).toStr).size : Int) (9223372036854775807 : Int))
  (iff (leN ((nth p7 7).toList.length + (s2bL (catB (nth p7 0).toStr (nth r8 0).toStr)).length) 140737488355328)
  ((I 42 [(nth p7 6), (nth p7 2)]).bind fun r9 =>
  ((I 37 [(nth r9 0), (PV.list ((nth p7 7).toList ++ (s2bL (catB (nth p7 0).toStr (nth r8 0).toStr)))), (nth p7 8)]).bind fun r10 =>
  (some (Ex.n, [(PV.int (IntKind.i64.wrap ((nth p7 3).toInt + (1 : Int)))), (nth p7 4), (nth p7 5), (nth p7 6), (nth r10 0), (nth r10 1)]))))
  none)
  none)))
  passE))
  none)
  none)
  none)
  none)
  (some (Ex.x 2, [(nth p5 4)])))
noncomputable def F16 (I : Interp) (n : Nat) (a : List PV) : Option (List PV) :=
  ((I 35 [(nth a 0), (nth a 1)]).bind fun r0 =>
  (iff (!(nth r0 0).toBool)
  (some [(PV.str (⟨#[]⟩ : ByteArray))])
  ((I 36 [(nth a 0), (nth a 1)]).bind fun r1 =>
  (thenN (thenE (loopEv (L16_0 I n) n [(PV.int (0 : Int)), (PV.int ((nth r1 0).toList.length : Int)), (nth a 1), (nth r1 0), (PV.list ([] : List PV)), (nth a 0)])
  (passB 0))
  (fun p3 => ((I 37 [(nth p3 0), (PV.list ([] : List PV)), (nth p3 2)]).bind fun r4 =>
  (thenN (thenE (loopEv (L16_1 I n) n [(PV.int (0 : Int)), (PV.int ((nth p3 1).toList.length : Int)), (nth p3 1), (nth p3 3), (nth r4 0), (nth r4 1)])
  (passB 2))
  (fun p11 => (some [(PV.str (b2sL (nth p11 0).toList))]))
  (retE fun q12 => [(nth q12 0)]))))
  (retE fun q13 => [(nth q13 0)])))))
theorem e16 : ∀ I n a, (compF Tryd.prog sg 16).map (fun d => d.ev I n a) = some (F16 I n a) := fun I n a => by kernel_rfl
/-! laws.FnExactShape -/
noncomputable def F4 (I : Interp) (n : Nat) (a : List PV) : Option (List PV) :=
  (iff (gtI ((nth a 1).toList.length : Int) (1048576 : Int))
  (some [(PV.bool true)])
  ((I 12 [(nth a 0), (PV.int (1048576 : Int))]).bind fun r0 =>
  (iff (ltI (nth r0 0).toInt (0 : Int))
  (some [(PV.bool true)])
  ((I 14 [(nth a 0)]).bind fun r1 =>
  ((I 15 [(nth a 1)]).bind fun r2 =>
  ((I 13 [(nth r1 0), (nth r2 0)]).bind fun r3 =>
  ((I 14 [(nth a 0)]).bind fun r4 =>
  ((I 15 [(nth a 1)]).bind fun r5 =>
  ((I 16 [(nth r4 0), (nth r5 0)]).bind fun r6 =>
  (iff (cmpS BinOp.neq (nth r6 0).toStr (nth r3 0).toStr)
  (some [(PV.bool false)])
  ((I 14 [(nth a 0)]).bind fun r7 =>
  ((I 17 [(nth r4 0), (nth r7 0)]).bind fun r8 =>
  (iff (!(nth r8 0).toBool)
  (some [(PV.bool false)])
  ((I 15 [(nth a 1)]).bind fun r9 =>
  ((I 18 [(nth r5 0), (nth r9 0)]).bind fun r10 =>
  (iff (!(nth r10 0).toBool)
  (some [(PV.bool false)])
  (some [(PV.bool true)])))))))))))))))))
theorem e4 : ∀ I n a, (compF Tryd.prog sg 4).map (fun d => d.ev I n a) = some (F4 I n a) := fun I n a => by kernel_rfl
end Go.Proofs.YthmhgnnaihkjaaaDoor.GFnExactShape
