/- The pure programs of the functions that the law FnExactRenamed reaches, out of the compiled code. No conditions. -/
import Derived.Test.YthmhgnnaihkjaaaDoorRows
import Derived.Test.YthmhgnnaihkjaaaDoorRscZr
namespace Go.Proofs.YthmhgnnaihkjaaaDoor.GFnExactRenamed
open Go Go.Rsc Go.Proofs.YthmhgnnaihkjaaaDoor
set_option maxRecDepth 100000
set_option linter.unusedVariables false
def sg : FuncId → Option Sig := fun f => match f with
  | 54 => some { ps := [PM.ro (SD.int (IntKind.i64))], rs := [RM.v (SD.str)], orc := some (Orc.itoa) }
  | 86 => some { ps := [PM.ro (SD.str)], rs := [RM.v (SD.int (IntKind.i64)), RM.v (SD.ifc)], orc := some (Orc.atoi) }
  | 75 => some { ps := [PM.ro (SD.str), PM.ro (SD.int (IntKind.u8))], rs := [RM.v (SD.int (IntKind.i64))], orc := some (Orc.index) }
  | 49 => some { ps := [PM.ro (SD.bor 3), PM.ro (SD.int (IntKind.i64))], rs := [RM.v (SD.bool)], orc := none }
  | 18 => some { ps := [PM.ro (SD.bor 3), PM.ro (SD.bor 3)], rs := [RM.v (SD.bool)], orc := none }
  | 79 => some { ps := [PM.ro (SD.bor 3), PM.ro (SD.int (IntKind.i64))], rs := [RM.v (SD.int (IntKind.i64))], orc := none }
  | 73 => some { ps := [PM.ro (SD.int (IntKind.u8))], rs := [RM.v (SD.bool)], orc := none }
  | 51 => some { ps := [PM.ro (SD.int (IntKind.i64)), PM.ro (SD.int (IntKind.i64)), PM.ro (SD.int (IntKind.i64))], rs := [RM.v (SD.bool)], orc := none }
  | 77 => some { ps := [PM.ro (SD.int (IntKind.u8))], rs := [RM.v (SD.bool)], orc := none }
  | 74 => some { ps := [PM.ro (SD.int (IntKind.u8))], rs := [RM.v (SD.bool)], orc := none }
  | 55 => some { ps := [PM.ro (SD.int (IntKind.i64)), PM.ro (SD.int (IntKind.i64)), PM.ro (SD.int (IntKind.i64))], rs := [RM.v (SD.bool)], orc := none }
  | 24 => some { ps := [PM.ro (SD.int (IntKind.i64))], rs := [RM.v (SD.str)], orc := none }
  | 71 => some { ps := [PM.ro (SD.int (IntKind.u8))], rs := [RM.v (SD.bool)], orc := none }
  | 15 => some { ps := [PM.ro (SD.bor 3)], rs := [RM.v (SD.own 3 false)], orc := none }
  | 83 => some { ps := [PM.ro (SD.int (IntKind.i64))], rs := [RM.v (SD.bool)], orc := none }
  | 27 => some { ps := [PM.ro (SD.int (IntKind.i64))], rs := [RM.v (SD.str)], orc := none }
  | 50 => some { ps := [PM.ro (SD.bor 3), PM.ro (SD.int (IntKind.i64))], rs := [RM.v (SD.bool)], orc := none }
  | 81 => some { ps := [PM.ro (SD.int (IntKind.i64))], rs := [RM.v (SD.bool)], orc := none }
  | 46 => some { ps := [PM.ro (SD.str)], rs := [RM.v (SD.bool)], orc := none }
  | 44 => some { ps := [PM.ro (SD.str)], rs := [RM.v (SD.bool)], orc := none }
  | 72 => some { ps := [PM.ro (SD.str)], rs := [RM.v (SD.int (IntKind.i64)), RM.v (SD.bool)], orc := none }
  | 43 => some { ps := [PM.ro (SD.str)], rs := [RM.v (SD.own 73 false), RM.v (SD.int (IntKind.i64))], orc := none }
  | 76 => some { ps := [PM.ro (SD.str), PM.ro (SD.int (IntKind.i64))], rs := [RM.v (SD.sc (SD.int (IntKind.i64)) (SD.sc (SD.int (IntKind.i64)) (SD.sc (SD.int (IntKind.i64)) (SD.sc (SD.str) (SD.sn))))), RM.v (SD.bool)], orc := none }
  | 45 => some { ps := [PM.ro (SD.str)], rs := [RM.v (SD.own 73 false), RM.v (SD.int (IntKind.i64))], orc := none }
  | 21 => some { ps := [PM.ro (SD.str), PM.ro (SD.bor 3), PM.ro (SD.str)], rs := [RM.v (SD.str)], orc := none }
  | 22 => some { ps := [PM.ro (SD.str), PM.ro (SD.bor 3), PM.ro (SD.str)], rs := [RM.v (SD.str)], orc := none }
  | 6 => some { ps := [PM.ro (SD.str), PM.ro (SD.bor 3), PM.ro (SD.str)], rs := [RM.v (SD.bool)], orc := none }
  | _ => none
/-! spec.l4Has -/
noncomputable def L49_0 (I : Interp) (n : Nat) (p0 : List PV) : Option (Ex × List PV) :=
  (iff (ltI (nth p0 0).toInt ((nth p0 1).toList.length : Int))
  (iff (geI (nth p0 0).toInt (0 : Int))
  (iff (ltI (nth p0 0).toInt ((nth p0 1).toList.length : Int))
  (iff (eqI (nth (nth p0 1).toList (nth p0 0).toInt.toNat).toInt (nth p0 2).toInt)
  (some (Ex.r, [(PV.bool true)]))
  (some (Ex.n, [(PV.int (IntKind.i64.wrap ((nth p0 0).toInt + (1 : Int)))), (nth p0 1), (nth p0 2)])))
  none)
  none)
  (some (Ex.x 0, [])))
noncomputable def F49 (I : Interp) (n : Nat) (a : List PV) : Option (List PV) :=
  (thenN (thenE (loopEv (L49_0 I n) n [(PV.int (0 : Int)), (nth a 0), (nth a 1)])
  (passB 0))
  (fun p1 => (some [(PV.bool false)]))
  (retE fun q2 => [(nth q2 0)]))
theorem e49 : ∀ I n a, (compF Tryd.prog sg 49).map (fun d => d.ev I n a) = some (F49 I n a) := fun I n a => by kernel_rfl
/-! laws.eqIntS -/
noncomputable def L18_0 (I : Interp) (n : Nat) (p0 : List PV) : Option (Ex × List PV) :=
  (iff (ltI (nth p0 0).toInt ((nth p0 1).toList.length : Int))
  (iff (geI (nth p0 0).toInt (0 : Int))
  (iff (ltI (nth p0 0).toInt ((nth p0 1).toList.length : Int))
  (iff (geI (nth p0 0).toInt (0 : Int))
  (iff (ltI (nth p0 0).toInt ((nth p0 2).toList.length : Int))
  (iff (neI (nth (nth p0 1).toList (nth p0 0).toInt.toNat).toInt (nth (nth p0 2).toList (nth p0 0).toInt.toNat).toInt)
  (some (Ex.r, [(PV.bool false)]))
  (some (Ex.n, [(PV.int (IntKind.i64.wrap ((nth p0 0).toInt + (1 : Int)))), (nth p0 1), (nth p0 2)])))
  none)
  none)
  none)
  none)
  (some (Ex.x 0, [])))
noncomputable def F18 (I : Interp) (n : Nat) (a : List PV) : Option (List PV) :=
  (iff (neI ((nth a 0).toList.length : Int) ((nth a 1).toList.length : Int))
  (some [(PV.bool false)])
  (thenN (thenE (loopEv (L18_0 I n) n [(PV.int (0 : Int)), (nth a 0), (nth a 1)])
  (passB 0))
  (fun p1 => (some [(PV.bool true)]))
  (retE fun q2 => [(nth q2 0)])))
theorem e18 : ∀ I n a, (compF Tryd.prog sg 18).map (fun d => d.ev I n a) = some (F18 I n a) := fun I n a => by kernel_rfl
/-! slices.Index[[]int,int] -/
noncomputable def L79_0 (I : Interp) (n : Nat) (p0 : List PV) : Option (Ex × List PV) :=
  (iff (ltI (nth p0 0).toInt (nth p0 1).toInt)
  (iff (geI (nth p0 0).toInt (0 : Int))
  (iff (ltI (nth p0 0).toInt ((nth p0 3).toList.length : Int))
  (iff (eqI (nth p0 2).toInt (nth (nth p0 3).toList (nth p0 0).toInt.toNat).toInt)
  (some (Ex.r, [(nth p0 0)]))
  (some (Ex.n, [(PV.int (IntKind.i64.wrap ((nth p0 0).toInt + (1 : Int)))), (nth p0 1), (nth p0 2), (nth p0 3)])))
  none)
  none)
  (some (Ex.x 0, [])))
noncomputable def F79 (I : Interp) (n : Nat) (a : List PV) : Option (List PV) :=
  (thenN (thenE (loopEv (L79_0 I n) n [(PV.int (0 : Int)), (PV.int ((nth a 0).toList.length : Int)), (nth a 1), (nth a 0)])
  (passB 0))
  (fun p1 => (some [(PV.int (-1 : Int))]))
  (retE fun q2 => [(nth q2 0)]))
theorem e79 : ∀ I n a, (compF Tryd.prog sg 79).map (fun d => d.ev I n a) = some (F79 I n a) := fun I n a => by kernel_rfl
/-! spec.l2Byte -/
noncomputable def L73_0 (I : Interp) (n : Nat) (p0 : List PV) : Option (Ex × List PV) :=
  (iff (ltI (nth p0 0).toInt ((nth p0 1).toStr.size : Int))
  (iff (geI (nth p0 0).toInt (0 : Int))
  (iff (ltI (nth p0 0).toInt ((nth p0 1).toStr.size : Int))
  (iff (eqI (((nth p0 1).toStr.data.getD (nth p0 0).toInt.toNat 0).toNat : Int) (nth p0 2).toInt)
  (some (Ex.r, [(PV.bool true)]))
  (some (Ex.n, [(PV.int (IntKind.i64.wrap ((nth p0 0).toInt + (1 : Int)))), (nth p0 1), (nth p0 2)])))
  none)
  none)
  (some (Ex.x 0, [])))
noncomputable def F73 (I : Interp) (n : Nat) (a : List PV) : Option (List PV) :=
  (iff (selB (selB (geI (nth a 0).toInt (97 : Int)) (selB ((geI (nth a 0).toInt (97 : Int)) == true) (PV.bool (leI (selB ((geI (nth a 0).toInt (97 : Int)) == true) (nth a 0) PV.unit).toInt (122 : Int))) PV.unit) (PV.bool false)).toBool (PV.bool true) (selB ((selB (geI (nth a 0).toInt (97 : Int)) (selB ((geI (nth a 0).toInt (97 : Int)) == true) (PV.bool (leI (selB ((geI (nth a 0).toInt (97 : Int)) == true) (nth a 0) PV.unit).toInt (122 : Int))) PV.unit) (PV.bool false)).isB false) (selB (selB ((selB (geI (nth a 0).toInt (97 : Int)) (selB ((geI (nth a 0).toInt (97 : Int)) == true) (PV.bool (leI (selB ((geI (nth a 0).toInt (97 : Int)) == true) (nth a 0) PV.unit).toInt (122 : Int))) PV.unit) (PV.bool false)).isB false) (selB ((selB (geI (nth a 0).toInt (97 : Int)) (selB ((geI (nth a 0).toInt (97 : Int)) == true) (PV.bool (leI (selB ((geI (nth a 0).toInt (97 : Int)) == true) (nth a 0) PV.unit).toInt (122 : Int))) PV.unit) (PV.bool false)).isB false) (PV.bool (geI (selB ((selB (geI (nth a 0).toInt (97 : Int)) (selB ((geI (nth a 0).toInt (97 : Int)) == true) (PV.bool (leI (selB ((geI (nth a 0).toInt (97 : Int)) == true) (nth a 0) PV.unit).toInt (122 : Int))) PV.unit) (PV.bool false)).isB false) (nth a 0) PV.unit).toInt (48 : Int))) PV.unit) PV.unit).toBool (selB ((selB ((selB (geI (nth a 0).toInt (97 : Int)) (selB ((geI (nth a 0).toInt (97 : Int)) == true) (PV.bool (leI (selB ((geI (nth a 0).toInt (97 : Int)) == true) (nth a 0) PV.unit).toInt (122 : Int))) PV.unit) (PV.bool false)).isB false) (selB ((selB (geI (nth a 0).toInt (97 : Int)) (selB ((geI (nth a 0).toInt (97 : Int)) == true) (PV.bool (leI (selB ((geI (nth a 0).toInt (97 : Int)) == true) (nth a 0) PV.unit).toInt (122 : Int))) PV.unit) (PV.bool false)).isB false) (PV.bool (geI (selB ((selB (geI (nth a 0).toInt (97 : Int)) (selB ((geI (nth a 0).toInt (97 : Int)) == true) (PV.bool (leI (selB ((geI (nth a 0).toInt (97 : Int)) == true) (nth a 0) PV.unit).toInt (122 : Int))) PV.unit) (PV.bool false)).isB false) (nth a 0) PV.unit).toInt (48 : Int))) PV.unit) PV.unit).isB true) (PV.bool (leI (selB ((selB ((selB (geI (nth a 0).toInt (97 : Int)) (selB ((geI (nth a 0).toInt (97 : Int)) == true) (PV.bool (leI (selB ((geI (nth a 0).toInt (97 : Int)) == true) (nth a 0) PV.unit).toInt (122 : Int))) PV.unit) (PV.bool false)).isB false) (selB ((selB (geI (nth a 0).toInt (97 : Int)) (selB ((geI (nth a 0).toInt (97 : Int)) == true) (PV.bool (leI (selB ((geI (nth a 0).toInt (97 : Int)) == true) (nth a 0) PV.unit).toInt (122 : Int))) PV.unit) (PV.bool false)).isB false) (PV.bool (geI (selB ((selB (geI (nth a 0).toInt (97 : Int)) (selB ((geI (nth a 0).toInt (97 : Int)) == true) (PV.bool (leI (selB ((geI (nth a 0).toInt (97 : Int)) == true) (nth a 0) PV.unit).toInt (122 : Int))) PV.unit) (PV.bool false)).isB false) (nth a 0) PV.unit).toInt (48 : Int))) PV.unit) PV.unit).isB true) (nth a 0) PV.unit).toInt (57 : Int))) PV.unit) (PV.bool false)) PV.unit)).toBool
  (some [(PV.bool true)])
  (thenN (thenE (loopEv (L73_0 I n) n [(PV.int (0 : Int)), (PV.str (⟨#[43, 45, 42, 60, 61, 63, 46, 95]⟩ : ByteArray)), (nth a 0)])
  (passB 0))
  (fun p1 => (some [(PV.bool false)]))
  (retE fun q2 => [(nth q2 0)])))
theorem e73 : ∀ I n a, (compF Tryd.prog sg 73).map (fun d => d.ev I n a) = some (F73 I n a) := fun I n a => by kernel_rfl
/-! spec.l1In -/
noncomputable def F51 (I : Interp) (n : Nat) (a : List PV) : Option (List PV) :=
  (some [(selB (geI (nth a 0).toInt (nth a 1).toInt) (selB ((geI (nth a 0).toInt (nth a 1).toInt) == true) (PV.bool (leI (selB ((geI (nth a 0).toInt (nth a 1).toInt) == true) (nth a 0) PV.unit).toInt (selB ((geI (nth a 0).toInt (nth a 1).toInt) == true) (nth a 2) PV.unit).toInt)) PV.unit) (PV.bool false))])
theorem e51 : ∀ I n a, (compF Tryd.prog sg 51).map (fun d => d.ev I n a) = some (F51 I n a) := fun I n a => by kernel_rfl
/-! impl.digit -/
noncomputable def F77 (I : Interp) (n : Nat) (a : List PV) : Option (List PV) :=
  (some [(selB (geI (nth a 0).toInt (48 : Int)) (selB ((geI (nth a 0).toInt (48 : Int)) == true) (PV.bool (leI (selB ((geI (nth a 0).toInt (48 : Int)) == true) (nth a 0) PV.unit).toInt (57 : Int))) PV.unit) (PV.bool false))])
theorem e77 : ∀ I n a, (compF Tryd.prog sg 77).map (fun d => d.ev I n a) = some (F77 I n a) := fun I n a => by kernel_rfl
/-! spec.l2Digit -/
noncomputable def F74 (I : Interp) (n : Nat) (a : List PV) : Option (List PV) :=
  (some [(selB (geI (nth a 0).toInt (48 : Int)) (selB ((geI (nth a 0).toInt (48 : Int)) == true) (PV.bool (leI (selB ((geI (nth a 0).toInt (48 : Int)) == true) (nth a 0) PV.unit).toInt (57 : Int))) PV.unit) (PV.bool false))])
theorem e74 : ∀ I n a, (compF Tryd.prog sg 74).map (fun d => d.ev I n a) = some (F74 I n a) := fun I n a => by kernel_rfl
/-! impl.within -/
noncomputable def F55 (I : Interp) (n : Nat) (a : List PV) : Option (List PV) :=
  (some [(selB (geI (nth a 0).toInt (nth a 1).toInt) (selB ((geI (nth a 0).toInt (nth a 1).toInt) == true) (PV.bool (leI (selB ((geI (nth a 0).toInt (nth a 1).toInt) == true) (nth a 0) PV.unit).toInt (selB ((geI (nth a 0).toInt (nth a 1).toInt) == true) (nth a 2) PV.unit).toInt)) PV.unit) (PV.bool false))])
theorem e55 : ∀ I n a, (compF Tryd.prog sg 55).map (fun d => d.ev I n a) = some (F55 I n a) := fun I n a => by kernel_rfl
/-! spec.Digits -/
noncomputable def L24_0 (I : Interp) (n : Nat) (p0 : List PV) : Option (Ex × List PV) :=
  (iff (neI (nth p0 0).toInt (0 : Int))
  (iff (neI (10 : Int) (0 : Int))
  (thenN (iff (ltI (arith BinOp.rem IntKind.i64 (nth p0 0).toInt (10 : Int)) (0 : Int))
  (some (Ex.n, [(PV.int (IntKind.i64.wrap ((0 : Int) - (arith BinOp.rem IntKind.i64 (nth p0 0).toInt (10 : Int))))), (nth p0 2), (nth p0 0), (nth p0 1)]))
  (some (Ex.n, [(PV.int (arith BinOp.rem IntKind.i64 (nth p0 0).toInt (10 : Int))), (nth p0 2), (nth p0 0), (nth p0 1)])))
  (fun p1 => (iff (leI ((catB (b2sL ((PV.int (IntKind.u8.wrap (IntKind.i64.wrap ((48 : Int) + (nth p1 0).toInt)))) :: ([] : List PV))) (nth p1 1).toStr).size : Int) (9223372036854775807 : Int))
  (iff (neI (10 : Int) (0 : Int))
  (some (Ex.n, [(PV.int (arith BinOp.quo IntKind.i64 (nth p1 2).toInt (10 : Int))), (nth p1 3), (PV.str (catB (b2sL ((PV.int (IntKind.u8.wrap (IntKind.i64.wrap ((48 : Int) + (nth p1 0).toInt)))) :: ([] : List PV))) (nth p1 1).toStr))]))
  none)
  none))
  passE)
  none)
  (some (Ex.x 0, [(nth p0 1), (nth p0 2)])))
noncomputable def F24 (I : Interp) (n : Nat) (a : List PV) : Option (List PV) :=
  (iff (eqI (nth a 0).toInt (0 : Int))
  (some [(PV.str (⟨#[48]⟩ : ByteArray))])
  (thenN (thenE (loopEv (L24_0 I n) n [(nth a 0), (PV.bool (ltI (nth a 0).toInt (0 : Int))), (PV.str (⟨#[]⟩ : ByteArray))])
  (passB 0))
  (fun p2 => (iff (nth p2 0).toBool
  (iff (leI ((catB (⟨#[45]⟩ : ByteArray) (nth p2 1).toStr).size : Int) (9223372036854775807 : Int))
  (some [(PV.str (catB (⟨#[45]⟩ : ByteArray) (nth p2 1).toStr))])
  none)
  (some [(nth p2 1)])))
  (retE fun q3 => [(nth q3 0)])))
theorem e24 : ∀ I n a, (compF Tryd.prog sg 24).map (fun d => d.ev I n a) = some (F24 I n a) := fun I n a => by kernel_rfl
/-! spec.l2Part -/
noncomputable def F71 (I : Interp) (n : Nat) (a : List PV) : Option (List PV) :=
  (some [(selB (selB (selB (eqI (nth a 0).toInt (32 : Int)) (PV.bool true) (selB ((eqI (nth a 0).toInt (32 : Int)) == false) (PV.bool (eqI (selB ((eqI (nth a 0).toInt (32 : Int)) == false) (nth a 0) PV.unit).toInt (10 : Int))) PV.unit)).toBool (PV.bool true) (selB ((selB (eqI (nth a 0).toInt (32 : Int)) (PV.bool true) (selB ((eqI (nth a 0).toInt (32 : Int)) == false) (PV.bool (eqI (selB ((eqI (nth a 0).toInt (32 : Int)) == false) (nth a 0) PV.unit).toInt (10 : Int))) PV.unit)).isB false) (PV.bool (eqI (selB ((selB (eqI (nth a 0).toInt (32 : Int)) (PV.bool true) (selB ((eqI (nth a 0).toInt (32 : Int)) == false) (PV.bool (eqI (selB ((eqI (nth a 0).toInt (32 : Int)) == false) (nth a 0) PV.unit).toInt (10 : Int))) PV.unit)).isB false) (nth a 0) PV.unit).toInt (40 : Int))) PV.unit)).toBool (PV.bool true) (selB ((selB (selB (eqI (nth a 0).toInt (32 : Int)) (PV.bool true) (selB ((eqI (nth a 0).toInt (32 : Int)) == false) (PV.bool (eqI (selB ((eqI (nth a 0).toInt (32 : Int)) == false) (nth a 0) PV.unit).toInt (10 : Int))) PV.unit)).toBool (PV.bool true) (selB ((selB (eqI (nth a 0).toInt (32 : Int)) (PV.bool true) (selB ((eqI (nth a 0).toInt (32 : Int)) == false) (PV.bool (eqI (selB ((eqI (nth a 0).toInt (32 : Int)) == false) (nth a 0) PV.unit).toInt (10 : Int))) PV.unit)).isB false) (PV.bool (eqI (selB ((selB (eqI (nth a 0).toInt (32 : Int)) (PV.bool true) (selB ((eqI (nth a 0).toInt (32 : Int)) == false) (PV.bool (eqI (selB ((eqI (nth a 0).toInt (32 : Int)) == false) (nth a 0) PV.unit).toInt (10 : Int))) PV.unit)).isB false) (nth a 0) PV.unit).toInt (40 : Int))) PV.unit)).isB false) (PV.bool (eqI (selB ((selB (selB (eqI (nth a 0).toInt (32 : Int)) (PV.bool true) (selB ((eqI (nth a 0).toInt (32 : Int)) == false) (PV.bool (eqI (selB ((eqI (nth a 0).toInt (32 : Int)) == false) (nth a 0) PV.unit).toInt (10 : Int))) PV.unit)).toBool (PV.bool true) (selB ((selB (eqI (nth a 0).toInt (32 : Int)) (PV.bool true) (selB ((eqI (nth a 0).toInt (32 : Int)) == false) (PV.bool (eqI (selB ((eqI (nth a 0).toInt (32 : Int)) == false) (nth a 0) PV.unit).toInt (10 : Int))) PV.unit)).isB false) (PV.bool (eqI (selB ((selB (eqI (nth a 0).toInt (32 : Int)) (PV.bool true) (selB ((eqI (nth a 0).toInt (32 : Int)) == false) (PV.bool (eqI (selB ((eqI (nth a 0).toInt (32 : Int)) == false) (nth a 0) PV.unit).toInt (10 : Int))) PV.unit)).isB false) (nth a 0) PV.unit).toInt (40 : Int))) PV.unit)).isB false) (nth a 0) PV.unit).toInt (41 : Int))) PV.unit))])
theorem e71 : ∀ I n a, (compF Tryd.prog sg 71).map (fun d => d.ev I n a) = some (F71 I n a) := fun I n a => by kernel_rfl
/-! laws.toIntS -/
noncomputable def L15_0 (I : Interp) (n : Nat) (p0 : List PV) : Option (Ex × List PV) :=
  (iff (ltI (nth p0 0).toInt ((nth p0 1).toList.length : Int))
  (iff (geI (nth p0 0).toInt (0 : Int))
  (iff (ltI (nth p0 0).toInt ((nth p0 1).toList.length : Int))
  (iff (geI (nth p0 0).toInt (0 : Int))
  (iff (ltI (nth p0 0).toInt ((nth p0 2).toList.length : Int))
  (some (Ex.n, [(PV.int (IntKind.i64.wrap ((nth p0 0).toInt + (1 : Int)))), (nth p0 1), (PV.list ((nth p0 2).toList.set (nth p0 0).toInt.toNat (nth (nth p0 1).toList (nth p0 0).toInt.toNat)))]))
  none)
  none)
  none)
  none)
  (some (Ex.x 0, [(nth p0 2)])))
noncomputable def F15 (I : Interp) (n : Nat) (a : List PV) : Option (List PV) :=
  (iff (geI ((nth a 0).toList.length : Int) (0 : Int))
  (iff (leI ((nth a 0).toList.length : Int) ((nth a 0).toList.length : Int))
  (iff (leI ((nth a 0).toList.length : Int) (17592186044416 : Int))
  (thenN (thenE (loopEv (L15_0 I n) n [(PV.int (0 : Int)), (nth a 0), (PV.list (List.replicate ((nth a 0).toList.length : Int).toNat (PV.int (0 : Int))))])
  (passB 0))
  (fun p1 => (some [(nth p1 0)]))
  (retE fun q2 => [(nth q2 0)]))
  none)
  none)
  none)
theorem e15 : ∀ I n a, (compF Tryd.prog sg 15).map (fun d => d.ev I n a) = some (F15 I n a) := fun I n a => by kernel_rfl
/-! impl.WordOk -/
noncomputable def F83 (I : Interp) (n : Nat) (a : List PV) : Option (List PV) :=
  ((I 55 [(nth a 0), (PV.int (-1073741824 : Int)), (PV.int (1073741823 : Int))]).bind fun r0 =>
  (some [(nth r0 0)]))
theorem e83 : ∀ I n a, (compF Tryd.prog sg 83).map (fun d => d.ev I n a) = some (F83 I n a) := fun I n a => by kernel_rfl
/-! impl.Digits -/
noncomputable def F27 (I : Interp) (n : Nat) (a : List PV) : Option (List PV) :=
  ((I 54 [(nth a 0)]).bind fun r0 =>
  (some [(nth r0 0)]))
theorem e27 : ∀ I n a, (compF Tryd.prog sg 27).map (fun d => d.ev I n a) = some (F27 I n a) := fun I n a => by kernel_rfl
/-! slices.Contains[[]int,int] -/
noncomputable def F50 (I : Interp) (n : Nat) (a : List PV) : Option (List PV) :=
  ((I 79 [(nth a 0), (nth a 1)]).bind fun r0 =>
  (some [(PV.bool (geI (nth r0 0).toInt (0 : Int)))]))
theorem e50 : ∀ I n a, (compF Tryd.prog sg 50).map (fun d => d.ev I n a) = some (F50 I n a) := fun I n a => by kernel_rfl
/-! spec.WordOk -/
noncomputable def F81 (I : Interp) (n : Nat) (a : List PV) : Option (List PV) :=
  ((I 51 [(nth a 0), (PV.int (-1073741824 : Int)), (PV.int (1073741823 : Int))]).bind fun r0 =>
  (some [(nth r0 0)]))
theorem e81 : ∀ I n a, (compF Tryd.prog sg 81).map (fun d => d.ev I n a) = some (F81 I n a) := fun I n a => by kernel_rfl
/-! impl.SymOk -/
noncomputable def L46_0 (I : Interp) (n : Nat) (p8 : List PV) : Option (Ex × List PV) :=
  (iff (ltI (nth p8 0).toInt ((nth p8 1).toStr.size : Int))
  (iff (geI (nth p8 0).toInt (0 : Int))
  (iff (ltI (nth p8 0).toInt ((nth p8 1).toStr.size : Int))
  ((iff ((selB (ltI (((nth p8 1).toStr.data.getD (nth p8 0).toInt.toNat 0).toNat : Int) (97 : Int)) (PV.bool true) (selB ((ltI (((nth p8 1).toStr.data.getD (nth p8 0).toInt.toNat 0).toNat : Int) (97 : Int)) == false) (PV.bool (gtI (selB ((ltI (((nth p8 1).toStr.data.getD (nth p8 0).toInt.toNat 0).toNat : Int) (97 : Int)) == false) (PV.int (((nth p8 1).toStr.data.getD (nth p8 0).toInt.toNat 0).toNat : Int)) PV.unit).toInt (122 : Int))) PV.unit)).isB true)
  ((I 77 [(selB ((selB (ltI (((nth p8 1).toStr.data.getD (nth p8 0).toInt.toNat 0).toNat : Int) (97 : Int)) (PV.bool true) (selB ((ltI (((nth p8 1).toStr.data.getD (nth p8 0).toInt.toNat 0).toNat : Int) (97 : Int)) == false) (PV.bool (gtI (selB ((ltI (((nth p8 1).toStr.data.getD (nth p8 0).toInt.toNat 0).toNat : Int) (97 : Int)) == false) (PV.int (((nth p8 1).toStr.data.getD (nth p8 0).toInt.toNat 0).toNat : Int)) PV.unit).toInt (122 : Int))) PV.unit)).isB true) (PV.int (((nth p8 1).toStr.data.getD (nth p8 0).toInt.toNat 0).toNat : Int)) PV.unit)]).bind fun r9 =>
  (some [(nth r9 0), (nth r9 0)]))
  (some [PV.unit, PV.unit])).bind fun g10 =>
  ((iff ((selB (selB (ltI (((nth p8 1).toStr.data.getD (nth p8 0).toInt.toNat 0).toNat : Int) (97 : Int)) (PV.bool true) (selB ((ltI (((nth p8 1).toStr.data.getD (nth p8 0).toInt.toNat 0).toNat : Int) (97 : Int)) == false) (PV.bool (gtI (selB ((ltI (((nth p8 1).toStr.data.getD (nth p8 0).toInt.toNat 0).toNat : Int) (97 : Int)) == false) (PV.int (((nth p8 1).toStr.data.getD (nth p8 0).toInt.toNat 0).toNat : Int)) PV.unit).toInt (122 : Int))) PV.unit)).toBool (selB ((selB (ltI (((nth p8 1).toStr.data.getD (nth p8 0).toInt.toNat 0).toNat : Int) (97 : Int)) (PV.bool true) (selB ((ltI (((nth p8 1).toStr.data.getD (nth p8 0).toInt.toNat 0).toNat : Int) (97 : Int)) == false) (PV.bool (gtI (selB ((ltI (((nth p8 1).toStr.data.getD (nth p8 0).toInt.toNat 0).toNat : Int) (97 : Int)) == false) (PV.int (((nth p8 1).toStr.data.getD (nth p8 0).toInt.toNat 0).toNat : Int)) PV.unit).toInt (122 : Int))) PV.unit)).isB true) (PV.bool (!(nth g10 0).toBool)) PV.unit) (PV.bool false)).isB true)
  ((I 75 [(PV.str (⟨#[43, 45, 42, 60, 61, 63, 46, 95]⟩ : ByteArray)), (selB ((selB (selB (ltI (((nth p8 1).toStr.data.getD (nth p8 0).toInt.toNat 0).toNat : Int) (97 : Int)) (PV.bool true) (selB ((ltI (((nth p8 1).toStr.data.getD (nth p8 0).toInt.toNat 0).toNat : Int) (97 : Int)) == false) (PV.bool (gtI (selB ((ltI (((nth p8 1).toStr.data.getD (nth p8 0).toInt.toNat 0).toNat : Int) (97 : Int)) == false) (PV.int (((nth p8 1).toStr.data.getD (nth p8 0).toInt.toNat 0).toNat : Int)) PV.unit).toInt (122 : Int))) PV.unit)).toBool (selB ((selB (ltI (((nth p8 1).toStr.data.getD (nth p8 0).toInt.toNat 0).toNat : Int) (97 : Int)) (PV.bool true) (selB ((ltI (((nth p8 1).toStr.data.getD (nth p8 0).toInt.toNat 0).toNat : Int) (97 : Int)) == false) (PV.bool (gtI (selB ((ltI (((nth p8 1).toStr.data.getD (nth p8 0).toInt.toNat 0).toNat : Int) (97 : Int)) == false) (PV.int (((nth p8 1).toStr.data.getD (nth p8 0).toInt.toNat 0).toNat : Int)) PV.unit).toInt (122 : Int))) PV.unit)).isB true) (PV.bool (!(nth g10 0).toBool)) PV.unit) (PV.bool false)).isB true) (PV.int (((nth p8 1).toStr.data.getD (nth p8 0).toInt.toNat 0).toNat : Int)) PV.unit)]).bind fun r11 =>
  (some [(nth r11 0), (nth r11 0)]))
  (some [PV.unit, PV.unit])).bind fun g12 =>
  (iff (selB (selB (selB (ltI (((nth p8 1).toStr.data.getD (nth p8 0).toInt.toNat 0).toNat : Int) (97 : Int)) (PV.bool true) (selB ((ltI (((nth p8 1).toStr.data.getD (nth p8 0).toInt.toNat 0).toNat : Int) (97 : Int)) == false) (PV.bool (gtI (selB ((ltI (((nth p8 1).toStr.data.getD (nth p8 0).toInt.toNat 0).toNat : Int) (97 : Int)) == false) (PV.int (((nth p8 1).toStr.data.getD (nth p8 0).toInt.toNat 0).toNat : Int)) PV.unit).toInt (122 : Int))) PV.unit)).toBool (selB ((selB (ltI (((nth p8 1).toStr.data.getD (nth p8 0).toInt.toNat 0).toNat : Int) (97 : Int)) (PV.bool true) (selB ((ltI (((nth p8 1).toStr.data.getD (nth p8 0).toInt.toNat 0).toNat : Int) (97 : Int)) == false) (PV.bool (gtI (selB ((ltI (((nth p8 1).toStr.data.getD (nth p8 0).toInt.toNat 0).toNat : Int) (97 : Int)) == false) (PV.int (((nth p8 1).toStr.data.getD (nth p8 0).toInt.toNat 0).toNat : Int)) PV.unit).toInt (122 : Int))) PV.unit)).isB true) (PV.bool (!(nth g10 0).toBool)) PV.unit) (PV.bool false)).toBool (selB ((selB (selB (ltI (((nth p8 1).toStr.data.getD (nth p8 0).toInt.toNat 0).toNat : Int) (97 : Int)) (PV.bool true) (selB ((ltI (((nth p8 1).toStr.data.getD (nth p8 0).toInt.toNat 0).toNat : Int) (97 : Int)) == false) (PV.bool (gtI (selB ((ltI (((nth p8 1).toStr.data.getD (nth p8 0).toInt.toNat 0).toNat : Int) (97 : Int)) == false) (PV.int (((nth p8 1).toStr.data.getD (nth p8 0).toInt.toNat 0).toNat : Int)) PV.unit).toInt (122 : Int))) PV.unit)).toBool (selB ((selB (ltI (((nth p8 1).toStr.data.getD (nth p8 0).toInt.toNat 0).toNat : Int) (97 : Int)) (PV.bool true) (selB ((ltI (((nth p8 1).toStr.data.getD (nth p8 0).toInt.toNat 0).toNat : Int) (97 : Int)) == false) (PV.bool (gtI (selB ((ltI (((nth p8 1).toStr.data.getD (nth p8 0).toInt.toNat 0).toNat : Int) (97 : Int)) == false) (PV.int (((nth p8 1).toStr.data.getD (nth p8 0).toInt.toNat 0).toNat : Int)) PV.unit).toInt (122 : Int))) PV.unit)).isB true) (PV.bool (!(nth g10 0).toBool)) PV.unit) (PV.bool false)).isB true) (PV.bool (ltI (nth g12 0).toInt (0 : Int))) PV.unit) (PV.bool false)).toBool
  (some (Ex.r, [(PV.bool false)]))
  (some (Ex.n, [(PV.int (IntKind.i64.wrap ((nth p8 0).toInt + (1 : Int)))), (nth p8 1)])))))
  none)
  none)
  (some (Ex.x 0, [])))
noncomputable def F46 (I : Interp) (n : Nat) (a : List PV) : Option (List PV) :=
  ((I 55 [(PV.int ((nth a 0).toStr.size : Int)), (PV.int (1 : Int)), (PV.int (12 : Int))]).bind fun r0 =>
  ((iff ((!(nth r0 0).toBool) == false)
  (iff (geI (0 : Int) (0 : Int))
  (iff (ltI (0 : Int) ((selB ((!(nth r0 0).toBool) == false) (nth a 0) PV.unit).toStr.size : Int))
  (some [(PV.int (((selB ((!(nth r0 0).toBool) == false) (nth a 0) PV.unit).toStr.data.getD (0 : Int).toNat 0).toNat : Int)), (PV.int (((selB ((!(nth r0 0).toBool) == false) (nth a 0) PV.unit).toStr.data.getD (0 : Int).toNat 0).toNat : Int))])
  none)
  none)
  (some [PV.unit, PV.unit])).bind fun g1 =>
  ((iff ((!(nth r0 0).toBool) == false)
  ((I 77 [(nth g1 0)]).bind fun r2 =>
  (some [(nth r2 0), (nth r2 0)]))
  (some [PV.unit, PV.unit])).bind fun g3 =>
  ((iff ((selB (!(nth r0 0).toBool) (PV.bool true) (nth g3 0)).isB false)
  (iff (geI (0 : Int) (0 : Int))
  (iff (ltI (0 : Int) ((selB ((selB (!(nth r0 0).toBool) (PV.bool true) (nth g3 0)).isB false) (nth a 0) PV.unit).toStr.size : Int))
  (some [(PV.int (((selB ((selB (!(nth r0 0).toBool) (PV.bool true) (nth g3 0)).isB false) (nth a 0) PV.unit).toStr.data.getD (0 : Int).toNat 0).toNat : Int)), (PV.int (((selB ((selB (!(nth r0 0).toBool) (PV.bool true) (nth g3 0)).isB false) (nth a 0) PV.unit).toStr.data.getD (0 : Int).toNat 0).toNat : Int))])
  none)
  none)
  (some [PV.unit, PV.unit])).bind fun g4 =>
  ((iff ((selB ((selB (!(nth r0 0).toBool) (PV.bool true) (nth g3 0)).isB false) (selB ((selB (!(nth r0 0).toBool) (PV.bool true) (nth g3 0)).isB false) (selB (selB ((selB (!(nth r0 0).toBool) (PV.bool true) (nth g3 0)).isB false) (selB ((selB (!(nth r0 0).toBool) (PV.bool true) (nth g3 0)).isB false) (PV.bool (eqI (nth g4 0).toInt (45 : Int))) PV.unit) PV.unit).toBool (selB ((selB ((selB (!(nth r0 0).toBool) (PV.bool true) (nth g3 0)).isB false) (selB ((selB (!(nth r0 0).toBool) (PV.bool true) (nth g3 0)).isB false) (PV.bool (eqI (nth g4 0).toInt (45 : Int))) PV.unit) PV.unit).isB true) (PV.bool (gtI (selB ((selB ((selB (!(nth r0 0).toBool) (PV.bool true) (nth g3 0)).isB false) (selB ((selB (!(nth r0 0).toBool) (PV.bool true) (nth g3 0)).isB false) (PV.bool (eqI (nth g4 0).toInt (45 : Int))) PV.unit) PV.unit).isB true) (PV.int ((selB ((selB ((selB (!(nth r0 0).toBool) (PV.bool true) (nth g3 0)).isB false) (selB ((selB (!(nth r0 0).toBool) (PV.bool true) (nth g3 0)).isB false) (PV.bool (eqI (nth g4 0).toInt (45 : Int))) PV.unit) PV.unit).isB true) (nth a 0) PV.unit).toStr.size : Int)) PV.unit).toInt (1 : Int))) PV.unit) (PV.bool false)) PV.unit) PV.unit).isB true)
  (iff (geI (1 : Int) (0 : Int))
  (iff (ltI (1 : Int) ((selB ((selB ((selB (!(nth r0 0).toBool) (PV.bool true) (nth g3 0)).isB false) (selB ((selB (!(nth r0 0).toBool) (PV.bool true) (nth g3 0)).isB false) (selB (selB ((selB (!(nth r0 0).toBool) (PV.bool true) (nth g3 0)).isB false) (selB ((selB (!(nth r0 0).toBool) (PV.bool true) (nth g3 0)).isB false) (PV.bool (eqI (nth g4 0).toInt (45 : Int))) PV.unit) PV.unit).toBool (selB ((selB ((selB (!(nth r0 0).toBool) (PV.bool true) (nth g3 0)).isB false) (selB ((selB (!(nth r0 0).toBool) (PV.bool true) (nth g3 0)).isB false) (PV.bool (eqI (nth g4 0).toInt (45 : Int))) PV.unit) PV.unit).isB true) (PV.bool (gtI (selB ((selB ((selB (!(nth r0 0).toBool) (PV.bool true) (nth g3 0)).isB false) (selB ((selB (!(nth r0 0).toBool) (PV.bool true) (nth g3 0)).isB false) (PV.bool (eqI (nth g4 0).toInt (45 : Int))) PV.unit) PV.unit).isB true) (PV.int ((selB ((selB ((selB (!(nth r0 0).toBool) (PV.bool true) (nth g3 0)).isB false) (selB ((selB (!(nth r0 0).toBool) (PV.bool true) (nth g3 0)).isB false) (PV.bool (eqI (nth g4 0).toInt (45 : Int))) PV.unit) PV.unit).isB true) (nth a 0) PV.unit).toStr.size : Int)) PV.unit).toInt (1 : Int))) PV.unit) (PV.bool false)) PV.unit) PV.unit).isB true) (nth a 0) PV.unit).toStr.size : Int))
  (some [(PV.int (((selB ((selB ((selB (!(nth r0 0).toBool) (PV.bool true) (nth g3 0)).isB false) (selB ((selB (!(nth r0 0).toBool) (PV.bool true) (nth g3 0)).isB false) (selB (selB ((selB (!(nth r0 0).toBool) (PV.bool true) (nth g3 0)).isB false) (selB ((selB (!(nth r0 0).toBool) (PV.bool true) (nth g3 0)).isB false) (PV.bool (eqI (nth g4 0).toInt (45 : Int))) PV.unit) PV.unit).toBool (selB ((selB ((selB (!(nth r0 0).toBool) (PV.bool true) (nth g3 0)).isB false) (selB ((selB (!(nth r0 0).toBool) (PV.bool true) (nth g3 0)).isB false) (PV.bool (eqI (nth g4 0).toInt (45 : Int))) PV.unit) PV.unit).isB true) (PV.bool (gtI (selB ((selB ((selB (!(nth r0 0).toBool) (PV.bool true) (nth g3 0)).isB false) (selB ((selB (!(nth r0 0).toBool) (PV.bool true) (nth g3 0)).isB false) (PV.bool (eqI (nth g4 0).toInt (45 : Int))) PV.unit) PV.unit).isB true) (PV.int ((selB ((selB ((selB (!(nth r0 0).toBool) (PV.bool true) (nth g3 0)).isB false) (selB ((selB (!(nth r0 0).toBool) (PV.bool true) (nth g3 0)).isB false) (PV.bool (eqI (nth g4 0).toInt (45 : Int))) PV.unit) PV.unit).isB true) (nth a 0) PV.unit).toStr.size : Int)) PV.unit).toInt (1 : Int))) PV.unit) (PV.bool false)) PV.unit) PV.unit).isB true) (nth a 0) PV.unit).toStr.data.getD (1 : Int).toNat 0).toNat : Int)), (PV.int (((selB ((selB ((selB (!(nth r0 0).toBool) (PV.bool true) (nth g3 0)).isB false) (selB ((selB (!(nth r0 0).toBool) (PV.bool true) (nth g3 0)).isB false) (selB (selB ((selB (!(nth r0 0).toBool) (PV.bool true) (nth g3 0)).isB false) (selB ((selB (!(nth r0 0).toBool) (PV.bool true) (nth g3 0)).isB false) (PV.bool (eqI (nth g4 0).toInt (45 : Int))) PV.unit) PV.unit).toBool (selB ((selB ((selB (!(nth r0 0).toBool) (PV.bool true) (nth g3 0)).isB false) (selB ((selB (!(nth r0 0).toBool) (PV.bool true) (nth g3 0)).isB false) (PV.bool (eqI (nth g4 0).toInt (45 : Int))) PV.unit) PV.unit).isB true) (PV.bool (gtI (selB ((selB ((selB (!(nth r0 0).toBool) (PV.bool true) (nth g3 0)).isB false) (selB ((selB (!(nth r0 0).toBool) (PV.bool true) (nth g3 0)).isB false) (PV.bool (eqI (nth g4 0).toInt (45 : Int))) PV.unit) PV.unit).isB true) (PV.int ((selB ((selB ((selB (!(nth r0 0).toBool) (PV.bool true) (nth g3 0)).isB false) (selB ((selB (!(nth r0 0).toBool) (PV.bool true) (nth g3 0)).isB false) (PV.bool (eqI (nth g4 0).toInt (45 : Int))) PV.unit) PV.unit).isB true) (nth a 0) PV.unit).toStr.size : Int)) PV.unit).toInt (1 : Int))) PV.unit) (PV.bool false)) PV.unit) PV.unit).isB true) (nth a 0) PV.unit).toStr.data.getD (1 : Int).toNat 0).toNat : Int))])
  none)
  none)
  (some [PV.unit, PV.unit])).bind fun g5 =>
  ((iff ((selB ((selB (!(nth r0 0).toBool) (PV.bool true) (nth g3 0)).isB false) (selB ((selB (!(nth r0 0).toBool) (PV.bool true) (nth g3 0)).isB false) (selB (selB ((selB (!(nth r0 0).toBool) (PV.bool true) (nth g3 0)).isB false) (selB ((selB (!(nth r0 0).toBool) (PV.bool true) (nth g3 0)).isB false) (PV.bool (eqI (nth g4 0).toInt (45 : Int))) PV.unit) PV.unit).toBool (selB ((selB ((selB (!(nth r0 0).toBool) (PV.bool true) (nth g3 0)).isB false) (selB ((selB (!(nth r0 0).toBool) (PV.bool true) (nth g3 0)).isB false) (PV.bool (eqI (nth g4 0).toInt (45 : Int))) PV.unit) PV.unit).isB true) (PV.bool (gtI (selB ((selB ((selB (!(nth r0 0).toBool) (PV.bool true) (nth g3 0)).isB false) (selB ((selB (!(nth r0 0).toBool) (PV.bool true) (nth g3 0)).isB false) (PV.bool (eqI (nth g4 0).toInt (45 : Int))) PV.unit) PV.unit).isB true) (PV.int ((selB ((selB ((selB (!(nth r0 0).toBool) (PV.bool true) (nth g3 0)).isB false) (selB ((selB (!(nth r0 0).toBool) (PV.bool true) (nth g3 0)).isB false) (PV.bool (eqI (nth g4 0).toInt (45 : Int))) PV.unit) PV.unit).isB true) (nth a 0) PV.unit).toStr.size : Int)) PV.unit).toInt (1 : Int))) PV.unit) (PV.bool false)) PV.unit) PV.unit).isB true)
  ((I 77 [(nth g5 0)]).bind fun r6 =>
  (some [(nth r6 0), (nth r6 0)]))
  (some [PV.unit, PV.unit])).bind fun g7 =>
  (iff (selB (selB (!(nth r0 0).toBool) (PV.bool true) (nth g3 0)).toBool (PV.bool true) (selB ((selB (!(nth r0 0).toBool) (PV.bool true) (nth g3 0)).isB false) (selB (selB ((selB (!(nth r0 0).toBool) (PV.bool true) (nth g3 0)).isB false) (selB ((selB (!(nth r0 0).toBool) (PV.bool true) (nth g3 0)).isB false) (selB (selB ((selB (!(nth r0 0).toBool) (PV.bool true) (nth g3 0)).isB false) (selB ((selB (!(nth r0 0).toBool) (PV.bool true) (nth g3 0)).isB false) (PV.bool (eqI (nth g4 0).toInt (45 : Int))) PV.unit) PV.unit).toBool (selB ((selB ((selB (!(nth r0 0).toBool) (PV.bool true) (nth g3 0)).isB false) (selB ((selB (!(nth r0 0).toBool) (PV.bool true) (nth g3 0)).isB false) (PV.bool (eqI (nth g4 0).toInt (45 : Int))) PV.unit) PV.unit).isB true) (PV.bool (gtI (selB ((selB ((selB (!(nth r0 0).toBool) (PV.bool true) (nth g3 0)).isB false) (selB ((selB (!(nth r0 0).toBool) (PV.bool true) (nth g3 0)).isB false) (PV.bool (eqI (nth g4 0).toInt (45 : Int))) PV.unit) PV.unit).isB true) (PV.int ((selB ((selB ((selB (!(nth r0 0).toBool) (PV.bool true) (nth g3 0)).isB false) (selB ((selB (!(nth r0 0).toBool) (PV.bool true) (nth g3 0)).isB false) (PV.bool (eqI (nth g4 0).toInt (45 : Int))) PV.unit) PV.unit).isB true) (nth a 0) PV.unit).toStr.size : Int)) PV.unit).toInt (1 : Int))) PV.unit) (PV.bool false)) PV.unit) PV.unit).toBool (nth g7 0) (PV.bool false)) PV.unit)).toBool
  (some [(PV.bool false)])
  (thenN (thenE (loopEv (L46_0 I n) n [(PV.int (0 : Int)), (nth a 0)])
  (passB 0))
  (fun p13 => (some [(PV.bool true)]))
  (retE fun q14 => [(nth q14 0)])))))))))
theorem e46 : ∀ I n a, (compF Tryd.prog sg 46).map (fun d => d.ev I n a) = some (F46 I n a) := fun I n a => by kernel_rfl
/-! spec.SymOk -/
noncomputable def L44_0 (I : Interp) (n : Nat) (p0 : List PV) : Option (Ex × List PV) :=
  (iff (ltI (nth p0 0).toInt ((nth p0 1).toStr.size : Int))
  (iff (geI (nth p0 0).toInt (0 : Int))
  (iff (ltI (nth p0 0).toInt ((nth p0 1).toStr.size : Int))
  ((I 73 [(PV.int (((nth p0 1).toStr.data.getD (nth p0 0).toInt.toNat 0).toNat : Int))]).bind fun r1 =>
  (iff (!(nth r1 0).toBool)
  (some (Ex.r, [(PV.bool false)]))
  (some (Ex.n, [(PV.int (IntKind.i64.wrap ((nth p0 0).toInt + (1 : Int)))), (nth p0 1)]))))
  none)
  none)
  (some (Ex.x 0, [(nth p0 1)])))
noncomputable def F44 (I : Interp) (n : Nat) (a : List PV) : Option (List PV) :=
  (thenN (thenE (loopEv (L44_0 I n) n [(PV.int (0 : Int)), (nth a 0)])
  (passB 0))
  (fun p2 => ((I 51 [(PV.int ((nth p2 0).toStr.size : Int)), (PV.int (1 : Int)), (PV.int (12 : Int))]).bind fun r3 =>
  ((iff ((nth r3 0).isB true)
  (iff (geI (0 : Int) (0 : Int))
  (iff (ltI (0 : Int) ((selB ((nth r3 0).isB true) (nth p2 0) PV.unit).toStr.size : Int))
  (some [(PV.int (((selB ((nth r3 0).isB true) (nth p2 0) PV.unit).toStr.data.getD (0 : Int).toNat 0).toNat : Int)), (PV.int (((selB ((nth r3 0).isB true) (nth p2 0) PV.unit).toStr.data.getD (0 : Int).toNat 0).toNat : Int))])
  none)
  none)
  (some [PV.unit, PV.unit])).bind fun g4 =>
  ((iff ((nth r3 0).isB true)
  ((I 74 [(nth g4 0)]).bind fun r5 =>
  (some [(nth r5 0), (nth r5 0)]))
  (some [PV.unit, PV.unit])).bind fun g6 =>
  ((iff ((selB (nth r3 0).toBool (selB ((nth r3 0).isB true) (PV.bool (!(nth g6 0).toBool)) PV.unit) (PV.bool false)).isB true)
  (iff (geI (0 : Int) (0 : Int))
  (iff (ltI (0 : Int) ((selB ((selB (nth r3 0).toBool (selB ((nth r3 0).isB true) (PV.bool (!(nth g6 0).toBool)) PV.unit) (PV.bool false)).isB true) (nth p2 0) PV.unit).toStr.size : Int))
  (some [(PV.int (((selB ((selB (nth r3 0).toBool (selB ((nth r3 0).isB true) (PV.bool (!(nth g6 0).toBool)) PV.unit) (PV.bool false)).isB true) (nth p2 0) PV.unit).toStr.data.getD (0 : Int).toNat 0).toNat : Int)), (PV.int (((selB ((selB (nth r3 0).toBool (selB ((nth r3 0).isB true) (PV.bool (!(nth g6 0).toBool)) PV.unit) (PV.bool false)).isB true) (nth p2 0) PV.unit).toStr.data.getD (0 : Int).toNat 0).toNat : Int))])
  none)
  none)
  (some [PV.unit, PV.unit])).bind fun g7 =>
  ((iff ((selB ((selB (nth r3 0).toBool (selB ((nth r3 0).isB true) (PV.bool (!(nth g6 0).toBool)) PV.unit) (PV.bool false)).isB true) (selB ((selB (nth r3 0).toBool (selB ((nth r3 0).isB true) (PV.bool (!(nth g6 0).toBool)) PV.unit) (PV.bool false)).isB true) (selB (selB ((selB (nth r3 0).toBool (selB ((nth r3 0).isB true) (PV.bool (!(nth g6 0).toBool)) PV.unit) (PV.bool false)).isB true) (selB ((selB (nth r3 0).toBool (selB ((nth r3 0).isB true) (PV.bool (!(nth g6 0).toBool)) PV.unit) (PV.bool false)).isB true) (PV.bool (neI (nth g7 0).toInt (45 : Int))) PV.unit) PV.unit).toBool (PV.bool true) (selB ((selB ((selB (nth r3 0).toBool (selB ((nth r3 0).isB true) (PV.bool (!(nth g6 0).toBool)) PV.unit) (PV.bool false)).isB true) (selB ((selB (nth r3 0).toBool (selB ((nth r3 0).isB true) (PV.bool (!(nth g6 0).toBool)) PV.unit) (PV.bool false)).isB true) (PV.bool (neI (nth g7 0).toInt (45 : Int))) PV.unit) PV.unit).isB false) (PV.bool (eqI (selB ((selB ((selB (nth r3 0).toBool (selB ((nth r3 0).isB true) (PV.bool (!(nth g6 0).toBool)) PV.unit) (PV.bool false)).isB true) (selB ((selB (nth r3 0).toBool (selB ((nth r3 0).isB true) (PV.bool (!(nth g6 0).toBool)) PV.unit) (PV.bool false)).isB true) (PV.bool (neI (nth g7 0).toInt (45 : Int))) PV.unit) PV.unit).isB false) (PV.int ((selB ((selB ((selB (nth r3 0).toBool (selB ((nth r3 0).isB true) (PV.bool (!(nth g6 0).toBool)) PV.unit) (PV.bool false)).isB true) (selB ((selB (nth r3 0).toBool (selB ((nth r3 0).isB true) (PV.bool (!(nth g6 0).toBool)) PV.unit) (PV.bool false)).isB true) (PV.bool (neI (nth g7 0).toInt (45 : Int))) PV.unit) PV.unit).isB false) (nth p2 0) PV.unit).toStr.size : Int)) PV.unit).toInt (1 : Int))) PV.unit)) PV.unit) PV.unit).isB false)
  (iff (geI (1 : Int) (0 : Int))
  (iff (ltI (1 : Int) ((selB ((selB ((selB (nth r3 0).toBool (selB ((nth r3 0).isB true) (PV.bool (!(nth g6 0).toBool)) PV.unit) (PV.bool false)).isB true) (selB ((selB (nth r3 0).toBool (selB ((nth r3 0).isB true) (PV.bool (!(nth g6 0).toBool)) PV.unit) (PV.bool false)).isB true) (selB (selB ((selB (nth r3 0).toBool (selB ((nth r3 0).isB true) (PV.bool (!(nth g6 0).toBool)) PV.unit) (PV.bool false)).isB true) (selB ((selB (nth r3 0).toBool (selB ((nth r3 0).isB true) (PV.bool (!(nth g6 0).toBool)) PV.unit) (PV.bool false)).isB true) (PV.bool (neI (nth g7 0).toInt (45 : Int))) PV.unit) PV.unit).toBool (PV.bool true) (selB ((selB ((selB (nth r3 0).toBool (selB ((nth r3 0).isB true) (PV.bool (!(nth g6 0).toBool)) PV.unit) (PV.bool false)).isB true) (selB ((selB (nth r3 0).toBool (selB ((nth r3 0).isB true) (PV.bool (!(nth g6 0).toBool)) PV.unit) (PV.bool false)).isB true) (PV.bool (neI (nth g7 0).toInt (45 : Int))) PV.unit) PV.unit).isB false) (PV.bool (eqI (selB ((selB ((selB (nth r3 0).toBool (selB ((nth r3 0).isB true) (PV.bool (!(nth g6 0).toBool)) PV.unit) (PV.bool false)).isB true) (selB ((selB (nth r3 0).toBool (selB ((nth r3 0).isB true) (PV.bool (!(nth g6 0).toBool)) PV.unit) (PV.bool false)).isB true) (PV.bool (neI (nth g7 0).toInt (45 : Int))) PV.unit) PV.unit).isB false) (PV.int ((selB ((selB ((selB (nth r3 0).toBool (selB ((nth r3 0).isB true) (PV.bool (!(nth g6 0).toBool)) PV.unit) (PV.bool false)).isB true) (selB ((selB (nth r3 0).toBool (selB ((nth r3 0).isB true) (PV.bool (!(nth g6 0).toBool)) PV.unit) (PV.bool false)).isB true) (PV.bool (neI (nth g7 0).toInt (45 : Int))) PV.unit) PV.unit).isB false) (nth p2 0) PV.unit).toStr.size : Int)) PV.unit).toInt (1 : Int))) PV.unit)) PV.unit) PV.unit).isB false) (nth p2 0) PV.unit).toStr.size : Int))
  (some [(PV.int (((selB ((selB ((selB (nth r3 0).toBool (selB ((nth r3 0).isB true) (PV.bool (!(nth g6 0).toBool)) PV.unit) (PV.bool false)).isB true) (selB ((selB (nth r3 0).toBool (selB ((nth r3 0).isB true) (PV.bool (!(nth g6 0).toBool)) PV.unit) (PV.bool false)).isB true) (selB (selB ((selB (nth r3 0).toBool (selB ((nth r3 0).isB true) (PV.bool (!(nth g6 0).toBool)) PV.unit) (PV.bool false)).isB true) (selB ((selB (nth r3 0).toBool (selB ((nth r3 0).isB true) (PV.bool (!(nth g6 0).toBool)) PV.unit) (PV.bool false)).isB true) (PV.bool (neI (nth g7 0).toInt (45 : Int))) PV.unit) PV.unit).toBool (PV.bool true) (selB ((selB ((selB (nth r3 0).toBool (selB ((nth r3 0).isB true) (PV.bool (!(nth g6 0).toBool)) PV.unit) (PV.bool false)).isB true) (selB ((selB (nth r3 0).toBool (selB ((nth r3 0).isB true) (PV.bool (!(nth g6 0).toBool)) PV.unit) (PV.bool false)).isB true) (PV.bool (neI (nth g7 0).toInt (45 : Int))) PV.unit) PV.unit).isB false) (PV.bool (eqI (selB ((selB ((selB (nth r3 0).toBool (selB ((nth r3 0).isB true) (PV.bool (!(nth g6 0).toBool)) PV.unit) (PV.bool false)).isB true) (selB ((selB (nth r3 0).toBool (selB ((nth r3 0).isB true) (PV.bool (!(nth g6 0).toBool)) PV.unit) (PV.bool false)).isB true) (PV.bool (neI (nth g7 0).toInt (45 : Int))) PV.unit) PV.unit).isB false) (PV.int ((selB ((selB ((selB (nth r3 0).toBool (selB ((nth r3 0).isB true) (PV.bool (!(nth g6 0).toBool)) PV.unit) (PV.bool false)).isB true) (selB ((selB (nth r3 0).toBool (selB ((nth r3 0).isB true) (PV.bool (!(nth g6 0).toBool)) PV.unit) (PV.bool false)).isB true) (PV.bool (neI (nth g7 0).toInt (45 : Int))) PV.unit) PV.unit).isB false) (nth p2 0) PV.unit).toStr.size : Int)) PV.unit).toInt (1 : Int))) PV.unit)) PV.unit) PV.unit).isB false) (nth p2 0) PV.unit).toStr.data.getD (1 : Int).toNat 0).toNat : Int)), (PV.int (((selB ((selB ((selB (nth r3 0).toBool (selB ((nth r3 0).isB true) (PV.bool (!(nth g6 0).toBool)) PV.unit) (PV.bool false)).isB true) (selB ((selB (nth r3 0).toBool (selB ((nth r3 0).isB true) (PV.bool (!(nth g6 0).toBool)) PV.unit) (PV.bool false)).isB true) (selB (selB ((selB (nth r3 0).toBool (selB ((nth r3 0).isB true) (PV.bool (!(nth g6 0).toBool)) PV.unit) (PV.bool false)).isB true) (selB ((selB (nth r3 0).toBool (selB ((nth r3 0).isB true) (PV.bool (!(nth g6 0).toBool)) PV.unit) (PV.bool false)).isB true) (PV.bool (neI (nth g7 0).toInt (45 : Int))) PV.unit) PV.unit).toBool (PV.bool true) (selB ((selB ((selB (nth r3 0).toBool (selB ((nth r3 0).isB true) (PV.bool (!(nth g6 0).toBool)) PV.unit) (PV.bool false)).isB true) (selB ((selB (nth r3 0).toBool (selB ((nth r3 0).isB true) (PV.bool (!(nth g6 0).toBool)) PV.unit) (PV.bool false)).isB true) (PV.bool (neI (nth g7 0).toInt (45 : Int))) PV.unit) PV.unit).isB false) (PV.bool (eqI (selB ((selB ((selB (nth r3 0).toBool (selB ((nth r3 0).isB true) (PV.bool (!(nth g6 0).toBool)) PV.unit) (PV.bool false)).isB true) (selB ((selB (nth r3 0).toBool (selB ((nth r3 0).isB true) (PV.bool (!(nth g6 0).toBool)) PV.unit) (PV.bool false)).isB true) (PV.bool (neI (nth g7 0).toInt (45 : Int))) PV.unit) PV.unit).isB false) (PV.int ((selB ((selB ((selB (nth r3 0).toBool (selB ((nth r3 0).isB true) (PV.bool (!(nth g6 0).toBool)) PV.unit) (PV.bool false)).isB true) (selB ((selB (nth r3 0).toBool (selB ((nth r3 0).isB true) (PV.bool (!(nth g6 0).toBool)) PV.unit) (PV.bool false)).isB true) (PV.bool (neI (nth g7 0).toInt (45 : Int))) PV.unit) PV.unit).isB false) (nth p2 0) PV.unit).toStr.size : Int)) PV.unit).toInt (1 : Int))) PV.unit)) PV.unit) PV.unit).isB false) (nth p2 0) PV.unit).toStr.data.getD (1 : Int).toNat 0).toNat : Int))])
  none)
  none)
  (some [PV.unit, PV.unit])).bind fun g8 =>
  ((iff ((selB ((selB (nth r3 0).toBool (selB ((nth r3 0).isB true) (PV.bool (!(nth g6 0).toBool)) PV.unit) (PV.bool false)).isB true) (selB ((selB (nth r3 0).toBool (selB ((nth r3 0).isB true) (PV.bool (!(nth g6 0).toBool)) PV.unit) (PV.bool false)).isB true) (selB (selB ((selB (nth r3 0).toBool (selB ((nth r3 0).isB true) (PV.bool (!(nth g6 0).toBool)) PV.unit) (PV.bool false)).isB true) (selB ((selB (nth r3 0).toBool (selB ((nth r3 0).isB true) (PV.bool (!(nth g6 0).toBool)) PV.unit) (PV.bool false)).isB true) (PV.bool (neI (nth g7 0).toInt (45 : Int))) PV.unit) PV.unit).toBool (PV.bool true) (selB ((selB ((selB (nth r3 0).toBool (selB ((nth r3 0).isB true) (PV.bool (!(nth g6 0).toBool)) PV.unit) (PV.bool false)).isB true) (selB ((selB (nth r3 0).toBool (selB ((nth r3 0).isB true) (PV.bool (!(nth g6 0).toBool)) PV.unit) (PV.bool false)).isB true) (PV.bool (neI (nth g7 0).toInt (45 : Int))) PV.unit) PV.unit).isB false) (PV.bool (eqI (selB ((selB ((selB (nth r3 0).toBool (selB ((nth r3 0).isB true) (PV.bool (!(nth g6 0).toBool)) PV.unit) (PV.bool false)).isB true) (selB ((selB (nth r3 0).toBool (selB ((nth r3 0).isB true) (PV.bool (!(nth g6 0).toBool)) PV.unit) (PV.bool false)).isB true) (PV.bool (neI (nth g7 0).toInt (45 : Int))) PV.unit) PV.unit).isB false) (PV.int ((selB ((selB ((selB (nth r3 0).toBool (selB ((nth r3 0).isB true) (PV.bool (!(nth g6 0).toBool)) PV.unit) (PV.bool false)).isB true) (selB ((selB (nth r3 0).toBool (selB ((nth r3 0).isB true) (PV.bool (!(nth g6 0).toBool)) PV.unit) (PV.bool false)).isB true) (PV.bool (neI (nth g7 0).toInt (45 : Int))) PV.unit) PV.unit).isB false) (nth p2 0) PV.unit).toStr.size : Int)) PV.unit).toInt (1 : Int))) PV.unit)) PV.unit) PV.unit).isB false)
  ((I 74 [(nth g8 0)]).bind fun r9 =>
  (some [(nth r9 0), (nth r9 0)]))
  (some [PV.unit, PV.unit])).bind fun g10 =>
  (some [(selB (selB (nth r3 0).toBool (selB ((nth r3 0).isB true) (PV.bool (!(nth g6 0).toBool)) PV.unit) (PV.bool false)).toBool (selB ((selB (nth r3 0).toBool (selB ((nth r3 0).isB true) (PV.bool (!(nth g6 0).toBool)) PV.unit) (PV.bool false)).isB true) (selB (selB ((selB (nth r3 0).toBool (selB ((nth r3 0).isB true) (PV.bool (!(nth g6 0).toBool)) PV.unit) (PV.bool false)).isB true) (selB ((selB (nth r3 0).toBool (selB ((nth r3 0).isB true) (PV.bool (!(nth g6 0).toBool)) PV.unit) (PV.bool false)).isB true) (selB (selB ((selB (nth r3 0).toBool (selB ((nth r3 0).isB true) (PV.bool (!(nth g6 0).toBool)) PV.unit) (PV.bool false)).isB true) (selB ((selB (nth r3 0).toBool (selB ((nth r3 0).isB true) (PV.bool (!(nth g6 0).toBool)) PV.unit) (PV.bool false)).isB true) (PV.bool (neI (nth g7 0).toInt (45 : Int))) PV.unit) PV.unit).toBool (PV.bool true) (selB ((selB ((selB (nth r3 0).toBool (selB ((nth r3 0).isB true) (PV.bool (!(nth g6 0).toBool)) PV.unit) (PV.bool false)).isB true) (selB ((selB (nth r3 0).toBool (selB ((nth r3 0).isB true) (PV.bool (!(nth g6 0).toBool)) PV.unit) (PV.bool false)).isB true) (PV.bool (neI (nth g7 0).toInt (45 : Int))) PV.unit) PV.unit).isB false) (PV.bool (eqI (selB ((selB ((selB (nth r3 0).toBool (selB ((nth r3 0).isB true) (PV.bool (!(nth g6 0).toBool)) PV.unit) (PV.bool false)).isB true) (selB ((selB (nth r3 0).toBool (selB ((nth r3 0).isB true) (PV.bool (!(nth g6 0).toBool)) PV.unit) (PV.bool false)).isB true) (PV.bool (neI (nth g7 0).toInt (45 : Int))) PV.unit) PV.unit).isB false) (PV.int ((selB ((selB ((selB (nth r3 0).toBool (selB ((nth r3 0).isB true) (PV.bool (!(nth g6 0).toBool)) PV.unit) (PV.bool false)).isB true) (selB ((selB (nth r3 0).toBool (selB ((nth r3 0).isB true) (PV.bool (!(nth g6 0).toBool)) PV.unit) (PV.bool false)).isB true) (PV.bool (neI (nth g7 0).toInt (45 : Int))) PV.unit) PV.unit).isB false) (nth p2 0) PV.unit).toStr.size : Int)) PV.unit).toInt (1 : Int))) PV.unit)) PV.unit) PV.unit).toBool (PV.bool true) (selB ((selB ((selB (nth r3 0).toBool (selB ((nth r3 0).isB true) (PV.bool (!(nth g6 0).toBool)) PV.unit) (PV.bool false)).isB true) (selB ((selB (nth r3 0).toBool (selB ((nth r3 0).isB true) (PV.bool (!(nth g6 0).toBool)) PV.unit) (PV.bool false)).isB true) (selB (selB ((selB (nth r3 0).toBool (selB ((nth r3 0).isB true) (PV.bool (!(nth g6 0).toBool)) PV.unit) (PV.bool false)).isB true) (selB ((selB (nth r3 0).toBool (selB ((nth r3 0).isB true) (PV.bool (!(nth g6 0).toBool)) PV.unit) (PV.bool false)).isB true) (PV.bool (neI (nth g7 0).toInt (45 : Int))) PV.unit) PV.unit).toBool (PV.bool true) (selB ((selB ((selB (nth r3 0).toBool (selB ((nth r3 0).isB true) (PV.bool (!(nth g6 0).toBool)) PV.unit) (PV.bool false)).isB true) (selB ((selB (nth r3 0).toBool (selB ((nth r3 0).isB true) (PV.bool (!(nth g6 0).toBool)) PV.unit) (PV.bool false)).isB true) (PV.bool (neI (nth g7 0).toInt (45 : Int))) PV.unit) PV.unit).isB false) (PV.bool (eqI (selB ((selB ((selB (nth r3 0).toBool (selB ((nth r3 0).isB true) (PV.bool (!(nth g6 0).toBool)) PV.unit) (PV.bool false)).isB true) (selB ((selB (nth r3 0).toBool (selB ((nth r3 0).isB true) (PV.bool (!(nth g6 0).toBool)) PV.unit) (PV.bool false)).isB true) (PV.bool (neI (nth g7 0).toInt (45 : Int))) PV.unit) PV.unit).isB false) (PV.int ((selB ((selB ((selB (nth r3 0).toBool (selB ((nth r3 0).isB true) (PV.bool (!(nth g6 0).toBool)) PV.unit) (PV.bool false)).isB true) (selB ((selB (nth r3 0).toBool (selB ((nth r3 0).isB true) (PV.bool (!(nth g6 0).toBool)) PV.unit) (PV.bool false)).isB true) (PV.bool (neI (nth g7 0).toInt (45 : Int))) PV.unit) PV.unit).isB false) (nth p2 0) PV.unit).toStr.size : Int)) PV.unit).toInt (1 : Int))) PV.unit)) PV.unit) PV.unit).isB false) (PV.bool (!(nth g10 0).toBool)) PV.unit)) PV.unit) (PV.bool false))]))))))))
  (retE fun q11 => [(nth q11 0)]))
theorem e44 : ∀ I n a, (compF Tryd.prog sg 44).map (fun d => d.ev I n a) = some (F44 I n a) := fun I n a => by kernel_rfl
/-! spec.l2Word -/
noncomputable def L72_0 (I : Interp) (n : Nat) (p2 : List PV) : Option (Ex × List PV) :=
  (iff (ltI (nth p2 0).toInt ((nth p2 1).toStr.size : Int))
  (iff (geI (nth p2 0).toInt (0 : Int))
  (iff (ltI (nth p2 0).toInt ((nth p2 1).toStr.size : Int))
  ((I 74 [(PV.int (((nth p2 1).toStr.data.getD (nth p2 0).toInt.toNat 0).toNat : Int))]).bind fun r3 =>
  (iff (!(nth r3 0).toBool)
  (some (Ex.r, [(PV.int (0 : Int)), (PV.bool false)]))
  (iff (geI (nth p2 0).toInt (0 : Int))
  (iff (ltI (nth p2 0).toInt ((nth p2 1).toStr.size : Int))
  (some (Ex.n, [(PV.int (IntKind.i64.wrap ((nth p2 0).toInt + (1 : Int)))), (nth p2 1), (nth p2 2), (PV.int (IntKind.i64.wrap ((IntKind.i64.wrap ((IntKind.i64.wrap ((10 : Int) * (nth p2 3).toInt)) + (IntKind.i64.wrap (((nth p2 1).toStr.data.getD (nth p2 0).toInt.toNat 0).toNat : Int)))) - (48 : Int))))]))
  none)
  none)))
  none)
  none)
  (some (Ex.x 0, [(nth p2 1), (nth p2 2), (nth p2 3)])))
noncomputable def F72 (I : Interp) (n : Nat) (a : List PV) : Option (List PV) :=
  ((iff ((gtI ((nth a 0).toStr.size : Int) (0 : Int)) == true)
  (iff (geI (0 : Int) (0 : Int))
  (iff (ltI (0 : Int) ((selB ((gtI ((nth a 0).toStr.size : Int) (0 : Int)) == true) (nth a 0) PV.unit).toStr.size : Int))
  (some [(PV.int (((selB ((gtI ((nth a 0).toStr.size : Int) (0 : Int)) == true) (nth a 0) PV.unit).toStr.data.getD (0 : Int).toNat 0).toNat : Int)), (PV.int (((selB ((gtI ((nth a 0).toStr.size : Int) (0 : Int)) == true) (nth a 0) PV.unit).toStr.data.getD (0 : Int).toNat 0).toNat : Int))])
  none)
  none)
  (some [PV.unit, PV.unit])).bind fun g0 =>
  (thenN (iff (selB (gtI ((nth a 0).toStr.size : Int) (0 : Int)) (selB ((gtI ((nth a 0).toStr.size : Int) (0 : Int)) == true) (PV.bool (eqI (nth g0 0).toInt (45 : Int))) PV.unit) (PV.bool false)).toBool
  (iff (geI (1 : Int) (0 : Int))
  (iff (leI (1 : Int) ((nth a 0).toStr.size : Int))
  (iff (leI ((nth a 0).toStr.size : Int) ((nth a 0).toStr.size : Int))
  (some (Ex.n, [(PV.str ((nth a 0).toStr.extract (1 : Int).toNat ((nth a 0).toStr.size : Int).toNat)), (selB (gtI ((nth a 0).toStr.size : Int) (0 : Int)) (selB ((gtI ((nth a 0).toStr.size : Int) (0 : Int)) == true) (PV.bool (eqI (nth g0 0).toInt (45 : Int))) PV.unit) (PV.bool false))]))
  none)
  none)
  none)
  (some (Ex.n, [(nth a 0), (selB (gtI ((nth a 0).toStr.size : Int) (0 : Int)) (selB ((gtI ((nth a 0).toStr.size : Int) (0 : Int)) == true) (PV.bool (eqI (nth g0 0).toInt (45 : Int))) PV.unit) (PV.bool false))])))
  (fun p1 => (iff (selB (ltI ((nth p1 0).toStr.size : Int) (1 : Int)) (PV.bool true) (selB ((ltI ((nth p1 0).toStr.size : Int) (1 : Int)) == false) (PV.bool (gtI (selB ((ltI ((nth p1 0).toStr.size : Int) (1 : Int)) == false) (PV.int ((selB ((ltI ((nth p1 0).toStr.size : Int) (1 : Int)) == false) (nth p1 0) PV.unit).toStr.size : Int)) PV.unit).toInt (10 : Int))) PV.unit)).toBool
  (some [(PV.int (0 : Int)), (PV.bool false)])
  (thenN (thenE (loopEv (L72_0 I n) n [(PV.int (0 : Int)), (nth p1 0), (nth p1 1), (PV.int (0 : Int))])
  (passB 0))
  (fun p4 => ((I 24 [(nth p4 2)]).bind fun r5 =>
  (iff (selB (cmpS BinOp.neq (nth r5 0).toStr (nth p4 0).toStr) (PV.bool true) (selB ((cmpS BinOp.neq (nth r5 0).toStr (nth p4 0).toStr) == false) (selB (selB ((cmpS BinOp.neq (nth r5 0).toStr (nth p4 0).toStr) == false) (selB ((cmpS BinOp.neq (nth r5 0).toStr (nth p4 0).toStr) == false) (nth p4 1) PV.unit) PV.unit).toBool (selB ((selB ((cmpS BinOp.neq (nth r5 0).toStr (nth p4 0).toStr) == false) (selB ((cmpS BinOp.neq (nth r5 0).toStr (nth p4 0).toStr) == false) (nth p4 1) PV.unit) PV.unit).isB true) (PV.bool (eqI (selB ((selB ((cmpS BinOp.neq (nth r5 0).toStr (nth p4 0).toStr) == false) (selB ((cmpS BinOp.neq (nth r5 0).toStr (nth p4 0).toStr) == false) (nth p4 1) PV.unit) PV.unit).isB true) (nth p4 2) PV.unit).toInt (0 : Int))) PV.unit) (PV.bool false)) PV.unit)).toBool
  (some [(PV.int (0 : Int)), (PV.bool false)])
  (thenN (iff (nth p4 1).toBool
  (some (Ex.n, [(PV.int (IntKind.i64.wrap ((0 : Int) - (nth p4 2).toInt)))]))
  (some (Ex.n, [(nth p4 2)])))
  (fun p6 => ((I 81 [(nth p6 0)]).bind fun r7 =>
  (some [(nth p6 0), (nth r7 0)])))
  (retE fun q8 => [(nth q8 0), (nth q8 1)])))))
  (retE fun q9 => [(nth q9 0), (nth q9 1)]))))
  (retE fun q10 => [(nth q10 0), (nth q10 1)])))
theorem e72 : ∀ I n a, (compF Tryd.prog sg 72).map (fun d => d.ev I n a) = some (F72 I n a) := fun I n a => by kernel_rfl
/-! spec.Tokens -/
noncomputable def L43_0 (I : Interp) (n : Nat) (p2 : List PV) : Option (Ex × List PV) :=
  ((iff ((ltI (nth p2 1).toInt ((nth p2 2).toStr.size : Int)) == true)
  (iff (geI (selB ((ltI (nth p2 1).toInt ((nth p2 2).toStr.size : Int)) == true) (nth p2 1) PV.unit).toInt (0 : Int))
  (iff (ltI (selB ((ltI (nth p2 1).toInt ((nth p2 2).toStr.size : Int)) == true) (nth p2 1) PV.unit).toInt ((selB ((ltI (nth p2 1).toInt ((nth p2 2).toStr.size : Int)) == true) (nth p2 2) PV.unit).toStr.size : Int))
  (some [(PV.int (((selB ((ltI (nth p2 1).toInt ((nth p2 2).toStr.size : Int)) == true) (nth p2 2) PV.unit).toStr.data.getD (selB ((ltI (nth p2 1).toInt ((nth p2 2).toStr.size : Int)) == true) (nth p2 1) PV.unit).toInt.toNat 0).toNat : Int)), (PV.int (((selB ((ltI (nth p2 1).toInt ((nth p2 2).toStr.size : Int)) == true) (nth p2 2) PV.unit).toStr.data.getD (selB ((ltI (nth p2 1).toInt ((nth p2 2).toStr.size : Int)) == true) (nth p2 1) PV.unit).toInt.toNat 0).toNat : Int))])
  none)
  none)
  (some [PV.unit, PV.unit])).bind fun g3 =>
  ((iff ((ltI (nth p2 1).toInt ((nth p2 2).toStr.size : Int)) == true)
  ((I 71 [(nth g3 0)]).bind fun r4 =>
  (some [(nth r4 0), (nth r4 0)]))
  (some [PV.unit, PV.unit])).bind fun g5 =>
  (iff (selB (ltI (nth p2 1).toInt ((nth p2 2).toStr.size : Int)) (selB ((ltI (nth p2 1).toInt ((nth p2 2).toStr.size : Int)) == true) (PV.bool (!(nth g5 0).toBool)) PV.unit) (PV.bool false)).toBool
  (some (Ex.n, [(nth p2 0), (PV.int (IntKind.i64.wrap ((nth p2 1).toInt + (1 : Int)))), (nth p2 2), (nth p2 3), (nth p2 4)]))
  (some (Ex.x 3, [(nth p2 0), (nth p2 1), (nth p2 2), (nth p2 3), (nth p2 4)])))))
noncomputable def L43_1 (I : Interp) (n : Nat) (p0 : List PV) : Option (Ex × List PV) :=
  (iff (ltI (nth p0 2).toInt ((nth p0 0).toStr.size : Int))
  (thenN (iff (geI (nth p0 2).toInt (0 : Int))
  (iff (ltI (nth p0 2).toInt ((nth p0 0).toStr.size : Int))
  (thenN (iff (eqI (((nth p0 0).toStr.data.getD (nth p0 2).toInt.toNat 0).toNat : Int) (32 : Int))
  (some (Ex.n, [(PV.bool (eqI (((nth p0 0).toStr.data.getD (nth p0 2).toInt.toNat 0).toNat : Int) (32 : Int))), (PV.int (((nth p0 0).toStr.data.getD (nth p0 2).toInt.toNat 0).toNat : Int)), (nth p0 3), (nth p0 0), (nth p0 1), (nth p0 2)]))
  (some (Ex.n, [(PV.bool (eqI (((nth p0 0).toStr.data.getD (nth p0 2).toInt.toNat 0).toNat : Int) (10 : Int))), (PV.int (((nth p0 0).toStr.data.getD (nth p0 2).toInt.toNat 0).toNat : Int)), (nth p0 3), (nth p0 0), (nth p0 1), (nth p0 2)])))
  (fun p1 => (iff (nth p1 0).toBool
  (some (Ex.n, [(nth p1 3), (nth p1 4), (PV.int (IntKind.i64.wrap ((nth p1 5).toInt + (1 : Int)))), (nth p1 2)]))
  (iff (eqI (nth p1 1).toInt (40 : Int))
  (iff (leN ((nth p1 2).toList.length + ((PV.agg [(PV.int (1 : Int)), (nth p1 5), (PV.int (0 : Int)), (PV.str (⟨#[40]⟩ : ByteArray))]) :: ([] : List PV)).length) 3518437208883)
  (some (Ex.n, [(nth p1 3), (nth p1 4), (PV.int (IntKind.i64.wrap ((nth p1 5).toInt + (1 : Int)))), (PV.list ((nth p1 2).toList ++ ((PV.agg [(PV.int (1 : Int)), (nth p1 5), (PV.int (0 : Int)), (PV.str (⟨#[40]⟩ : ByteArray))]) :: ([] : List PV))))]))
  none)
  (iff (eqI (nth p1 1).toInt (41 : Int))
  (iff (leN ((nth p1 2).toList.length + ((PV.agg [(PV.int (2 : Int)), (nth p1 5), (PV.int (0 : Int)), (PV.str (⟨#[41]⟩ : ByteArray))]) :: ([] : List PV)).length) 3518437208883)
  (some (Ex.n, [(nth p1 3), (nth p1 4), (PV.int (IntKind.i64.wrap ((nth p1 5).toInt + (1 : Int)))), (PV.list ((nth p1 2).toList ++ ((PV.agg [(PV.int (2 : Int)), (nth p1 5), (PV.int (0 : Int)), (PV.str (⟨#[41]⟩ : ByteArray))]) :: ([] : List PV))))]))
  none)
  (thenN (thenE (loopEv (L43_0 I n) n [(nth p1 2), (nth p1 5), (nth p1 3), (nth p1 4), (nth p1 5)])
  (passB 3))
  (fun p6 => (iff (geI (nth p6 4).toInt (0 : Int))
  (iff (leI (nth p6 4).toInt (nth p6 1).toInt)
  (iff (leI (nth p6 1).toInt ((nth p6 2).toStr.size : Int))
  ((I 72 [(PV.str ((nth p6 2).toStr.extract (nth p6 4).toInt.toNat (nth p6 1).toInt.toNat))]).bind fun r7 =>
  (thenN (iff (nth r7 1).toBool
  (iff (geI (nth p6 4).toInt (0 : Int))
  (iff (leI (nth p6 4).toInt (nth p6 1).toInt)
  (iff (leI (nth p6 1).toInt ((nth p6 2).toStr.size : Int))
  (iff (leN ((nth p6 0).toList.length + ((PV.agg [(PV.int (3 : Int)), (nth p6 4), (nth r7 0), (PV.str ((nth p6 2).toStr.extract (nth p6 4).toInt.toNat (nth p6 1).toInt.toNat))]) :: ([] : List PV)).length) 3518437208883)
  (some (Ex.n, [(nth p6 1), (nth p6 2), (nth p6 3), (PV.list ((nth p6 0).toList ++ ((PV.agg [(PV.int (3 : Int)), (nth p6 4), (nth r7 0), (PV.str ((nth p6 2).toStr.extract (nth p6 4).toInt.toNat (nth p6 1).toInt.toNat))]) :: ([] : List PV))))]))
  none)
  none)
  none)
  none)
  (iff (geI (nth p6 4).toInt (0 : Int))
  (iff (leI (nth p6 4).toInt (nth p6 1).toInt)
  (iff (leI (nth p6 1).toInt ((nth p6 2).toStr.size : Int))
  ((I 44 [(PV.str ((nth p6 2).toStr.extract (nth p6 4).toInt.toNat (nth p6 1).toInt.toNat))]).bind fun r8 =>
  (iff (nth r8 0).toBool
  (iff (geI (nth p6 4).toInt (0 : Int))
  (iff (leI (nth p6 4).toInt (nth p6 1).toInt)
  (iff (leI (nth p6 1).toInt ((nth p6 2).toStr.size : Int))
  (iff (leN ((nth p6 0).toList.length + ((PV.agg [(PV.int (4 : Int)), (nth p6 4), (PV.int (0 : Int)), (PV.str ((nth p6 2).toStr.extract (nth p6 4).toInt.toNat (nth p6 1).toInt.toNat))]) :: ([] : List PV)).length) 3518437208883)
  (some (Ex.n, [(nth p6 1), (nth p6 2), (nth p6 3), (PV.list ((nth p6 0).toList ++ ((PV.agg [(PV.int (4 : Int)), (nth p6 4), (PV.int (0 : Int)), (PV.str ((nth p6 2).toStr.extract (nth p6 4).toInt.toNat (nth p6 1).toInt.toNat))]) :: ([] : List PV))))]))
  none)
  none)
  none)
  none)
  (some (Ex.r, [(nth p6 3), (nth p6 4)]))))
  none)
  none)
  none))
  (fun p9 => (some (Ex.n, [(nth p9 1), (nth p9 2), (nth p9 0), (nth p9 3)])))
  (passB 1)))
  none)
  none)
  none))
  (passB 1))))))
  (passB 1))
  none)
  none)
  (fun p10 => (some (Ex.n, [(nth p10 0), (nth p10 1), (nth p10 2), (nth p10 3)])))
  passE)
  (some (Ex.x 0, [(nth p0 3)])))
noncomputable def F43 (I : Interp) (n : Nat) (a : List PV) : Option (List PV) :=
  (iff (gtI ((nth a 0).toStr.size : Int) (4000 : Int))
  (some [(PV.list ([] : List PV)), (PV.int (0 : Int))])
  (thenN (thenE (loopEv (L43_1 I n) n [(nth a 0), (PV.list ([] : List PV)), (PV.int (0 : Int)), (PV.list ([] : List PV))])
  (passB 0))
  (fun p11 => (some [(nth p11 0), (PV.int (-1 : Int))]))
  (retE fun q12 => [(nth q12 0), (nth q12 1)])))
theorem e43 : ∀ I n a, (compF Tryd.prog sg 43).map (fun d => d.ev I n a) = some (F43 I n a) := fun I n a => by kernel_rfl
/-! impl.tokenOf -/
noncomputable def F76 (I : Interp) (n : Nat) (a : List PV) : Option (List PV) :=
  (iff (cmpS BinOp.eql (nth a 0).toStr (⟨#[40]⟩ : ByteArray))
  (some [(PV.agg [(PV.int (1 : Int)), (nth a 1), (PV.int (0 : Int)), (nth a 0)]), (PV.bool true)])
  (iff (cmpS BinOp.eql (nth a 0).toStr (⟨#[41]⟩ : ByteArray))
  (some [(PV.agg [(PV.int (2 : Int)), (nth a 1), (PV.int (0 : Int)), (nth a 0)]), (PV.bool true)])
  ((I 86 [(nth a 0)]).bind fun r0 =>
  ((iff ((nth r0 1).isB true)
  ((I 27 [(selB ((nth r0 1).isB true) (nth r0 0) PV.unit)]).bind fun r1 =>
  (some [(nth r1 0), (nth r1 0)]))
  (some [PV.unit, PV.unit])).bind fun g2 =>
  ((iff ((selB (nth r0 1).toBool (selB ((nth r0 1).isB true) (PV.bool (cmpS BinOp.eql (nth g2 0).toStr (selB ((nth r0 1).isB true) (nth a 0) PV.unit).toStr)) PV.unit) (PV.bool false)).isB true)
  ((I 83 [(selB ((selB (nth r0 1).toBool (selB ((nth r0 1).isB true) (PV.bool (cmpS BinOp.eql (nth g2 0).toStr (selB ((nth r0 1).isB true) (nth a 0) PV.unit).toStr)) PV.unit) (PV.bool false)).isB true) (nth r0 0) PV.unit)]).bind fun r3 =>
  (some [(nth r3 0), (nth r3 0)]))
  (some [PV.unit, PV.unit])).bind fun g4 =>
  (iff (selB (selB (nth r0 1).toBool (selB ((nth r0 1).isB true) (PV.bool (cmpS BinOp.eql (nth g2 0).toStr (selB ((nth r0 1).isB true) (nth a 0) PV.unit).toStr)) PV.unit) (PV.bool false)).toBool (nth g4 0) (PV.bool false)).toBool
  (some [(PV.agg [(PV.int (3 : Int)), (nth a 1), (nth r0 0), (nth a 0)]), (PV.bool true)])
  ((I 46 [(nth a 0)]).bind fun r5 =>
  (some [(PV.agg [(PV.int (4 : Int)), (nth a 1), (PV.int (0 : Int)), (nth a 0)]), (nth r5 0)]))))))))
theorem e76 : ∀ I n a, (compF Tryd.prog sg 76).map (fun d => d.ev I n a) = some (F76 I n a) := fun I n a => by kernel_rfl
/-! impl.Tokens -/
noncomputable def L45_0 (I : Interp) (n : Nat) (p3 : List PV) : Option (Ex × List PV) :=
  ((iff ((ltI (nth p3 2).toInt ((nth p3 3).toStr.size : Int)) == true)
  (iff (geI (selB ((ltI (nth p3 2).toInt ((nth p3 3).toStr.size : Int)) == true) (nth p3 2) PV.unit).toInt (0 : Int))
  (iff (ltI (selB ((ltI (nth p3 2).toInt ((nth p3 3).toStr.size : Int)) == true) (nth p3 2) PV.unit).toInt ((selB ((ltI (nth p3 2).toInt ((nth p3 3).toStr.size : Int)) == true) (nth p3 3) PV.unit).toStr.size : Int))
  (some [(PV.int (((selB ((ltI (nth p3 2).toInt ((nth p3 3).toStr.size : Int)) == true) (nth p3 3) PV.unit).toStr.data.getD (selB ((ltI (nth p3 2).toInt ((nth p3 3).toStr.size : Int)) == true) (nth p3 2) PV.unit).toInt.toNat 0).toNat : Int)), (PV.int (((selB ((ltI (nth p3 2).toInt ((nth p3 3).toStr.size : Int)) == true) (nth p3 3) PV.unit).toStr.data.getD (selB ((ltI (nth p3 2).toInt ((nth p3 3).toStr.size : Int)) == true) (nth p3 2) PV.unit).toInt.toNat 0).toNat : Int))])
  none)
  none)
  (some [PV.unit, PV.unit])).bind fun g4 =>
  ((iff ((ltI (nth p3 2).toInt ((nth p3 3).toStr.size : Int)) == true)
  ((I 75 [(PV.str (⟨#[32, 10, 40, 41]⟩ : ByteArray)), (nth g4 0)]).bind fun r5 =>
  (some [(nth r5 0), (nth r5 0)]))
  (some [PV.unit, PV.unit])).bind fun g6 =>
  (iff (selB (ltI (nth p3 2).toInt ((nth p3 3).toStr.size : Int)) (selB ((ltI (nth p3 2).toInt ((nth p3 3).toStr.size : Int)) == true) (PV.bool (ltI (nth g6 0).toInt (0 : Int))) PV.unit) (PV.bool false)).toBool
  (some (Ex.n, [(nth p3 0), (nth p3 1), (PV.int (IntKind.i64.wrap ((nth p3 2).toInt + (1 : Int)))), (nth p3 3)]))
  (some (Ex.x 2, [(nth p3 0), (nth p3 1), (nth p3 2), (nth p3 3)])))))
noncomputable def L45_1 (I : Interp) (n : Nat) (p0 : List PV) : Option (Ex × List PV) :=
  (iff (ltI (nth p0 0).toInt ((nth p0 1).toStr.size : Int))
  (thenN (iff (geI (nth p0 0).toInt (0 : Int))
  (iff (ltI (nth p0 0).toInt ((nth p0 1).toStr.size : Int))
  ((iff ((eqI (((nth p0 1).toStr.data.getD (nth p0 0).toInt.toNat 0).toNat : Int) (32 : Int)) == false)
  (iff (geI (selB ((eqI (((nth p0 1).toStr.data.getD (nth p0 0).toInt.toNat 0).toNat : Int) (32 : Int)) == false) (nth p0 0) PV.unit).toInt (0 : Int))
  (iff (ltI (selB ((eqI (((nth p0 1).toStr.data.getD (nth p0 0).toInt.toNat 0).toNat : Int) (32 : Int)) == false) (nth p0 0) PV.unit).toInt ((selB ((eqI (((nth p0 1).toStr.data.getD (nth p0 0).toInt.toNat 0).toNat : Int) (32 : Int)) == false) (nth p0 1) PV.unit).toStr.size : Int))
  (some [(PV.int (((selB ((eqI (((nth p0 1).toStr.data.getD (nth p0 0).toInt.toNat 0).toNat : Int) (32 : Int)) == false) (nth p0 1) PV.unit).toStr.data.getD (selB ((eqI (((nth p0 1).toStr.data.getD (nth p0 0).toInt.toNat 0).toNat : Int) (32 : Int)) == false) (nth p0 0) PV.unit).toInt.toNat 0).toNat : Int)), (PV.int (((selB ((eqI (((nth p0 1).toStr.data.getD (nth p0 0).toInt.toNat 0).toNat : Int) (32 : Int)) == false) (nth p0 1) PV.unit).toStr.data.getD (selB ((eqI (((nth p0 1).toStr.data.getD (nth p0 0).toInt.toNat 0).toNat : Int) (32 : Int)) == false) (nth p0 0) PV.unit).toInt.toNat 0).toNat : Int))])
  none)
  none)
  (some [PV.unit, PV.unit])).bind fun g1 =>
  (iff (selB (eqI (((nth p0 1).toStr.data.getD (nth p0 0).toInt.toNat 0).toNat : Int) (32 : Int)) (PV.bool true) (selB ((eqI (((nth p0 1).toStr.data.getD (nth p0 0).toInt.toNat 0).toNat : Int) (32 : Int)) == false) (PV.bool (eqI (nth g1 0).toInt (10 : Int))) PV.unit)).toBool
  (some (Ex.n, [(PV.int (IntKind.i64.wrap ((nth p0 0).toInt + (1 : Int)))), (nth p0 1), (nth p0 2)]))
  (thenN (iff (geI (nth p0 0).toInt (0 : Int))
  (iff (ltI (nth p0 0).toInt ((nth p0 1).toStr.size : Int))
  ((iff ((neI (((nth p0 1).toStr.data.getD (nth p0 0).toInt.toNat 0).toNat : Int) (40 : Int)) == true)
  (iff (geI (selB ((neI (((nth p0 1).toStr.data.getD (nth p0 0).toInt.toNat 0).toNat : Int) (40 : Int)) == true) (nth p0 0) PV.unit).toInt (0 : Int))
  (iff (ltI (selB ((neI (((nth p0 1).toStr.data.getD (nth p0 0).toInt.toNat 0).toNat : Int) (40 : Int)) == true) (nth p0 0) PV.unit).toInt ((selB ((neI (((nth p0 1).toStr.data.getD (nth p0 0).toInt.toNat 0).toNat : Int) (40 : Int)) == true) (nth p0 1) PV.unit).toStr.size : Int))
  (some [(PV.int (((selB ((neI (((nth p0 1).toStr.data.getD (nth p0 0).toInt.toNat 0).toNat : Int) (40 : Int)) == true) (nth p0 1) PV.unit).toStr.data.getD (selB ((neI (((nth p0 1).toStr.data.getD (nth p0 0).toInt.toNat 0).toNat : Int) (40 : Int)) == true) (nth p0 0) PV.unit).toInt.toNat 0).toNat : Int)), (PV.int (((selB ((neI (((nth p0 1).toStr.data.getD (nth p0 0).toInt.toNat 0).toNat : Int) (40 : Int)) == true) (nth p0 1) PV.unit).toStr.data.getD (selB ((neI (((nth p0 1).toStr.data.getD (nth p0 0).toInt.toNat 0).toNat : Int) (40 : Int)) == true) (nth p0 0) PV.unit).toInt.toNat 0).toNat : Int))])
  none)
  none)
  (some [PV.unit, PV.unit])).bind fun g2 =>
  (iff (selB (neI (((nth p0 1).toStr.data.getD (nth p0 0).toInt.toNat 0).toNat : Int) (40 : Int)) (selB ((neI (((nth p0 1).toStr.data.getD (nth p0 0).toInt.toNat 0).toNat : Int) (40 : Int)) == true) (PV.bool (neI (nth g2 0).toInt (41 : Int))) PV.unit) (PV.bool false)).toBool
  (thenN (thenE (loopEv (L45_0 I n) n [(nth p0 0), (nth p0 2), (PV.int (IntKind.i64.wrap ((nth p0 0).toInt + (1 : Int)))), (nth p0 1)])
  (passB 2))
  (fun p7 => (some (Ex.n, [(nth p7 0), (nth p7 1), (nth p7 2), (nth p7 3)])))
  passE)
  (some (Ex.n, [(nth p0 0), (nth p0 2), (PV.int (IntKind.i64.wrap ((nth p0 0).toInt + (1 : Int)))), (nth p0 1)]))))
  none)
  none)
  (fun p8 => (iff (geI (nth p8 0).toInt (0 : Int))
  (iff (leI (nth p8 0).toInt (nth p8 2).toInt)
  (iff (leI (nth p8 2).toInt ((nth p8 3).toStr.size : Int))
  ((I 76 [(PV.str ((nth p8 3).toStr.extract (nth p8 0).toInt.toNat (nth p8 2).toInt.toNat)), (nth p8 0)]).bind fun r9 =>
  (iff (!(nth r9 1).toBool)
  (some (Ex.r, [(PV.list ([] : List PV)), (nth p8 0)]))
  (iff (leN ((nth p8 1).toList.length + ((nth r9 0) :: ([] : List PV)).length) 3518437208883)
  (some (Ex.n, [(nth p8 2), (nth p8 3), (PV.list ((nth p8 1).toList ++ ((nth r9 0) :: ([] : List PV))))]))
  none)))
  none)
  none)
  none))
  (passB 1))))
  none)
  none)
  (fun p10 => (some (Ex.n, [(nth p10 0), (nth p10 1), (nth p10 2)])))
  passE)
  (some (Ex.x 0, [(nth p0 2)])))
noncomputable def F45 (I : Interp) (n : Nat) (a : List PV) : Option (List PV) :=
  (iff (gtI ((nth a 0).toStr.size : Int) (4000 : Int))
  (some [(PV.list ([] : List PV)), (PV.int (0 : Int))])
  (thenN (thenE (loopEv (L45_1 I n) n [(PV.int (0 : Int)), (nth a 0), (PV.list ([] : List PV))])
  (passB 0))
  (fun p11 => (some [(nth p11 0), (PV.int (-1 : Int))]))
  (retE fun q12 => [(nth q12 0), (nth q12 1)])))
theorem e45 : ∀ I n a, (compF Tryd.prog sg 45).map (fun d => d.ev I n a) = some (F45 I n a) := fun I n a => by kernel_rfl
/-! spec.Renamed -/
noncomputable def L21_0 (I : Interp) (n : Nat) (p1 : List PV) : Option (Ex × List PV) :=
  (iff (ltI (nth p1 0).toInt ((nth p1 1).toList.length : Int))
  (thenN (iff (geI (nth p1 0).toInt (0 : Int))
  (iff (ltI (nth p1 0).toInt ((nth p1 1).toList.length : Int))
  ((iff ((eqI ((nth (nth p1 1).toList (nth p1 0).toInt.toNat).fld 0).toInt (4 : Int)) == true)
  ((I 49 [(selB ((eqI ((nth (nth p1 1).toList (nth p1 0).toInt.toNat).fld 0).toInt (4 : Int)) == true) (nth p1 2) PV.unit), (selB ((eqI ((nth (nth p1 1).toList (nth p1 0).toInt.toNat).fld 0).toInt (4 : Int)) == true) ((nth (nth p1 1).toList (nth p1 0).toInt.toNat).fld 1) PV.unit)]).bind fun r2 =>
  (some [(nth r2 0), (nth r2 0)]))
  (some [PV.unit, PV.unit])).bind fun g3 =>
  (iff (selB (eqI ((nth (nth p1 1).toList (nth p1 0).toInt.toNat).fld 0).toInt (4 : Int)) (nth g3 0) (PV.bool false)).toBool
  (iff (geI (nth p1 6).toInt (0 : Int))
  (iff (leI (nth p1 6).toInt ((nth (nth p1 1).toList (nth p1 0).toInt.toNat).fld 1).toInt)
  (iff (leI ((nth (nth p1 1).toList (nth p1 0).toInt.toNat).fld 1).toInt ((nth p1 5).toStr.size : Int))
  (iff (leI ((catB (nth p1 4).toStr ((nth p1 5).toStr.extract (nth p1 6).toInt.toNat ((nth (nth p1 1).toList (nth p1 0).toInt.toNat).fld 1).toInt.toNat)).size : Int) (9223372036854775807 : Int))
  (iff (leI ((catB (catB (nth p1 4).toStr ((nth p1 5).toStr.extract (nth p1 6).toInt.toNat ((nth (nth p1 1).toList (nth p1 0).toInt.toNat).fld 1).toInt.toNat)) (nth p1 3).toStr).size : Int) (9223372036854775807 : Int))
  (some (Ex.n, [(nth p1 0), (nth p1 1), (nth p1 2), (nth p1 3), (PV.str (catB (catB (nth p1 4).toStr ((nth p1 5).toStr.extract (nth p1 6).toInt.toNat ((nth (nth p1 1).toList (nth p1 0).toInt.toNat).fld 1).toInt.toNat)) (nth p1 3).toStr)), (nth p1 5), (PV.int (IntKind.i64.wrap (((nth (nth p1 1).toList (nth p1 0).toInt.toNat).fld 1).toInt + (((nth (nth p1 1).toList (nth p1 0).toInt.toNat).fld 3).toStr.size : Int))))]))
  none)
  none)
  none)
  none)
  none)
  (some (Ex.n, [(nth p1 0), (nth p1 1), (nth p1 2), (nth p1 3), (nth p1 4), (nth p1 5), (nth p1 6)]))))
  none)
  none)
  (fun p4 => (some (Ex.n, [(PV.int (IntKind.i64.wrap ((nth p4 0).toInt + (1 : Int)))), (nth p4 1), (nth p4 2), (nth p4 3), (nth p4 4), (nth p4 5), (nth p4 6)])))
  passE)
  (some (Ex.x 0, [(nth p1 4), (nth p1 5), (nth p1 6)])))
noncomputable def F21 (I : Interp) (n : Nat) (a : List PV) : Option (List PV) :=
  ((I 43 [(nth a 0)]).bind fun r0 =>
  (iff (geI (nth r0 1).toInt (0 : Int))
  (some [(PV.str (⟨#[]⟩ : ByteArray))])
  (thenN (thenE (loopEv (L21_0 I n) n [(PV.int (0 : Int)), (nth r0 0), (nth a 1), (nth a 2), (PV.str (⟨#[]⟩ : ByteArray)), (nth a 0), (PV.int (0 : Int))])
  (passB 0))
  (fun p5 => (iff (geI (nth p5 2).toInt (0 : Int))
  (iff (leI (nth p5 2).toInt ((nth p5 1).toStr.size : Int))
  (iff (leI ((nth p5 1).toStr.size : Int) ((nth p5 1).toStr.size : Int))
  (iff (leI ((catB (nth p5 0).toStr ((nth p5 1).toStr.extract (nth p5 2).toInt.toNat ((nth p5 1).toStr.size : Int).toNat)).size : Int) (9223372036854775807 : Int))
  (some [(PV.str (catB (nth p5 0).toStr ((nth p5 1).toStr.extract (nth p5 2).toInt.toNat ((nth p5 1).toStr.size : Int).toNat)))])
  none)
  none)
  none)
  none))
  (retE fun q6 => [(nth q6 0)]))))
theorem e21 : ∀ I n a, (compF Tryd.prog sg 21).map (fun d => d.ev I n a) = some (F21 I n a) := fun I n a => by kernel_rfl
/-! impl.Renamed -/
noncomputable def L22_0 (I : Interp) (n : Nat) (p1 : List PV) : Option (Ex × List PV) :=
  (iff (ltI (nth p1 0).toInt (nth p1 1).toInt)
  (thenN (iff (geI (nth p1 0).toInt (0 : Int))
  (iff (ltI (nth p1 0).toInt ((nth p1 7).toList.length : Int))
  ((iff ((eqI ((nth (nth p1 7).toList (nth p1 0).toInt.toNat).fld 0).toInt (4 : Int)) == true)
  ((I 50 [(selB ((eqI ((nth (nth p1 7).toList (nth p1 0).toInt.toNat).fld 0).toInt (4 : Int)) == true) (nth p1 2) PV.unit), (selB ((eqI ((nth (nth p1 7).toList (nth p1 0).toInt.toNat).fld 0).toInt (4 : Int)) == true) ((nth (nth p1 7).toList (nth p1 0).toInt.toNat).fld 1) PV.unit)]).bind fun r2 =>
  (some [(nth r2 0), (nth r2 0)]))
  (some [PV.unit, PV.unit])).bind fun g3 =>
  (iff (selB (eqI ((nth (nth p1 7).toList (nth p1 0).toInt.toNat).fld 0).toInt (4 : Int)) (nth g3 0) (PV.bool false)).toBool
  (iff (geI (nth p1 6).toInt (0 : Int))
  (iff (leI (nth p1 6).toInt ((nth (nth p1 7).toList (nth p1 0).toInt.toNat).fld 1).toInt)
  (iff (leI ((nth (nth p1 7).toList (nth p1 0).toInt.toNat).fld 1).toInt ((nth p1 5).toStr.size : Int))
  (iff (leI ((catB ((nth p1 5).toStr.extract (nth p1 6).toInt.toNat ((nth (nth p1 7).toList (nth p1 0).toInt.toNat).fld 1).toInt.toNat) (nth p1 3).toStr).size : Int) (9223372036854775807 : Int))
  (iff (leI ((catB (nth p1 4).toStr (catB ((nth p1 5).toStr.extract (nth p1 6).toInt.toNat ((nth (nth p1 7).toList (nth p1 0).toInt.toNat).fld 1).toInt.toNat) (nth p1 3).toStr)).size : Int) (9223372036854775807 : Int))
  (some (Ex.n, [(nth p1 0), (nth p1 1), (nth p1 2), (nth p1 3), (PV.str (catB (nth p1 4).toStr (catB ((nth p1 5).toStr.extract (nth p1 6).toInt.toNat ((nth (nth p1 7).toList (nth p1 0).toInt.toNat).fld 1).toInt.toNat) (nth p1 3).toStr))), (nth p1 5), (PV.int (IntKind.i64.wrap (((nth (nth p1 7).toList (nth p1 0).toInt.toNat).fld 1).toInt + (((nth (nth p1 7).toList (nth p1 0).toInt.toNat).fld 3).toStr.size : Int)))), (nth p1 7)]))
  none)
  none)
  none)
  none)
  none)
  (some (Ex.n, [(nth p1 0), (nth p1 1), (nth p1 2), (nth p1 3), (nth p1 4), (nth p1 5), (nth p1 6), (nth p1 7)]))))
  none)
  none)
  (fun p4 => (some (Ex.n, [(PV.int (IntKind.i64.wrap ((nth p4 0).toInt + (1 : Int)))), (nth p4 1), (nth p4 2), (nth p4 3), (nth p4 4), (nth p4 5), (nth p4 6), (nth p4 7)])))
  passE)
  (some (Ex.x 0, [(nth p1 4), (nth p1 5), (nth p1 6)])))
noncomputable def F22 (I : Interp) (n : Nat) (a : List PV) : Option (List PV) :=
  ((I 45 [(nth a 0)]).bind fun r0 =>
  (iff (neI (nth r0 1).toInt (-1 : Int))
  (some [(PV.str (⟨#[]⟩ : ByteArray))])
  (thenN (thenE (loopEv (L22_0 I n) n [(PV.int (0 : Int)), (PV.int ((nth r0 0).toList.length : Int)), (nth a 1), (nth a 2), (PV.str (⟨#[]⟩ : ByteArray)), (nth a 0), (PV.int (0 : Int)), (nth r0 0)])
  (passB 0))
  (fun p5 => (iff (geI (nth p5 2).toInt (0 : Int))
  (iff (leI (nth p5 2).toInt ((nth p5 1).toStr.size : Int))
  (iff (leI ((nth p5 1).toStr.size : Int) ((nth p5 1).toStr.size : Int))
  (iff (leI ((catB (nth p5 0).toStr ((nth p5 1).toStr.extract (nth p5 2).toInt.toNat ((nth p5 1).toStr.size : Int).toNat)).size : Int) (9223372036854775807 : Int))
  (some [(PV.str (catB (nth p5 0).toStr ((nth p5 1).toStr.extract (nth p5 2).toInt.toNat ((nth p5 1).toStr.size : Int).toNat)))])
  none)
  none)
  none)
  none))
  (retE fun q6 => [(nth q6 0)]))))
theorem e22 : ∀ I n a, (compF Tryd.prog sg 22).map (fun d => d.ev I n a) = some (F22 I n a) := fun I n a => by kernel_rfl
/-! laws.FnExactRenamed -/
noncomputable def F6 (I : Interp) (n : Nat) (a : List PV) : Option (List PV) :=
  (iff (gtI ((nth a 0).toStr.size : Int) (1048576 : Int))
  (some [(PV.bool true)])
  (iff (gtI ((nth a 1).toList.length : Int) (1048576 : Int))
  (some [(PV.bool true)])
  (iff (gtI ((nth a 2).toStr.size : Int) (1048576 : Int))
  (some [(PV.bool true)])
  ((I 15 [(nth a 1)]).bind fun r0 =>
  ((I 21 [(nth a 0), (nth r0 0), (nth a 2)]).bind fun r1 =>
  ((I 15 [(nth a 1)]).bind fun r2 =>
  ((I 22 [(nth a 0), (nth r2 0), (nth a 2)]).bind fun r3 =>
  (iff (cmpS BinOp.neq (nth r3 0).toStr (nth r1 0).toStr)
  (some [(PV.bool false)])
  ((I 15 [(nth a 1)]).bind fun r4 =>
  ((I 18 [(nth r2 0), (nth r4 0)]).bind fun r5 =>
  (iff (!(nth r5 0).toBool)
  (some [(PV.bool false)])
  (some [(PV.bool true)]))))))))))))
theorem e6 : ∀ I n a, (compF Tryd.prog sg 6).map (fun d => d.ev I n a) = some (F6 I n a) := fun I n a => by kernel_rfl
end Go.Proofs.YthmhgnnaihkjaaaDoor.GFnExactRenamed
