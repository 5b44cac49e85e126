/- The pure programs of the functions that the law FnExactBindText reaches, out of the compiled code. No conditions. -/
import Derived.Test.YtjaboelhknoamaaDoorRows
import Derived.Test.YtjaboelhknoamaaDoorRscZr
namespace Go.Proofs.YtjaboelhknoamaaDoor.GFnExactBindText
open Go Go.Rsc Go.Proofs.YtjaboelhknoamaaDoor
set_option maxRecDepth 100000
set_option linter.unusedVariables false
def sg : FuncId → Option Sig := fun f => match f with
  | 43 => some { ps := [PM.mut (SD.own 9 false), PM.ro (SD.str)], rs := [RM.v (SD.str)], orc := some (Orc.join) }
  | 58 => some { ps := [PM.ro (SD.int (IntKind.i64))], rs := [RM.v (SD.str)], orc := some (Orc.itoa) }
  | 35 => some { ps := [PM.ro (SD.int (IntKind.i64)), PM.ro (SD.int (IntKind.i64)), PM.ro (SD.int (IntKind.i64))], rs := [RM.v (SD.bool)], orc := none }
  | 40 => some { ps := [PM.ro (SD.bor 3), PM.ro (SD.bor 3)], rs := [RM.v (SD.bool)], orc := none }
  | 38 => some { ps := [PM.ro (SD.int (IntKind.i64)), PM.ro (SD.int (IntKind.i64)), PM.ro (SD.int (IntKind.i64))], rs := [RM.v (SD.bool)], orc := none }
  | 28 => some { ps := [PM.ro (SD.int (IntKind.i64))], rs := [RM.v (SD.str)], orc := none }
  | 37 => some { ps := [PM.ro (SD.bor 3)], rs := [RM.v (SD.own 3 false)], orc := none }
  | 34 => some { ps := [PM.ro (SD.bor 3), PM.ro (SD.int (IntKind.i64))], rs := [RM.v (SD.int (IntKind.i64))], orc := none }
  | 36 => some { ps := [PM.ro (SD.bor 3)], rs := [RM.v (SD.str)], orc := none }
  | 31 => some { ps := [PM.ro (SD.int (IntKind.i64))], rs := [RM.v (SD.str)], orc := none }
  | 16 => some { ps := [PM.ro (SD.sc (SD.str) (SD.sc (SD.bor 3) (SD.sc (SD.int (IntKind.i64)) (SD.sc (SD.int (IntKind.i64)) (SD.sc (SD.int (IntKind.i64)) (SD.sn)))))), PM.ro (SD.sc (SD.str) (SD.sc (SD.bor 3) (SD.sc (SD.int (IntKind.i64)) (SD.sc (SD.int (IntKind.i64)) (SD.sc (SD.int (IntKind.i64)) (SD.sn))))))], rs := [RM.v (SD.bool)], orc := none }
  | 12 => some { ps := [PM.ro (SD.sc (SD.str) (SD.sc (SD.bor 3) (SD.sc (SD.int (IntKind.i64)) (SD.sc (SD.int (IntKind.i64)) (SD.sc (SD.int (IntKind.i64)) (SD.sn)))))), PM.ro (SD.int (IntKind.i64))], rs := [RM.v (SD.int (IntKind.i64))], orc := none }
  | 14 => some { ps := [PM.ro (SD.sc (SD.str) (SD.sc (SD.bor 3) (SD.sc (SD.int (IntKind.i64)) (SD.sc (SD.int (IntKind.i64)) (SD.sc (SD.int (IntKind.i64)) (SD.sn))))))], rs := [RM.v (SD.sc (SD.str) (SD.sc (SD.own 3 false) (SD.sc (SD.int (IntKind.i64)) (SD.sc (SD.int (IntKind.i64)) (SD.sc (SD.int (IntKind.i64)) (SD.sn))))))], orc := none }
  | 13 => some { ps := [PM.ro (SD.sc (SD.str) (SD.sc (SD.bor 3) (SD.sc (SD.int (IntKind.i64)) (SD.sc (SD.int (IntKind.i64)) (SD.sc (SD.int (IntKind.i64)) (SD.sn))))))], rs := [RM.v (SD.str)], orc := none }
  | 39 => some { ps := [PM.ro (SD.bor 3)], rs := [RM.v (SD.str)], orc := none }
  | 15 => some { ps := [PM.ro (SD.sc (SD.str) (SD.sc (SD.bor 3) (SD.sc (SD.int (IntKind.i64)) (SD.sc (SD.int (IntKind.i64)) (SD.sc (SD.int (IntKind.i64)) (SD.sn))))))], rs := [RM.v (SD.str)], orc := none }
  | 4 => some { ps := [PM.ro (SD.sc (SD.str) (SD.sc (SD.bor 3) (SD.sc (SD.int (IntKind.i64)) (SD.sc (SD.int (IntKind.i64)) (SD.sc (SD.int (IntKind.i64)) (SD.sn))))))], rs := [RM.v (SD.bool)], orc := none }
  | _ => none
/-! spec.l1In -/
noncomputable def F35 (I : Interp) (n : Nat) (a : List PV) : Option (List PV) :=
  (some [(selB (geI (nth a 0).toInt (nth a 1).toInt) (selB ((geI (nth a 0).toInt (nth a 1).toInt) == true) (PV.bool (leI (selB ((geI (nth a 0).toInt (nth a 1).toInt) == true) (nth a 0) PV.unit).toInt (selB ((geI (nth a 0).toInt (nth a 1).toInt) == true) (nth a 2) PV.unit).toInt)) PV.unit) (PV.bool false))])
theorem e35 : ∀ I n a, (compF Tryd.prog sg 35).map (fun d => d.ev I n a) = some (F35 I n a) := fun I n a => by kernel_rfl
/-! laws.eqIntS -/
noncomputable def L40_0 (I : Interp) (n : Nat) (p0 : List PV) : Option (Ex × List PV) :=
  (iff (ltI (nth p0 0).toInt ((nth p0 1).toList.length : Int))
  (iff (geI (nth p0 0).toInt (0 : Int))
  (iff (ltI (nth p0 0).toInt ((nth p0 1).toList.length : Int))
  (iff (geI (nth p0 0).toInt (0 : Int))
  (iff (ltI (nth p0 0).toInt ((nth p0 2).toList.length : Int))
  (iff (neI (nth (nth p0 1).toList (nth p0 0).toInt.toNat).toInt (nth (nth p0 2).toList (nth p0 0).toInt.toNat).toInt)
  (some (Ex.r, [(PV.bool false)]))
  (some (Ex.n, [(PV.int (IntKind.i64.wrap ((nth p0 0).toInt + (1 : Int)))), (nth p0 1), (nth p0 2)])))
  none)
  none)
  none)
  none)
  (some (Ex.x 0, [])))
noncomputable def F40 (I : Interp) (n : Nat) (a : List PV) : Option (List PV) :=
  (iff (neI ((nth a 0).toList.length : Int) ((nth a 1).toList.length : Int))
  (some [(PV.bool false)])
  (thenN (thenE (loopEv (L40_0 I n) n [(PV.int (0 : Int)), (nth a 0), (nth a 1)])
  (passB 0))
  (fun p1 => (some [(PV.bool true)]))
  (retE fun q2 => [(nth q2 0)])))
theorem e40 : ∀ I n a, (compF Tryd.prog sg 40).map (fun d => d.ev I n a) = some (F40 I n a) := fun I n a => by kernel_rfl
/-! impl.within -/
noncomputable def F38 (I : Interp) (n : Nat) (a : List PV) : Option (List PV) :=
  (some [(selB (geI (nth a 0).toInt (nth a 1).toInt) (selB ((geI (nth a 0).toInt (nth a 1).toInt) == true) (PV.bool (leI (selB ((geI (nth a 0).toInt (nth a 1).toInt) == true) (nth a 0) PV.unit).toInt (selB ((geI (nth a 0).toInt (nth a 1).toInt) == true) (nth a 2) PV.unit).toInt)) PV.unit) (PV.bool false))])
theorem e38 : ∀ I n a, (compF Tryd.prog sg 38).map (fun d => d.ev I n a) = some (F38 I n a) := fun I n a => by kernel_rfl
/-! spec.Digits -/
noncomputable def L28_0 (I : Interp) (n : Nat) (p0 : List PV) : Option (Ex × List PV) :=
  (iff (neI (nth p0 0).toInt (0 : Int))
  (iff (neI (10 : Int) (0 : Int))
  (thenN (iff (ltI (arith BinOp.rem IntKind.i64 (nth p0 0).toInt (10 : Int)) (0 : Int))
  (some (Ex.n, [(PV.int (IntKind.i64.wrap ((0 : Int) - (arith BinOp.rem IntKind.i64 (nth p0 0).toInt (10 : Int))))), (nth p0 2), (nth p0 0), (nth p0 1)]))
  (some (Ex.n, [(PV.int (arith BinOp.rem IntKind.i64 (nth p0 0).toInt (10 : Int))), (nth p0 2), (nth p0 0), (nth p0 1)])))
  (fun p1 => (iff (leI ((catB (b2sL ((PV.int (IntKind.u8.wrap (IntKind.i64.wrap ((48 : Int) + (nth p1 0).toInt)))) :: ([] : List PV))) (nth p1 1).toStr).size : Int) (9223372036854775807 : Int))
  (iff (neI (10 : Int) (0 : Int))
  (some (Ex.n, [(PV.int (arith BinOp.quo IntKind.i64 (nth p1 2).toInt (10 : Int))), (nth p1 3), (PV.str (catB (b2sL ((PV.int (IntKind.u8.wrap (IntKind.i64.wrap ((48 : Int) + (nth p1 0).toInt)))) :: ([] : List PV))) (nth p1 1).toStr))]))
  none)
  none))
  passE)
  none)
  (some (Ex.x 0, [(nth p0 1), (nth p0 2)])))
noncomputable def F28 (I : Interp) (n : Nat) (a : List PV) : Option (List PV) :=
  (iff (eqI (nth a 0).toInt (0 : Int))
  (some [(PV.str (⟨#[48]⟩ : ByteArray))])
  (thenN (thenE (loopEv (L28_0 I n) n [(nth a 0), (PV.bool (ltI (nth a 0).toInt (0 : Int))), (PV.str (⟨#[]⟩ : ByteArray))])
  (passB 0))
  (fun p2 => (iff (nth p2 0).toBool
  (iff (leI ((catB (⟨#[45]⟩ : ByteArray) (nth p2 1).toStr).size : Int) (9223372036854775807 : Int))
  (some [(PV.str (catB (⟨#[45]⟩ : ByteArray) (nth p2 1).toStr))])
  none)
  (some [(nth p2 1)])))
  (retE fun q3 => [(nth q3 0)])))
theorem e28 : ∀ I n a, (compF Tryd.prog sg 28).map (fun d => d.ev I n a) = some (F28 I n a) := fun I n a => by kernel_rfl
/-! laws.toIntS -/
noncomputable def L37_0 (I : Interp) (n : Nat) (p0 : List PV) : Option (Ex × List PV) :=
  (iff (ltI (nth p0 0).toInt ((nth p0 1).toList.length : Int))
  (iff (geI (nth p0 0).toInt (0 : Int))
  (iff (ltI (nth p0 0).toInt ((nth p0 1).toList.length : Int))
  (iff (geI (nth p0 0).toInt (0 : Int))
  (iff (ltI (nth p0 0).toInt ((nth p0 2).toList.length : Int))
  (some (Ex.n, [(PV.int (IntKind.i64.wrap ((nth p0 0).toInt + (1 : Int)))), (nth p0 1), (PV.list ((nth p0 2).toList.set (nth p0 0).toInt.toNat (nth (nth p0 1).toList (nth p0 0).toInt.toNat)))]))
  none)
  none)
  none)
  none)
  (some (Ex.x 0, [(nth p0 2)])))
noncomputable def F37 (I : Interp) (n : Nat) (a : List PV) : Option (List PV) :=
  (iff (geI ((nth a 0).toList.length : Int) (0 : Int))
  (iff (leI ((nth a 0).toList.length : Int) ((nth a 0).toList.length : Int))
  (iff (leI ((nth a 0).toList.length : Int) (17592186044416 : Int))
  (thenN (thenE (loopEv (L37_0 I n) n [(PV.int (0 : Int)), (nth a 0), (PV.list (List.replicate ((nth a 0).toList.length : Int).toNat (PV.int (0 : Int))))])
  (passB 0))
  (fun p1 => (some [(nth p1 0)]))
  (retE fun q2 => [(nth q2 0)]))
  none)
  none)
  none)
theorem e37 : ∀ I n a, (compF Tryd.prog sg 37).map (fun d => d.ev I n a) = some (F37 I n a) := fun I n a => by kernel_rfl
/-! laws.szIntS -/
noncomputable def F34 (I : Interp) (n : Nat) (a : List PV) : Option (List PV) :=
  (iff (ltI (IntKind.i64.wrap ((nth a 1).toInt - ((nth a 0).toList.length : Int))) (0 : Int))
  (some [(PV.int (-1 : Int))])
  (some [(PV.int (IntKind.i64.wrap ((nth a 1).toInt - ((nth a 0).toList.length : Int))))]))
theorem e34 : ∀ I n a, (compF Tryd.prog sg 34).map (fun d => d.ev I n a) = some (F34 I n a) := fun I n a => by kernel_rfl
/-! spec.l24Set -/
noncomputable def L36_0 (I : Interp) (n : Nat) (p0 : List PV) : Option (Ex × List PV) :=
  (iff (ltI (nth p0 0).toInt ((nth p0 1).toList.length : Int))
  (thenN (iff (gtI (nth p0 0).toInt (0 : Int))
  (iff (leI ((catB (nth p0 2).toStr (⟨#[32]⟩ : ByteArray)).size : Int) (9223372036854775807 : Int))
  (some (Ex.n, [(PV.str (catB (nth p0 2).toStr (⟨#[32]⟩ : ByteArray))), (nth p0 0), (nth p0 1)]))
  none)
  (some (Ex.n, [(nth p0 2), (nth p0 0), (nth p0 1)])))
  (fun p1 => (iff (geI (nth p1 1).toInt (0 : Int))
  (iff (ltI (nth p1 1).toInt ((nth p1 2).toList.length : Int))
  ((I 28 [(nth (nth p1 2).toList (nth p1 1).toInt.toNat)]).bind fun r2 =>
  (iff (leI ((catB (nth p1 0).toStr (nth r2 0).toStr).size : Int) (9223372036854775807 : Int))
  (some (Ex.n, [(PV.int (IntKind.i64.wrap ((nth p1 1).toInt + (1 : Int)))), (nth p1 2), (PV.str (catB (nth p1 0).toStr (nth r2 0).toStr))]))
  none))
  none)
  none))
  passE)
  (some (Ex.x 0, [(nth p0 2)])))
noncomputable def F36 (I : Interp) (n : Nat) (a : List PV) : Option (List PV) :=
  (thenN (thenE (loopEv (L36_0 I n) n [(PV.int (0 : Int)), (nth a 0), (PV.str (⟨#[123]⟩ : ByteArray))])
  (passB 0))
  (fun p3 => (iff (leI ((catB (nth p3 0).toStr (⟨#[125]⟩ : ByteArray)).size : Int) (9223372036854775807 : Int))
  (some [(PV.str (catB (nth p3 0).toStr (⟨#[125]⟩ : ByteArray)))])
  none))
  (retE fun q4 => [(nth q4 0)]))
theorem e36 : ∀ I n a, (compF Tryd.prog sg 36).map (fun d => d.ev I n a) = some (F36 I n a) := fun I n a => by kernel_rfl
/-! impl.Digits -/
noncomputable def F31 (I : Interp) (n : Nat) (a : List PV) : Option (List PV) :=
  ((I 58 [(nth a 0)]).bind fun r0 =>
  (some [(nth r0 0)]))
theorem e31 : ∀ I n a, (compF Tryd.prog sg 31).map (fun d => d.ev I n a) = some (F31 I n a) := fun I n a => by kernel_rfl
/-! laws.eqBind -/
noncomputable def F16 (I : Interp) (n : Nat) (a : List PV) : Option (List PV) :=
  (iff (cmpS BinOp.neq ((nth a 0).fld 0).toStr ((nth a 1).fld 0).toStr)
  (some [(PV.bool false)])
  ((I 40 [((nth a 0).fld 1), ((nth a 1).fld 1)]).bind fun r0 =>
  (iff (!(nth r0 0).toBool)
  (some [(PV.bool false)])
  (iff (neI ((nth a 0).fld 2).toInt ((nth a 1).fld 2).toInt)
  (some [(PV.bool false)])
  (iff (neI ((nth a 0).fld 3).toInt ((nth a 1).fld 3).toInt)
  (some [(PV.bool false)])
  (iff (neI ((nth a 0).fld 4).toInt ((nth a 1).fld 4).toInt)
  (some [(PV.bool false)])
  (some [(PV.bool true)])))))))
theorem e16 : ∀ I n a, (compF Tryd.prog sg 16).map (fun d => d.ev I n a) = some (F16 I n a) := fun I n a => by kernel_rfl
/-! laws.szBind -/
noncomputable def F12 (I : Interp) (n : Nat) (a : List PV) : Option (List PV) :=
  (iff (ltI (IntKind.i64.wrap ((nth a 1).toInt - (((nth a 0).fld 0).toStr.size : Int))) (0 : Int))
  (some [(PV.int (-1 : Int))])
  ((I 34 [((nth a 0).fld 1), (PV.int (IntKind.i64.wrap ((nth a 1).toInt - (((nth a 0).fld 0).toStr.size : Int))))]).bind fun r0 =>
  (iff (ltI (nth r0 0).toInt (0 : Int))
  (some [(PV.int (-1 : Int))])
  (some [(nth r0 0)]))))
theorem e12 : ∀ I n a, (compF Tryd.prog sg 12).map (fun d => d.ev I n a) = some (F12 I n a) := fun I n a => by kernel_rfl
/-! laws.toBind -/
noncomputable def F14 (I : Interp) (n : Nat) (a : List PV) : Option (List PV) :=
  ((I 37 [((nth a 0).fld 1)]).bind fun r0 =>
  (some [(PV.agg [((nth a 0).fld 0), (nth r0 0), ((nth a 0).fld 2), ((nth a 0).fld 3), ((nth a 0).fld 4)])]))
theorem e14 : ∀ I n a, (compF Tryd.prog sg 14).map (fun d => d.ev I n a) = some (F14 I n a) := fun I n a => by kernel_rfl
/-! spec.BindText -/
noncomputable def F13 (I : Interp) (n : Nat) (a : List PV) : Option (List PV) :=
  (thenN ((I 35 [((nth a 0).fld 2), (PV.int (1 : Int)), (PV.int (3 : Int))]).bind fun r0 =>
  (iff (nth r0 0).toBool
  (iff (geI ((nth a 0).fld 2).toInt (0 : Int))
  (iff (ltI ((nth a 0).fld 2).toInt (((PV.str (⟨#[]⟩ : ByteArray)) :: ((PV.str (⟨#[118, 97, 114]⟩ : ByteArray)) :: ((PV.str (⟨#[102, 111, 114, 109]⟩ : ByteArray)) :: ((PV.str (⟨#[109, 97, 99, 114, 111]⟩ : ByteArray)) :: ([] : List PV))))).length : Int))
  (some (Ex.n, [(nth ((PV.str (⟨#[]⟩ : ByteArray)) :: ((PV.str (⟨#[118, 97, 114]⟩ : ByteArray)) :: ((PV.str (⟨#[102, 111, 114, 109]⟩ : ByteArray)) :: ((PV.str (⟨#[109, 97, 99, 114, 111]⟩ : ByteArray)) :: ([] : List PV))))) ((nth a 0).fld 2).toInt.toNat), (nth a 0)]))
  none)
  none)
  (some (Ex.n, [(PV.str (⟨#[110, 111, 110, 101]⟩ : ByteArray)), (nth a 0)]))))
  (fun p1 => ((I 36 [((nth p1 1).fld 1)]).bind fun r2 =>
  (iff (leI ((catB ((nth p1 1).fld 0).toStr (nth r2 0).toStr).size : Int) (9223372036854775807 : Int))
  (iff (leI ((catB (catB ((nth p1 1).fld 0).toStr (nth r2 0).toStr) (⟨#[32]⟩ : ByteArray)).size : Int) (9223372036854775807 : Int))
  (iff (leI ((catB (catB (catB ((nth p1 1).fld 0).toStr (nth r2 0).toStr) (⟨#[32]⟩ : ByteArray)) (nth p1 0).toStr).size : Int) (9223372036854775807 : Int))
  (iff (leI ((catB (catB (catB (catB ((nth p1 1).fld 0).toStr (nth r2 0).toStr) (⟨#[32]⟩ : ByteArray)) (nth p1 0).toStr) (⟨#[32]⟩ : ByteArray)).size : Int) (9223372036854775807 : Int))
  ((I 28 [((nth p1 1).fld 3)]).bind fun r3 =>
  (iff (leI ((catB (catB (catB (catB (catB ((nth p1 1).fld 0).toStr (nth r2 0).toStr) (⟨#[32]⟩ : ByteArray)) (nth p1 0).toStr) (⟨#[32]⟩ : ByteArray)) (nth r3 0).toStr).size : Int) (9223372036854775807 : Int))
  (iff (leI ((catB (catB (catB (catB (catB (catB ((nth p1 1).fld 0).toStr (nth r2 0).toStr) (⟨#[32]⟩ : ByteArray)) (nth p1 0).toStr) (⟨#[32]⟩ : ByteArray)) (nth r3 0).toStr) (⟨#[32]⟩ : ByteArray)).size : Int) (9223372036854775807 : Int))
  ((I 28 [((nth p1 1).fld 4)]).bind fun r4 =>
  (iff (leI ((catB (catB (catB (catB (catB (catB (catB ((nth p1 1).fld 0).toStr (nth r2 0).toStr) (⟨#[32]⟩ : ByteArray)) (nth p1 0).toStr) (⟨#[32]⟩ : ByteArray)) (nth r3 0).toStr) (⟨#[32]⟩ : ByteArray)) (nth r4 0).toStr).size : Int) (9223372036854775807 : Int))
  (some [(PV.str (catB (catB (catB (catB (catB (catB (catB ((nth p1 1).fld 0).toStr (nth r2 0).toStr) (⟨#[32]⟩ : ByteArray)) (nth p1 0).toStr) (⟨#[32]⟩ : ByteArray)) (nth r3 0).toStr) (⟨#[32]⟩ : ByteArray)) (nth r4 0).toStr))])
  none))
  none)
  none))
  none)
  none)
  none)
  none)))
  (retE fun q5 => [(nth q5 0)]))
theorem e13 : ∀ I n a, (compF Tryd.prog sg 13).map (fun d => d.ev I n a) = some (F13 I n a) := fun I n a => by kernel_rfl
/-! impl.setText -/
noncomputable def L39_0 (I : Interp) (n : Nat) (p0 : List PV) : Option (Ex × List PV) :=
  (iff (ltI (nth p0 0).toInt (nth p0 1).toInt)
  (iff (geI (nth p0 0).toInt (0 : Int))
  (iff (ltI (nth p0 0).toInt ((nth p0 2).toList.length : Int))
  ((I 31 [(nth (nth p0 2).toList (nth p0 0).toInt.toNat)]).bind fun r1 =>
  (iff (leN ((nth p0 3).toList.length + ((nth r1 0) :: ([] : List PV)).length) 8796093022208)
  (some (Ex.n, [(PV.int (IntKind.i64.wrap ((nth p0 0).toInt + (1 : Int)))), (nth p0 1), (nth p0 2), (PV.list ((nth p0 3).toList ++ ((nth r1 0) :: ([] : List PV))))]))
  none))
  none)
  none)
  (some (Ex.x 0, [(nth p0 3)])))
noncomputable def F39 (I : Interp) (n : Nat) (a : List PV) : Option (List PV) :=
  (thenN (thenE (loopEv (L39_0 I n) n [(PV.int (0 : Int)), (PV.int ((nth a 0).toList.length : Int)), (nth a 0), (PV.list ([] : List PV))])
  (passB 0))
  (fun p2 => ((I 43 [(nth p2 0), (PV.str (⟨#[32]⟩ : ByteArray))]).bind fun r3 =>
  (iff (leI ((catB (⟨#[123]⟩ : ByteArray) (nth r3 0).toStr).size : Int) (9223372036854775807 : Int))
  (iff (leI ((catB (catB (⟨#[123]⟩ : ByteArray) (nth r3 0).toStr) (⟨#[125]⟩ : ByteArray)).size : Int) (9223372036854775807 : Int))
  (some [(PV.str (catB (catB (⟨#[123]⟩ : ByteArray) (nth r3 0).toStr) (⟨#[125]⟩ : ByteArray)))])
  none)
  none)))
  (retE fun q4 => [(nth q4 0)]))
theorem e39 : ∀ I n a, (compF Tryd.prog sg 39).map (fun d => d.ev I n a) = some (F39 I n a) := fun I n a => by kernel_rfl
/-! impl.BindText -/
noncomputable def F15 (I : Interp) (n : Nat) (a : List PV) : Option (List PV) :=
  (thenN ((I 38 [((nth a 0).fld 2), (PV.int (1 : Int)), (PV.int (3 : Int))]).bind fun r0 =>
  (iff (nth r0 0).toBool
  (iff (geI (IntKind.i64.wrap (((nth a 0).fld 2).toInt - (1 : Int))) (0 : Int))
  (iff (ltI (IntKind.i64.wrap (((nth a 0).fld 2).toInt - (1 : Int))) (((PV.str (⟨#[118, 97, 114]⟩ : ByteArray)) :: ((PV.str (⟨#[102, 111, 114, 109]⟩ : ByteArray)) :: ((PV.str (⟨#[109, 97, 99, 114, 111]⟩ : ByteArray)) :: ([] : List PV)))).length : Int))
  (some (Ex.n, [(nth ((PV.str (⟨#[118, 97, 114]⟩ : ByteArray)) :: ((PV.str (⟨#[102, 111, 114, 109]⟩ : ByteArray)) :: ((PV.str (⟨#[109, 97, 99, 114, 111]⟩ : ByteArray)) :: ([] : List PV)))) (IntKind.i64.wrap (((nth a 0).fld 2).toInt - (1 : Int))).toNat), (nth a 0)]))
  none)
  none)
  (some (Ex.n, [(PV.str (⟨#[110, 111, 110, 101]⟩ : ByteArray)), (nth a 0)]))))
  (fun p1 => ((I 39 [((nth p1 1).fld 1)]).bind fun r2 =>
  (iff (leI ((catB ((nth p1 1).fld 0).toStr (nth r2 0).toStr).size : Int) (9223372036854775807 : Int))
  (iff (leI ((catB (catB ((nth p1 1).fld 0).toStr (nth r2 0).toStr) (⟨#[32]⟩ : ByteArray)).size : Int) (9223372036854775807 : Int))
  (iff (leI ((catB (catB (catB ((nth p1 1).fld 0).toStr (nth r2 0).toStr) (⟨#[32]⟩ : ByteArray)) (nth p1 0).toStr).size : Int) (9223372036854775807 : Int))
  (iff (leI ((catB (catB (catB (catB ((nth p1 1).fld 0).toStr (nth r2 0).toStr) (⟨#[32]⟩ : ByteArray)) (nth p1 0).toStr) (⟨#[32]⟩ : ByteArray)).size : Int) (9223372036854775807 : Int))
  ((I 31 [((nth p1 1).fld 3)]).bind fun r3 =>
  (iff (leI ((catB (catB (catB (catB (catB ((nth p1 1).fld 0).toStr (nth r2 0).toStr) (⟨#[32]⟩ : ByteArray)) (nth p1 0).toStr) (⟨#[32]⟩ : ByteArray)) (nth r3 0).toStr).size : Int) (9223372036854775807 : Int))
  (iff (leI ((catB (catB (catB (catB (catB (catB ((nth p1 1).fld 0).toStr (nth r2 0).toStr) (⟨#[32]⟩ : ByteArray)) (nth p1 0).toStr) (⟨#[32]⟩ : ByteArray)) (nth r3 0).toStr) (⟨#[32]⟩ : ByteArray)).size : Int) (9223372036854775807 : Int))
  ((I 31 [((nth p1 1).fld 4)]).bind fun r4 =>
  (iff (leI ((catB (catB (catB (catB (catB (catB (catB ((nth p1 1).fld 0).toStr (nth r2 0).toStr) (⟨#[32]⟩ : ByteArray)) (nth p1 0).toStr) (⟨#[32]⟩ : ByteArray)) (nth r3 0).toStr) (⟨#[32]⟩ : ByteArray)) (nth r4 0).toStr).size : Int) (9223372036854775807 : Int))
  (some [(PV.str (catB (catB (catB (catB (catB (catB (catB ((nth p1 1).fld 0).toStr (nth r2 0).toStr) (⟨#[32]⟩ : ByteArray)) (nth p1 0).toStr) (⟨#[32]⟩ : ByteArray)) (nth r3 0).toStr) (⟨#[32]⟩ : ByteArray)) (nth r4 0).toStr))])
  none))
  none)
  none))
  none)
  none)
  none)
  none)))
  (retE fun q5 => [(nth q5 0)]))
theorem e15 : ∀ I n a, (compF Tryd.prog sg 15).map (fun d => d.ev I n a) = some (F15 I n a) := fun I n a => by kernel_rfl
/-! laws.FnExactBindText -/
noncomputable def F4 (I : Interp) (n : Nat) (a : List PV) : Option (List PV) :=
  ((I 12 [(nth a 0), (PV.int (1048576 : Int))]).bind fun r0 =>
  (iff (ltI (nth r0 0).toInt (0 : Int))
  (some [(PV.bool true)])
  ((I 14 [(nth a 0)]).bind fun r1 =>
  ((I 13 [(nth r1 0)]).bind fun r2 =>
  ((I 14 [(nth a 0)]).bind fun r3 =>
  ((I 15 [(nth r3 0)]).bind fun r4 =>
  (iff (cmpS BinOp.neq (nth r4 0).toStr (nth r2 0).toStr)
  (some [(PV.bool false)])
  ((I 14 [(nth a 0)]).bind fun r5 =>
  ((I 16 [(nth r3 0), (nth r5 0)]).bind fun r6 =>
  (iff (!(nth r6 0).toBool)
  (some [(PV.bool false)])
  (some [(PV.bool true)])))))))))))
theorem e4 : ∀ I n a, (compF Tryd.prog sg 4).map (fun d => d.ev I n a) = some (F4 I n a) := fun I n a => by kernel_rfl
end Go.Proofs.YtjaboelhknoamaaDoor.GFnExactBindText
