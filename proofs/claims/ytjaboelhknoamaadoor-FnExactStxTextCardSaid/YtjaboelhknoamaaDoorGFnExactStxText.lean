/- The pure programs of the functions that the law FnExactStxText reaches, out of the compiled code. No conditions. -/
import Derived.Test.YtjaboelhknoamaaDoorRows
import Derived.Test.YtjaboelhknoamaaDoorRscZr
namespace Go.Proofs.YtjaboelhknoamaaDoor.GFnExactStxText
open Go Go.Rsc Go.Proofs.YtjaboelhknoamaaDoor
set_option maxRecDepth 100000
set_option linter.unusedVariables false
def sg : FuncId → Option Sig := fun f => match f with
  | 43 => some { ps := [PM.mut (SD.own 9 false), PM.ro (SD.str)], rs := [RM.v (SD.str)], orc := some (Orc.join) }
  | 58 => some { ps := [PM.ro (SD.int (IntKind.i64))], rs := [RM.v (SD.str)], orc := some (Orc.itoa) }
  | 37 => some { ps := [PM.ro (SD.bor 3)], rs := [RM.v (SD.own 3 false)], orc := none }
  | 28 => some { ps := [PM.ro (SD.int (IntKind.i64))], rs := [RM.v (SD.str)], orc := none }
  | 40 => some { ps := [PM.ro (SD.bor 3), PM.ro (SD.bor 3)], rs := [RM.v (SD.bool)], orc := none }
  | 34 => some { ps := [PM.ro (SD.bor 3), PM.ro (SD.int (IntKind.i64))], rs := [RM.v (SD.int (IntKind.i64))], orc := none }
  | 36 => some { ps := [PM.ro (SD.bor 3)], rs := [RM.v (SD.str)], orc := none }
  | 31 => some { ps := [PM.ro (SD.int (IntKind.i64))], rs := [RM.v (SD.str)], orc := none }
  | 44 => some { ps := [PM.ro (SD.bor 49), PM.ro (SD.bor 49)], rs := [RM.v (SD.bool)], orc := none }
  | 21 => some { ps := [PM.ro (SD.sc (SD.int (IntKind.i64)) (SD.sc (SD.int (IntKind.i64)) (SD.sc (SD.int (IntKind.i64)) (SD.sc (SD.str) (SD.sc (SD.bor 3) (SD.sc (SD.bor 49) (SD.sn))))))), PM.ro (SD.sc (SD.int (IntKind.i64)) (SD.sc (SD.int (IntKind.i64)) (SD.sc (SD.int (IntKind.i64)) (SD.sc (SD.str) (SD.sc (SD.bor 3) (SD.sc (SD.bor 49) (SD.sn)))))))], rs := [RM.v (SD.bool)], orc := none }
  | 41 => some { ps := [PM.ro (SD.bor 44), PM.ro (SD.int (IntKind.i64))], rs := [RM.v (SD.int (IntKind.i64))], orc := none }
  | 17 => some { ps := [PM.ro (SD.sc (SD.int (IntKind.i64)) (SD.sc (SD.int (IntKind.i64)) (SD.sc (SD.int (IntKind.i64)) (SD.sc (SD.str) (SD.sc (SD.bor 3) (SD.sc (SD.bor 44) (SD.sn))))))), PM.ro (SD.int (IntKind.i64))], rs := [RM.v (SD.int (IntKind.i64))], orc := none }
  | 18 => some { ps := [PM.ro (SD.sc (SD.int (IntKind.i64)) (SD.sc (SD.int (IntKind.i64)) (SD.sc (SD.int (IntKind.i64)) (SD.sc (SD.str) (SD.sc (SD.bor 3) (SD.sc (SD.bor 49) (SD.sn)))))))], rs := [RM.v (SD.str)], orc := none }
  | 42 => some { ps := [PM.ro (SD.bor 44)], rs := [RM.v (SD.own 49 true)], orc := none }
  | 19 => some { ps := [PM.ro (SD.sc (SD.int (IntKind.i64)) (SD.sc (SD.int (IntKind.i64)) (SD.sc (SD.int (IntKind.i64)) (SD.sc (SD.str) (SD.sc (SD.bor 3) (SD.sc (SD.bor 44) (SD.sn)))))))], rs := [RM.v (SD.sc (SD.int (IntKind.i64)) (SD.sc (SD.int (IntKind.i64)) (SD.sc (SD.int (IntKind.i64)) (SD.sc (SD.str) (SD.sc (SD.own 3 false) (SD.sc (SD.own 49 true) (SD.sn)))))))], orc := none }
  | 39 => some { ps := [PM.ro (SD.bor 3)], rs := [RM.v (SD.str)], orc := none }
  | 20 => some { ps := [PM.ro (SD.sc (SD.int (IntKind.i64)) (SD.sc (SD.int (IntKind.i64)) (SD.sc (SD.int (IntKind.i64)) (SD.sc (SD.str) (SD.sc (SD.bor 3) (SD.sc (SD.bor 49) (SD.sn)))))))], rs := [RM.v (SD.str)], orc := none }
  | 5 => some { ps := [PM.ro (SD.sc (SD.int (IntKind.i64)) (SD.sc (SD.int (IntKind.i64)) (SD.sc (SD.int (IntKind.i64)) (SD.sc (SD.str) (SD.sc (SD.bor 3) (SD.sc (SD.bor 44) (SD.sn)))))))], rs := [RM.v (SD.bool)], orc := none }
  | _ => none
/-! laws.toIntS -/
noncomputable def L37_0 (I : Interp) (n : Nat) (p0 : List PV) : Option (Ex × List PV) :=
  (iff (ltI (nth p0 0).toInt ((nth p0 1).toList.length : Int))
  (iff (geI (nth p0 0).toInt (0 : Int))
  (iff (ltI (nth p0 0).toInt ((nth p0 1).toList.length : Int))
  (iff (geI (nth p0 0).toInt (0 : Int))
  (iff (ltI (nth p0 0).toInt ((nth p0 2).toList.length : Int))
  (some (Ex.n, [(PV.int (IntKind.i64.wrap ((nth p0 0).toInt + (1 : Int)))), (nth p0 1), (PV.list ((nth p0 2).toList.set (nth p0 0).toInt.toNat (nth (nth p0 1).toList (nth p0 0).toInt.toNat)))]))
  none)
  none)
  none)
  none)
  (some (Ex.x 0, [(nth p0 2)])))
noncomputable def F37 (I : Interp) (n : Nat) (a : List PV) : Option (List PV) :=
  (iff (geI ((nth a 0).toList.length : Int) (0 : Int))
  (iff (leI ((nth a 0).toList.length : Int) ((nth a 0).toList.length : Int))
  (iff (leI ((nth a 0).toList.length : Int) (17592186044416 : Int))
  (thenN (thenE (loopEv (L37_0 I n) n [(PV.int (0 : Int)), (nth a 0), (PV.list (List.replicate ((nth a 0).toList.length : Int).toNat (PV.int (0 : Int))))])
  (passB 0))
  (fun p1 => (some [(nth p1 0)]))
  (retE fun q2 => [(nth q2 0)]))
  none)
  none)
  none)
theorem e37 : ∀ I n a, (compF Tryd.prog sg 37).map (fun d => d.ev I n a) = some (F37 I n a) := fun I n a => by kernel_rfl
/-! spec.Digits -/
noncomputable def L28_0 (I : Interp) (n : Nat) (p0 : List PV) : Option (Ex × List PV) :=
  (iff (neI (nth p0 0).toInt (0 : Int))
  (iff (neI (10 : Int) (0 : Int))
  (thenN (iff (ltI (arith BinOp.rem IntKind.i64 (nth p0 0).toInt (10 : Int)) (0 : Int))
  (some (Ex.n, [(PV.int (IntKind.i64.wrap ((0 : Int) - (arith BinOp.rem IntKind.i64 (nth p0 0).toInt (10 : Int))))), (nth p0 2), (nth p0 0), (nth p0 1)]))
  (some (Ex.n, [(PV.int (arith BinOp.rem IntKind.i64 (nth p0 0).toInt (10 : Int))), (nth p0 2), (nth p0 0), (nth p0 1)])))
  (fun p1 => (iff (leI ((catB (b2sL ((PV.int (IntKind.u8.wrap (IntKind.i64.wrap ((48 : Int) + (nth p1 0).toInt)))) :: ([] : List PV))) (nth p1 1).toStr).size : Int) (9223372036854775807 : Int))
  (iff (neI (10 : Int) (0 : Int))
  (some (Ex.n, [(PV.int (arith BinOp.quo IntKind.i64 (nth p1 2).toInt (10 : Int))), (nth p1 3), (PV.str (catB (b2sL ((PV.int (IntKind.u8.wrap (IntKind.i64.wrap ((48 : Int) + (nth p1 0).toInt)))) :: ([] : List PV))) (nth p1 1).toStr))]))
  none)
  none))
  passE)
  none)
  (some (Ex.x 0, [(nth p0 1), (nth p0 2)])))
noncomputable def F28 (I : Interp) (n : Nat) (a : List PV) : Option (List PV) :=
  (iff (eqI (nth a 0).toInt (0 : Int))
  (some [(PV.str (⟨#[48]⟩ : ByteArray))])
  (thenN (thenE (loopEv (L28_0 I n) n [(nth a 0), (PV.bool (ltI (nth a 0).toInt (0 : Int))), (PV.str (⟨#[]⟩ : ByteArray))])
  (passB 0))
  (fun p2 => (iff (nth p2 0).toBool
  (iff (leI ((catB (⟨#[45]⟩ : ByteArray) (nth p2 1).toStr).size : Int) (9223372036854775807 : Int))
  (some [(PV.str (catB (⟨#[45]⟩ : ByteArray) (nth p2 1).toStr))])
  none)
  (some [(nth p2 1)])))
  (retE fun q3 => [(nth q3 0)])))
theorem e28 : ∀ I n a, (compF Tryd.prog sg 28).map (fun d => d.ev I n a) = some (F28 I n a) := fun I n a => by kernel_rfl
/-! laws.eqIntS -/
noncomputable def L40_0 (I : Interp) (n : Nat) (p0 : List PV) : Option (Ex × List PV) :=
  (iff (ltI (nth p0 0).toInt ((nth p0 1).toList.length : Int))
  (iff (geI (nth p0 0).toInt (0 : Int))
  (iff (ltI (nth p0 0).toInt ((nth p0 1).toList.length : Int))
  (iff (geI (nth p0 0).toInt (0 : Int))
  (iff (ltI (nth p0 0).toInt ((nth p0 2).toList.length : Int))
  (iff (neI (nth (nth p0 1).toList (nth p0 0).toInt.toNat).toInt (nth (nth p0 2).toList (nth p0 0).toInt.toNat).toInt)
  (some (Ex.r, [(PV.bool false)]))
  (some (Ex.n, [(PV.int (IntKind.i64.wrap ((nth p0 0).toInt + (1 : Int)))), (nth p0 1), (nth p0 2)])))
  none)
  none)
  none)
  none)
  (some (Ex.x 0, [])))
noncomputable def F40 (I : Interp) (n : Nat) (a : List PV) : Option (List PV) :=
  (iff (neI ((nth a 0).toList.length : Int) ((nth a 1).toList.length : Int))
  (some [(PV.bool false)])
  (thenN (thenE (loopEv (L40_0 I n) n [(PV.int (0 : Int)), (nth a 0), (nth a 1)])
  (passB 0))
  (fun p1 => (some [(PV.bool true)]))
  (retE fun q2 => [(nth q2 0)])))
theorem e40 : ∀ I n a, (compF Tryd.prog sg 40).map (fun d => d.ev I n a) = some (F40 I n a) := fun I n a => by kernel_rfl
/-! laws.szIntS -/
noncomputable def F34 (I : Interp) (n : Nat) (a : List PV) : Option (List PV) :=
  (iff (ltI (IntKind.i64.wrap ((nth a 1).toInt - ((nth a 0).toList.length : Int))) (0 : Int))
  (some [(PV.int (-1 : Int))])
  (some [(PV.int (IntKind.i64.wrap ((nth a 1).toInt - ((nth a 0).toList.length : Int))))]))
theorem e34 : ∀ I n a, (compF Tryd.prog sg 34).map (fun d => d.ev I n a) = some (F34 I n a) := fun I n a => by kernel_rfl
/-! spec.l24Set -/
noncomputable def L36_0 (I : Interp) (n : Nat) (p0 : List PV) : Option (Ex × List PV) :=
  (iff (ltI (nth p0 0).toInt ((nth p0 1).toList.length : Int))
  (thenN (iff (gtI (nth p0 0).toInt (0 : Int))
  (iff (leI ((catB (nth p0 2).toStr (⟨#[32]⟩ : ByteArray)).size : Int) (9223372036854775807 : Int))
  (some (Ex.n, [(PV.str (catB (nth p0 2).toStr (⟨#[32]⟩ : ByteArray))), (nth p0 0), (nth p0 1)]))
  none)
  (some (Ex.n, [(nth p0 2), (nth p0 0), (nth p0 1)])))
  (fun p1 => (iff (geI (nth p1 1).toInt (0 : Int))
  (iff (ltI (nth p1 1).toInt ((nth p1 2).toList.length : Int))
  ((I 28 [(nth (nth p1 2).toList (nth p1 1).toInt.toNat)]).bind fun r2 =>
  (iff (leI ((catB (nth p1 0).toStr (nth r2 0).toStr).size : Int) (9223372036854775807 : Int))
  (some (Ex.n, [(PV.int (IntKind.i64.wrap ((nth p1 1).toInt + (1 : Int)))), (nth p1 2), (PV.str (catB (nth p1 0).toStr (nth r2 0).toStr))]))
  none))
  none)
  none))
  passE)
  (some (Ex.x 0, [(nth p0 2)])))
noncomputable def F36 (I : Interp) (n : Nat) (a : List PV) : Option (List PV) :=
  (thenN (thenE (loopEv (L36_0 I n) n [(PV.int (0 : Int)), (nth a 0), (PV.str (⟨#[123]⟩ : ByteArray))])
  (passB 0))
  (fun p3 => (iff (leI ((catB (nth p3 0).toStr (⟨#[125]⟩ : ByteArray)).size : Int) (9223372036854775807 : Int))
  (some [(PV.str (catB (nth p3 0).toStr (⟨#[125]⟩ : ByteArray)))])
  none))
  (retE fun q4 => [(nth q4 0)]))
theorem e36 : ∀ I n a, (compF Tryd.prog sg 36).map (fun d => d.ev I n a) = some (F36 I n a) := fun I n a => by kernel_rfl
/-! impl.Digits -/
noncomputable def F31 (I : Interp) (n : Nat) (a : List PV) : Option (List PV) :=
  ((I 58 [(nth a 0)]).bind fun r0 =>
  (some [(nth r0 0)]))
theorem e31 : ∀ I n a, (compF Tryd.prog sg 31).map (fun d => d.ev I n a) = some (F31 I n a) := fun I n a => by kernel_rfl
/-! laws.eqStxS -/
noncomputable def L44_0 (I : Interp) (n : Nat) (p0 : List PV) : Option (Ex × List PV) :=
  (iff (ltI (nth p0 0).toInt ((nth p0 1).toList.length : Int))
  (iff (geI (nth p0 0).toInt (0 : Int))
  (iff (ltI (nth p0 0).toInt ((nth p0 1).toList.length : Int))
  (iff (geI (nth p0 0).toInt (0 : Int))
  (iff (ltI (nth p0 0).toInt ((nth p0 2).toList.length : Int))
  ((I 21 [(nth (nth p0 1).toList (nth p0 0).toInt.toNat), (nth (nth p0 2).toList (nth p0 0).toInt.toNat)]).bind fun r1 =>
  (iff (!(nth r1 0).toBool)
  (some (Ex.r, [(PV.bool false)]))
  (some (Ex.n, [(PV.int (IntKind.i64.wrap ((nth p0 0).toInt + (1 : Int)))), (nth p0 1), (nth p0 2)]))))
  none)
  none)
  none)
  none)
  (some (Ex.x 0, [])))
noncomputable def F44 (I : Interp) (n : Nat) (a : List PV) : Option (List PV) :=
  (iff (neI ((nth a 0).toList.length : Int) ((nth a 1).toList.length : Int))
  (some [(PV.bool false)])
  (thenN (thenE (loopEv (L44_0 I n) n [(PV.int (0 : Int)), (nth a 0), (nth a 1)])
  (passB 0))
  (fun p2 => (some [(PV.bool true)]))
  (retE fun q3 => [(nth q3 0)])))
theorem e44 : ∀ I n a, (compF Tryd.prog sg 44).map (fun d => d.ev I n a) = some (F44 I n a) := fun I n a => by kernel_rfl
/-! laws.eqStx -/
noncomputable def F21 (I : Interp) (n : Nat) (a : List PV) : Option (List PV) :=
  (iff (neI ((nth a 0).fld 0).toInt ((nth a 1).fld 0).toInt)
  (some [(PV.bool false)])
  (iff (neI ((nth a 0).fld 1).toInt ((nth a 1).fld 1).toInt)
  (some [(PV.bool false)])
  (iff (neI ((nth a 0).fld 2).toInt ((nth a 1).fld 2).toInt)
  (some [(PV.bool false)])
  (iff (cmpS BinOp.neq ((nth a 0).fld 3).toStr ((nth a 1).fld 3).toStr)
  (some [(PV.bool false)])
  ((I 40 [((nth a 0).fld 4), ((nth a 1).fld 4)]).bind fun r0 =>
  (iff (!(nth r0 0).toBool)
  (some [(PV.bool false)])
  ((I 44 [((nth a 0).fld 5), ((nth a 1).fld 5)]).bind fun r1 =>
  (iff (!(nth r1 0).toBool)
  (some [(PV.bool false)])
  (some [(PV.bool true)])))))))))
theorem e21 : ∀ I n a, (compF Tryd.prog sg 21).map (fun d => d.ev I n a) = some (F21 I n a) := fun I n a => by kernel_rfl
/-! laws.szStxS -/
noncomputable def L41_0 (I : Interp) (n : Nat) (p0 : List PV) : Option (Ex × List PV) :=
  (iff (ltI (nth p0 0).toInt ((nth p0 1).toList.length : Int))
  (iff (geI (nth p0 0).toInt (0 : Int))
  (iff (ltI (nth p0 0).toInt ((nth p0 1).toList.length : Int))
  ((I 17 [(nth (nth p0 1).toList (nth p0 0).toInt.toNat), (nth p0 2)]).bind fun r1 =>
  (iff (ltI (nth r1 0).toInt (0 : Int))
  (some (Ex.r, [(PV.int (-1 : Int))]))
  (some (Ex.n, [(PV.int (IntKind.i64.wrap ((nth p0 0).toInt + (1 : Int)))), (nth p0 1), (nth r1 0)]))))
  none)
  none)
  (some (Ex.x 0, [(nth p0 2)])))
noncomputable def F41 (I : Interp) (n : Nat) (a : List PV) : Option (List PV) :=
  (iff (ltI (IntKind.i64.wrap ((nth a 1).toInt - ((nth a 0).toList.length : Int))) (0 : Int))
  (some [(PV.int (-1 : Int))])
  (thenN (thenE (loopEv (L41_0 I n) n [(PV.int (0 : Int)), (nth a 0), (PV.int (IntKind.i64.wrap ((nth a 1).toInt - ((nth a 0).toList.length : Int))))])
  (passB 0))
  (fun p2 => (some [(nth p2 0)]))
  (retE fun q3 => [(nth q3 0)])))
theorem e41 : ∀ I n a, (compF Tryd.prog sg 41).map (fun d => d.ev I n a) = some (F41 I n a) := fun I n a => by kernel_rfl
/-! laws.szStx -/
noncomputable def F17 (I : Interp) (n : Nat) (a : List PV) : Option (List PV) :=
  (iff (ltI (IntKind.i64.wrap ((nth a 1).toInt - (((nth a 0).fld 3).toStr.size : Int))) (0 : Int))
  (some [(PV.int (-1 : Int))])
  ((I 34 [((nth a 0).fld 4), (PV.int (IntKind.i64.wrap ((nth a 1).toInt - (((nth a 0).fld 3).toStr.size : Int))))]).bind fun r0 =>
  (iff (ltI (nth r0 0).toInt (0 : Int))
  (some [(PV.int (-1 : Int))])
  ((I 41 [((nth a 0).fld 5), (nth r0 0)]).bind fun r1 =>
  (iff (ltI (nth r1 0).toInt (0 : Int))
  (some [(PV.int (-1 : Int))])
  (some [(nth r1 0)]))))))
theorem e17 : ∀ I n a, (compF Tryd.prog sg 17).map (fun d => d.ev I n a) = some (F17 I n a) := fun I n a => by kernel_rfl
/-! spec.StxText -/
noncomputable def L18_0 (I : Interp) (n : Nat) (p2 : List PV) : Option (Ex × List PV) :=
  (iff (ltI (nth p2 0).toInt (((nth p2 2).fld 5).toList.length : Int))
  (thenN (iff (gtI (nth p2 0).toInt (0 : Int))
  (iff (leI ((catB (nth p2 1).toStr (⟨#[32]⟩ : ByteArray)).size : Int) (9223372036854775807 : Int))
  (some (Ex.n, [(PV.str (catB (nth p2 1).toStr (⟨#[32]⟩ : ByteArray))), (nth p2 0), (nth p2 2)]))
  none)
  (some (Ex.n, [(nth p2 1), (nth p2 0), (nth p2 2)])))
  (fun p3 => (iff (geI (nth p3 1).toInt (0 : Int))
  (iff (ltI (nth p3 1).toInt (((nth p3 2).fld 5).toList.length : Int))
  ((I 18 [(nth ((nth p3 2).fld 5).toList (nth p3 1).toInt.toNat)]).bind fun r4 =>
  (iff (leI ((catB (nth p3 0).toStr (nth r4 0).toStr).size : Int) (9223372036854775807 : Int))
  (some (Ex.n, [(PV.int (IntKind.i64.wrap ((nth p3 1).toInt + (1 : Int)))), (PV.str (catB (nth p3 0).toStr (nth r4 0).toStr)), (nth p3 2)]))
  none))
  none)
  none))
  passE)
  (some (Ex.x 1, [(nth p2 1)])))
noncomputable def F18 (I : Interp) (n : Nat) (a : List PV) : Option (List PV) :=
  (iff (eqI ((nth a 0).fld 0).toInt (1 : Int))
  ((I 28 [((nth a 0).fld 2)]).bind fun r0 =>
  (some [(nth r0 0)]))
  (iff (eqI ((nth a 0).fld 0).toInt (2 : Int))
  ((I 36 [((nth a 0).fld 4)]).bind fun r1 =>
  (iff (leI ((catB ((nth a 0).fld 3).toStr (nth r1 0).toStr).size : Int) (9223372036854775807 : Int))
  (some [(PV.str (catB ((nth a 0).fld 3).toStr (nth r1 0).toStr))])
  none))
  (iff (eqI ((nth a 0).fld 0).toInt (3 : Int))
  (thenN (thenE (loopEv (L18_0 I n) n [(PV.int (0 : Int)), (PV.str (⟨#[40]⟩ : ByteArray)), (nth a 0)])
  (passB 1))
  (fun p5 => (iff (leI ((catB (nth p5 0).toStr (⟨#[41]⟩ : ByteArray)).size : Int) (9223372036854775807 : Int))
  (some [(PV.str (catB (nth p5 0).toStr (⟨#[41]⟩ : ByteArray)))])
  none))
  (retE fun q6 => [(nth q6 0)]))
  (some [(PV.str (⟨#[63]⟩ : ByteArray))]))))
theorem e18 : ∀ I n a, (compF Tryd.prog sg 18).map (fun d => d.ev I n a) = some (F18 I n a) := fun I n a => by kernel_rfl
/-! laws.toStxS -/
noncomputable def L42_0 (I : Interp) (n : Nat) (p0 : List PV) : Option (Ex × List PV) :=
  (iff (ltI (nth p0 0).toInt ((nth p0 1).toList.length : Int))
  (iff (geI (nth p0 0).toInt (0 : Int))
  (iff (ltI (nth p0 0).toInt ((nth p0 1).toList.length : Int))
  ((I 19 [(nth (nth p0 1).toList (nth p0 0).toInt.toNat)]).bind fun r1 =>
  (iff (geI (nth p0 0).toInt (0 : Int))
  (iff (ltI (nth p0 0).toInt ((nth p0 2).toList.length : Int))
  (some (Ex.n, [(PV.int (IntKind.i64.wrap ((nth p0 0).toInt + (1 : Int)))), (nth p0 1), (PV.list ((nth p0 2).toList.set (nth p0 0).toInt.toNat (nth r1 0)))]))
  none)
  none))
  none)
  none)
  (some (Ex.x 0, [(nth p0 2)])))
noncomputable def F42 (I : Interp) (n : Nat) (a : List PV) : Option (List PV) :=
  (iff (geI ((nth a 0).toList.length : Int) (0 : Int))
  (iff (leI ((nth a 0).toList.length : Int) ((nth a 0).toList.length : Int))
  (iff (leI ((nth a 0).toList.length : Int) (1599289640401 : Int))
  (thenN (thenE (loopEv (L42_0 I n) n [(PV.int (0 : Int)), (nth a 0), (PV.list (List.replicate ((nth a 0).toList.length : Int).toNat (PV.agg [(PV.int (0 : Int)), (PV.int (0 : Int)), (PV.int (0 : Int)), (PV.str (⟨#[]⟩ : ByteArray)), (PV.list ([] : List PV)), (PV.list ([] : List PV))])))])
  (passB 0))
  (fun p2 => (some [(nth p2 0)]))
  (retE fun q3 => [(nth q3 0)]))
  none)
  none)
  none)
theorem e42 : ∀ I n a, (compF Tryd.prog sg 42).map (fun d => d.ev I n a) = some (F42 I n a) := fun I n a => by kernel_rfl
/-! laws.toStx -/
noncomputable def F19 (I : Interp) (n : Nat) (a : List PV) : Option (List PV) :=
  ((I 37 [((nth a 0).fld 4)]).bind fun r0 =>
  ((I 42 [((nth a 0).fld 5)]).bind fun r1 =>
  (some [(PV.agg [((nth a 0).fld 0), ((nth a 0).fld 1), ((nth a 0).fld 2), ((nth a 0).fld 3), (nth r0 0), (nth r1 0)])])))
theorem e19 : ∀ I n a, (compF Tryd.prog sg 19).map (fun d => d.ev I n a) = some (F19 I n a) := fun I n a => by kernel_rfl
/-! impl.setText -/
noncomputable def L39_0 (I : Interp) (n : Nat) (p0 : List PV) : Option (Ex × List PV) :=
  (iff (ltI (nth p0 0).toInt (nth p0 1).toInt)
  (iff (geI (nth p0 0).toInt (0 : Int))
  (iff (ltI (nth p0 0).toInt ((nth p0 2).toList.length : Int))
  ((I 31 [(nth (nth p0 2).toList (nth p0 0).toInt.toNat)]).bind fun r1 =>
  (iff (leN ((nth p0 3).toList.length + ((nth r1 0) :: ([] : List PV)).length) 8796093022208)
  (some (Ex.n, [(PV.int (IntKind.i64.wrap ((nth p0 0).toInt + (1 : Int)))), (nth p0 1), (nth p0 2), (PV.list ((nth p0 3).toList ++ ((nth r1 0) :: ([] : List PV))))]))
  none))
  none)
  none)
  (some (Ex.x 0, [(nth p0 3)])))
noncomputable def F39 (I : Interp) (n : Nat) (a : List PV) : Option (List PV) :=
  (thenN (thenE (loopEv (L39_0 I n) n [(PV.int (0 : Int)), (PV.int ((nth a 0).toList.length : Int)), (nth a 0), (PV.list ([] : List PV))])
  (passB 0))
  (fun p2 => ((I 43 [(nth p2 0), (PV.str (⟨#[32]⟩ : ByteArray))]).bind fun r3 =>
  (iff (leI ((catB (⟨#[123]⟩ : ByteArray) (nth r3 0).toStr).size : Int) (9223372036854775807 : Int))
  (iff (leI ((catB (catB (⟨#[123]⟩ : ByteArray) (nth r3 0).toStr) (⟨#[125]⟩ : ByteArray)).size : Int) (9223372036854775807 : Int))
  (some [(PV.str (catB (catB (⟨#[123]⟩ : ByteArray) (nth r3 0).toStr) (⟨#[125]⟩ : ByteArray)))])
  none)
  none)))
  (retE fun q4 => [(nth q4 0)]))
theorem e39 : ∀ I n a, (compF Tryd.prog sg 39).map (fun d => d.ev I n a) = some (F39 I n a) := fun I n a => by kernel_rfl
/-! impl.StxText -/
noncomputable def L20_0 (I : Interp) (n : Nat) (p2 : List PV) : Option (Ex × List PV) :=
  (iff (ltI (nth p2 0).toInt (nth p2 1).toInt)
  (iff (geI (nth p2 0).toInt (0 : Int))
  (iff (ltI (nth p2 0).toInt ((nth p2 2).toList.length : Int))
  ((I 20 [(nth (nth p2 2).toList (nth p2 0).toInt.toNat)]).bind fun r3 =>
  (iff (leN ((nth p2 3).toList.length + ((nth r3 0) :: ([] : List PV)).length) 8796093022208)
  (some (Ex.n, [(PV.int (IntKind.i64.wrap ((nth p2 0).toInt + (1 : Int)))), (nth p2 1), (nth p2 2), (PV.list ((nth p2 3).toList ++ ((nth r3 0) :: ([] : List PV))))]))
  none))
  none)
  none)
  (some (Ex.x 1, [(nth p2 3)])))
noncomputable def F20 (I : Interp) (n : Nat) (a : List PV) : Option (List PV) :=
  (iff (eqI ((nth a 0).fld 0).toInt (1 : Int))
  ((I 31 [((nth a 0).fld 2)]).bind fun r0 =>
  (some [(nth r0 0)]))
  (iff (eqI ((nth a 0).fld 0).toInt (2 : Int))
  ((I 39 [((nth a 0).fld 4)]).bind fun r1 =>
  (iff (leI ((catB ((nth a 0).fld 3).toStr (nth r1 0).toStr).size : Int) (9223372036854775807 : Int))
  (some [(PV.str (catB ((nth a 0).fld 3).toStr (nth r1 0).toStr))])
  none))
  (iff (eqI ((nth a 0).fld 0).toInt (3 : Int))
  (thenN (thenE (loopEv (L20_0 I n) n [(PV.int (0 : Int)), (PV.int (((nth a 0).fld 5).toList.length : Int)), ((nth a 0).fld 5), (PV.list ([] : List PV))])
  (passB 1))
  (fun p4 => ((I 43 [(nth p4 0), (PV.str (⟨#[32]⟩ : ByteArray))]).bind fun r5 =>
  (iff (leI ((catB (⟨#[40]⟩ : ByteArray) (nth r5 0).toStr).size : Int) (9223372036854775807 : Int))
  (iff (leI ((catB (catB (⟨#[40]⟩ : ByteArray) (nth r5 0).toStr) (⟨#[41]⟩ : ByteArray)).size : Int) (9223372036854775807 : Int))
  (some [(PV.str (catB (catB (⟨#[40]⟩ : ByteArray) (nth r5 0).toStr) (⟨#[41]⟩ : ByteArray)))])
  none)
  none)))
  (retE fun q6 => [(nth q6 0)]))
  (some [(PV.str (⟨#[63]⟩ : ByteArray))]))))
theorem e20 : ∀ I n a, (compF Tryd.prog sg 20).map (fun d => d.ev I n a) = some (F20 I n a) := fun I n a => by kernel_rfl
/-! laws.FnExactStxText -/
noncomputable def F5 (I : Interp) (n : Nat) (a : List PV) : Option (List PV) :=
  ((I 17 [(nth a 0), (PV.int (1048576 : Int))]).bind fun r0 =>
  (iff (ltI (nth r0 0).toInt (0 : Int))
  (some [(PV.bool true)])
  ((I 19 [(nth a 0)]).bind fun r1 =>
  ((I 18 [(nth r1 0)]).bind fun r2 =>
  ((I 19 [(nth a 0)]).bind fun r3 =>
  ((I 20 [(nth r3 0)]).bind fun r4 =>
  (iff (cmpS BinOp.neq (nth r4 0).toStr (nth r2 0).toStr)
  (some [(PV.bool false)])
  ((I 19 [(nth a 0)]).bind fun r5 =>
  ((I 21 [(nth r3 0), (nth r5 0)]).bind fun r6 =>
  (iff (!(nth r6 0).toBool)
  (some [(PV.bool false)])
  (some [(PV.bool true)])))))))))))
theorem e5 : ∀ I n a, (compF Tryd.prog sg 5).map (fun d => d.ev I n a) = some (F5 I n a) := fun I n a => by kernel_rfl
end Go.Proofs.YtjaboelhknoamaaDoor.GFnExactStxText
