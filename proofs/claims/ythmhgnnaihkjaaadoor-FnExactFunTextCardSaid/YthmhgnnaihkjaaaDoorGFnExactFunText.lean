/- The pure programs of the functions that the law FnExactFunText reaches, out of the compiled code. No conditions. -/
import Derived.Test.YthmhgnnaihkjaaaDoorRows
import Derived.Test.YthmhgnnaihkjaaaDoorRscZr
namespace Go.Proofs.YthmhgnnaihkjaaaDoor.GFnExactFunText
open Go Go.Rsc Go.Proofs.YthmhgnnaihkjaaaDoor
set_option maxRecDepth 100000
set_option linter.unusedVariables false
def sg : FuncId → Option Sig := fun f => match f with
  | 54 => some { ps := [PM.ro (SD.int (IntKind.i64))], rs := [RM.v (SD.str)], orc := some (Orc.itoa) }
  | 51 => some { ps := [PM.ro (SD.int (IntKind.i64)), PM.ro (SD.int (IntKind.i64)), PM.ro (SD.int (IntKind.i64))], rs := [RM.v (SD.bool)], orc := none }
  | 24 => some { ps := [PM.ro (SD.int (IntKind.i64))], rs := [RM.v (SD.str)], orc := none }
  | 56 => some { ps := [PM.ro (SD.sc (SD.int (IntKind.i64)) (SD.sc (SD.int (IntKind.i64)) (SD.sc (SD.int (IntKind.i64)) (SD.sn)))), PM.ro (SD.sc (SD.int (IntKind.i64)) (SD.sc (SD.int (IntKind.i64)) (SD.sc (SD.int (IntKind.i64)) (SD.sn))))], rs := [RM.v (SD.bool)], orc := none }
  | 55 => some { ps := [PM.ro (SD.int (IntKind.i64)), PM.ro (SD.int (IntKind.i64)), PM.ro (SD.int (IntKind.i64))], rs := [RM.v (SD.bool)], orc := none }
  | 52 => some { ps := [], rs := [RM.v (SD.own 9 false)], orc := none }
  | 53 => some { ps := [PM.ro (SD.sc (SD.int (IntKind.i64)) (SD.sc (SD.int (IntKind.i64)) (SD.sc (SD.int (IntKind.i64)) (SD.sn))))], rs := [RM.v (SD.sc (SD.int (IntKind.i64)) (SD.sc (SD.int (IntKind.i64)) (SD.sc (SD.int (IntKind.i64)) (SD.sn))))], orc := none }
  | 23 => some { ps := [PM.ro (SD.bor 81), PM.ro (SD.int (IntKind.i64))], rs := [RM.v (SD.int (IntKind.i64))], orc := none }
  | 29 => some { ps := [PM.ro (SD.bor 51), PM.ro (SD.bor 51)], rs := [RM.v (SD.bool)], orc := none }
  | 26 => some { ps := [PM.ro (SD.bor 81)], rs := [RM.v (SD.own 51 false)], orc := none }
  | 27 => some { ps := [PM.ro (SD.int (IntKind.i64))], rs := [RM.v (SD.str)], orc := none }
  | 7 => some { ps := [PM.ro (SD.sc (SD.int (IntKind.i64)) (SD.sc (SD.bor 81) (SD.sn))), PM.ro (SD.int (IntKind.i64))], rs := [RM.v (SD.int (IntKind.i64))], orc := none }
  | 11 => some { ps := [PM.ro (SD.sc (SD.int (IntKind.i64)) (SD.sc (SD.bor 51) (SD.sn))), PM.ro (SD.sc (SD.int (IntKind.i64)) (SD.sc (SD.bor 51) (SD.sn)))], rs := [RM.v (SD.bool)], orc := none }
  | 9 => some { ps := [PM.ro (SD.sc (SD.int (IntKind.i64)) (SD.sc (SD.bor 81) (SD.sn)))], rs := [RM.v (SD.sc (SD.int (IntKind.i64)) (SD.sc (SD.own 51 false) (SD.sn)))], orc := none }
  | 25 => some { ps := [PM.ro (SD.sc (SD.int (IntKind.i64)) (SD.sc (SD.int (IntKind.i64)) (SD.sc (SD.int (IntKind.i64)) (SD.sn))))], rs := [RM.v (SD.str)], orc := none }
  | 28 => some { ps := [PM.ro (SD.sc (SD.int (IntKind.i64)) (SD.sc (SD.int (IntKind.i64)) (SD.sc (SD.int (IntKind.i64)) (SD.sn))))], rs := [RM.v (SD.str)], orc := none }
  | 8 => some { ps := [PM.ro (SD.sc (SD.int (IntKind.i64)) (SD.sc (SD.bor 51) (SD.sn)))], rs := [RM.v (SD.str)], orc := none }
  | 10 => some { ps := [PM.ro (SD.sc (SD.int (IntKind.i64)) (SD.sc (SD.bor 51) (SD.sn)))], rs := [RM.v (SD.str)], orc := none }
  | 3 => some { ps := [PM.ro (SD.sc (SD.int (IntKind.i64)) (SD.sc (SD.bor 81) (SD.sn)))], rs := [RM.v (SD.bool)], orc := none }
  | _ => none
/-! spec.l1In -/
noncomputable def F51 (I : Interp) (n : Nat) (a : List PV) : Option (List PV) :=
  (some [(selB (geI (nth a 0).toInt (nth a 1).toInt) (selB ((geI (nth a 0).toInt (nth a 1).toInt) == true) (PV.bool (leI (selB ((geI (nth a 0).toInt (nth a 1).toInt) == true) (nth a 0) PV.unit).toInt (selB ((geI (nth a 0).toInt (nth a 1).toInt) == true) (nth a 2) PV.unit).toInt)) PV.unit) (PV.bool false))])
theorem e51 : ∀ I n a, (compF Tryd.prog sg 51).map (fun d => d.ev I n a) = some (F51 I n a) := fun I n a => by kernel_rfl
/-! spec.Digits -/
noncomputable def L24_0 (I : Interp) (n : Nat) (p0 : List PV) : Option (Ex × List PV) :=
  (iff (neI (nth p0 0).toInt (0 : Int))
  (iff (neI (10 : Int) (0 : Int))
  (thenN (iff (ltI (arith BinOp.rem IntKind.i64 (nth p0 0).toInt (10 : Int)) (0 : Int))
  (some (Ex.n, [(PV.int (IntKind.i64.wrap ((0 : Int) - (arith BinOp.rem IntKind.i64 (nth p0 0).toInt (10 : Int))))), (nth p0 2), (nth p0 0), (nth p0 1)]))
  (some (Ex.n, [(PV.int (arith BinOp.rem IntKind.i64 (nth p0 0).toInt (10 : Int))), (nth p0 2), (nth p0 0), (nth p0 1)])))
  (fun p1 => (iff (leI ((catB (b2sL ((PV.int (IntKind.u8.wrap (IntKind.i64.wrap ((48 : Int) + (nth p1 0).toInt)))) :: ([] : List PV))) (nth p1 1).toStr).size : Int) (9223372036854775807 : Int))
  (iff (neI (10 : Int) (0 : Int))
  (some (Ex.n, [(PV.int (arith BinOp.quo IntKind.i64 (nth p1 2).toInt (10 : Int))), (nth p1 3), (PV.str (catB (b2sL ((PV.int (IntKind.u8.wrap (IntKind.i64.wrap ((48 : Int) + (nth p1 0).toInt)))) :: ([] : List PV))) (nth p1 1).toStr))]))
  none)
  none))
  passE)
  none)
  (some (Ex.x 0, [(nth p0 1), (nth p0 2)])))
noncomputable def F24 (I : Interp) (n : Nat) (a : List PV) : Option (List PV) :=
  (iff (eqI (nth a 0).toInt (0 : Int))
  (some [(PV.str (⟨#[48]⟩ : ByteArray))])
  (thenN (thenE (loopEv (L24_0 I n) n [(nth a 0), (PV.bool (ltI (nth a 0).toInt (0 : Int))), (PV.str (⟨#[]⟩ : ByteArray))])
  (passB 0))
  (fun p2 => (iff (nth p2 0).toBool
  (iff (leI ((catB (⟨#[45]⟩ : ByteArray) (nth p2 1).toStr).size : Int) (9223372036854775807 : Int))
  (some [(PV.str (catB (⟨#[45]⟩ : ByteArray) (nth p2 1).toStr))])
  none)
  (some [(nth p2 1)])))
  (retE fun q3 => [(nth q3 0)])))
theorem e24 : ∀ I n a, (compF Tryd.prog sg 24).map (fun d => d.ev I n a) = some (F24 I n a) := fun I n a => by kernel_rfl
/-! laws.eqOp -/
noncomputable def F56 (I : Interp) (n : Nat) (a : List PV) : Option (List PV) :=
  (iff (neI ((nth a 0).fld 0).toInt ((nth a 1).fld 0).toInt)
  (some [(PV.bool false)])
  (iff (neI ((nth a 0).fld 1).toInt ((nth a 1).fld 1).toInt)
  (some [(PV.bool false)])
  (iff (neI ((nth a 0).fld 2).toInt ((nth a 1).fld 2).toInt)
  (some [(PV.bool false)])
  (some [(PV.bool true)]))))
theorem e56 : ∀ I n a, (compF Tryd.prog sg 56).map (fun d => d.ev I n a) = some (F56 I n a) := fun I n a => by kernel_rfl
/-! impl.within -/
noncomputable def F55 (I : Interp) (n : Nat) (a : List PV) : Option (List PV) :=
  (some [(selB (geI (nth a 0).toInt (nth a 1).toInt) (selB ((geI (nth a 0).toInt (nth a 1).toInt) == true) (PV.bool (leI (selB ((geI (nth a 0).toInt (nth a 1).toInt) == true) (nth a 0) PV.unit).toInt (selB ((geI (nth a 0).toInt (nth a 1).toInt) == true) (nth a 2) PV.unit).toInt)) PV.unit) (PV.bool false))])
theorem e55 : ∀ I n a, (compF Tryd.prog sg 55).map (fun d => d.ev I n a) = some (F55 I n a) := fun I n a => by kernel_rfl
/-! spec.l13Names -/
noncomputable def F52 (I : Interp) (n : Nat) (a : List PV) : Option (List PV) :=
  (some [(PV.list ((PV.str (⟨#[]⟩ : ByteArray)) :: ((PV.str (⟨#[110, 117, 109]⟩ : ByteArray)) :: ((PV.str (⟨#[108, 111, 99, 97, 108]⟩ : ByteArray)) :: ((PV.str (⟨#[102, 114, 101, 101]⟩ : ByteArray)) :: ((PV.str (⟨#[115, 101, 108, 102]⟩ : ByteArray)) :: ((PV.str (⟨#[99, 108, 111, 115]⟩ : ByteArray)) :: ((PV.str (⟨#[99, 97, 108, 108]⟩ : ByteArray)) :: ((PV.str (⟨#[114, 101, 116]⟩ : ByteArray)) :: ((PV.str (⟨#[99, 111, 110]⟩ : ByteArray)) :: ((PV.str (⟨#[102, 105, 101, 108, 100]⟩ : ByteArray)) :: ((PV.str (⟨#[105, 115, 99, 111, 110]⟩ : ByteArray)) :: ((PV.str (⟨#[105, 115, 110, 117, 109]⟩ : ByteArray)) :: ((PV.str (⟨#[97, 100, 100]⟩ : ByteArray)) :: ((PV.str (⟨#[115, 117, 98]⟩ : ByteArray)) :: ((PV.str (⟨#[109, 117, 108]⟩ : ByteArray)) :: ((PV.str (⟨#[108, 101, 115, 115]⟩ : ByteArray)) :: ((PV.str (⟨#[115, 97, 109, 101]⟩ : ByteArray)) :: ((PV.str (⟨#[112, 117, 116]⟩ : ByteArray)) :: ((PV.str (⟨#[122, 101, 114, 111]⟩ : ByteArray)) :: ((PV.str (⟨#[106, 117, 109, 112]⟩ : ByteArray)) :: ((PV.str (⟨#[115, 108, 105, 100, 101]⟩ : ByteArray)) :: ((PV.str (⟨#[102, 97, 105, 108]⟩ : ByteArray)) :: ([] : List PV))))))))))))))))))))))))])
theorem e52 : ∀ I n a, (compF Tryd.prog sg 52).map (fun d => d.ev I n a) = some (F52 I n a) := fun I n a => by kernel_rfl
/-! laws.toOp -/
noncomputable def F53 (I : Interp) (n : Nat) (a : List PV) : Option (List PV) :=
  (some [(PV.agg [((nth a 0).fld 0), ((nth a 0).fld 1), ((nth a 0).fld 2)])])
theorem e53 : ∀ I n a, (compF Tryd.prog sg 53).map (fun d => d.ev I n a) = some (F53 I n a) := fun I n a => by kernel_rfl
/-! laws.szOpS -/
noncomputable def F23 (I : Interp) (n : Nat) (a : List PV) : Option (List PV) :=
  (iff (ltI (IntKind.i64.wrap ((nth a 1).toInt - ((nth a 0).toList.length : Int))) (0 : Int))
  (some [(PV.int (-1 : Int))])
  (some [(PV.int (IntKind.i64.wrap ((nth a 1).toInt - ((nth a 0).toList.length : Int))))]))
theorem e23 : ∀ I n a, (compF Tryd.prog sg 23).map (fun d => d.ev I n a) = some (F23 I n a) := fun I n a => by kernel_rfl
/-! laws.eqOpS -/
noncomputable def L29_0 (I : Interp) (n : Nat) (p0 : List PV) : Option (Ex × List PV) :=
  (iff (ltI (nth p0 0).toInt ((nth p0 1).toList.length : Int))
  (iff (geI (nth p0 0).toInt (0 : Int))
  (iff (ltI (nth p0 0).toInt ((nth p0 1).toList.length : Int))
  (iff (geI (nth p0 0).toInt (0 : Int))
  (iff (ltI (nth p0 0).toInt ((nth p0 2).toList.length : Int))
  ((I 56 [(nth (nth p0 1).toList (nth p0 0).toInt.toNat), (nth (nth p0 2).toList (nth p0 0).toInt.toNat)]).bind fun r1 =>
  (iff (!(nth r1 0).toBool)
  (some (Ex.r, [(PV.bool false)]))
  (some (Ex.n, [(PV.int (IntKind.i64.wrap ((nth p0 0).toInt + (1 : Int)))), (nth p0 1), (nth p0 2)]))))
  none)
  none)
  none)
  none)
  (some (Ex.x 0, [])))
noncomputable def F29 (I : Interp) (n : Nat) (a : List PV) : Option (List PV) :=
  (iff (neI ((nth a 0).toList.length : Int) ((nth a 1).toList.length : Int))
  (some [(PV.bool false)])
  (thenN (thenE (loopEv (L29_0 I n) n [(PV.int (0 : Int)), (nth a 0), (nth a 1)])
  (passB 0))
  (fun p2 => (some [(PV.bool true)]))
  (retE fun q3 => [(nth q3 0)])))
theorem e29 : ∀ I n a, (compF Tryd.prog sg 29).map (fun d => d.ev I n a) = some (F29 I n a) := fun I n a => by kernel_rfl
/-! laws.toOpS -/
noncomputable def L26_0 (I : Interp) (n : Nat) (p0 : List PV) : Option (Ex × List PV) :=
  (iff (ltI (nth p0 0).toInt ((nth p0 1).toList.length : Int))
  (iff (geI (nth p0 0).toInt (0 : Int))
  (iff (ltI (nth p0 0).toInt ((nth p0 1).toList.length : Int))
  ((I 53 [(nth (nth p0 1).toList (nth p0 0).toInt.toNat)]).bind fun r1 =>
  (iff (geI (nth p0 0).toInt (0 : Int))
  (iff (ltI (nth p0 0).toInt ((nth p0 2).toList.length : Int))
  (some (Ex.n, [(PV.int (IntKind.i64.wrap ((nth p0 0).toInt + (1 : Int)))), (nth p0 1), (PV.list ((nth p0 2).toList.set (nth p0 0).toInt.toNat (nth r1 0)))]))
  none)
  none))
  none)
  none)
  (some (Ex.x 0, [(nth p0 2)])))
noncomputable def F26 (I : Interp) (n : Nat) (a : List PV) : Option (List PV) :=
  (iff (geI ((nth a 0).toList.length : Int) (0 : Int))
  (iff (leI ((nth a 0).toList.length : Int) ((nth a 0).toList.length : Int))
  (iff (leI ((nth a 0).toList.length : Int) (5864062014805 : Int))
  (thenN (thenE (loopEv (L26_0 I n) n [(PV.int (0 : Int)), (nth a 0), (PV.list (List.replicate ((nth a 0).toList.length : Int).toNat (PV.agg [(PV.int (0 : Int)), (PV.int (0 : Int)), (PV.int (0 : Int))])))])
  (passB 0))
  (fun p2 => (some [(nth p2 0)]))
  (retE fun q3 => [(nth q3 0)]))
  none)
  none)
  none)
theorem e26 : ∀ I n a, (compF Tryd.prog sg 26).map (fun d => d.ev I n a) = some (F26 I n a) := fun I n a => by kernel_rfl
/-! impl.Digits -/
noncomputable def F27 (I : Interp) (n : Nat) (a : List PV) : Option (List PV) :=
  ((I 54 [(nth a 0)]).bind fun r0 =>
  (some [(nth r0 0)]))
theorem e27 : ∀ I n a, (compF Tryd.prog sg 27).map (fun d => d.ev I n a) = some (F27 I n a) := fun I n a => by kernel_rfl
/-! laws.szFun -/
noncomputable def F7 (I : Interp) (n : Nat) (a : List PV) : Option (List PV) :=
  ((I 23 [((nth a 0).fld 1), (nth a 1)]).bind fun r0 =>
  (iff (ltI (nth r0 0).toInt (0 : Int))
  (some [(PV.int (-1 : Int))])
  (some [(nth r0 0)])))
theorem e7 : ∀ I n a, (compF Tryd.prog sg 7).map (fun d => d.ev I n a) = some (F7 I n a) := fun I n a => by kernel_rfl
/-! laws.eqFun -/
noncomputable def F11 (I : Interp) (n : Nat) (a : List PV) : Option (List PV) :=
  (iff (neI ((nth a 0).fld 0).toInt ((nth a 1).fld 0).toInt)
  (some [(PV.bool false)])
  ((I 29 [((nth a 0).fld 1), ((nth a 1).fld 1)]).bind fun r0 =>
  (iff (!(nth r0 0).toBool)
  (some [(PV.bool false)])
  (some [(PV.bool true)]))))
theorem e11 : ∀ I n a, (compF Tryd.prog sg 11).map (fun d => d.ev I n a) = some (F11 I n a) := fun I n a => by kernel_rfl
/-! laws.toFun -/
noncomputable def F9 (I : Interp) (n : Nat) (a : List PV) : Option (List PV) :=
  ((I 26 [((nth a 0).fld 1)]).bind fun r0 =>
  (some [(PV.agg [((nth a 0).fld 0), (nth r0 0)])]))
theorem e9 : ∀ I n a, (compF Tryd.prog sg 9).map (fun d => d.ev I n a) = some (F9 I n a) := fun I n a => by kernel_rfl
/-! spec.OpText -/
noncomputable def F25 (I : Interp) (n : Nat) (a : List PV) : Option (List PV) :=
  ((I 51 [((nth a 0).fld 0), (PV.int (1 : Int)), (PV.int (21 : Int))]).bind fun r0 =>
  (iff (!(nth r0 0).toBool)
  (some [(PV.str (⟨#[]⟩ : ByteArray))])
  ((I 52 []).bind fun r1 =>
  (iff (geI ((nth a 0).fld 0).toInt (0 : Int))
  (iff (ltI ((nth a 0).fld 0).toInt ((nth r1 0).toList.length : Int))
  (iff (leI ((catB (nth (nth r1 0).toList ((nth a 0).fld 0).toInt.toNat).toStr (⟨#[32]⟩ : ByteArray)).size : Int) (9223372036854775807 : Int))
  ((I 24 [((nth a 0).fld 1)]).bind fun r2 =>
  (iff (leI ((catB (catB (nth (nth r1 0).toList ((nth a 0).fld 0).toInt.toNat).toStr (⟨#[32]⟩ : ByteArray)) (nth r2 0).toStr).size : Int) (9223372036854775807 : Int))
  (iff (leI ((catB (catB (catB (nth (nth r1 0).toList ((nth a 0).fld 0).toInt.toNat).toStr (⟨#[32]⟩ : ByteArray)) (nth r2 0).toStr) (⟨#[32]⟩ : ByteArray)).size : Int) (9223372036854775807 : Int))
  ((I 24 [((nth a 0).fld 2)]).bind fun r3 =>
  (iff (leI ((catB (catB (catB (catB (nth (nth r1 0).toList ((nth a 0).fld 0).toInt.toNat).toStr (⟨#[32]⟩ : ByteArray)) (nth r2 0).toStr) (⟨#[32]⟩ : ByteArray)) (nth r3 0).toStr).size : Int) (9223372036854775807 : Int))
  (some [(PV.str (catB (catB (catB (catB (nth (nth r1 0).toList ((nth a 0).fld 0).toInt.toNat).toStr (⟨#[32]⟩ : ByteArray)) (nth r2 0).toStr) (⟨#[32]⟩ : ByteArray)) (nth r3 0).toStr))])
  none))
  none)
  none))
  none)
  none)
  none))))
theorem e25 : ∀ I n a, (compF Tryd.prog sg 25).map (fun d => d.ev I n a) = some (F25 I n a) := fun I n a => by kernel_rfl
/-! impl.OpText -/
noncomputable def F28 (I : Interp) (n : Nat) (a : List PV) : Option (List PV) :=
  ((I 55 [((nth a 0).fld 0), (PV.int (1 : Int)), (PV.int (21 : Int))]).bind fun r0 =>
  (iff (!(nth r0 0).toBool)
  (some [(PV.str (⟨#[]⟩ : ByteArray))])
  (iff (geI (IntKind.i64.wrap (((nth a 0).fld 0).toInt - (1 : Int))) (0 : Int))
  (iff (ltI (IntKind.i64.wrap (((nth a 0).fld 0).toInt - (1 : Int))) (((PV.str (⟨#[110, 117, 109]⟩ : ByteArray)) :: ((PV.str (⟨#[108, 111, 99, 97, 108]⟩ : ByteArray)) :: ((PV.str (⟨#[102, 114, 101, 101]⟩ : ByteArray)) :: ((PV.str (⟨#[115, 101, 108, 102]⟩ : ByteArray)) :: ((PV.str (⟨#[99, 108, 111, 115]⟩ : ByteArray)) :: ((PV.str (⟨#[99, 97, 108, 108]⟩ : ByteArray)) :: ((PV.str (⟨#[114, 101, 116]⟩ : ByteArray)) :: ((PV.str (⟨#[99, 111, 110]⟩ : ByteArray)) :: ((PV.str (⟨#[102, 105, 101, 108, 100]⟩ : ByteArray)) :: ((PV.str (⟨#[105, 115, 99, 111, 110]⟩ : ByteArray)) :: ((PV.str (⟨#[105, 115, 110, 117, 109]⟩ : ByteArray)) :: ((PV.str (⟨#[97, 100, 100]⟩ : ByteArray)) :: ((PV.str (⟨#[115, 117, 98]⟩ : ByteArray)) :: ((PV.str (⟨#[109, 117, 108]⟩ : ByteArray)) :: ((PV.str (⟨#[108, 101, 115, 115]⟩ : ByteArray)) :: ((PV.str (⟨#[115, 97, 109, 101]⟩ : ByteArray)) :: ((PV.str (⟨#[112, 117, 116]⟩ : ByteArray)) :: ((PV.str (⟨#[122, 101, 114, 111]⟩ : ByteArray)) :: ((PV.str (⟨#[106, 117, 109, 112]⟩ : ByteArray)) :: ((PV.str (⟨#[115, 108, 105, 100, 101]⟩ : ByteArray)) :: ((PV.str (⟨#[102, 97, 105, 108]⟩ : ByteArray)) :: ([] : List PV)))))))))))))))))))))).length : Int))
  (iff (leI ((catB (nth ((PV.str (⟨#[110, 117, 109]⟩ : ByteArray)) :: ((PV.str (⟨#[108, 111, 99, 97, 108]⟩ : ByteArray)) :: ((PV.str (⟨#[102, 114, 101, 101]⟩ : ByteArray)) :: ((PV.str (⟨#[115, 101, 108, 102]⟩ : ByteArray)) :: ((PV.str (⟨#[99, 108, 111, 115]⟩ : ByteArray)) :: ((PV.str (⟨#[99, 97, 108, 108]⟩ : ByteArray)) :: ((PV.str (⟨#[114, 101, 116]⟩ : ByteArray)) :: ((PV.str (⟨#[99, 111, 110]⟩ : ByteArray)) :: ((PV.str (⟨#[102, 105, 101, 108, 100]⟩ : ByteArray)) :: ((PV.str (⟨#[105, 115, 99, 111, 110]⟩ : ByteArray)) :: ((PV.str (⟨#[105, 115, 110, 117, 109]⟩ : ByteArray)) :: ((PV.str (⟨#[97, 100, 100]⟩ : ByteArray)) :: ((PV.str (⟨#[115, 117, 98]⟩ : ByteArray)) :: ((PV.str (⟨#[109, 117, 108]⟩ : ByteArray)) :: ((PV.str (⟨#[108, 101, 115, 115]⟩ : ByteArray)) :: ((PV.str (⟨#[115, 97, 109, 101]⟩ : ByteArray)) :: ((PV.str (⟨#[112, 117, 116]⟩ : ByteArray)) :: ((PV.str (⟨#[122, 101, 114, 111]⟩ : ByteArray)) :: ((PV.str (⟨#[106, 117, 109, 112]⟩ : ByteArray)) :: ((PV.str (⟨#[115, 108, 105, 100, 101]⟩ : ByteArray)) :: ((PV.str (⟨#[102, 97, 105, 108]⟩ : ByteArray)) :: ([] : List PV)))))))))))))))))))))) (IntKind.i64.wrap (((nth a 0).fld 0).toInt - (1 : Int))).toNat).toStr (⟨#[32]⟩ : ByteArray)).size : Int) (9223372036854775807 : Int))
  ((I 27 [((nth a 0).fld 1)]).bind fun r1 =>
  (iff (leI ((catB (catB (nth ((PV.str (⟨#[110, 117, 109]⟩ : ByteArray)) :: ((PV.str (⟨#[108, 111, 99, 97, 108]⟩ : ByteArray)) :: ((PV.str (⟨#[102, 114, 101, 101]⟩ : ByteArray)) :: ((PV.str (⟨#[115, 101, 108, 102]⟩ : ByteArray)) :: ((PV.str (⟨#[99, 108, 111, 115]⟩ : ByteArray)) :: ((PV.str (⟨#[99, 97, 108, 108]⟩ : ByteArray)) :: ((PV.str (⟨#[114, 101, 116]⟩ : ByteArray)) :: ((PV.str (⟨#[99, 111, 110]⟩ : ByteArray)) :: ((PV.str (⟨#[102, 105, 101, 108, 100]⟩ : ByteArray)) :: ((PV.str (⟨#[105, 115, 99, 111, 110]⟩ : ByteArray)) :: ((PV.str (⟨#[105, 115, 110, 117, 109]⟩ : ByteArray)) :: ((PV.str (⟨#[97, 100, 100]⟩ : ByteArray)) :: ((PV.str (⟨#[115, 117, 98]⟩ : ByteArray)) :: ((PV.str (⟨#[109, 117, 108]⟩ : ByteArray)) :: ((PV.str (⟨#[108, 101, 115, 115]⟩ : ByteArray)) :: ((PV.str (⟨#[115, 97, 109, 101]⟩ : ByteArray)) :: ((PV.str (⟨#[112, 117, 116]⟩ : ByteArray)) :: ((PV.str (⟨#[122, 101, 114, 111]⟩ : ByteArray)) :: ((PV.str (⟨#[106, 117, 109, 112]⟩ : ByteArray)) :: ((PV.str (⟨#[115, 108, 105, 100, 101]⟩ : ByteArray)) :: ((PV.str (⟨#[102, 97, 105, 108]⟩ : ByteArray)) :: ([] : List PV)))))))))))))))))))))) (IntKind.i64.wrap (((nth a 0).fld 0).toInt - (1 : Int))).toNat).toStr (⟨#[32]⟩ : ByteArray)) (nth r1 0).toStr).size : Int) (9223372036854775807 : Int))
  (iff (leI ((catB (catB (catB (nth ((PV.str (⟨#[110, 117, 109]⟩ : ByteArray)) :: ((PV.str (⟨#[108, 111, 99, 97, 108]⟩ : ByteArray)) :: ((PV.str (⟨#[102, 114, 101, 101]⟩ : ByteArray)) :: ((PV.str (⟨#[115, 101, 108, 102]⟩ : ByteArray)) :: ((PV.str (⟨#[99, 108, 111, 115]⟩ : ByteArray)) :: ((PV.str (⟨#[99, 97, 108, 108]⟩ : ByteArray)) :: ((PV.str (⟨#[114, 101, 116]⟩ : ByteArray)) :: ((PV.str (⟨#[99, 111, 110]⟩ : ByteArray)) :: ((PV.str (⟨#[102, 105, 101, 108, 100]⟩ : ByteArray)) :: ((PV.str (⟨#[105, 115, 99, 111, 110]⟩ : ByteArray)) :: ((PV.str (⟨#[105, 115, 110, 117, 109]⟩ : ByteArray)) :: ((PV.str (⟨#[97, 100, 100]⟩ : ByteArray)) :: ((PV.str (⟨#[115, 117, 98]⟩ : ByteArray)) :: ((PV.str (⟨#[109, 117, 108]⟩ : ByteArray)) :: ((PV.str (⟨#[108, 101, 115, 115]⟩ : ByteArray)) :: ((PV.str (⟨#[115, 97, 109, 101]⟩ : ByteArray)) :: ((PV.str (⟨#[112, 117, 116]⟩ : ByteArray)) :: ((PV.str (⟨#[122, 101, 114, 111]⟩ : ByteArray)) :: ((PV.str (⟨#[106, 117, 109, 112]⟩ : ByteArray)) :: ((PV.str (⟨#[115, 108, 105, 100, 101]⟩ : ByteArray)) :: ((PV.str (⟨#[102, 97, 105, 108]⟩ : ByteArray)) :: ([] : List PV)))))))))))))))))))))) (IntKind.i64.wrap (((nth a 0).fld 0).toInt - (1 : Int))).toNat).toStr (⟨#[32]⟩ : ByteArray)) (nth r1 0).toStr) (⟨#[32]⟩ : ByteArray)).size : Int) (9223372036854775807 : Int))
  ((I 27 [((nth a 0).fld 2)]).bind fun r2 =>
  (iff (leI ((catB (catB (catB (catB (nth ((PV.str (⟨#[110, 117, 109]⟩ : ByteArray)) :: ((PV.str (⟨#[108, 111, 99, 97, 108]⟩ : ByteArray)) :: ((PV.str (⟨#[102, 114, 101, 101]⟩ : ByteArray)) :: ((PV.str (⟨#[115, 101, 108, 102]⟩ : ByteArray)) :: ((PV.str (⟨#[99, 108, 111, 115]⟩ : ByteArray)) :: ((PV.str (⟨#[99, 97, 108, 108]⟩ : ByteArray)) :: ((PV.str (⟨#[114, 101, 116]⟩ : ByteArray)) :: ((PV.str (⟨#[99, 111, 110]⟩ : ByteArray)) :: ((PV.str (⟨#[102, 105, 101, 108, 100]⟩ : ByteArray)) :: ((PV.str (⟨#[105, 115, 99, 111, 110]⟩ : ByteArray)) :: ((PV.str (⟨#[105, 115, 110, 117, 109]⟩ : ByteArray)) :: ((PV.str (⟨#[97, 100, 100]⟩ : ByteArray)) :: ((PV.str (⟨#[115, 117, 98]⟩ : ByteArray)) :: ((PV.str (⟨#[109, 117, 108]⟩ : ByteArray)) :: ((PV.str (⟨#[108, 101, 115, 115]⟩ : ByteArray)) :: ((PV.str (⟨#[115, 97, 109, 101]⟩ : ByteArray)) :: ((PV.str (⟨#[112, 117, 116]⟩ : ByteArray)) :: ((PV.str (⟨#[122, 101, 114, 111]⟩ : ByteArray)) :: ((PV.str (⟨#[106, 117, 109, 112]⟩ : ByteArray)) :: ((PV.str (⟨#[115, 108, 105, 100, 101]⟩ : ByteArray)) :: ((PV.str (⟨#[102, 97, 105, 108]⟩ : ByteArray)) :: ([] : List PV)))))))))))))))))))))) (IntKind.i64.wrap (((nth a 0).fld 0).toInt - (1 : Int))).toNat).toStr (⟨#[32]⟩ : ByteArray)) (nth r1 0).toStr) (⟨#[32]⟩ : ByteArray)) (nth r2 0).toStr).size : Int) (9223372036854775807 : Int))
  (some [(PV.str (catB (catB (catB (catB (nth ((PV.str (⟨#[110, 117, 109]⟩ : ByteArray)) :: ((PV.str (⟨#[108, 111, 99, 97, 108]⟩ : ByteArray)) :: ((PV.str (⟨#[102, 114, 101, 101]⟩ : ByteArray)) :: ((PV.str (⟨#[115, 101, 108, 102]⟩ : ByteArray)) :: ((PV.str (⟨#[99, 108, 111, 115]⟩ : ByteArray)) :: ((PV.str (⟨#[99, 97, 108, 108]⟩ : ByteArray)) :: ((PV.str (⟨#[114, 101, 116]⟩ : ByteArray)) :: ((PV.str (⟨#[99, 111, 110]⟩ : ByteArray)) :: ((PV.str (⟨#[102, 105, 101, 108, 100]⟩ : ByteArray)) :: ((PV.str (⟨#[105, 115, 99, 111, 110]⟩ : ByteArray)) :: ((PV.str (⟨#[105, 115, 110, 117, 109]⟩ : ByteArray)) :: ((PV.str (⟨#[97, 100, 100]⟩ : ByteArray)) :: ((PV.str (⟨#[115, 117, 98]⟩ : ByteArray)) :: ((PV.str (⟨#[109, 117, 108]⟩ : ByteArray)) :: ((PV.str (⟨#[108, 101, 115, 115]⟩ : ByteArray)) :: ((PV.str (⟨#[115, 97, 109, 101]⟩ : ByteArray)) :: ((PV.str (⟨#[112, 117, 116]⟩ : ByteArray)) :: ((PV.str (⟨#[122, 101, 114, 111]⟩ : ByteArray)) :: ((PV.str (⟨#[106, 117, 109, 112]⟩ : ByteArray)) :: ((PV.str (⟨#[115, 108, 105, 100, 101]⟩ : ByteArray)) :: ((PV.str (⟨#[102, 97, 105, 108]⟩ : ByteArray)) :: ([] : List PV)))))))))))))))))))))) (IntKind.i64.wrap (((nth a 0).fld 0).toInt - (1 : Int))).toNat).toStr (⟨#[32]⟩ : ByteArray)) (nth r1 0).toStr) (⟨#[32]⟩ : ByteArray)) (nth r2 0).toStr))])
  none))
  none)
  none))
  none)
  none)
  none)))
theorem e28 : ∀ I n a, (compF Tryd.prog sg 28).map (fun d => d.ev I n a) = some (F28 I n a) := fun I n a => by kernel_rfl
/-! spec.FunText -/
noncomputable def L8_0 (I : Interp) (n : Nat) (p1 : List PV) : Option (Ex × List PV) :=
  (iff (ltI (nth p1 0).toInt (((nth p1 2).fld 1).toList.length : Int))
  ((I 24 [(nth p1 0)]).bind fun r2 =>
  (iff (leI ((catB (nth p1 1).toStr (nth r2 0).toStr).size : Int) (9223372036854775807 : Int))
  (iff (leI ((catB (catB (nth p1 1).toStr (nth r2 0).toStr) (⟨#[32]⟩ : ByteArray)).size : Int) (9223372036854775807 : Int))
  (iff (geI (nth p1 0).toInt (0 : Int))
  (iff (ltI (nth p1 0).toInt (((nth p1 2).fld 1).toList.length : Int))
  ((I 25 [(nth ((nth p1 2).fld 1).toList (nth p1 0).toInt.toNat)]).bind fun r3 =>
  (iff (leI ((catB (catB (catB (nth p1 1).toStr (nth r2 0).toStr) (⟨#[32]⟩ : ByteArray)) (nth r3 0).toStr).size : Int) (9223372036854775807 : Int))
  (iff (leI ((catB (catB (catB (catB (nth p1 1).toStr (nth r2 0).toStr) (⟨#[32]⟩ : ByteArray)) (nth r3 0).toStr) (⟨#[10]⟩ : ByteArray)).size : Int) (9223372036854775807 : Int))
  (some (Ex.n, [(PV.int (IntKind.i64.wrap ((nth p1 0).toInt + (1 : Int)))), (PV.str (catB (catB (catB (catB (nth p1 1).toStr (nth r2 0).toStr) (⟨#[32]⟩ : ByteArray)) (nth r3 0).toStr) (⟨#[10]⟩ : ByteArray))), (nth p1 2)]))
  none)
  none))
  none)
  none)
  none)
  none))
  (some (Ex.x 0, [(nth p1 1)])))
noncomputable def F8 (I : Interp) (n : Nat) (a : List PV) : Option (List PV) :=
  ((I 24 [((nth a 0).fld 0)]).bind fun r0 =>
  (iff (leI ((catB (⟨#[102, 117, 110, 32]⟩ : ByteArray) (nth r0 0).toStr).size : Int) (9223372036854775807 : Int))
  (iff (leI ((catB (catB (⟨#[102, 117, 110, 32]⟩ : ByteArray) (nth r0 0).toStr) (⟨#[10]⟩ : ByteArray)).size : Int) (9223372036854775807 : Int))
  (thenN (thenE (loopEv (L8_0 I n) n [(PV.int (0 : Int)), (PV.str (catB (catB (⟨#[102, 117, 110, 32]⟩ : ByteArray) (nth r0 0).toStr) (⟨#[10]⟩ : ByteArray))), (nth a 0)])
  (passB 0))
  (fun p4 => (some [(nth p4 0)]))
  (retE fun q5 => [(nth q5 0)]))
  none)
  none))
theorem e8 : ∀ I n a, (compF Tryd.prog sg 8).map (fun d => d.ev I n a) = some (F8 I n a) := fun I n a => by kernel_rfl
/-! impl.FunText -/
noncomputable def L10_0 (I : Interp) (n : Nat) (p1 : List PV) : Option (Ex × List PV) :=
  (iff (ltI (nth p1 0).toInt (nth p1 1).toInt)
  (iff (geI (nth p1 0).toInt (0 : Int))
  (iff (ltI (nth p1 0).toInt ((nth p1 2).toList.length : Int))
  ((I 27 [(nth p1 0)]).bind fun r2 =>
  (iff (leI ((catB (nth r2 0).toStr (⟨#[32]⟩ : ByteArray)).size : Int) (9223372036854775807 : Int))
  ((I 28 [(nth (nth p1 2).toList (nth p1 0).toInt.toNat)]).bind fun r3 =>
  (iff (leI ((catB (catB (nth r2 0).toStr (⟨#[32]⟩ : ByteArray)) (nth r3 0).toStr).size : Int) (9223372036854775807 : Int))
  (iff (leI ((catB (catB (catB (nth r2 0).toStr (⟨#[32]⟩ : ByteArray)) (nth r3 0).toStr) (⟨#[10]⟩ : ByteArray)).size : Int) (9223372036854775807 : Int))
  (iff (leN ((nth p1 3).toList.length + (s2bL (catB (catB (catB (nth r2 0).toStr (⟨#[32]⟩ : ByteArray)) (nth r3 0).toStr) (⟨#[10]⟩ : ByteArray))).length) 140737488355328)
  (some (Ex.n, [(PV.int (IntKind.i64.wrap ((nth p1 0).toInt + (1 : Int)))), (nth p1 1), (nth p1 2), (PV.list ((nth p1 3).toList ++ (s2bL (catB (catB (catB (nth r2 0).toStr (⟨#[32]⟩ : ByteArray)) (nth r3 0).toStr) (⟨#[10]⟩ : ByteArray)))))]))
  none)
  none)
  none))
  none))
  none)
  none)
  (some (Ex.x 0, [(nth p1 3)])))
noncomputable def F10 (I : Interp) (n : Nat) (a : List PV) : Option (List PV) :=
  ((I 27 [((nth a 0).fld 0)]).bind fun r0 =>
  (iff (leI ((catB (⟨#[102, 117, 110, 32]⟩ : ByteArray) (nth r0 0).toStr).size : Int) (9223372036854775807 : Int))
  (iff (leI ((catB (catB (⟨#[102, 117, 110, 32]⟩ : ByteArray) (nth r0 0).toStr) (⟨#[10]⟩ : ByteArray)).size : Int) (9223372036854775807 : Int))
  (iff (leI ((catB (catB (⟨#[102, 117, 110, 32]⟩ : ByteArray) (nth r0 0).toStr) (⟨#[10]⟩ : ByteArray)).size : Int) (140737488355328 : Int))
  (thenN (thenE (loopEv (L10_0 I n) n [(PV.int (0 : Int)), (PV.int (((nth a 0).fld 1).toList.length : Int)), ((nth a 0).fld 1), (PV.list (s2bL (catB (catB (⟨#[102, 117, 110, 32]⟩ : ByteArray) (nth r0 0).toStr) (⟨#[10]⟩ : ByteArray))))])
  (passB 0))
  (fun p4 => (some [(PV.str (b2sL (nth p4 0).toList))]))
  (retE fun q5 => [(nth q5 0)]))
  none)
  none)
  none))
theorem e10 : ∀ I n a, (compF Tryd.prog sg 10).map (fun d => d.ev I n a) = some (F10 I n a) := fun I n a => by kernel_rfl
/-! laws.FnExactFunText -/
noncomputable def F3 (I : Interp) (n : Nat) (a : List PV) : Option (List PV) :=
  ((I 7 [(nth a 0), (PV.int (1048576 : Int))]).bind fun r0 =>
  (iff (ltI (nth r0 0).toInt (0 : Int))
  (some [(PV.bool true)])
  ((I 9 [(nth a 0)]).bind fun r1 =>
  ((I 8 [(nth r1 0)]).bind fun r2 =>
  ((I 9 [(nth a 0)]).bind fun r3 =>
  ((I 10 [(nth r3 0)]).bind fun r4 =>
  (iff (cmpS BinOp.neq (nth r4 0).toStr (nth r2 0).toStr)
  (some [(PV.bool false)])
  ((I 9 [(nth a 0)]).bind fun r5 =>
  ((I 11 [(nth r3 0), (nth r5 0)]).bind fun r6 =>
  (iff (!(nth r6 0).toBool)
  (some [(PV.bool false)])
  (some [(PV.bool true)])))))))))))
theorem e3 : ∀ I n a, (compF Tryd.prog sg 3).map (fun d => d.ev I n a) = some (F3 I n a) := fun I n a => by kernel_rfl
end Go.Proofs.YthmhgnnaihkjaaaDoor.GFnExactFunText
