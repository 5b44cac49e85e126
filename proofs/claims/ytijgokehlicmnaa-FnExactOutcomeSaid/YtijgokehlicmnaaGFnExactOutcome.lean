/- The pure programs of the functions that the law FnExactOutcome reaches, out of the compiled code. No conditions. -/
import Derived.Test.YtijgokehlicmnaaRows
import Derived.Test.YtijgokehlicmnaaRscZq
namespace Go.Proofs.Ytijgokehlicmnaa.GFnExactOutcome
open Go Go.Rsc Go.Proofs.Ytijgokehlicmnaa
set_option maxRecDepth 100000
set_option linter.unusedVariables false
def sg : FuncId → Option Sig := fun f => match f with
  | 102 => some { ps := [PM.ro (SD.int (IntKind.i64)), PM.ro (SD.int (IntKind.i64)), PM.ro (SD.int (IntKind.i64))], rs := [RM.v (SD.bool)] }
  | 158 => some { ps := [PM.ro (SD.int (IntKind.i64))], rs := [RM.v (SD.int (IntKind.i64))] }
  | 84 => some { ps := [PM.ro (SD.bor 28), PM.ro (SD.int (IntKind.i64))], rs := [RM.v (SD.int (IntKind.i64))] }
  | 83 => some { ps := [PM.mut (SD.own 28 true), PM.ro (SD.int (IntKind.i64))], rs := [RM.v (SD.int (IntKind.i64))] }
  | 4179 => some { ps := [PM.mv (SD.own 28 true), PM.ro (SD.int (IntKind.i64))], rs := [RM.v (SD.int (IntKind.i64))] }
  | 133 => some { ps := [PM.mut (SD.own 128 false), PM.ro (SD.int (IntKind.i64))], rs := [RM.v (SD.int (IntKind.i64))] }
  | 4229 => some { ps := [PM.mv (SD.own 128 false), PM.ro (SD.int (IntKind.i64))], rs := [RM.v (SD.int (IntKind.i64))] }
  | 25 => some { ps := [PM.mut (SD.own 3 false), PM.ro (SD.int (IntKind.i64))], rs := [RM.v (SD.int (IntKind.i64))] }
  | 4121 => some { ps := [PM.mv (SD.own 3 false), PM.ro (SD.int (IntKind.i64))], rs := [RM.v (SD.int (IntKind.i64))] }
  | 145 => some { ps := [PM.mut (SD.own 196 false), PM.ro (SD.int (IntKind.i64))], rs := [RM.v (SD.int (IntKind.i64))] }
  | 4241 => some { ps := [PM.mv (SD.own 196 false), PM.ro (SD.int (IntKind.i64))], rs := [RM.v (SD.int (IntKind.i64))] }
  | 172 => some { ps := [PM.ro (SD.sc (SD.int (IntKind.i64)) (SD.sc (SD.int (IntKind.i64)) (SD.sc (SD.int (IntKind.i64)) (SD.sn)))), PM.ro (SD.sc (SD.int (IntKind.i64)) (SD.sc (SD.int (IntKind.i64)) (SD.sc (SD.int (IntKind.i64)) (SD.sn))))], rs := [RM.v (SD.bool)] }
  | 24 => some { ps := [PM.ro (SD.bor 3), PM.ro (SD.bor 3)], rs := [RM.v (SD.bool)] }
  | 213 => some { ps := [PM.ro (SD.sc (SD.int (IntKind.i64)) (SD.sc (SD.int (IntKind.i64)) (SD.sc (SD.int (IntKind.i64)) (SD.sn)))), PM.ro (SD.sc (SD.int (IntKind.i64)) (SD.sc (SD.int (IntKind.i64)) (SD.sc (SD.int (IntKind.i64)) (SD.sn))))], rs := [RM.v (SD.bool)] }
  | 90 => some { ps := [PM.ro (SD.bor 3)], rs := [RM.v (SD.own 3 false)] }
  | 195 => some { ps := [PM.ro (SD.int (IntKind.i64))], rs := [RM.v (SD.bool)] }
  | 220 => some { ps := [PM.ro (SD.int (IntKind.i64))], rs := [RM.v (SD.bool)] }
  | 96 => some { ps := [PM.ro (SD.int (IntKind.i64))], rs := [RM.v (SD.int (IntKind.i64))] }
  | 94 => some { ps := [PM.ro (SD.int (IntKind.i64))], rs := [RM.v (SD.bool)] }
  | 104 => some { ps := [PM.ro (SD.int (IntKind.i64)), PM.ro (SD.int (IntKind.i64)), PM.ro (SD.int (IntKind.i64))], rs := [RM.v (SD.bool)] }
  | 157 => some { ps := [PM.ro (SD.int (IntKind.i64))], rs := [RM.v (SD.int (IntKind.i64))] }
  | 168 => some { ps := [PM.ro (SD.bor 3), PM.ro (SD.int (IntKind.i64))], rs := [RM.v (SD.bool)] }
  | 111 => some { ps := [PM.ro (SD.int (IntKind.i64))], rs := [RM.v (SD.int (IntKind.i64))] }
  | 156 => some { ps := [PM.ro (SD.int (IntKind.i64))], rs := [RM.v (SD.bool)] }
  | 109 => some { ps := [PM.ro (SD.int (IntKind.i64))], rs := [RM.v (SD.bool), RM.v (SD.int (IntKind.i64)), RM.v (SD.int (IntKind.i64))] }
  | 217 => some { ps := [PM.ro (SD.sc (SD.int (IntKind.i64)) (SD.sc (SD.int (IntKind.i64)) (SD.sc (SD.int (IntKind.i64)) (SD.sn))))], rs := [RM.v (SD.sc (SD.int (IntKind.i64)) (SD.sc (SD.int (IntKind.i64)) (SD.sc (SD.int (IntKind.i64)) (SD.sn))))] }
  | 170 => some { ps := [PM.ro (SD.sc (SD.int (IntKind.i64)) (SD.sc (SD.int (IntKind.i64)) (SD.sc (SD.int (IntKind.i64)) (SD.sn))))], rs := [RM.v (SD.sc (SD.int (IntKind.i64)) (SD.sc (SD.int (IntKind.i64)) (SD.sc (SD.int (IntKind.i64)) (SD.sn))))] }
  | 22 => some { ps := [PM.ro (SD.bor 3)], rs := [RM.v (SD.own 3 false)] }
  | 78 => some { ps := [PM.ro (SD.bor 3), PM.ro (SD.int (IntKind.i64))], rs := [RM.v (SD.int (IntKind.i64))] }
  | 115 => some { ps := [PM.ro (SD.bor 198), PM.ro (SD.int (IntKind.i64))], rs := [RM.v (SD.int (IntKind.i64))] }
  | 187 => some { ps := [PM.ro (SD.bor 243), PM.ro (SD.int (IntKind.i64))], rs := [RM.v (SD.int (IntKind.i64))] }
  | 20 => some { ps := [PM.ro (SD.sc (SD.int (IntKind.i64)) (SD.sc (SD.int (IntKind.i64)) (SD.sc (SD.bor 28) (SD.sn)))), PM.ro (SD.int (IntKind.i64))], rs := [RM.v (SD.int (IntKind.i64))] }
  | 118 => some { ps := [PM.ro (SD.bor 198)], rs := [RM.v (SD.own 128 false)] }
  | 19 => some { ps := [PM.mut (SD.sc (SD.int (IntKind.i64)) (SD.sc (SD.int (IntKind.i64)) (SD.sc (SD.own 28 true) (SD.sn)))), PM.ro (SD.int (IntKind.i64))], rs := [RM.v (SD.int (IntKind.i64))] }
  | 4115 => some { ps := [PM.mv (SD.sc (SD.int (IntKind.i64)) (SD.sc (SD.int (IntKind.i64)) (SD.sc (SD.own 28 true) (SD.sn)))), PM.ro (SD.int (IntKind.i64))], rs := [RM.v (SD.int (IntKind.i64))] }
  | 120 => some { ps := [PM.ro (SD.int (IntKind.i64))], rs := [RM.v (SD.bool)] }
  | 17 => some { ps := [PM.ro (SD.sc (SD.bor 3) (SD.sc (SD.int (IntKind.i64)) (SD.sc (SD.int (IntKind.i64)) (SD.sc (SD.int (IntKind.i64)) (SD.sn))))), PM.ro (SD.sc (SD.bor 3) (SD.sc (SD.int (IntKind.i64)) (SD.sc (SD.int (IntKind.i64)) (SD.sc (SD.int (IntKind.i64)) (SD.sn)))))], rs := [RM.v (SD.bool)] }
  | 69 => some { ps := [PM.mut (SD.own 131 true), PM.ro (SD.int (IntKind.i64))], rs := [RM.v (SD.int (IntKind.i64))] }
  | 4165 => some { ps := [PM.mv (SD.own 131 true), PM.ro (SD.int (IntKind.i64))], rs := [RM.v (SD.int (IntKind.i64))] }
  | 117 => some { ps := [PM.ro (SD.int (IntKind.i64))], rs := [RM.v (SD.bool)] }
  | 185 => some { ps := [PM.ro (SD.bor 196), PM.ro (SD.bor 196)], rs := [RM.v (SD.bool)] }
  | 113 => some { ps := [PM.ro (SD.bor 3), PM.ro (SD.int (IntKind.i64))], rs := [RM.v (SD.bool)] }
  | 82 => some { ps := [PM.ro (SD.bor 28), PM.ro (SD.bor 28)], rs := [RM.v (SD.bool)] }
  | 16 => some { ps := [PM.ro (SD.sc (SD.int (IntKind.i64)) (SD.sc (SD.int (IntKind.i64)) (SD.sc (SD.bor 28) (SD.sn)))), PM.ro (SD.sc (SD.int (IntKind.i64)) (SD.sc (SD.int (IntKind.i64)) (SD.sc (SD.bor 28) (SD.sn))))], rs := [RM.v (SD.bool)] }
  | 121 => some { ps := [PM.ro (SD.bor 128), PM.ro (SD.bor 128)], rs := [RM.v (SD.bool)] }
  | 14 => some { ps := [PM.ro (SD.sc (SD.bor 3) (SD.sc (SD.int (IntKind.i64)) (SD.sc (SD.int (IntKind.i64)) (SD.sc (SD.int (IntKind.i64)) (SD.sn)))))], rs := [RM.v (SD.sc (SD.own 3 false) (SD.sc (SD.int (IntKind.i64)) (SD.sc (SD.int (IntKind.i64)) (SD.sc (SD.int (IntKind.i64)) (SD.sn)))))] }
  | 18 => some { ps := [PM.mut (SD.sc (SD.own 3 false) (SD.sc (SD.int (IntKind.i64)) (SD.sc (SD.int (IntKind.i64)) (SD.sc (SD.int (IntKind.i64)) (SD.sn))))), PM.ro (SD.int (IntKind.i64))], rs := [RM.v (SD.int (IntKind.i64))] }
  | 4114 => some { ps := [PM.mv (SD.sc (SD.own 3 false) (SD.sc (SD.int (IntKind.i64)) (SD.sc (SD.int (IntKind.i64)) (SD.sc (SD.int (IntKind.i64)) (SD.sn))))), PM.ro (SD.int (IntKind.i64))], rs := [RM.v (SD.int (IntKind.i64))] }
  | 189 => some { ps := [PM.ro (SD.bor 243)], rs := [RM.v (SD.own 196 false)] }
  | 12 => some { ps := [PM.ro (SD.sc (SD.bor 3) (SD.sc (SD.int (IntKind.i64)) (SD.sc (SD.int (IntKind.i64)) (SD.sc (SD.int (IntKind.i64)) (SD.sn))))), PM.ro (SD.int (IntKind.i64))], rs := [RM.v (SD.int (IntKind.i64))] }
  | 194 => some { ps := [PM.ro (SD.int (IntKind.i64)), PM.ro (SD.int (IntKind.i64))], rs := [RM.v (SD.bool)] }
  | 149 => some { ps := [PM.ro (SD.sc (SD.int (IntKind.i64)) (SD.sc (SD.bor 243) (SD.sn))), PM.ro (SD.int (IntKind.i64))], rs := [RM.v (SD.int (IntKind.i64))] }
  | 79 => some { ps := [PM.ro (SD.sc (SD.bor 3) (SD.sc (SD.int (IntKind.i64)) (SD.sc (SD.int (IntKind.i64)) (SD.sc (SD.int (IntKind.i64)) (SD.sn)))))], rs := [RM.v (SD.own 3 false), RM.v (SD.bool)] }
  | 142 => some { ps := [PM.ro (SD.sc (SD.int (IntKind.i64)) (SD.sc (SD.bor 196) (SD.sn))), PM.ro (SD.sc (SD.int (IntKind.i64)) (SD.sc (SD.bor 196) (SD.sn)))], rs := [RM.v (SD.bool)] }
  | 163 => some { ps := [PM.ro (SD.int (IntKind.i64))], rs := [RM.v (SD.bool), RM.v (SD.int (IntKind.i64)), RM.v (SD.int (IntKind.i64)), RM.v (SD.bool)] }
  | 152 => some { ps := [PM.ro (SD.sc (SD.int (IntKind.i64)) (SD.sc (SD.bor 243) (SD.sn)))], rs := [RM.v (SD.sc (SD.int (IntKind.i64)) (SD.sc (SD.own 196 false) (SD.sn)))] }
  | 73 => some { ps := [PM.ro (SD.bor 176), PM.ro (SD.int (IntKind.i64))], rs := [RM.v (SD.int (IntKind.i64))] }
  | 66 => some { ps := [PM.ro (SD.bor 131), PM.ro (SD.bor 131)], rs := [RM.v (SD.bool)] }
  | 92 => some { ps := [PM.ro (SD.sc (SD.bor 3) (SD.sc (SD.int (IntKind.i64)) (SD.sc (SD.int (IntKind.i64)) (SD.sc (SD.int (IntKind.i64)) (SD.sn))))), PM.ro (SD.int (IntKind.i64))], rs := [RM.v (SD.bor 3)] }
  | 75 => some { ps := [PM.ro (SD.bor 176)], rs := [RM.v (SD.own 131 true)] }
  | 167 => some { ps := [PM.ro (SD.bor 3), PM.ro (SD.int (IntKind.i64))], rs := [RM.v (SD.int (IntKind.i64)), RM.v (SD.bool)] }
  | 107 => some { ps := [PM.ro (SD.int (IntKind.i64))], rs := [RM.v (SD.bool)] }
  | 106 => some { ps := [PM.ro (SD.sc (SD.bor 3) (SD.sc (SD.int (IntKind.i64)) (SD.sc (SD.int (IntKind.i64)) (SD.sc (SD.int (IntKind.i64)) (SD.sn)))))], rs := [RM.v (SD.own 3 false), RM.v (SD.bool)] }
  | 61 => some { ps := [PM.mut (SD.sc (SD.own 131 true) (SD.sc (SD.sc (SD.own 3 false) (SD.sc (SD.int (IntKind.i64)) (SD.sc (SD.int (IntKind.i64)) (SD.sc (SD.int (IntKind.i64)) (SD.sn))))) (SD.sc (SD.own 3 false) (SD.sc (SD.own 128 false) (SD.sc (SD.own 3 false) (SD.sc (SD.int (IntKind.i64)) (SD.sc (SD.bool) (SD.sn)))))))), PM.ro (SD.int (IntKind.i64))], rs := [RM.v (SD.int (IntKind.i64))] }
  | 4157 => some { ps := [PM.mv (SD.sc (SD.own 131 true) (SD.sc (SD.sc (SD.own 3 false) (SD.sc (SD.int (IntKind.i64)) (SD.sc (SD.int (IntKind.i64)) (SD.sc (SD.int (IntKind.i64)) (SD.sn))))) (SD.sc (SD.own 3 false) (SD.sc (SD.own 128 false) (SD.sc (SD.own 3 false) (SD.sc (SD.int (IntKind.i64)) (SD.sc (SD.bool) (SD.sn)))))))), PM.ro (SD.int (IntKind.i64))], rs := [RM.v (SD.int (IntKind.i64))] }
  | 108 => some { ps := [PM.ro (SD.bor 3), PM.ro (SD.int (IntKind.i64))], rs := [RM.v (SD.bool)] }
  | 45 => some { ps := [PM.ro (SD.sc (SD.bor 176) (SD.sc (SD.sc (SD.bor 3) (SD.sc (SD.int (IntKind.i64)) (SD.sc (SD.int (IntKind.i64)) (SD.sc (SD.int (IntKind.i64)) (SD.sn))))) (SD.sc (SD.bor 3) (SD.sc (SD.bor 198) (SD.sc (SD.bor 3) (SD.sc (SD.int (IntKind.i64)) (SD.sc (SD.bool) (SD.sn)))))))), PM.ro (SD.int (IntKind.i64))], rs := [RM.v (SD.int (IntKind.i64))] }
  | 110 => some { ps := [PM.ro (SD.bor 3), PM.ro (SD.int (IntKind.i64))], rs := [RM.v (SD.bool)] }
  | 49 => some { ps := [PM.ro (SD.sc (SD.bor 131) (SD.sc (SD.sc (SD.bor 3) (SD.sc (SD.int (IntKind.i64)) (SD.sc (SD.int (IntKind.i64)) (SD.sc (SD.int (IntKind.i64)) (SD.sn))))) (SD.sc (SD.bor 3) (SD.sc (SD.bor 128) (SD.sc (SD.bor 3) (SD.sc (SD.int (IntKind.i64)) (SD.sc (SD.bool) (SD.sn)))))))), PM.ro (SD.sc (SD.bor 131) (SD.sc (SD.sc (SD.bor 3) (SD.sc (SD.int (IntKind.i64)) (SD.sc (SD.int (IntKind.i64)) (SD.sc (SD.int (IntKind.i64)) (SD.sn))))) (SD.sc (SD.bor 3) (SD.sc (SD.bor 128) (SD.sc (SD.bor 3) (SD.sc (SD.int (IntKind.i64)) (SD.sc (SD.bool) (SD.sn))))))))], rs := [RM.v (SD.bool)] }
  | 47 => some { ps := [PM.ro (SD.sc (SD.bor 176) (SD.sc (SD.sc (SD.bor 3) (SD.sc (SD.int (IntKind.i64)) (SD.sc (SD.int (IntKind.i64)) (SD.sc (SD.int (IntKind.i64)) (SD.sn))))) (SD.sc (SD.bor 3) (SD.sc (SD.bor 198) (SD.sc (SD.bor 3) (SD.sc (SD.int (IntKind.i64)) (SD.sc (SD.bool) (SD.sn))))))))], rs := [RM.v (SD.sc (SD.own 131 true) (SD.sc (SD.sc (SD.own 3 false) (SD.sc (SD.int (IntKind.i64)) (SD.sc (SD.int (IntKind.i64)) (SD.sc (SD.int (IntKind.i64)) (SD.sn))))) (SD.sc (SD.own 3 false) (SD.sc (SD.own 128 false) (SD.sc (SD.own 3 false) (SD.sc (SD.int (IntKind.i64)) (SD.sc (SD.bool) (SD.sn))))))))] }
  | 80 => some { ps := [PM.ro (SD.sc (SD.bor 3) (SD.sc (SD.int (IntKind.i64)) (SD.sc (SD.int (IntKind.i64)) (SD.sc (SD.int (IntKind.i64)) (SD.sn))))), PM.ro (SD.bor 3), PM.ro (SD.int (IntKind.i64)), PM.ro (SD.int (IntKind.i64))], rs := [RM.v (SD.sc (SD.int (IntKind.i64)) (SD.sc (SD.int (IntKind.i64)) (SD.sc (SD.own 28 true) (SD.sn)))), RM.v (SD.bool)] }
  | 34 => some { ps := [PM.ro (SD.sc (SD.bor 3) (SD.sc (SD.int (IntKind.i64)) (SD.sc (SD.int (IntKind.i64)) (SD.sc (SD.int (IntKind.i64)) (SD.sn)))))], rs := [RM.v (SD.bool)] }
  | 112 => some { ps := [PM.ro (SD.sc (SD.bor 3) (SD.sc (SD.int (IntKind.i64)) (SD.sc (SD.int (IntKind.i64)) (SD.sc (SD.int (IntKind.i64)) (SD.sn))))), PM.ro (SD.int (IntKind.i64))], rs := [RM.v (SD.bool), RM.v (SD.int (IntKind.i64)), RM.v (SD.own 3 false), RM.v (SD.bool)] }
  | 13 => some { ps := [PM.ro (SD.sc (SD.bor 3) (SD.sc (SD.int (IntKind.i64)) (SD.sc (SD.int (IntKind.i64)) (SD.sc (SD.int (IntKind.i64)) (SD.sn))))), PM.ro (SD.int (IntKind.i64))], rs := [RM.v (SD.sc (SD.int (IntKind.i64)) (SD.sc (SD.int (IntKind.i64)) (SD.sc (SD.own 28 true) (SD.sn)))), RM.v (SD.bool)] }
  | 59 => some { ps := [PM.ro (SD.sc (SD.bor 131) (SD.sc (SD.sc (SD.bor 3) (SD.sc (SD.int (IntKind.i64)) (SD.sc (SD.int (IntKind.i64)) (SD.sc (SD.int (IntKind.i64)) (SD.sn))))) (SD.sc (SD.bor 3) (SD.sc (SD.bor 128) (SD.sc (SD.bor 3) (SD.sc (SD.int (IntKind.i64)) (SD.sc (SD.bool) (SD.sn))))))))], rs := [RM.v (SD.sc (SD.int (IntKind.i64)) (SD.sc (SD.int (IntKind.i64)) (SD.sc (SD.own 28 true) (SD.sn)))), RM.v (SD.bool)] }
  | 33 => some { ps := [PM.ro (SD.sc (SD.bor 3) (SD.sc (SD.int (IntKind.i64)) (SD.sc (SD.int (IntKind.i64)) (SD.sc (SD.int (IntKind.i64)) (SD.sn)))))], rs := [RM.v (SD.bool)] }
  | 81 => some { ps := [PM.ro (SD.sc (SD.bor 3) (SD.sc (SD.int (IntKind.i64)) (SD.sc (SD.int (IntKind.i64)) (SD.sc (SD.int (IntKind.i64)) (SD.sn))))), PM.ro (SD.int (IntKind.i64)), PM.ro (SD.int (IntKind.i64))], rs := [RM.v (SD.sc (SD.int (IntKind.i64)) (SD.sc (SD.int (IntKind.i64)) (SD.sc (SD.own 28 true) (SD.sn)))), RM.v (SD.bool)] }
  | 15 => some { ps := [PM.ro (SD.sc (SD.bor 3) (SD.sc (SD.int (IntKind.i64)) (SD.sc (SD.int (IntKind.i64)) (SD.sc (SD.int (IntKind.i64)) (SD.sn))))), PM.ro (SD.int (IntKind.i64))], rs := [RM.v (SD.sc (SD.int (IntKind.i64)) (SD.sc (SD.int (IntKind.i64)) (SD.sc (SD.own 28 true) (SD.sn)))), RM.v (SD.bool)] }
  | 60 => some { ps := [PM.ro (SD.sc (SD.bor 131) (SD.sc (SD.sc (SD.bor 3) (SD.sc (SD.int (IntKind.i64)) (SD.sc (SD.int (IntKind.i64)) (SD.sc (SD.int (IntKind.i64)) (SD.sn))))) (SD.sc (SD.bor 3) (SD.sc (SD.bor 128) (SD.sc (SD.bor 3) (SD.sc (SD.int (IntKind.i64)) (SD.sc (SD.bool) (SD.sn))))))))], rs := [RM.v (SD.sc (SD.int (IntKind.i64)) (SD.sc (SD.int (IntKind.i64)) (SD.sc (SD.own 28 true) (SD.sn)))), RM.v (SD.bool)] }
  | 8 => some { ps := [PM.ro (SD.sc (SD.bor 176) (SD.sc (SD.sc (SD.bor 3) (SD.sc (SD.int (IntKind.i64)) (SD.sc (SD.int (IntKind.i64)) (SD.sc (SD.int (IntKind.i64)) (SD.sn))))) (SD.sc (SD.bor 3) (SD.sc (SD.bor 198) (SD.sc (SD.bor 3) (SD.sc (SD.int (IntKind.i64)) (SD.sc (SD.bool) (SD.sn))))))))], rs := [RM.v (SD.bool)] }
  | _ => none
/-! impl.within -/
def F102 (I : Interp) (n : Nat) (a : List PV) : Option (List PV) :=
  (some [(selB (geI (nth a 0).toInt (nth a 1).toInt) (selB ((geI (nth a 0).toInt (nth a 1).toInt) == true) (PV.bool (leI (selB ((geI (nth a 0).toInt (nth a 1).toInt) == true) (nth a 0) PV.unit).toInt (selB ((geI (nth a 0).toInt (nth a 1).toInt) == true) (nth a 2) PV.unit).toInt)) PV.unit) (PV.bool false))])
theorem e102 : ∀ I n a, (compF Try.prog sg 102).map (fun d => d.ev I n a) = some (F102 I n a) := fun I n a => by kernel_rfl
/-! impl.WordInt -/
def F158 (I : Interp) (n : Nat) (a : List PV) : Option (List PV) :=
  (iff (geI (1 : Int) (0 : Int))
  (some [(PV.int (arith BinOp.shr IntKind.i64 (nth a 0).toInt (1 : Int)))])
  none)
theorem e158 : ∀ I n a, (compF Try.prog sg 158).map (fun d => d.ev I n a) = some (F158 I n a) := fun I n a => by kernel_rfl
/-! laws.heldValueS -/
def L84_0 (I : Interp) (n : Nat) (p0 : List PV) : Option (Ex × List PV) :=
  (iff (ltI (nth p0 0).toInt ((nth p0 1).toList.length : Int))
  (iff (geI (nth p0 0).toInt (0 : Int))
  (iff (ltI (nth p0 0).toInt ((nth p0 1).toList.length : Int))
  (iff (neI ((nth (nth p0 1).toList (nth p0 0).toInt.toNat).fld 0).toInt (nth p0 2).toInt)
  (some (Ex.r, [(PV.int (-1 : Int))]))
  (iff (geI (nth p0 0).toInt (0 : Int))
  (iff (ltI (nth p0 0).toInt ((nth p0 1).toList.length : Int))
  (iff (neI ((nth (nth p0 1).toList (nth p0 0).toInt.toNat).fld 1).toInt (IntKind.i64.wrap ((nth p0 2).toInt + (1 : Int))))
  (some (Ex.r, [(PV.int (-1 : Int))]))
  (iff (geI (nth p0 0).toInt (0 : Int))
  (iff (ltI (nth p0 0).toInt ((nth p0 1).toList.length : Int))
  ((I 84 [((nth (nth p0 1).toList (nth p0 0).toInt.toNat).fld 2), (PV.int (IntKind.i64.wrap ((IntKind.i64.wrap ((nth p0 2).toInt + (1 : Int))) + (1 : Int))))]).bind fun r1 =>
  (iff (ltI (nth r1 0).toInt (0 : Int))
  (some (Ex.r, [(PV.int (-1 : Int))]))
  (some (Ex.n, [(PV.int (IntKind.i64.wrap ((nth p0 0).toInt + (1 : Int)))), (nth p0 1), (nth r1 0)]))))
  none)
  none))
  none)
  none))
  none)
  none)
  (some (Ex.x 0, [(nth p0 2)])))
def F84 (I : Interp) (n : Nat) (a : List PV) : Option (List PV) :=
  (thenN (thenE (loopEv (L84_0 I n) n [(PV.int (0 : Int)), (nth a 0), (nth a 1)])
  (passB 0))
  (fun p2 => (some [(nth p2 0)]))
  (retE fun q3 => [(nth q3 0)]))
theorem e84 : ∀ I n a, (compF Try.prog sg 84).map (fun d => d.ev I n a) = some (F84 I n a) := fun I n a => by kernel_rfl
/-! laws.markValueS -/
def L83_0 (I : Interp) (n : Nat) (p0 : List PV) : Option (Ex × List PV) :=
  (iff (ltI (nth p0 0).toInt ((nth p0 2).toList.length : Int))
  (iff (geI (nth p0 0).toInt (0 : Int))
  (iff (ltI (nth p0 0).toInt ((nth p0 2).toList.length : Int))
  (iff (geI (nth p0 0).toInt (0 : Int))
  (iff (ltI (nth p0 0).toInt (((nth p0 2).toList.set (nth p0 0).toInt.toNat ((nth (nth p0 2).toList (nth p0 0).toInt.toNat).setFld 0 (nth p0 1))).length : Int))
  (iff (geI (nth p0 0).toInt (0 : Int))
  (iff (ltI (nth p0 0).toInt ((((nth p0 2).toList.set (nth p0 0).toInt.toNat ((nth (nth p0 2).toList (nth p0 0).toInt.toNat).setFld 0 (nth p0 1))).set (nth p0 0).toInt.toNat ((nth ((nth p0 2).toList.set (nth p0 0).toInt.toNat ((nth (nth p0 2).toList (nth p0 0).toInt.toNat).setFld 0 (nth p0 1))) (nth p0 0).toInt.toNat).setFld 1 (PV.int (IntKind.i64.wrap ((nth p0 1).toInt + (1 : Int)))))).length : Int))
  ((I 83 [((nth (((nth p0 2).toList.set (nth p0 0).toInt.toNat ((nth (nth p0 2).toList (nth p0 0).toInt.toNat).setFld 0 (nth p0 1))).set (nth p0 0).toInt.toNat ((nth ((nth p0 2).toList.set (nth p0 0).toInt.toNat ((nth (nth p0 2).toList (nth p0 0).toInt.toNat).setFld 0 (nth p0 1))) (nth p0 0).toInt.toNat).setFld 1 (PV.int (IntKind.i64.wrap ((nth p0 1).toInt + (1 : Int)))))) (nth p0 0).toInt.toNat).fld 2), (PV.int (IntKind.i64.wrap ((IntKind.i64.wrap ((nth p0 1).toInt + (1 : Int))) + (1 : Int))))]).bind fun r1 =>
  (some (Ex.n, [(PV.int (IntKind.i64.wrap ((nth p0 0).toInt + (1 : Int)))), (nth r1 0), (PV.list ((((nth p0 2).toList.set (nth p0 0).toInt.toNat ((nth (nth p0 2).toList (nth p0 0).toInt.toNat).setFld 0 (nth p0 1))).set (nth p0 0).toInt.toNat ((nth ((nth p0 2).toList.set (nth p0 0).toInt.toNat ((nth (nth p0 2).toList (nth p0 0).toInt.toNat).setFld 0 (nth p0 1))) (nth p0 0).toInt.toNat).setFld 1 (PV.int (IntKind.i64.wrap ((nth p0 1).toInt + (1 : Int)))))).set (nth p0 0).toInt.toNat ((nth (((nth p0 2).toList.set (nth p0 0).toInt.toNat ((nth (nth p0 2).toList (nth p0 0).toInt.toNat).setFld 0 (nth p0 1))).set (nth p0 0).toInt.toNat ((nth ((nth p0 2).toList.set (nth p0 0).toInt.toNat ((nth (nth p0 2).toList (nth p0 0).toInt.toNat).setFld 0 (nth p0 1))) (nth p0 0).toInt.toNat).setFld 1 (PV.int (IntKind.i64.wrap ((nth p0 1).toInt + (1 : Int)))))) (nth p0 0).toInt.toNat).setFld 2 (nth r1 1))))])))
  none)
  none)
  none)
  none)
  none)
  none)
  (some (Ex.x 0, [(nth p0 2), (nth p0 1)])))
def F83 (I : Interp) (n : Nat) (a : List PV) : Option (List PV) :=
  (thenN (thenE (loopEv (L83_0 I n) n [(PV.int (0 : Int)), (nth a 1), (nth a 0)])
  (passB 0))
  (fun p2 => (some [(nth p2 1), (nth p2 0)]))
  (retE fun q3 => [(nth q3 1), (nth q3 0)]))
theorem e83 : ∀ I n a, (compF Try.prog sg 83).map (fun d => d.ev I n a) = some (F83 I n a) := fun I n a => by kernel_rfl
/-! laws.markValueS -/
def L4179_0 (I : Interp) (n : Nat) (p0 : List PV) : Option (Ex × List PV) :=
  (iff (ltI (nth p0 0).toInt ((nth p0 1).toList.length : Int))
  (iff (geI (nth p0 0).toInt (0 : Int))
  (iff (ltI (nth p0 0).toInt ((nth p0 1).toList.length : Int))
  (iff (geI (nth p0 0).toInt (0 : Int))
  (iff (ltI (nth p0 0).toInt (((nth p0 1).toList.set (nth p0 0).toInt.toNat ((nth (nth p0 1).toList (nth p0 0).toInt.toNat).setFld 0 (nth p0 2))).length : Int))
  (iff (geI (nth p0 0).toInt (0 : Int))
  (iff (ltI (nth p0 0).toInt ((((nth p0 1).toList.set (nth p0 0).toInt.toNat ((nth (nth p0 1).toList (nth p0 0).toInt.toNat).setFld 0 (nth p0 2))).set (nth p0 0).toInt.toNat ((nth ((nth p0 1).toList.set (nth p0 0).toInt.toNat ((nth (nth p0 1).toList (nth p0 0).toInt.toNat).setFld 0 (nth p0 2))) (nth p0 0).toInt.toNat).setFld 1 (PV.int (IntKind.i64.wrap ((nth p0 2).toInt + (1 : Int)))))).length : Int))
  ((I 83 [((nth (((nth p0 1).toList.set (nth p0 0).toInt.toNat ((nth (nth p0 1).toList (nth p0 0).toInt.toNat).setFld 0 (nth p0 2))).set (nth p0 0).toInt.toNat ((nth ((nth p0 1).toList.set (nth p0 0).toInt.toNat ((nth (nth p0 1).toList (nth p0 0).toInt.toNat).setFld 0 (nth p0 2))) (nth p0 0).toInt.toNat).setFld 1 (PV.int (IntKind.i64.wrap ((nth p0 2).toInt + (1 : Int)))))) (nth p0 0).toInt.toNat).fld 2), (PV.int (IntKind.i64.wrap ((IntKind.i64.wrap ((nth p0 2).toInt + (1 : Int))) + (1 : Int))))]).bind fun r1 =>
  (some (Ex.n, [(PV.int (IntKind.i64.wrap ((nth p0 0).toInt + (1 : Int)))), (PV.list ((((nth p0 1).toList.set (nth p0 0).toInt.toNat ((nth (nth p0 1).toList (nth p0 0).toInt.toNat).setFld 0 (nth p0 2))).set (nth p0 0).toInt.toNat ((nth ((nth p0 1).toList.set (nth p0 0).toInt.toNat ((nth (nth p0 1).toList (nth p0 0).toInt.toNat).setFld 0 (nth p0 2))) (nth p0 0).toInt.toNat).setFld 1 (PV.int (IntKind.i64.wrap ((nth p0 2).toInt + (1 : Int)))))).set (nth p0 0).toInt.toNat ((nth (((nth p0 1).toList.set (nth p0 0).toInt.toNat ((nth (nth p0 1).toList (nth p0 0).toInt.toNat).setFld 0 (nth p0 2))).set (nth p0 0).toInt.toNat ((nth ((nth p0 1).toList.set (nth p0 0).toInt.toNat ((nth (nth p0 1).toList (nth p0 0).toInt.toNat).setFld 0 (nth p0 2))) (nth p0 0).toInt.toNat).setFld 1 (PV.int (IntKind.i64.wrap ((nth p0 2).toInt + (1 : Int)))))) (nth p0 0).toInt.toNat).setFld 2 (nth r1 1)))), (nth r1 0)])))
  none)
  none)
  none)
  none)
  none)
  none)
  (some (Ex.x 0, [(nth p0 2)])))
def F4179 (I : Interp) (n : Nat) (a : List PV) : Option (List PV) :=
  (thenN (thenE (loopEv (L4179_0 I n) n [(PV.int (0 : Int)), (nth a 0), (nth a 1)])
  (passB 0))
  (fun p2 => (some [(nth p2 0)]))
  (retE fun q3 => [(nth q3 0)]))
theorem e4179 : ∀ I n a, (compF Try.prog sg 4179).map (fun d => d.ev I n a) = some (F4179 I n a) := fun I n a => by kernel_rfl
/-! laws.markCallS -/
def L133_0 (I : Interp) (n : Nat) (p0 : List PV) : Option (Ex × List PV) :=
  (iff (ltI (nth p0 0).toInt ((nth p0 2).toList.length : Int))
  (iff (geI (nth p0 0).toInt (0 : Int))
  (iff (ltI (nth p0 0).toInt ((nth p0 2).toList.length : Int))
  (iff (geI (nth p0 0).toInt (0 : Int))
  (iff (ltI (nth p0 0).toInt (((nth p0 2).toList.set (nth p0 0).toInt.toNat ((nth (nth p0 2).toList (nth p0 0).toInt.toNat).setFld 0 (nth p0 1))).length : Int))
  (iff (geI (nth p0 0).toInt (0 : Int))
  (iff (ltI (nth p0 0).toInt ((((nth p0 2).toList.set (nth p0 0).toInt.toNat ((nth (nth p0 2).toList (nth p0 0).toInt.toNat).setFld 0 (nth p0 1))).set (nth p0 0).toInt.toNat ((nth ((nth p0 2).toList.set (nth p0 0).toInt.toNat ((nth (nth p0 2).toList (nth p0 0).toInt.toNat).setFld 0 (nth p0 1))) (nth p0 0).toInt.toNat).setFld 1 (PV.int (IntKind.i64.wrap ((nth p0 1).toInt + (1 : Int)))))).length : Int))
  (some (Ex.n, [(PV.int (IntKind.i64.wrap ((nth p0 0).toInt + (1 : Int)))), (PV.int (IntKind.i64.wrap ((IntKind.i64.wrap ((IntKind.i64.wrap ((nth p0 1).toInt + (1 : Int))) + (1 : Int))) + (1 : Int)))), (PV.list ((((nth p0 2).toList.set (nth p0 0).toInt.toNat ((nth (nth p0 2).toList (nth p0 0).toInt.toNat).setFld 0 (nth p0 1))).set (nth p0 0).toInt.toNat ((nth ((nth p0 2).toList.set (nth p0 0).toInt.toNat ((nth (nth p0 2).toList (nth p0 0).toInt.toNat).setFld 0 (nth p0 1))) (nth p0 0).toInt.toNat).setFld 1 (PV.int (IntKind.i64.wrap ((nth p0 1).toInt + (1 : Int)))))).set (nth p0 0).toInt.toNat ((nth (((nth p0 2).toList.set (nth p0 0).toInt.toNat ((nth (nth p0 2).toList (nth p0 0).toInt.toNat).setFld 0 (nth p0 1))).set (nth p0 0).toInt.toNat ((nth ((nth p0 2).toList.set (nth p0 0).toInt.toNat ((nth (nth p0 2).toList (nth p0 0).toInt.toNat).setFld 0 (nth p0 1))) (nth p0 0).toInt.toNat).setFld 1 (PV.int (IntKind.i64.wrap ((nth p0 1).toInt + (1 : Int)))))) (nth p0 0).toInt.toNat).setFld 2 (PV.int (IntKind.i64.wrap ((IntKind.i64.wrap ((nth p0 1).toInt + (1 : Int))) + (1 : Int)))))))]))
  none)
  none)
  none)
  none)
  none)
  none)
  (some (Ex.x 0, [(nth p0 2), (nth p0 1)])))
def F133 (I : Interp) (n : Nat) (a : List PV) : Option (List PV) :=
  (thenN (thenE (loopEv (L133_0 I n) n [(PV.int (0 : Int)), (nth a 1), (nth a 0)])
  (passB 0))
  (fun p1 => (some [(nth p1 1), (nth p1 0)]))
  (retE fun q2 => [(nth q2 1), (nth q2 0)]))
theorem e133 : ∀ I n a, (compF Try.prog sg 133).map (fun d => d.ev I n a) = some (F133 I n a) := fun I n a => by kernel_rfl
/-! laws.markCallS -/
def L4229_0 (I : Interp) (n : Nat) (p0 : List PV) : Option (Ex × List PV) :=
  (iff (ltI (nth p0 0).toInt ((nth p0 1).toList.length : Int))
  (iff (geI (nth p0 0).toInt (0 : Int))
  (iff (ltI (nth p0 0).toInt ((nth p0 1).toList.length : Int))
  (iff (geI (nth p0 0).toInt (0 : Int))
  (iff (ltI (nth p0 0).toInt (((nth p0 1).toList.set (nth p0 0).toInt.toNat ((nth (nth p0 1).toList (nth p0 0).toInt.toNat).setFld 0 (nth p0 2))).length : Int))
  (iff (geI (nth p0 0).toInt (0 : Int))
  (iff (ltI (nth p0 0).toInt ((((nth p0 1).toList.set (nth p0 0).toInt.toNat ((nth (nth p0 1).toList (nth p0 0).toInt.toNat).setFld 0 (nth p0 2))).set (nth p0 0).toInt.toNat ((nth ((nth p0 1).toList.set (nth p0 0).toInt.toNat ((nth (nth p0 1).toList (nth p0 0).toInt.toNat).setFld 0 (nth p0 2))) (nth p0 0).toInt.toNat).setFld 1 (PV.int (IntKind.i64.wrap ((nth p0 2).toInt + (1 : Int)))))).length : Int))
  (some (Ex.n, [(PV.int (IntKind.i64.wrap ((nth p0 0).toInt + (1 : Int)))), (PV.list ((((nth p0 1).toList.set (nth p0 0).toInt.toNat ((nth (nth p0 1).toList (nth p0 0).toInt.toNat).setFld 0 (nth p0 2))).set (nth p0 0).toInt.toNat ((nth ((nth p0 1).toList.set (nth p0 0).toInt.toNat ((nth (nth p0 1).toList (nth p0 0).toInt.toNat).setFld 0 (nth p0 2))) (nth p0 0).toInt.toNat).setFld 1 (PV.int (IntKind.i64.wrap ((nth p0 2).toInt + (1 : Int)))))).set (nth p0 0).toInt.toNat ((nth (((nth p0 1).toList.set (nth p0 0).toInt.toNat ((nth (nth p0 1).toList (nth p0 0).toInt.toNat).setFld 0 (nth p0 2))).set (nth p0 0).toInt.toNat ((nth ((nth p0 1).toList.set (nth p0 0).toInt.toNat ((nth (nth p0 1).toList (nth p0 0).toInt.toNat).setFld 0 (nth p0 2))) (nth p0 0).toInt.toNat).setFld 1 (PV.int (IntKind.i64.wrap ((nth p0 2).toInt + (1 : Int)))))) (nth p0 0).toInt.toNat).setFld 2 (PV.int (IntKind.i64.wrap ((IntKind.i64.wrap ((nth p0 2).toInt + (1 : Int))) + (1 : Int))))))), (PV.int (IntKind.i64.wrap ((IntKind.i64.wrap ((IntKind.i64.wrap ((nth p0 2).toInt + (1 : Int))) + (1 : Int))) + (1 : Int))))]))
  none)
  none)
  none)
  none)
  none)
  none)
  (some (Ex.x 0, [(nth p0 2)])))
def F4229 (I : Interp) (n : Nat) (a : List PV) : Option (List PV) :=
  (thenN (thenE (loopEv (L4229_0 I n) n [(PV.int (0 : Int)), (nth a 0), (nth a 1)])
  (passB 0))
  (fun p1 => (some [(nth p1 0)]))
  (retE fun q2 => [(nth q2 0)]))
theorem e4229 : ∀ I n a, (compF Try.prog sg 4229).map (fun d => d.ev I n a) = some (F4229 I n a) := fun I n a => by kernel_rfl
/-! laws.markIntS -/
def L25_0 (I : Interp) (n : Nat) (p0 : List PV) : Option (Ex × List PV) :=
  (iff (ltI (nth p0 0).toInt ((nth p0 2).toList.length : Int))
  (iff (geI (nth p0 0).toInt (0 : Int))
  (iff (ltI (nth p0 0).toInt ((nth p0 2).toList.length : Int))
  (some (Ex.n, [(PV.int (IntKind.i64.wrap ((nth p0 0).toInt + (1 : Int)))), (PV.int (IntKind.i64.wrap ((nth p0 1).toInt + (1 : Int)))), (PV.list ((nth p0 2).toList.set (nth p0 0).toInt.toNat (nth p0 1)))]))
  none)
  none)
  (some (Ex.x 0, [(nth p0 2), (nth p0 1)])))
def F25 (I : Interp) (n : Nat) (a : List PV) : Option (List PV) :=
  (thenN (thenE (loopEv (L25_0 I n) n [(PV.int (0 : Int)), (nth a 1), (nth a 0)])
  (passB 0))
  (fun p1 => (some [(nth p1 1), (nth p1 0)]))
  (retE fun q2 => [(nth q2 1), (nth q2 0)]))
theorem e25 : ∀ I n a, (compF Try.prog sg 25).map (fun d => d.ev I n a) = some (F25 I n a) := fun I n a => by kernel_rfl
/-! laws.markIntS -/
def L4121_0 (I : Interp) (n : Nat) (p0 : List PV) : Option (Ex × List PV) :=
  (iff (ltI (nth p0 0).toInt ((nth p0 1).toList.length : Int))
  (iff (geI (nth p0 0).toInt (0 : Int))
  (iff (ltI (nth p0 0).toInt ((nth p0 1).toList.length : Int))
  (some (Ex.n, [(PV.int (IntKind.i64.wrap ((nth p0 0).toInt + (1 : Int)))), (PV.list ((nth p0 1).toList.set (nth p0 0).toInt.toNat (nth p0 2))), (PV.int (IntKind.i64.wrap ((nth p0 2).toInt + (1 : Int))))]))
  none)
  none)
  (some (Ex.x 0, [(nth p0 2)])))
def F4121 (I : Interp) (n : Nat) (a : List PV) : Option (List PV) :=
  (thenN (thenE (loopEv (L4121_0 I n) n [(PV.int (0 : Int)), (nth a 0), (nth a 1)])
  (passB 0))
  (fun p1 => (some [(nth p1 0)]))
  (retE fun q2 => [(nth q2 0)]))
theorem e4121 : ∀ I n a, (compF Try.prog sg 4121).map (fun d => d.ev I n a) = some (F4121 I n a) := fun I n a => by kernel_rfl
/-! laws.markOpS -/
def L145_0 (I : Interp) (n : Nat) (p0 : List PV) : Option (Ex × List PV) :=
  (iff (ltI (nth p0 0).toInt ((nth p0 2).toList.length : Int))
  (iff (geI (nth p0 0).toInt (0 : Int))
  (iff (ltI (nth p0 0).toInt ((nth p0 2).toList.length : Int))
  (iff (geI (nth p0 0).toInt (0 : Int))
  (iff (ltI (nth p0 0).toInt (((nth p0 2).toList.set (nth p0 0).toInt.toNat ((nth (nth p0 2).toList (nth p0 0).toInt.toNat).setFld 0 (nth p0 1))).length : Int))
  (iff (geI (nth p0 0).toInt (0 : Int))
  (iff (ltI (nth p0 0).toInt ((((nth p0 2).toList.set (nth p0 0).toInt.toNat ((nth (nth p0 2).toList (nth p0 0).toInt.toNat).setFld 0 (nth p0 1))).set (nth p0 0).toInt.toNat ((nth ((nth p0 2).toList.set (nth p0 0).toInt.toNat ((nth (nth p0 2).toList (nth p0 0).toInt.toNat).setFld 0 (nth p0 1))) (nth p0 0).toInt.toNat).setFld 1 (PV.int (IntKind.i64.wrap ((nth p0 1).toInt + (1 : Int)))))).length : Int))
  (some (Ex.n, [(PV.int (IntKind.i64.wrap ((nth p0 0).toInt + (1 : Int)))), (PV.int (IntKind.i64.wrap ((IntKind.i64.wrap ((IntKind.i64.wrap ((nth p0 1).toInt + (1 : Int))) + (1 : Int))) + (1 : Int)))), (PV.list ((((nth p0 2).toList.set (nth p0 0).toInt.toNat ((nth (nth p0 2).toList (nth p0 0).toInt.toNat).setFld 0 (nth p0 1))).set (nth p0 0).toInt.toNat ((nth ((nth p0 2).toList.set (nth p0 0).toInt.toNat ((nth (nth p0 2).toList (nth p0 0).toInt.toNat).setFld 0 (nth p0 1))) (nth p0 0).toInt.toNat).setFld 1 (PV.int (IntKind.i64.wrap ((nth p0 1).toInt + (1 : Int)))))).set (nth p0 0).toInt.toNat ((nth (((nth p0 2).toList.set (nth p0 0).toInt.toNat ((nth (nth p0 2).toList (nth p0 0).toInt.toNat).setFld 0 (nth p0 1))).set (nth p0 0).toInt.toNat ((nth ((nth p0 2).toList.set (nth p0 0).toInt.toNat ((nth (nth p0 2).toList (nth p0 0).toInt.toNat).setFld 0 (nth p0 1))) (nth p0 0).toInt.toNat).setFld 1 (PV.int (IntKind.i64.wrap ((nth p0 1).toInt + (1 : Int)))))) (nth p0 0).toInt.toNat).setFld 2 (PV.int (IntKind.i64.wrap ((IntKind.i64.wrap ((nth p0 1).toInt + (1 : Int))) + (1 : Int)))))))]))
  none)
  none)
  none)
  none)
  none)
  none)
  (some (Ex.x 0, [(nth p0 2), (nth p0 1)])))
def F145 (I : Interp) (n : Nat) (a : List PV) : Option (List PV) :=
  (thenN (thenE (loopEv (L145_0 I n) n [(PV.int (0 : Int)), (nth a 1), (nth a 0)])
  (passB 0))
  (fun p1 => (some [(nth p1 1), (nth p1 0)]))
  (retE fun q2 => [(nth q2 1), (nth q2 0)]))
theorem e145 : ∀ I n a, (compF Try.prog sg 145).map (fun d => d.ev I n a) = some (F145 I n a) := fun I n a => by kernel_rfl
/-! laws.markOpS -/
def L4241_0 (I : Interp) (n : Nat) (p0 : List PV) : Option (Ex × List PV) :=
  (iff (ltI (nth p0 0).toInt ((nth p0 1).toList.length : Int))
  (iff (geI (nth p0 0).toInt (0 : Int))
  (iff (ltI (nth p0 0).toInt ((nth p0 1).toList.length : Int))
  (iff (geI (nth p0 0).toInt (0 : Int))
  (iff (ltI (nth p0 0).toInt (((nth p0 1).toList.set (nth p0 0).toInt.toNat ((nth (nth p0 1).toList (nth p0 0).toInt.toNat).setFld 0 (nth p0 2))).length : Int))
  (iff (geI (nth p0 0).toInt (0 : Int))
  (iff (ltI (nth p0 0).toInt ((((nth p0 1).toList.set (nth p0 0).toInt.toNat ((nth (nth p0 1).toList (nth p0 0).toInt.toNat).setFld 0 (nth p0 2))).set (nth p0 0).toInt.toNat ((nth ((nth p0 1).toList.set (nth p0 0).toInt.toNat ((nth (nth p0 1).toList (nth p0 0).toInt.toNat).setFld 0 (nth p0 2))) (nth p0 0).toInt.toNat).setFld 1 (PV.int (IntKind.i64.wrap ((nth p0 2).toInt + (1 : Int)))))).length : Int))
  (some (Ex.n, [(PV.int (IntKind.i64.wrap ((nth p0 0).toInt + (1 : Int)))), (PV.list ((((nth p0 1).toList.set (nth p0 0).toInt.toNat ((nth (nth p0 1).toList (nth p0 0).toInt.toNat).setFld 0 (nth p0 2))).set (nth p0 0).toInt.toNat ((nth ((nth p0 1).toList.set (nth p0 0).toInt.toNat ((nth (nth p0 1).toList (nth p0 0).toInt.toNat).setFld 0 (nth p0 2))) (nth p0 0).toInt.toNat).setFld 1 (PV.int (IntKind.i64.wrap ((nth p0 2).toInt + (1 : Int)))))).set (nth p0 0).toInt.toNat ((nth (((nth p0 1).toList.set (nth p0 0).toInt.toNat ((nth (nth p0 1).toList (nth p0 0).toInt.toNat).setFld 0 (nth p0 2))).set (nth p0 0).toInt.toNat ((nth ((nth p0 1).toList.set (nth p0 0).toInt.toNat ((nth (nth p0 1).toList (nth p0 0).toInt.toNat).setFld 0 (nth p0 2))) (nth p0 0).toInt.toNat).setFld 1 (PV.int (IntKind.i64.wrap ((nth p0 2).toInt + (1 : Int)))))) (nth p0 0).toInt.toNat).setFld 2 (PV.int (IntKind.i64.wrap ((IntKind.i64.wrap ((nth p0 2).toInt + (1 : Int))) + (1 : Int))))))), (PV.int (IntKind.i64.wrap ((IntKind.i64.wrap ((IntKind.i64.wrap ((nth p0 2).toInt + (1 : Int))) + (1 : Int))) + (1 : Int))))]))
  none)
  none)
  none)
  none)
  none)
  none)
  (some (Ex.x 0, [(nth p0 2)])))
def F4241 (I : Interp) (n : Nat) (a : List PV) : Option (List PV) :=
  (thenN (thenE (loopEv (L4241_0 I n) n [(PV.int (0 : Int)), (nth a 0), (nth a 1)])
  (passB 0))
  (fun p1 => (some [(nth p1 0)]))
  (retE fun q2 => [(nth q2 0)]))
theorem e4241 : ∀ I n a, (compF Try.prog sg 4241).map (fun d => d.ev I n a) = some (F4241 I n a) := fun I n a => by kernel_rfl
/-! laws.eqCall -/
def F172 (I : Interp) (n : Nat) (a : List PV) : Option (List PV) :=
  (iff (neI ((nth a 0).fld 0).toInt ((nth a 1).fld 0).toInt)
  (some [(PV.bool false)])
  (iff (neI ((nth a 0).fld 1).toInt ((nth a 1).fld 1).toInt)
  (some [(PV.bool false)])
  (iff (neI ((nth a 0).fld 2).toInt ((nth a 1).fld 2).toInt)
  (some [(PV.bool false)])
  (some [(PV.bool true)]))))
theorem e172 : ∀ I n a, (compF Try.prog sg 172).map (fun d => d.ev I n a) = some (F172 I n a) := fun I n a => by kernel_rfl
/-! laws.eqIntS -/
def L24_0 (I : Interp) (n : Nat) (p0 : List PV) : Option (Ex × List PV) :=
  (iff (ltI (nth p0 0).toInt ((nth p0 1).toList.length : Int))
  (iff (geI (nth p0 0).toInt (0 : Int))
  (iff (ltI (nth p0 0).toInt ((nth p0 1).toList.length : Int))
  (iff (geI (nth p0 0).toInt (0 : Int))
  (iff (ltI (nth p0 0).toInt ((nth p0 2).toList.length : Int))
  (iff (neI (nth (nth p0 1).toList (nth p0 0).toInt.toNat).toInt (nth (nth p0 2).toList (nth p0 0).toInt.toNat).toInt)
  (some (Ex.r, [(PV.bool false)]))
  (some (Ex.n, [(PV.int (IntKind.i64.wrap ((nth p0 0).toInt + (1 : Int)))), (nth p0 1), (nth p0 2)])))
  none)
  none)
  none)
  none)
  (some (Ex.x 0, [])))
def F24 (I : Interp) (n : Nat) (a : List PV) : Option (List PV) :=
  (iff (neI ((nth a 0).toList.length : Int) ((nth a 1).toList.length : Int))
  (some [(PV.bool false)])
  (thenN (thenE (loopEv (L24_0 I n) n [(PV.int (0 : Int)), (nth a 0), (nth a 1)])
  (passB 0))
  (fun p1 => (some [(PV.bool true)]))
  (retE fun q2 => [(nth q2 0)])))
theorem e24 : ∀ I n a, (compF Try.prog sg 24).map (fun d => d.ev I n a) = some (F24 I n a) := fun I n a => by kernel_rfl
/-! laws.eqOp -/
def F213 (I : Interp) (n : Nat) (a : List PV) : Option (List PV) :=
  (iff (neI ((nth a 0).fld 0).toInt ((nth a 1).fld 0).toInt)
  (some [(PV.bool false)])
  (iff (neI ((nth a 0).fld 1).toInt ((nth a 1).fld 1).toInt)
  (some [(PV.bool false)])
  (iff (neI ((nth a 0).fld 2).toInt ((nth a 1).fld 2).toInt)
  (some [(PV.bool false)])
  (some [(PV.bool true)]))))
theorem e213 : ∀ I n a, (compF Try.prog sg 213).map (fun d => d.ev I n a) = some (F213 I n a) := fun I n a => by kernel_rfl
/-! impl.copyInts -/
def F90 (I : Interp) (n : Nat) (a : List PV) : Option (List PV) :=
  (iff (leN (([] : List PV).length + (nth a 0).toList.length) 17592186044416)
  (some [(PV.list (([] : List PV) ++ (nth a 0).toList))])
  none)
theorem e90 : ∀ I n a, (compF Try.prog sg 90).map (fun d => d.ev I n a) = some (F90 I n a) := fun I n a => by kernel_rfl
/-! slices.isNaN[int] -/
def F195 (I : Interp) (n : Nat) (a : List PV) : Option (List PV) :=
  (some [(PV.bool (neI (nth a 0).toInt (nth a 0).toInt))])
theorem e195 : ∀ I n a, (compF Try.prog sg 195).map (fun d => d.ev I n a) = some (F195 I n a) := fun I n a => by kernel_rfl
/-! cmp.isNaN[int] -/
def F220 (I : Interp) (n : Nat) (a : List PV) : Option (List PV) :=
  (some [(PV.bool (neI (nth a 0).toInt (nth a 0).toInt))])
theorem e220 : ∀ I n a, (compF Try.prog sg 220).map (fun d => d.ev I n a) = some (F220 I n a) := fun I n a => by kernel_rfl
/-! impl.WordRef -/
def F96 (I : Interp) (n : Nat) (a : List PV) : Option (List PV) :=
  (iff (geI (1 : Int) (0 : Int))
  (some [(PV.int (arith BinOp.shr IntKind.i64 (nth a 0).toInt (1 : Int)))])
  none)
theorem e96 : ∀ I n a, (compF Try.prog sg 96).map (fun d => d.ev I n a) = some (F96 I n a) := fun I n a => by kernel_rfl
/-! impl.IsRef -/
def F94 (I : Interp) (n : Nat) (a : List PV) : Option (List PV) :=
  (some [(PV.bool (eqI (arith BinOp.and IntKind.i64 (nth a 0).toInt (1 : Int)) (0 : Int)))])
theorem e94 : ∀ I n a, (compF Try.prog sg 94).map (fun d => d.ev I n a) = some (F94 I n a) := fun I n a => by kernel_rfl
/-! spec.l1In -/
def F104 (I : Interp) (n : Nat) (a : List PV) : Option (List PV) :=
  (some [(selB (geI (nth a 0).toInt (nth a 1).toInt) (selB ((geI (nth a 0).toInt (nth a 1).toInt) == true) (PV.bool (leI (selB ((geI (nth a 0).toInt (nth a 1).toInt) == true) (nth a 0) PV.unit).toInt (selB ((geI (nth a 0).toInt (nth a 1).toInt) == true) (nth a 2) PV.unit).toInt)) PV.unit) (PV.bool false))])
theorem e104 : ∀ I n a, (compF Try.prog sg 104).map (fun d => d.ev I n a) = some (F104 I n a) := fun I n a => by kernel_rfl
/-! spec.WordInt -/
def F157 (I : Interp) (n : Nat) (a : List PV) : Option (List PV) :=
  (iff (geI (1 : Int) (0 : Int))
  (some [(PV.int (arith BinOp.shr IntKind.i64 (nth a 0).toInt (1 : Int)))])
  none)
theorem e157 : ∀ I n a, (compF Try.prog sg 157).map (fun d => d.ev I n a) = some (F157 I n a) := fun I n a => by kernel_rfl
/-! spec.l4Has -/
def L168_0 (I : Interp) (n : Nat) (p0 : List PV) : Option (Ex × List PV) :=
  (iff (ltI (nth p0 0).toInt ((nth p0 1).toList.length : Int))
  (iff (geI (nth p0 0).toInt (0 : Int))
  (iff (ltI (nth p0 0).toInt ((nth p0 1).toList.length : Int))
  (iff (eqI (nth (nth p0 1).toList (nth p0 0).toInt.toNat).toInt (nth p0 2).toInt)
  (some (Ex.r, [(PV.bool true)]))
  (some (Ex.n, [(PV.int (IntKind.i64.wrap ((nth p0 0).toInt + (1 : Int)))), (nth p0 1), (nth p0 2)])))
  none)
  none)
  (some (Ex.x 0, [])))
def F168 (I : Interp) (n : Nat) (a : List PV) : Option (List PV) :=
  (thenN (thenE (loopEv (L168_0 I n) n [(PV.int (0 : Int)), (nth a 0), (nth a 1)])
  (passB 0))
  (fun p1 => (some [(PV.bool false)]))
  (retE fun q2 => [(nth q2 0)]))
theorem e168 : ∀ I n a, (compF Try.prog sg 168).map (fun d => d.ev I n a) = some (F168 I n a) := fun I n a => by kernel_rfl
/-! spec.WordRef -/
def F111 (I : Interp) (n : Nat) (a : List PV) : Option (List PV) :=
  (iff (geI (1 : Int) (0 : Int))
  (some [(PV.int (arith BinOp.shr IntKind.i64 (nth a 0).toInt (1 : Int)))])
  none)
theorem e111 : ∀ I n a, (compF Try.prog sg 111).map (fun d => d.ev I n a) = some (F111 I n a) := fun I n a => by kernel_rfl
/-! spec.IsRef -/
def F156 (I : Interp) (n : Nat) (a : List PV) : Option (List PV) :=
  (some [(PV.bool (eqI (arith BinOp.and IntKind.i64 (nth a 0).toInt (1 : Int)) (0 : Int)))])
theorem e156 : ∀ I n a, (compF Try.prog sg 156).map (fun d => d.ev I n a) = some (F156 I n a) := fun I n a => by kernel_rfl
/-! spec.l17Of -/
def F109 (I : Interp) (n : Nat) (a : List PV) : Option (List PV) :=
  (iff (geI (1 : Int) (0 : Int))
  (iff (geI (1 : Int) (0 : Int))
  (iff (neI (64 : Int) (0 : Int))
  (iff (geI (1 : Int) (0 : Int))
  (some [(PV.bool (eqI (arith BinOp.and IntKind.i64 (arith BinOp.shr IntKind.i64 (nth a 0).toInt (1 : Int)) (1 : Int)) (1 : Int))), (PV.int (arith BinOp.quo IntKind.i64 (arith BinOp.shr IntKind.i64 (arith BinOp.shr IntKind.i64 (nth a 0).toInt (1 : Int)) (1 : Int)) (64 : Int))), (PV.int (arith BinOp.and IntKind.i64 (arith BinOp.shr IntKind.i64 (arith BinOp.shr IntKind.i64 (nth a 0).toInt (1 : Int)) (1 : Int)) (63 : Int)))])
  none)
  none)
  none)
  none)
theorem e109 : ∀ I n a, (compF Try.prog sg 109).map (fun d => d.ev I n a) = some (F109 I n a) := fun I n a => by kernel_rfl
/-! laws.toOp -/
def F217 (I : Interp) (n : Nat) (a : List PV) : Option (List PV) :=
  (some [(PV.agg [((nth a 0).fld 0), ((nth a 0).fld 1), ((nth a 0).fld 2)])])
theorem e217 : ∀ I n a, (compF Try.prog sg 217).map (fun d => d.ev I n a) = some (F217 I n a) := fun I n a => by kernel_rfl
/-! laws.toCall -/
def F170 (I : Interp) (n : Nat) (a : List PV) : Option (List PV) :=
  (some [(PV.agg [((nth a 0).fld 0), ((nth a 0).fld 1), ((nth a 0).fld 2)])])
theorem e170 : ∀ I n a, (compF Try.prog sg 170).map (fun d => d.ev I n a) = some (F170 I n a) := fun I n a => by kernel_rfl
/-! laws.toIntS -/
def L22_0 (I : Interp) (n : Nat) (p0 : List PV) : Option (Ex × List PV) :=
  (iff (ltI (nth p0 0).toInt ((nth p0 1).toList.length : Int))
  (iff (geI (nth p0 0).toInt (0 : Int))
  (iff (ltI (nth p0 0).toInt ((nth p0 1).toList.length : Int))
  (iff (geI (nth p0 0).toInt (0 : Int))
  (iff (ltI (nth p0 0).toInt ((nth p0 2).toList.length : Int))
  (some (Ex.n, [(PV.int (IntKind.i64.wrap ((nth p0 0).toInt + (1 : Int)))), (nth p0 1), (PV.list ((nth p0 2).toList.set (nth p0 0).toInt.toNat (nth (nth p0 1).toList (nth p0 0).toInt.toNat)))]))
  none)
  none)
  none)
  none)
  (some (Ex.x 0, [(nth p0 2)])))
def F22 (I : Interp) (n : Nat) (a : List PV) : Option (List PV) :=
  (iff (geI ((nth a 0).toList.length : Int) (0 : Int))
  (iff (leI ((nth a 0).toList.length : Int) ((nth a 0).toList.length : Int))
  (iff (leI ((nth a 0).toList.length : Int) (17592186044416 : Int))
  (thenN (thenE (loopEv (L22_0 I n) n [(PV.int (0 : Int)), (nth a 0), (PV.list (List.replicate ((nth a 0).toList.length : Int).toNat (PV.int (0 : Int))))])
  (passB 0))
  (fun p1 => (some [(nth p1 0)]))
  (retE fun q2 => [(nth q2 0)]))
  none)
  none)
  none)
theorem e22 : ∀ I n a, (compF Try.prog sg 22).map (fun d => d.ev I n a) = some (F22 I n a) := fun I n a => by kernel_rfl
/-! laws.szIntS -/
def F78 (I : Interp) (n : Nat) (a : List PV) : Option (List PV) :=
  (iff (ltI (IntKind.i64.wrap ((nth a 1).toInt - ((nth a 0).toList.length : Int))) (0 : Int))
  (some [(PV.int (-1 : Int))])
  (some [(PV.int (IntKind.i64.wrap ((nth a 1).toInt - ((nth a 0).toList.length : Int))))]))
theorem e78 : ∀ I n a, (compF Try.prog sg 78).map (fun d => d.ev I n a) = some (F78 I n a) := fun I n a => by kernel_rfl
/-! laws.szCallS -/
def F115 (I : Interp) (n : Nat) (a : List PV) : Option (List PV) :=
  (iff (ltI (IntKind.i64.wrap ((nth a 1).toInt - ((nth a 0).toList.length : Int))) (0 : Int))
  (some [(PV.int (-1 : Int))])
  (some [(PV.int (IntKind.i64.wrap ((nth a 1).toInt - ((nth a 0).toList.length : Int))))]))
theorem e115 : ∀ I n a, (compF Try.prog sg 115).map (fun d => d.ev I n a) = some (F115 I n a) := fun I n a => by kernel_rfl
/-! laws.szOpS -/
def F187 (I : Interp) (n : Nat) (a : List PV) : Option (List PV) :=
  (iff (ltI (IntKind.i64.wrap ((nth a 1).toInt - ((nth a 0).toList.length : Int))) (0 : Int))
  (some [(PV.int (-1 : Int))])
  (some [(PV.int (IntKind.i64.wrap ((nth a 1).toInt - ((nth a 0).toList.length : Int))))]))
theorem e187 : ∀ I n a, (compF Try.prog sg 187).map (fun d => d.ev I n a) = some (F187 I n a) := fun I n a => by kernel_rfl
/-! laws.heldValue -/
def F20 (I : Interp) (n : Nat) (a : List PV) : Option (List PV) :=
  ((I 84 [((nth a 0).fld 2), (nth a 1)]).bind fun r0 =>
  (iff (ltI (nth r0 0).toInt (0 : Int))
  (some [(PV.int (-1 : Int))])
  (some [(nth r0 0)])))
theorem e20 : ∀ I n a, (compF Try.prog sg 20).map (fun d => d.ev I n a) = some (F20 I n a) := fun I n a => by kernel_rfl
/-! laws.toCallS -/
def L118_0 (I : Interp) (n : Nat) (p0 : List PV) : Option (Ex × List PV) :=
  (iff (ltI (nth p0 0).toInt ((nth p0 1).toList.length : Int))
  (iff (geI (nth p0 0).toInt (0 : Int))
  (iff (ltI (nth p0 0).toInt ((nth p0 1).toList.length : Int))
  ((I 170 [(nth (nth p0 1).toList (nth p0 0).toInt.toNat)]).bind fun r1 =>
  (iff (geI (nth p0 0).toInt (0 : Int))
  (iff (ltI (nth p0 0).toInt ((nth p0 2).toList.length : Int))
  (some (Ex.n, [(PV.int (IntKind.i64.wrap ((nth p0 0).toInt + (1 : Int)))), (nth p0 1), (PV.list ((nth p0 2).toList.set (nth p0 0).toInt.toNat (nth r1 0)))]))
  none)
  none))
  none)
  none)
  (some (Ex.x 0, [(nth p0 2)])))
def F118 (I : Interp) (n : Nat) (a : List PV) : Option (List PV) :=
  (iff (geI ((nth a 0).toList.length : Int) (0 : Int))
  (iff (leI ((nth a 0).toList.length : Int) ((nth a 0).toList.length : Int))
  (iff (leI ((nth a 0).toList.length : Int) (5864062014805 : Int))
  (thenN (thenE (loopEv (L118_0 I n) n [(PV.int (0 : Int)), (nth a 0), (PV.list (List.replicate ((nth a 0).toList.length : Int).toNat (PV.agg [(PV.int (0 : Int)), (PV.int (0 : Int)), (PV.int (0 : Int))])))])
  (passB 0))
  (fun p2 => (some [(nth p2 0)]))
  (retE fun q3 => [(nth q3 0)]))
  none)
  none)
  none)
theorem e118 : ∀ I n a, (compF Try.prog sg 118).map (fun d => d.ev I n a) = some (F118 I n a) := fun I n a => by kernel_rfl
/-! laws.markValue -/
def F19 (I : Interp) (n : Nat) (a : List PV) : Option (List PV) :=
  ((I 83 [((nth a 0).fld 2), (nth a 1)]).bind fun r0 =>
  (some [(nth r0 0), ((nth a 0).setFld 2 (nth r0 1))]))
theorem e19 : ∀ I n a, (compF Try.prog sg 19).map (fun d => d.ev I n a) = some (F19 I n a) := fun I n a => by kernel_rfl
/-! laws.markValue -/
def F4115 (I : Interp) (n : Nat) (a : List PV) : Option (List PV) :=
  ((I 83 [((nth a 0).fld 2), (nth a 1)]).bind fun r0 =>
  (some [(nth r0 0)]))
theorem e4115 : ∀ I n a, (compF Try.prog sg 4115).map (fun d => d.ev I n a) = some (F4115 I n a) := fun I n a => by kernel_rfl
/-! impl.WordOk -/
def F120 (I : Interp) (n : Nat) (a : List PV) : Option (List PV) :=
  ((I 102 [(nth a 0), (PV.int (-1073741824 : Int)), (PV.int (1073741823 : Int))]).bind fun r0 =>
  (some [(nth r0 0)]))
theorem e120 : ∀ I n a, (compF Try.prog sg 120).map (fun d => d.ev I n a) = some (F120 I n a) := fun I n a => by kernel_rfl
/-! laws.eqHeap -/
def F17 (I : Interp) (n : Nat) (a : List PV) : Option (List PV) :=
  ((I 24 [((nth a 0).fld 0), ((nth a 1).fld 0)]).bind fun r0 =>
  (iff (!(nth r0 0).toBool)
  (some [(PV.bool false)])
  (iff (neI ((nth a 0).fld 1).toInt ((nth a 1).fld 1).toInt)
  (some [(PV.bool false)])
  (iff (neI ((nth a 0).fld 2).toInt ((nth a 1).fld 2).toInt)
  (some [(PV.bool false)])
  (iff (neI ((nth a 0).fld 3).toInt ((nth a 1).fld 3).toInt)
  (some [(PV.bool false)])
  (some [(PV.bool true)]))))))
theorem e17 : ∀ I n a, (compF Try.prog sg 17).map (fun d => d.ev I n a) = some (F17 I n a) := fun I n a => by kernel_rfl
/-! laws.markFunS -/
def L69_0 (I : Interp) (n : Nat) (p0 : List PV) : Option (Ex × List PV) :=
  (iff (ltI (nth p0 0).toInt ((nth p0 2).toList.length : Int))
  (iff (geI (nth p0 0).toInt (0 : Int))
  (iff (ltI (nth p0 0).toInt ((nth p0 2).toList.length : Int))
  (iff (geI (nth p0 0).toInt (0 : Int))
  (iff (ltI (nth p0 0).toInt (((nth p0 2).toList.set (nth p0 0).toInt.toNat ((nth (nth p0 2).toList (nth p0 0).toInt.toNat).setFld 0 (nth p0 1))).length : Int))
  ((I 145 [((nth ((nth p0 2).toList.set (nth p0 0).toInt.toNat ((nth (nth p0 2).toList (nth p0 0).toInt.toNat).setFld 0 (nth p0 1))) (nth p0 0).toInt.toNat).fld 1), (PV.int (IntKind.i64.wrap ((nth p0 1).toInt + (1 : Int))))]).bind fun r1 =>
  (some (Ex.n, [(PV.int (IntKind.i64.wrap ((nth p0 0).toInt + (1 : Int)))), (nth r1 0), (PV.list (((nth p0 2).toList.set (nth p0 0).toInt.toNat ((nth (nth p0 2).toList (nth p0 0).toInt.toNat).setFld 0 (nth p0 1))).set (nth p0 0).toInt.toNat ((nth ((nth p0 2).toList.set (nth p0 0).toInt.toNat ((nth (nth p0 2).toList (nth p0 0).toInt.toNat).setFld 0 (nth p0 1))) (nth p0 0).toInt.toNat).setFld 1 (nth r1 1))))])))
  none)
  none)
  none)
  none)
  (some (Ex.x 0, [(nth p0 2), (nth p0 1)])))
def F69 (I : Interp) (n : Nat) (a : List PV) : Option (List PV) :=
  (thenN (thenE (loopEv (L69_0 I n) n [(PV.int (0 : Int)), (nth a 1), (nth a 0)])
  (passB 0))
  (fun p2 => (some [(nth p2 1), (nth p2 0)]))
  (retE fun q3 => [(nth q3 1), (nth q3 0)]))
theorem e69 : ∀ I n a, (compF Try.prog sg 69).map (fun d => d.ev I n a) = some (F69 I n a) := fun I n a => by kernel_rfl
/-! laws.markFunS -/
def L4165_0 (I : Interp) (n : Nat) (p0 : List PV) : Option (Ex × List PV) :=
  (iff (ltI (nth p0 0).toInt ((nth p0 1).toList.length : Int))
  (iff (geI (nth p0 0).toInt (0 : Int))
  (iff (ltI (nth p0 0).toInt ((nth p0 1).toList.length : Int))
  (iff (geI (nth p0 0).toInt (0 : Int))
  (iff (ltI (nth p0 0).toInt (((nth p0 1).toList.set (nth p0 0).toInt.toNat ((nth (nth p0 1).toList (nth p0 0).toInt.toNat).setFld 0 (nth p0 2))).length : Int))
  ((I 145 [((nth ((nth p0 1).toList.set (nth p0 0).toInt.toNat ((nth (nth p0 1).toList (nth p0 0).toInt.toNat).setFld 0 (nth p0 2))) (nth p0 0).toInt.toNat).fld 1), (PV.int (IntKind.i64.wrap ((nth p0 2).toInt + (1 : Int))))]).bind fun r1 =>
  (some (Ex.n, [(PV.int (IntKind.i64.wrap ((nth p0 0).toInt + (1 : Int)))), (PV.list (((nth p0 1).toList.set (nth p0 0).toInt.toNat ((nth (nth p0 1).toList (nth p0 0).toInt.toNat).setFld 0 (nth p0 2))).set (nth p0 0).toInt.toNat ((nth ((nth p0 1).toList.set (nth p0 0).toInt.toNat ((nth (nth p0 1).toList (nth p0 0).toInt.toNat).setFld 0 (nth p0 2))) (nth p0 0).toInt.toNat).setFld 1 (nth r1 1)))), (nth r1 0)])))
  none)
  none)
  none)
  none)
  (some (Ex.x 0, [(nth p0 2)])))
def F4165 (I : Interp) (n : Nat) (a : List PV) : Option (List PV) :=
  (thenN (thenE (loopEv (L4165_0 I n) n [(PV.int (0 : Int)), (nth a 0), (nth a 1)])
  (passB 0))
  (fun p2 => (some [(nth p2 0)]))
  (retE fun q3 => [(nth q3 0)]))
theorem e4165 : ∀ I n a, (compF Try.prog sg 4165).map (fun d => d.ev I n a) = some (F4165 I n a) := fun I n a => by kernel_rfl
/-! spec.WordOk -/
def F117 (I : Interp) (n : Nat) (a : List PV) : Option (List PV) :=
  ((I 104 [(nth a 0), (PV.int (-1073741824 : Int)), (PV.int (1073741823 : Int))]).bind fun r0 =>
  (some [(nth r0 0)]))
theorem e117 : ∀ I n a, (compF Try.prog sg 117).map (fun d => d.ev I n a) = some (F117 I n a) := fun I n a => by kernel_rfl
/-! laws.eqOpS -/
def L185_0 (I : Interp) (n : Nat) (p0 : List PV) : Option (Ex × List PV) :=
  (iff (ltI (nth p0 0).toInt ((nth p0 1).toList.length : Int))
  (iff (geI (nth p0 0).toInt (0 : Int))
  (iff (ltI (nth p0 0).toInt ((nth p0 1).toList.length : Int))
  (iff (geI (nth p0 0).toInt (0 : Int))
  (iff (ltI (nth p0 0).toInt ((nth p0 2).toList.length : Int))
  ((I 213 [(nth (nth p0 1).toList (nth p0 0).toInt.toNat), (nth (nth p0 2).toList (nth p0 0).toInt.toNat)]).bind fun r1 =>
  (iff (!(nth r1 0).toBool)
  (some (Ex.r, [(PV.bool false)]))
  (some (Ex.n, [(PV.int (IntKind.i64.wrap ((nth p0 0).toInt + (1 : Int)))), (nth p0 1), (nth p0 2)]))))
  none)
  none)
  none)
  none)
  (some (Ex.x 0, [])))
def F185 (I : Interp) (n : Nat) (a : List PV) : Option (List PV) :=
  (iff (neI ((nth a 0).toList.length : Int) ((nth a 1).toList.length : Int))
  (some [(PV.bool false)])
  (thenN (thenE (loopEv (L185_0 I n) n [(PV.int (0 : Int)), (nth a 0), (nth a 1)])
  (passB 0))
  (fun p2 => (some [(PV.bool true)]))
  (retE fun q3 => [(nth q3 0)])))
theorem e185 : ∀ I n a, (compF Try.prog sg 185).map (fun d => d.ev I n a) = some (F185 I n a) := fun I n a => by kernel_rfl
/-! spec.l7In -/
def F113 (I : Interp) (n : Nat) (a : List PV) : Option (List PV) :=
  ((I 168 [(nth a 0), (nth a 1)]).bind fun r0 =>
  (some [(nth r0 0)]))
theorem e113 : ∀ I n a, (compF Try.prog sg 113).map (fun d => d.ev I n a) = some (F113 I n a) := fun I n a => by kernel_rfl
/-! laws.eqValueS -/
def L82_0 (I : Interp) (n : Nat) (p0 : List PV) : Option (Ex × List PV) :=
  (iff (ltI (nth p0 0).toInt ((nth p0 1).toList.length : Int))
  (iff (geI (nth p0 0).toInt (0 : Int))
  (iff (ltI (nth p0 0).toInt ((nth p0 1).toList.length : Int))
  (iff (geI (nth p0 0).toInt (0 : Int))
  (iff (ltI (nth p0 0).toInt ((nth p0 2).toList.length : Int))
  ((I 16 [(nth (nth p0 1).toList (nth p0 0).toInt.toNat), (nth (nth p0 2).toList (nth p0 0).toInt.toNat)]).bind fun r1 =>
  (iff (!(nth r1 0).toBool)
  (some (Ex.r, [(PV.bool false)]))
  (some (Ex.n, [(PV.int (IntKind.i64.wrap ((nth p0 0).toInt + (1 : Int)))), (nth p0 1), (nth p0 2)]))))
  none)
  none)
  none)
  none)
  (some (Ex.x 0, [])))
def F82 (I : Interp) (n : Nat) (a : List PV) : Option (List PV) :=
  (iff (neI ((nth a 0).toList.length : Int) ((nth a 1).toList.length : Int))
  (some [(PV.bool false)])
  (thenN (thenE (loopEv (L82_0 I n) n [(PV.int (0 : Int)), (nth a 0), (nth a 1)])
  (passB 0))
  (fun p2 => (some [(PV.bool true)]))
  (retE fun q3 => [(nth q3 0)])))
theorem e82 : ∀ I n a, (compF Try.prog sg 82).map (fun d => d.ev I n a) = some (F82 I n a) := fun I n a => by kernel_rfl
/-! laws.eqValue -/
def F16 (I : Interp) (n : Nat) (a : List PV) : Option (List PV) :=
  (iff (neI ((nth a 0).fld 0).toInt ((nth a 1).fld 0).toInt)
  (some [(PV.bool false)])
  (iff (neI ((nth a 0).fld 1).toInt ((nth a 1).fld 1).toInt)
  (some [(PV.bool false)])
  ((I 82 [((nth a 0).fld 2), ((nth a 1).fld 2)]).bind fun r0 =>
  (iff (!(nth r0 0).toBool)
  (some [(PV.bool false)])
  (some [(PV.bool true)])))))
theorem e16 : ∀ I n a, (compF Try.prog sg 16).map (fun d => d.ev I n a) = some (F16 I n a) := fun I n a => by kernel_rfl
/-! laws.eqCallS -/
def L121_0 (I : Interp) (n : Nat) (p0 : List PV) : Option (Ex × List PV) :=
  (iff (ltI (nth p0 0).toInt ((nth p0 1).toList.length : Int))
  (iff (geI (nth p0 0).toInt (0 : Int))
  (iff (ltI (nth p0 0).toInt ((nth p0 1).toList.length : Int))
  (iff (geI (nth p0 0).toInt (0 : Int))
  (iff (ltI (nth p0 0).toInt ((nth p0 2).toList.length : Int))
  ((I 172 [(nth (nth p0 1).toList (nth p0 0).toInt.toNat), (nth (nth p0 2).toList (nth p0 0).toInt.toNat)]).bind fun r1 =>
  (iff (!(nth r1 0).toBool)
  (some (Ex.r, [(PV.bool false)]))
  (some (Ex.n, [(PV.int (IntKind.i64.wrap ((nth p0 0).toInt + (1 : Int)))), (nth p0 1), (nth p0 2)]))))
  none)
  none)
  none)
  none)
  (some (Ex.x 0, [])))
def F121 (I : Interp) (n : Nat) (a : List PV) : Option (List PV) :=
  (iff (neI ((nth a 0).toList.length : Int) ((nth a 1).toList.length : Int))
  (some [(PV.bool false)])
  (thenN (thenE (loopEv (L121_0 I n) n [(PV.int (0 : Int)), (nth a 0), (nth a 1)])
  (passB 0))
  (fun p2 => (some [(PV.bool true)]))
  (retE fun q3 => [(nth q3 0)])))
theorem e121 : ∀ I n a, (compF Try.prog sg 121).map (fun d => d.ev I n a) = some (F121 I n a) := fun I n a => by kernel_rfl
/-! laws.toHeap -/
def F14 (I : Interp) (n : Nat) (a : List PV) : Option (List PV) :=
  ((I 22 [((nth a 0).fld 0)]).bind fun r0 =>
  (some [(PV.agg [(nth r0 0), ((nth a 0).fld 1), ((nth a 0).fld 2), ((nth a 0).fld 3)])]))
theorem e14 : ∀ I n a, (compF Try.prog sg 14).map (fun d => d.ev I n a) = some (F14 I n a) := fun I n a => by kernel_rfl
/-! laws.markHeap -/
def F18 (I : Interp) (n : Nat) (a : List PV) : Option (List PV) :=
  ((I 25 [((nth a 0).fld 0), (nth a 1)]).bind fun r0 =>
  (some [(nth r0 0), ((nth a 0).setFld 0 (nth r0 1))]))
theorem e18 : ∀ I n a, (compF Try.prog sg 18).map (fun d => d.ev I n a) = some (F18 I n a) := fun I n a => by kernel_rfl
/-! laws.markHeap -/
def F4114 (I : Interp) (n : Nat) (a : List PV) : Option (List PV) :=
  ((I 25 [((nth a 0).fld 0), (nth a 1)]).bind fun r0 =>
  (some [(nth r0 0)]))
theorem e4114 : ∀ I n a, (compF Try.prog sg 4114).map (fun d => d.ev I n a) = some (F4114 I n a) := fun I n a => by kernel_rfl
/-! laws.toOpS -/
def L189_0 (I : Interp) (n : Nat) (p0 : List PV) : Option (Ex × List PV) :=
  (iff (ltI (nth p0 0).toInt ((nth p0 1).toList.length : Int))
  (iff (geI (nth p0 0).toInt (0 : Int))
  (iff (ltI (nth p0 0).toInt ((nth p0 1).toList.length : Int))
  ((I 217 [(nth (nth p0 1).toList (nth p0 0).toInt.toNat)]).bind fun r1 =>
  (iff (geI (nth p0 0).toInt (0 : Int))
  (iff (ltI (nth p0 0).toInt ((nth p0 2).toList.length : Int))
  (some (Ex.n, [(PV.int (IntKind.i64.wrap ((nth p0 0).toInt + (1 : Int)))), (nth p0 1), (PV.list ((nth p0 2).toList.set (nth p0 0).toInt.toNat (nth r1 0)))]))
  none)
  none))
  none)
  none)
  (some (Ex.x 0, [(nth p0 2)])))
def F189 (I : Interp) (n : Nat) (a : List PV) : Option (List PV) :=
  (iff (geI ((nth a 0).toList.length : Int) (0 : Int))
  (iff (leI ((nth a 0).toList.length : Int) ((nth a 0).toList.length : Int))
  (iff (leI ((nth a 0).toList.length : Int) (5864062014805 : Int))
  (thenN (thenE (loopEv (L189_0 I n) n [(PV.int (0 : Int)), (nth a 0), (PV.list (List.replicate ((nth a 0).toList.length : Int).toNat (PV.agg [(PV.int (0 : Int)), (PV.int (0 : Int)), (PV.int (0 : Int))])))])
  (passB 0))
  (fun p2 => (some [(nth p2 0)]))
  (retE fun q3 => [(nth q3 0)]))
  none)
  none)
  none)
theorem e189 : ∀ I n a, (compF Try.prog sg 189).map (fun d => d.ev I n a) = some (F189 I n a) := fun I n a => by kernel_rfl
/-! laws.szHeap -/
def F12 (I : Interp) (n : Nat) (a : List PV) : Option (List PV) :=
  ((I 78 [((nth a 0).fld 0), (nth a 1)]).bind fun r0 =>
  (iff (ltI (nth r0 0).toInt (0 : Int))
  (some [(PV.int (-1 : Int))])
  (some [(nth r0 0)])))
theorem e12 : ∀ I n a, (compF Try.prog sg 12).map (fun d => d.ev I n a) = some (F12 I n a) := fun I n a => by kernel_rfl
/-! cmp.Less[int] -/
def F194 (I : Interp) (n : Nat) (a : List PV) : Option (List PV) :=
  ((I 220 [(nth a 0)]).bind fun r0 =>
  ((iff ((nth r0 0).isB true)
  ((I 220 [(selB ((nth r0 0).isB true) (nth a 1) PV.unit)]).bind fun r1 =>
  (some [(nth r1 0), (nth r1 0)]))
  (some [PV.unit, PV.unit])).bind fun g2 =>
  (some [(selB (selB (nth r0 0).toBool (selB ((nth r0 0).isB true) (PV.bool (!(nth g2 0).toBool)) PV.unit) (PV.bool false)).toBool (PV.bool true) (selB ((selB (nth r0 0).toBool (selB ((nth r0 0).isB true) (PV.bool (!(nth g2 0).toBool)) PV.unit) (PV.bool false)).isB false) (PV.bool (ltI (selB ((selB (nth r0 0).toBool (selB ((nth r0 0).isB true) (PV.bool (!(nth g2 0).toBool)) PV.unit) (PV.bool false)).isB false) (nth a 0) PV.unit).toInt (selB ((selB (nth r0 0).toBool (selB ((nth r0 0).isB true) (PV.bool (!(nth g2 0).toBool)) PV.unit) (PV.bool false)).isB false) (nth a 1) PV.unit).toInt)) PV.unit))])))
theorem e194 : ∀ I n a, (compF Try.prog sg 194).map (fun d => d.ev I n a) = some (F194 I n a) := fun I n a => by kernel_rfl
/-! laws.szFun -/
def F149 (I : Interp) (n : Nat) (a : List PV) : Option (List PV) :=
  ((I 187 [((nth a 0).fld 1), (nth a 1)]).bind fun r0 =>
  (iff (ltI (nth r0 0).toInt (0 : Int))
  (some [(PV.int (-1 : Int))])
  (some [(nth r0 0)])))
theorem e149 : ∀ I n a, (compF Try.prog sg 149).map (fun d => d.ev I n a) = some (F149 I n a) := fun I n a => by kernel_rfl
/-! spec.l17Places -/
def L79_0 (I : Interp) (n : Nat) (p0 : List PV) : Option (Ex × List PV) :=
  (iff (ltI (nth p0 0).toInt ((nth p0 2).fld 3).toInt)
  (iff (geI (nth p0 0).toInt (0 : Int))
  (iff (ltI (nth p0 0).toInt (((nth p0 2).fld 0).toList.length : Int))
  ((I 109 [(nth ((nth p0 2).fld 0).toList (nth p0 0).toInt.toNat)]).bind fun r1 =>
  ((iff ((ltI (nth ((nth p0 2).fld 0).toList (nth p0 0).toInt.toNat).toInt (0 : Int)) == false)
  ((I 156 [(selB ((ltI (nth ((nth p0 2).fld 0).toList (nth p0 0).toInt.toNat).toInt (0 : Int)) == false) (nth ((nth p0 2).fld 0).toList (nth p0 0).toInt.toNat) PV.unit)]).bind fun r2 =>
  (some [(nth r2 0), (nth r2 0)]))
  (some [PV.unit, PV.unit])).bind fun g3 =>
  (iff (selB (selB (selB (selB (ltI (nth ((nth p0 2).fld 0).toList (nth p0 0).toInt.toNat).toInt (0 : Int)) (PV.bool true) (nth g3 0)).toBool (PV.bool true) (selB ((selB (ltI (nth ((nth p0 2).fld 0).toList (nth p0 0).toInt.toNat).toInt (0 : Int)) (PV.bool true) (nth g3 0)).isB false) (PV.bool (gtI (selB ((selB (ltI (nth ((nth p0 2).fld 0).toList (nth p0 0).toInt.toNat).toInt (0 : Int)) (PV.bool true) (nth g3 0)).isB false) (nth r1 1) PV.unit).toInt (3000 : Int))) PV.unit)).toBool (PV.bool true) (selB ((selB (selB (ltI (nth ((nth p0 2).fld 0).toList (nth p0 0).toInt.toNat).toInt (0 : Int)) (PV.bool true) (nth g3 0)).toBool (PV.bool true) (selB ((selB (ltI (nth ((nth p0 2).fld 0).toList (nth p0 0).toInt.toNat).toInt (0 : Int)) (PV.bool true) (nth g3 0)).isB false) (PV.bool (gtI (selB ((selB (ltI (nth ((nth p0 2).fld 0).toList (nth p0 0).toInt.toNat).toInt (0 : Int)) (PV.bool true) (nth g3 0)).isB false) (nth r1 1) PV.unit).toInt (3000 : Int))) PV.unit)).isB false) (PV.bool (gtI (selB ((selB (selB (ltI (nth ((nth p0 2).fld 0).toList (nth p0 0).toInt.toNat).toInt (0 : Int)) (PV.bool true) (nth g3 0)).toBool (PV.bool true) (selB ((selB (ltI (nth ((nth p0 2).fld 0).toList (nth p0 0).toInt.toNat).toInt (0 : Int)) (PV.bool true) (nth g3 0)).isB false) (PV.bool (gtI (selB ((selB (ltI (nth ((nth p0 2).fld 0).toList (nth p0 0).toInt.toNat).toInt (0 : Int)) (PV.bool true) (nth g3 0)).isB false) (nth r1 1) PV.unit).toInt (3000 : Int))) PV.unit)).isB false) (nth r1 2) PV.unit).toInt (20 : Int))) PV.unit)).toBool (PV.bool true) (selB ((selB (selB (selB (ltI (nth ((nth p0 2).fld 0).toList (nth p0 0).toInt.toNat).toInt (0 : Int)) (PV.bool true) (nth g3 0)).toBool (PV.bool true) (selB ((selB (ltI (nth ((nth p0 2).fld 0).toList (nth p0 0).toInt.toNat).toInt (0 : Int)) (PV.bool true) (nth g3 0)).isB false) (PV.bool (gtI (selB ((selB (ltI (nth ((nth p0 2).fld 0).toList (nth p0 0).toInt.toNat).toInt (0 : Int)) (PV.bool true) (nth g3 0)).isB false) (nth r1 1) PV.unit).toInt (3000 : Int))) PV.unit)).toBool (PV.bool true) (selB ((selB (selB (ltI (nth ((nth p0 2).fld 0).toList (nth p0 0).toInt.toNat).toInt (0 : Int)) (PV.bool true) (nth g3 0)).toBool (PV.bool true) (selB ((selB (ltI (nth ((nth p0 2).fld 0).toList (nth p0 0).toInt.toNat).toInt (0 : Int)) (PV.bool true) (nth g3 0)).isB false) (PV.bool (gtI (selB ((selB (ltI (nth ((nth p0 2).fld 0).toList (nth p0 0).toInt.toNat).toInt (0 : Int)) (PV.bool true) (nth g3 0)).isB false) (nth r1 1) PV.unit).toInt (3000 : Int))) PV.unit)).isB false) (PV.bool (gtI (selB ((selB (selB (ltI (nth ((nth p0 2).fld 0).toList (nth p0 0).toInt.toNat).toInt (0 : Int)) (PV.bool true) (nth g3 0)).toBool (PV.bool true) (selB ((selB (ltI (nth ((nth p0 2).fld 0).toList (nth p0 0).toInt.toNat).toInt (0 : Int)) (PV.bool true) (nth g3 0)).isB false) (PV.bool (gtI (selB ((selB (ltI (nth ((nth p0 2).fld 0).toList (nth p0 0).toInt.toNat).toInt (0 : Int)) (PV.bool true) (nth g3 0)).isB false) (nth r1 1) PV.unit).toInt (3000 : Int))) PV.unit)).isB false) (nth r1 2) PV.unit).toInt (20 : Int))) PV.unit)).isB false) (PV.bool (geI (selB ((selB (selB (selB (ltI (nth ((nth p0 2).fld 0).toList (nth p0 0).toInt.toNat).toInt (0 : Int)) (PV.bool true) (nth g3 0)).toBool (PV.bool true) (selB ((selB (ltI (nth ((nth p0 2).fld 0).toList (nth p0 0).toInt.toNat).toInt (0 : Int)) (PV.bool true) (nth g3 0)).isB false) (PV.bool (gtI (selB ((selB (ltI (nth ((nth p0 2).fld 0).toList (nth p0 0).toInt.toNat).toInt (0 : Int)) (PV.bool true) (nth g3 0)).isB false) (nth r1 1) PV.unit).toInt (3000 : Int))) PV.unit)).toBool (PV.bool true) (selB ((selB (selB (ltI (nth ((nth p0 2).fld 0).toList (nth p0 0).toInt.toNat).toInt (0 : Int)) (PV.bool true) (nth g3 0)).toBool (PV.bool true) (selB ((selB (ltI (nth ((nth p0 2).fld 0).toList (nth p0 0).toInt.toNat).toInt (0 : Int)) (PV.bool true) (nth g3 0)).isB false) (PV.bool (gtI (selB ((selB (ltI (nth ((nth p0 2).fld 0).toList (nth p0 0).toInt.toNat).toInt (0 : Int)) (PV.bool true) (nth g3 0)).isB false) (nth r1 1) PV.unit).toInt (3000 : Int))) PV.unit)).isB false) (PV.bool (gtI (selB ((selB (selB (ltI (nth ((nth p0 2).fld 0).toList (nth p0 0).toInt.toNat).toInt (0 : Int)) (PV.bool true) (nth g3 0)).toBool (PV.bool true) (selB ((selB (ltI (nth ((nth p0 2).fld 0).toList (nth p0 0).toInt.toNat).toInt (0 : Int)) (PV.bool true) (nth g3 0)).isB false) (PV.bool (gtI (selB ((selB (ltI (nth ((nth p0 2).fld 0).toList (nth p0 0).toInt.toNat).toInt (0 : Int)) (PV.bool true) (nth g3 0)).isB false) (nth r1 1) PV.unit).toInt (3000 : Int))) PV.unit)).isB false) (nth r1 2) PV.unit).toInt (20 : Int))) PV.unit)).isB false) (nth r1 2) PV.unit).toInt (selB ((selB (selB (selB (ltI (nth ((nth p0 2).fld 0).toList (nth p0 0).toInt.toNat).toInt (0 : Int)) (PV.bool true) (nth g3 0)).toBool (PV.bool true) (selB ((selB (ltI (nth ((nth p0 2).fld 0).toList (nth p0 0).toInt.toNat).toInt (0 : Int)) (PV.bool true) (nth g3 0)).isB false) (PV.bool (gtI (selB ((selB (ltI (nth ((nth p0 2).fld 0).toList (nth p0 0).toInt.toNat).toInt (0 : Int)) (PV.bool true) (nth g3 0)).isB false) (nth r1 1) PV.unit).toInt (3000 : Int))) PV.unit)).toBool (PV.bool true) (selB ((selB (selB (ltI (nth ((nth p0 2).fld 0).toList (nth p0 0).toInt.toNat).toInt (0 : Int)) (PV.bool true) (nth g3 0)).toBool (PV.bool true) (selB ((selB (ltI (nth ((nth p0 2).fld 0).toList (nth p0 0).toInt.toNat).toInt (0 : Int)) (PV.bool true) (nth g3 0)).isB false) (PV.bool (gtI (selB ((selB (ltI (nth ((nth p0 2).fld 0).toList (nth p0 0).toInt.toNat).toInt (0 : Int)) (PV.bool true) (nth g3 0)).isB false) (nth r1 1) PV.unit).toInt (3000 : Int))) PV.unit)).isB false) (PV.bool (gtI (selB ((selB (selB (ltI (nth ((nth p0 2).fld 0).toList (nth p0 0).toInt.toNat).toInt (0 : Int)) (PV.bool true) (nth g3 0)).toBool (PV.bool true) (selB ((selB (ltI (nth ((nth p0 2).fld 0).toList (nth p0 0).toInt.toNat).toInt (0 : Int)) (PV.bool true) (nth g3 0)).isB false) (PV.bool (gtI (selB ((selB (ltI (nth ((nth p0 2).fld 0).toList (nth p0 0).toInt.toNat).toInt (0 : Int)) (PV.bool true) (nth g3 0)).isB false) (nth r1 1) PV.unit).toInt (3000 : Int))) PV.unit)).isB false) (nth r1 2) PV.unit).toInt (20 : Int))) PV.unit)).isB false) (PV.int (IntKind.i64.wrap ((selB ((selB (selB (selB (ltI (nth ((nth p0 2).fld 0).toList (nth p0 0).toInt.toNat).toInt (0 : Int)) (PV.bool true) (nth g3 0)).toBool (PV.bool true) (selB ((selB (ltI (nth ((nth p0 2).fld 0).toList (nth p0 0).toInt.toNat).toInt (0 : Int)) (PV.bool true) (nth g3 0)).isB false) (PV.bool (gtI (selB ((selB (ltI (nth ((nth p0 2).fld 0).toList (nth p0 0).toInt.toNat).toInt (0 : Int)) (PV.bool true) (nth g3 0)).isB false) (nth r1 1) PV.unit).toInt (3000 : Int))) PV.unit)).toBool (PV.bool true) (selB ((selB (selB (ltI (nth ((nth p0 2).fld 0).toList (nth p0 0).toInt.toNat).toInt (0 : Int)) (PV.bool true) (nth g3 0)).toBool (PV.bool true) (selB ((selB (ltI (nth ((nth p0 2).fld 0).toList (nth p0 0).toInt.toNat).toInt (0 : Int)) (PV.bool true) (nth g3 0)).isB false) (PV.bool (gtI (selB ((selB (ltI (nth ((nth p0 2).fld 0).toList (nth p0 0).toInt.toNat).toInt (0 : Int)) (PV.bool true) (nth g3 0)).isB false) (nth r1 1) PV.unit).toInt (3000 : Int))) PV.unit)).isB false) (PV.bool (gtI (selB ((selB (selB (ltI (nth ((nth p0 2).fld 0).toList (nth p0 0).toInt.toNat).toInt (0 : Int)) (PV.bool true) (nth g3 0)).toBool (PV.bool true) (selB ((selB (ltI (nth ((nth p0 2).fld 0).toList (nth p0 0).toInt.toNat).toInt (0 : Int)) (PV.bool true) (nth g3 0)).isB false) (PV.bool (gtI (selB ((selB (ltI (nth ((nth p0 2).fld 0).toList (nth p0 0).toInt.toNat).toInt (0 : Int)) (PV.bool true) (nth g3 0)).isB false) (nth r1 1) PV.unit).toInt (3000 : Int))) PV.unit)).isB false) (nth r1 2) PV.unit).toInt (20 : Int))) PV.unit)).isB false) ((nth p0 2).fld 3) PV.unit).toInt - (selB ((selB (selB (selB (ltI (nth ((nth p0 2).fld 0).toList (nth p0 0).toInt.toNat).toInt (0 : Int)) (PV.bool true) (nth g3 0)).toBool (PV.bool true) (selB ((selB (ltI (nth ((nth p0 2).fld 0).toList (nth p0 0).toInt.toNat).toInt (0 : Int)) (PV.bool true) (nth g3 0)).isB false) (PV.bool (gtI (selB ((selB (ltI (nth ((nth p0 2).fld 0).toList (nth p0 0).toInt.toNat).toInt (0 : Int)) (PV.bool true) (nth g3 0)).isB false) (nth r1 1) PV.unit).toInt (3000 : Int))) PV.unit)).toBool (PV.bool true) (selB ((selB (selB (ltI (nth ((nth p0 2).fld 0).toList (nth p0 0).toInt.toNat).toInt (0 : Int)) (PV.bool true) (nth g3 0)).toBool (PV.bool true) (selB ((selB (ltI (nth ((nth p0 2).fld 0).toList (nth p0 0).toInt.toNat).toInt (0 : Int)) (PV.bool true) (nth g3 0)).isB false) (PV.bool (gtI (selB ((selB (ltI (nth ((nth p0 2).fld 0).toList (nth p0 0).toInt.toNat).toInt (0 : Int)) (PV.bool true) (nth g3 0)).isB false) (nth r1 1) PV.unit).toInt (3000 : Int))) PV.unit)).isB false) (PV.bool (gtI (selB ((selB (selB (ltI (nth ((nth p0 2).fld 0).toList (nth p0 0).toInt.toNat).toInt (0 : Int)) (PV.bool true) (nth g3 0)).toBool (PV.bool true) (selB ((selB (ltI (nth ((nth p0 2).fld 0).toList (nth p0 0).toInt.toNat).toInt (0 : Int)) (PV.bool true) (nth g3 0)).isB false) (PV.bool (gtI (selB ((selB (ltI (nth ((nth p0 2).fld 0).toList (nth p0 0).toInt.toNat).toInt (0 : Int)) (PV.bool true) (nth g3 0)).isB false) (nth r1 1) PV.unit).toInt (3000 : Int))) PV.unit)).isB false) (nth r1 2) PV.unit).toInt (20 : Int))) PV.unit)).isB false) (nth p0 0) PV.unit).toInt))) PV.unit).toInt)) PV.unit)).toBool
  (some (Ex.r, [(nth p0 1), (PV.bool false)]))
  (iff (leN ((nth p0 1).toList.length + ((nth p0 0) :: ([] : List PV)).length) 17592186044416)
  (some (Ex.n, [(PV.int (IntKind.i64.wrap ((IntKind.i64.wrap ((nth p0 0).toInt + (1 : Int))) + (nth r1 2).toInt))), (PV.list ((nth p0 1).toList ++ ((nth p0 0) :: ([] : List PV)))), (nth p0 2)]))
  none))))
  none)
  none)
  (some (Ex.x 0, [(nth p0 1)])))
def F79 (I : Interp) (n : Nat) (a : List PV) : Option (List PV) :=
  (thenN (thenE (loopEv (L79_0 I n) n [((nth a 0).fld 2), (PV.list ([] : List PV)), (nth a 0)])
  (passB 0))
  (fun p4 => (some [(nth p4 0), (PV.bool true)]))
  (retE fun q5 => [(nth q5 0), (nth q5 1)]))
theorem e79 : ∀ I n a, (compF Try.prog sg 79).map (fun d => d.ev I n a) = some (F79 I n a) := fun I n a => by kernel_rfl
/-! laws.eqFun -/
def F142 (I : Interp) (n : Nat) (a : List PV) : Option (List PV) :=
  (iff (neI ((nth a 0).fld 0).toInt ((nth a 1).fld 0).toInt)
  (some [(PV.bool false)])
  ((I 185 [((nth a 0).fld 1), ((nth a 1).fld 1)]).bind fun r0 =>
  (iff (!(nth r0 0).toBool)
  (some [(PV.bool false)])
  (some [(PV.bool true)]))))
theorem e142 : ∀ I n a, (compF Try.prog sg 142).map (fun d => d.ev I n a) = some (F142 I n a) := fun I n a => by kernel_rfl
/-! impl.header -/
def F163 (I : Interp) (n : Nat) (a : List PV) : Option (List PV) :=
  ((I 158 [(nth a 0)]).bind fun r0 =>
  (iff (geI (7 : Int) (0 : Int))
  (iff (geI (1 : Int) (0 : Int))
  ((I 94 [(nth a 0)]).bind fun r1 =>
  (some [(PV.bool (eqI (arith BinOp.and IntKind.i64 (nth r0 0).toInt (1 : Int)) (1 : Int))), (PV.int (arith BinOp.shr IntKind.i64 (nth r0 0).toInt (7 : Int))), (PV.int (arith BinOp.and IntKind.i64 (arith BinOp.shr IntKind.i64 (nth r0 0).toInt (1 : Int)) (63 : Int))), (selB (selB (selB (!(nth r1 0).toBool) (selB ((!(nth r1 0).toBool) == true) (PV.bool (geI (selB ((!(nth r1 0).toBool) == true) (nth r0 0) PV.unit).toInt (0 : Int))) PV.unit) (PV.bool false)).toBool (selB ((selB (!(nth r1 0).toBool) (selB ((!(nth r1 0).toBool) == true) (PV.bool (geI (selB ((!(nth r1 0).toBool) == true) (nth r0 0) PV.unit).toInt (0 : Int))) PV.unit) (PV.bool false)).isB true) (PV.bool (leI (selB ((selB (!(nth r1 0).toBool) (selB ((!(nth r1 0).toBool) == true) (PV.bool (geI (selB ((!(nth r1 0).toBool) == true) (nth r0 0) PV.unit).toInt (0 : Int))) PV.unit) (PV.bool false)).isB true) (PV.int (arith BinOp.shr IntKind.i64 (nth r0 0).toInt (7 : Int))) PV.unit).toInt (3000 : Int))) PV.unit) (PV.bool false)).toBool (selB ((selB (selB (!(nth r1 0).toBool) (selB ((!(nth r1 0).toBool) == true) (PV.bool (geI (selB ((!(nth r1 0).toBool) == true) (nth r0 0) PV.unit).toInt (0 : Int))) PV.unit) (PV.bool false)).toBool (selB ((selB (!(nth r1 0).toBool) (selB ((!(nth r1 0).toBool) == true) (PV.bool (geI (selB ((!(nth r1 0).toBool) == true) (nth r0 0) PV.unit).toInt (0 : Int))) PV.unit) (PV.bool false)).isB true) (PV.bool (leI (selB ((selB (!(nth r1 0).toBool) (selB ((!(nth r1 0).toBool) == true) (PV.bool (geI (selB ((!(nth r1 0).toBool) == true) (nth r0 0) PV.unit).toInt (0 : Int))) PV.unit) (PV.bool false)).isB true) (PV.int (arith BinOp.shr IntKind.i64 (nth r0 0).toInt (7 : Int))) PV.unit).toInt (3000 : Int))) PV.unit) (PV.bool false)).isB true) (PV.bool (leI (selB ((selB (selB (!(nth r1 0).toBool) (selB ((!(nth r1 0).toBool) == true) (PV.bool (geI (selB ((!(nth r1 0).toBool) == true) (nth r0 0) PV.unit).toInt (0 : Int))) PV.unit) (PV.bool false)).toBool (selB ((selB (!(nth r1 0).toBool) (selB ((!(nth r1 0).toBool) == true) (PV.bool (geI (selB ((!(nth r1 0).toBool) == true) (nth r0 0) PV.unit).toInt (0 : Int))) PV.unit) (PV.bool false)).isB true) (PV.bool (leI (selB ((selB (!(nth r1 0).toBool) (selB ((!(nth r1 0).toBool) == true) (PV.bool (geI (selB ((!(nth r1 0).toBool) == true) (nth r0 0) PV.unit).toInt (0 : Int))) PV.unit) (PV.bool false)).isB true) (PV.int (arith BinOp.shr IntKind.i64 (nth r0 0).toInt (7 : Int))) PV.unit).toInt (3000 : Int))) PV.unit) (PV.bool false)).isB true) (PV.int (arith BinOp.and IntKind.i64 (arith BinOp.shr IntKind.i64 (nth r0 0).toInt (1 : Int)) (63 : Int))) PV.unit).toInt (20 : Int))) PV.unit) (PV.bool false))]))
  none)
  none))
theorem e163 : ∀ I n a, (compF Try.prog sg 163).map (fun d => d.ev I n a) = some (F163 I n a) := fun I n a => by kernel_rfl
/-! laws.toFun -/
def F152 (I : Interp) (n : Nat) (a : List PV) : Option (List PV) :=
  ((I 189 [((nth a 0).fld 1)]).bind fun r0 =>
  (some [(PV.agg [((nth a 0).fld 0), (nth r0 0)])]))
theorem e152 : ∀ I n a, (compF Try.prog sg 152).map (fun d => d.ev I n a) = some (F152 I n a) := fun I n a => by kernel_rfl
/-! laws.szFunS -/
def L73_0 (I : Interp) (n : Nat) (p0 : List PV) : Option (Ex × List PV) :=
  (iff (ltI (nth p0 0).toInt ((nth p0 1).toList.length : Int))
  (iff (geI (nth p0 0).toInt (0 : Int))
  (iff (ltI (nth p0 0).toInt ((nth p0 1).toList.length : Int))
  ((I 149 [(nth (nth p0 1).toList (nth p0 0).toInt.toNat), (nth p0 2)]).bind fun r1 =>
  (iff (ltI (nth r1 0).toInt (0 : Int))
  (some (Ex.r, [(PV.int (-1 : Int))]))
  (some (Ex.n, [(PV.int (IntKind.i64.wrap ((nth p0 0).toInt + (1 : Int)))), (nth p0 1), (nth r1 0)]))))
  none)
  none)
  (some (Ex.x 0, [(nth p0 2)])))
def F73 (I : Interp) (n : Nat) (a : List PV) : Option (List PV) :=
  (iff (ltI (IntKind.i64.wrap ((nth a 1).toInt - ((nth a 0).toList.length : Int))) (0 : Int))
  (some [(PV.int (-1 : Int))])
  (thenN (thenE (loopEv (L73_0 I n) n [(PV.int (0 : Int)), (nth a 0), (PV.int (IntKind.i64.wrap ((nth a 1).toInt - ((nth a 0).toList.length : Int))))])
  (passB 0))
  (fun p2 => (some [(nth p2 0)]))
  (retE fun q3 => [(nth q3 0)])))
theorem e73 : ∀ I n a, (compF Try.prog sg 73).map (fun d => d.ev I n a) = some (F73 I n a) := fun I n a => by kernel_rfl
/-! laws.eqFunS -/
def L66_0 (I : Interp) (n : Nat) (p0 : List PV) : Option (Ex × List PV) :=
  (iff (ltI (nth p0 0).toInt ((nth p0 1).toList.length : Int))
  (iff (geI (nth p0 0).toInt (0 : Int))
  (iff (ltI (nth p0 0).toInt ((nth p0 1).toList.length : Int))
  (iff (geI (nth p0 0).toInt (0 : Int))
  (iff (ltI (nth p0 0).toInt ((nth p0 2).toList.length : Int))
  ((I 142 [(nth (nth p0 1).toList (nth p0 0).toInt.toNat), (nth (nth p0 2).toList (nth p0 0).toInt.toNat)]).bind fun r1 =>
  (iff (!(nth r1 0).toBool)
  (some (Ex.r, [(PV.bool false)]))
  (some (Ex.n, [(PV.int (IntKind.i64.wrap ((nth p0 0).toInt + (1 : Int)))), (nth p0 1), (nth p0 2)]))))
  none)
  none)
  none)
  none)
  (some (Ex.x 0, [])))
def F66 (I : Interp) (n : Nat) (a : List PV) : Option (List PV) :=
  (iff (neI ((nth a 0).toList.length : Int) ((nth a 1).toList.length : Int))
  (some [(PV.bool false)])
  (thenN (thenE (loopEv (L66_0 I n) n [(PV.int (0 : Int)), (nth a 0), (nth a 1)])
  (passB 0))
  (fun p2 => (some [(PV.bool true)]))
  (retE fun q3 => [(nth q3 0)])))
theorem e66 : ∀ I n a, (compF Try.prog sg 66).map (fun d => d.ev I n a) = some (F66 I n a) := fun I n a => by kernel_rfl
/-! impl.kidsAt -/
def F92 (I : Interp) (n : Nat) (a : List PV) : Option (List PV) :=
  (iff (geI (nth a 1).toInt (0 : Int))
  (iff (ltI (nth a 1).toInt (((nth a 0).fld 0).toList.length : Int))
  ((I 163 [(nth ((nth a 0).fld 0).toList (nth a 1).toInt.toNat)]).bind fun r0 =>
  (iff (geI (IntKind.i64.wrap ((nth a 1).toInt + (1 : Int))) (0 : Int))
  (iff (leI (IntKind.i64.wrap ((nth a 1).toInt + (1 : Int))) (IntKind.i64.wrap ((IntKind.i64.wrap ((nth a 1).toInt + (1 : Int))) + (nth r0 2).toInt)))
  (iff (leI (IntKind.i64.wrap ((IntKind.i64.wrap ((nth a 1).toInt + (1 : Int))) + (nth r0 2).toInt)) (((nth a 0).fld 0).toList.length : Int))
  (some [(PV.list ((((nth a 0).fld 0).toList.drop (IntKind.i64.wrap ((nth a 1).toInt + (1 : Int))).toNat).take ((IntKind.i64.wrap ((IntKind.i64.wrap ((nth a 1).toInt + (1 : Int))) + (nth r0 2).toInt)).toNat - (IntKind.i64.wrap ((nth a 1).toInt + (1 : Int))).toNat)))])
  none)
  none)
  none))
  none)
  none)
theorem e92 : ∀ I n a, (compF Try.prog sg 92).map (fun d => d.ev I n a) = some (F92 I n a) := fun I n a => by kernel_rfl
/-! laws.toFunS -/
def L75_0 (I : Interp) (n : Nat) (p0 : List PV) : Option (Ex × List PV) :=
  (iff (ltI (nth p0 0).toInt ((nth p0 1).toList.length : Int))
  (iff (geI (nth p0 0).toInt (0 : Int))
  (iff (ltI (nth p0 0).toInt ((nth p0 1).toList.length : Int))
  ((I 152 [(nth (nth p0 1).toList (nth p0 0).toInt.toNat)]).bind fun r1 =>
  (iff (geI (nth p0 0).toInt (0 : Int))
  (iff (ltI (nth p0 0).toInt ((nth p0 2).toList.length : Int))
  (some (Ex.n, [(PV.int (IntKind.i64.wrap ((nth p0 0).toInt + (1 : Int)))), (nth p0 1), (PV.list ((nth p0 2).toList.set (nth p0 0).toInt.toNat (nth r1 0)))]))
  none)
  none))
  none)
  none)
  (some (Ex.x 0, [(nth p0 2)])))
def F75 (I : Interp) (n : Nat) (a : List PV) : Option (List PV) :=
  (iff (geI ((nth a 0).toList.length : Int) (0 : Int))
  (iff (leI ((nth a 0).toList.length : Int) ((nth a 0).toList.length : Int))
  (iff (leI ((nth a 0).toList.length : Int) (4398046511104 : Int))
  (thenN (thenE (loopEv (L75_0 I n) n [(PV.int (0 : Int)), (nth a 0), (PV.list (List.replicate ((nth a 0).toList.length : Int).toNat (PV.agg [(PV.int (0 : Int)), (PV.list ([] : List PV))])))])
  (passB 0))
  (fun p2 => (some [(nth p2 0)]))
  (retE fun q3 => [(nth q3 0)]))
  none)
  none)
  none)
theorem e75 : ∀ I n a, (compF Try.prog sg 75).map (fun d => d.ev I n a) = some (F75 I n a) := fun I n a => by kernel_rfl
/-! slices.BinarySearch[[]int,int] -/
def L167_0 (I : Interp) (n : Nat) (p0 : List PV) : Option (Ex × List PV) :=
  (iff (ltI (nth p0 3).toInt (nth p0 0).toInt)
  (iff (geI (1 : Int) (0 : Int))
  (iff (geI (IntKind.i64.wrap (arith BinOp.shr IntKind.u64 (IntKind.u64.wrap (IntKind.i64.wrap ((nth p0 3).toInt + (nth p0 0).toInt))) (1 : Int))) (0 : Int))
  (iff (ltI (IntKind.i64.wrap (arith BinOp.shr IntKind.u64 (IntKind.u64.wrap (IntKind.i64.wrap ((nth p0 3).toInt + (nth p0 0).toInt))) (1 : Int))) ((nth p0 2).toList.length : Int))
  ((I 194 [(nth (nth p0 2).toList (IntKind.i64.wrap (arith BinOp.shr IntKind.u64 (IntKind.u64.wrap (IntKind.i64.wrap ((nth p0 3).toInt + (nth p0 0).toInt))) (1 : Int))).toNat), (nth p0 4)]).bind fun r1 =>
  (iff (nth r1 0).toBool
  (some (Ex.n, [(nth p0 0), (nth p0 1), (nth p0 2), (PV.int (IntKind.i64.wrap ((IntKind.i64.wrap (arith BinOp.shr IntKind.u64 (IntKind.u64.wrap (IntKind.i64.wrap ((nth p0 3).toInt + (nth p0 0).toInt))) (1 : Int))) + (1 : Int)))), (nth p0 4)]))
  (some (Ex.n, [(PV.int (IntKind.i64.wrap (arith BinOp.shr IntKind.u64 (IntKind.u64.wrap (IntKind.i64.wrap ((nth p0 3).toInt + (nth p0 0).toInt))) (1 : Int)))), (nth p0 1), (nth p0 2), (nth p0 3), (nth p0 4)]))))
  none)
  none)
  none)
  (some (Ex.x 0, [(nth p0 1), (nth p0 2), (nth p0 3), (nth p0 4)])))
def F167 (I : Interp) (n : Nat) (a : List PV) : Option (List PV) :=
  (thenN (thenE (loopEv (L167_0 I n) n [(PV.int ((nth a 0).toList.length : Int)), (PV.int ((nth a 0).toList.length : Int)), (nth a 0), (PV.int (0 : Int)), (nth a 1)])
  (passB 0))
  (fun p2 => ((iff ((ltI (nth p2 2).toInt (nth p2 0).toInt) == true)
  (iff (geI (selB ((ltI (nth p2 2).toInt (nth p2 0).toInt) == true) (nth p2 2) PV.unit).toInt (0 : Int))
  (iff (ltI (selB ((ltI (nth p2 2).toInt (nth p2 0).toInt) == true) (nth p2 2) PV.unit).toInt ((selB ((ltI (nth p2 2).toInt (nth p2 0).toInt) == true) (nth p2 1) PV.unit).toList.length : Int))
  (some [(nth (selB ((ltI (nth p2 2).toInt (nth p2 0).toInt) == true) (nth p2 1) PV.unit).toList (selB ((ltI (nth p2 2).toInt (nth p2 0).toInt) == true) (nth p2 2) PV.unit).toInt.toNat), (nth (selB ((ltI (nth p2 2).toInt (nth p2 0).toInt) == true) (nth p2 1) PV.unit).toList (selB ((ltI (nth p2 2).toInt (nth p2 0).toInt) == true) (nth p2 2) PV.unit).toInt.toNat)])
  none)
  none)
  (some [PV.unit, PV.unit])).bind fun g3 =>
  ((iff ((selB ((ltI (nth p2 2).toInt (nth p2 0).toInt) == true) (selB ((ltI (nth p2 2).toInt (nth p2 0).toInt) == true) (PV.bool (eqI (selB ((ltI (nth p2 2).toInt (nth p2 0).toInt) == true) (nth g3 0) PV.unit).toInt (selB ((ltI (nth p2 2).toInt (nth p2 0).toInt) == true) (nth p2 3) PV.unit).toInt)) PV.unit) PV.unit).isB false)
  (iff (geI (selB ((selB ((ltI (nth p2 2).toInt (nth p2 0).toInt) == true) (selB ((ltI (nth p2 2).toInt (nth p2 0).toInt) == true) (PV.bool (eqI (selB ((ltI (nth p2 2).toInt (nth p2 0).toInt) == true) (nth g3 0) PV.unit).toInt (selB ((ltI (nth p2 2).toInt (nth p2 0).toInt) == true) (nth p2 3) PV.unit).toInt)) PV.unit) PV.unit).isB false) (nth p2 2) PV.unit).toInt (0 : Int))
  (iff (ltI (selB ((selB ((ltI (nth p2 2).toInt (nth p2 0).toInt) == true) (selB ((ltI (nth p2 2).toInt (nth p2 0).toInt) == true) (PV.bool (eqI (selB ((ltI (nth p2 2).toInt (nth p2 0).toInt) == true) (nth g3 0) PV.unit).toInt (selB ((ltI (nth p2 2).toInt (nth p2 0).toInt) == true) (nth p2 3) PV.unit).toInt)) PV.unit) PV.unit).isB false) (nth p2 2) PV.unit).toInt ((selB ((selB ((ltI (nth p2 2).toInt (nth p2 0).toInt) == true) (selB ((ltI (nth p2 2).toInt (nth p2 0).toInt) == true) (PV.bool (eqI (selB ((ltI (nth p2 2).toInt (nth p2 0).toInt) == true) (nth g3 0) PV.unit).toInt (selB ((ltI (nth p2 2).toInt (nth p2 0).toInt) == true) (nth p2 3) PV.unit).toInt)) PV.unit) PV.unit).isB false) (nth p2 1) PV.unit).toList.length : Int))
  (some [(nth (selB ((selB ((ltI (nth p2 2).toInt (nth p2 0).toInt) == true) (selB ((ltI (nth p2 2).toInt (nth p2 0).toInt) == true) (PV.bool (eqI (selB ((ltI (nth p2 2).toInt (nth p2 0).toInt) == true) (nth g3 0) PV.unit).toInt (selB ((ltI (nth p2 2).toInt (nth p2 0).toInt) == true) (nth p2 3) PV.unit).toInt)) PV.unit) PV.unit).isB false) (nth p2 1) PV.unit).toList (selB ((selB ((ltI (nth p2 2).toInt (nth p2 0).toInt) == true) (selB ((ltI (nth p2 2).toInt (nth p2 0).toInt) == true) (PV.bool (eqI (selB ((ltI (nth p2 2).toInt (nth p2 0).toInt) == true) (nth g3 0) PV.unit).toInt (selB ((ltI (nth p2 2).toInt (nth p2 0).toInt) == true) (nth p2 3) PV.unit).toInt)) PV.unit) PV.unit).isB false) (nth p2 2) PV.unit).toInt.toNat), (nth (selB ((selB ((ltI (nth p2 2).toInt (nth p2 0).toInt) == true) (selB ((ltI (nth p2 2).toInt (nth p2 0).toInt) == true) (PV.bool (eqI (selB ((ltI (nth p2 2).toInt (nth p2 0).toInt) == true) (nth g3 0) PV.unit).toInt (selB ((ltI (nth p2 2).toInt (nth p2 0).toInt) == true) (nth p2 3) PV.unit).toInt)) PV.unit) PV.unit).isB false) (nth p2 1) PV.unit).toList (selB ((selB ((ltI (nth p2 2).toInt (nth p2 0).toInt) == true) (selB ((ltI (nth p2 2).toInt (nth p2 0).toInt) == true) (PV.bool (eqI (selB ((ltI (nth p2 2).toInt (nth p2 0).toInt) == true) (nth g3 0) PV.unit).toInt (selB ((ltI (nth p2 2).toInt (nth p2 0).toInt) == true) (nth p2 3) PV.unit).toInt)) PV.unit) PV.unit).isB false) (nth p2 2) PV.unit).toInt.toNat)])
  none)
  none)
  (some [PV.unit, PV.unit])).bind fun g4 =>
  ((iff ((selB ((ltI (nth p2 2).toInt (nth p2 0).toInt) == true) (selB ((ltI (nth p2 2).toInt (nth p2 0).toInt) == true) (PV.bool (eqI (selB ((ltI (nth p2 2).toInt (nth p2 0).toInt) == true) (nth g3 0) PV.unit).toInt (selB ((ltI (nth p2 2).toInt (nth p2 0).toInt) == true) (nth p2 3) PV.unit).toInt)) PV.unit) PV.unit).isB false)
  ((I 195 [(selB ((selB ((ltI (nth p2 2).toInt (nth p2 0).toInt) == true) (selB ((ltI (nth p2 2).toInt (nth p2 0).toInt) == true) (PV.bool (eqI (selB ((ltI (nth p2 2).toInt (nth p2 0).toInt) == true) (nth g3 0) PV.unit).toInt (selB ((ltI (nth p2 2).toInt (nth p2 0).toInt) == true) (nth p2 3) PV.unit).toInt)) PV.unit) PV.unit).isB false) (nth g4 0) PV.unit)]).bind fun r5 =>
  (some [(nth r5 0), (nth r5 0)]))
  (some [PV.unit, PV.unit])).bind fun g6 =>
  ((iff ((selB ((selB ((ltI (nth p2 2).toInt (nth p2 0).toInt) == true) (selB ((ltI (nth p2 2).toInt (nth p2 0).toInt) == true) (PV.bool (eqI (selB ((ltI (nth p2 2).toInt (nth p2 0).toInt) == true) (nth g3 0) PV.unit).toInt (selB ((ltI (nth p2 2).toInt (nth p2 0).toInt) == true) (nth p2 3) PV.unit).toInt)) PV.unit) PV.unit).isB false) (nth g6 0) PV.unit).isB true)
  ((I 195 [(selB ((selB ((selB ((ltI (nth p2 2).toInt (nth p2 0).toInt) == true) (selB ((ltI (nth p2 2).toInt (nth p2 0).toInt) == true) (PV.bool (eqI (selB ((ltI (nth p2 2).toInt (nth p2 0).toInt) == true) (nth g3 0) PV.unit).toInt (selB ((ltI (nth p2 2).toInt (nth p2 0).toInt) == true) (nth p2 3) PV.unit).toInt)) PV.unit) PV.unit).isB false) (nth g6 0) PV.unit).isB true) (nth p2 3) PV.unit)]).bind fun r7 =>
  (some [(nth r7 0), (nth r7 0)]))
  (some [PV.unit, PV.unit])).bind fun g8 =>
  (some [(nth p2 2), (selB (ltI (nth p2 2).toInt (nth p2 0).toInt) (selB ((ltI (nth p2 2).toInt (nth p2 0).toInt) == true) (selB (selB ((ltI (nth p2 2).toInt (nth p2 0).toInt) == true) (selB ((ltI (nth p2 2).toInt (nth p2 0).toInt) == true) (PV.bool (eqI (selB ((ltI (nth p2 2).toInt (nth p2 0).toInt) == true) (nth g3 0) PV.unit).toInt (selB ((ltI (nth p2 2).toInt (nth p2 0).toInt) == true) (nth p2 3) PV.unit).toInt)) PV.unit) PV.unit).toBool (PV.bool true) (selB ((selB ((ltI (nth p2 2).toInt (nth p2 0).toInt) == true) (selB ((ltI (nth p2 2).toInt (nth p2 0).toInt) == true) (PV.bool (eqI (selB ((ltI (nth p2 2).toInt (nth p2 0).toInt) == true) (nth g3 0) PV.unit).toInt (selB ((ltI (nth p2 2).toInt (nth p2 0).toInt) == true) (nth p2 3) PV.unit).toInt)) PV.unit) PV.unit).isB false) (selB (selB ((selB ((ltI (nth p2 2).toInt (nth p2 0).toInt) == true) (selB ((ltI (nth p2 2).toInt (nth p2 0).toInt) == true) (PV.bool (eqI (selB ((ltI (nth p2 2).toInt (nth p2 0).toInt) == true) (nth g3 0) PV.unit).toInt (selB ((ltI (nth p2 2).toInt (nth p2 0).toInt) == true) (nth p2 3) PV.unit).toInt)) PV.unit) PV.unit).isB false) (nth g6 0) PV.unit).toBool (nth g8 0) (PV.bool false)) PV.unit)) PV.unit) (PV.bool false))]))))))
  (retE fun q9 => [(nth q9 0), (nth q9 1)]))
theorem e167 : ∀ I n a, (compF Try.prog sg 167).map (fun d => d.ev I n a) = some (F167 I n a) := fun I n a => by kernel_rfl
/-! impl.isInt -/
def F107 (I : Interp) (n : Nat) (a : List PV) : Option (List PV) :=
  ((I 94 [(nth a 0)]).bind fun r0 =>
  ((iff ((!(nth r0 0).toBool) == true)
  ((I 158 [(selB ((!(nth r0 0).toBool) == true) (nth a 0) PV.unit)]).bind fun r1 =>
  (some [(nth r1 0), (nth r1 0)]))
  (some [PV.unit, PV.unit])).bind fun g2 =>
  ((iff ((!(nth r0 0).toBool) == true)
  ((I 120 [(nth g2 0)]).bind fun r3 =>
  (some [(nth r3 0), (nth r3 0)]))
  (some [PV.unit, PV.unit])).bind fun g4 =>
  (some [(selB (!(nth r0 0).toBool) (nth g4 0) (PV.bool false))]))))
theorem e107 : ∀ I n a, (compF Try.prog sg 107).map (fun d => d.ev I n a) = some (F107 I n a) := fun I n a => by kernel_rfl
/-! impl.blocksOf -/
def L106_0 (I : Interp) (n : Nat) (p7 : List PV) : Option (Ex × List PV) :=
  (iff (ltI (nth p7 0).toInt ((nth p7 2).fld 3).toInt)
  (iff (geI (nth p7 0).toInt (0 : Int))
  (iff (ltI (nth p7 0).toInt (((nth p7 2).fld 0).toList.length : Int))
  ((I 163 [(nth ((nth p7 2).fld 0).toList (nth p7 0).toInt.toNat)]).bind fun r8 =>
  (letB (selB (!(nth r8 3).toBool) (PV.bool true) (selB ((!(nth r8 3).toBool) == false) (PV.bool (gtI (selB ((!(nth r8 3).toBool) == false) (PV.int (IntKind.i64.wrap ((selB ((!(nth r8 3).toBool) == false) (PV.int (IntKind.i64.wrap ((selB ((!(nth r8 3).toBool) == false) (nth p7 0) PV.unit).toInt + (1 : Int)))) PV.unit).toInt + (selB ((!(nth r8 3).toBool) == false) (nth r8 2) PV.unit).toInt))) PV.unit).toInt (selB ((!(nth r8 3).toBool) == false) ((nth p7 2).fld 3) PV.unit).toInt)) PV.unit)) fun v9 =>
  (iff v9.toBool
  (some (Ex.r, [(PV.list ([] : List PV)), (PV.bool false)]))
  (iff (leN ((nth p7 1).toList.length + ((nth p7 0) :: ([] : List PV)).length) 17592186044416)
  (some (Ex.n, [(PV.int (IntKind.i64.wrap ((nth p7 0).toInt + (IntKind.i64.wrap ((1 : Int) + (nth r8 2).toInt))))), (PV.list ((nth p7 1).toList ++ ((nth p7 0) :: ([] : List PV)))), (nth p7 2)]))
  none))))
  none)
  none)
  (some (Ex.x 0, [(nth p7 1)])))
def F106 (I : Interp) (n : Nat) (a : List PV) : Option (List PV) :=
  ((I 102 [((nth a 0).fld 1), (PV.int (1 : Int)), (PV.int (3000 : Int))]).bind fun r0 =>
  (letB (selB (!(nth r0 0).toBool) (PV.bool true) (selB ((!(nth r0 0).toBool) == false) (PV.bool (neI (selB ((!(nth r0 0).toBool) == false) (PV.int ((selB ((!(nth r0 0).toBool) == false) ((nth a 0).fld 0) PV.unit).toList.length : Int)) PV.unit).toInt (selB ((!(nth r0 0).toBool) == false) (PV.int (IntKind.i64.wrap ((2 : Int) * (selB ((!(nth r0 0).toBool) == false) ((nth a 0).fld 1) PV.unit).toInt))) PV.unit).toInt)) PV.unit)) fun v1 =>
  (letB (selB (v1.isB false) (selB (selB (v1.isB false) (selB (v1.isB false) (PV.bool (neI (selB (v1.isB false) ((nth a 0).fld 2) PV.unit).toInt (0 : Int))) PV.unit) PV.unit).toBool (selB ((selB (v1.isB false) (selB (v1.isB false) (PV.bool (neI (selB (v1.isB false) ((nth a 0).fld 2) PV.unit).toInt (0 : Int))) PV.unit) PV.unit).isB true) (PV.bool (neI (selB ((selB (v1.isB false) (selB (v1.isB false) (PV.bool (neI (selB (v1.isB false) ((nth a 0).fld 2) PV.unit).toInt (0 : Int))) PV.unit) PV.unit).isB true) ((nth a 0).fld 2) PV.unit).toInt (selB ((selB (v1.isB false) (selB (v1.isB false) (PV.bool (neI (selB (v1.isB false) ((nth a 0).fld 2) PV.unit).toInt (0 : Int))) PV.unit) PV.unit).isB true) ((nth a 0).fld 1) PV.unit).toInt)) PV.unit) (PV.bool false)) PV.unit) fun v2 =>
  (letB (selB v1.toBool (PV.bool true) v2) fun v3 =>
  ((iff (v3.isB false)
  ((I 102 [(selB (v3.isB false) ((nth a 0).fld 3) PV.unit), (selB (v3.isB false) ((nth a 0).fld 2) PV.unit), (selB (v3.isB false) (PV.int (IntKind.i64.wrap ((selB (v3.isB false) ((nth a 0).fld 2) PV.unit).toInt + (selB (v3.isB false) ((nth a 0).fld 1) PV.unit).toInt))) PV.unit)]).bind fun r4 =>
  (some [(nth r4 0), (nth r4 0)]))
  (some [PV.unit, PV.unit])).bind fun g5 =>
  (letB (selB v3.toBool (PV.bool true) (selB (v3.isB false) (PV.bool (!(nth g5 0).toBool)) PV.unit)) fun v6 =>
  (iff v6.toBool
  (some [(PV.list ([] : List PV)), (PV.bool false)])
  (thenN (thenE (loopEv (L106_0 I n) n [((nth a 0).fld 2), (PV.list ([] : List PV)), (nth a 0)])
  (passB 0))
  (fun p10 => (some [(nth p10 0), (PV.bool true)]))
  (retE fun q11 => [(nth q11 0), (nth q11 1)])))))))))
theorem e106 : ∀ I n a, (compF Try.prog sg 106).map (fun d => d.ev I n a) = some (F106 I n a) := fun I n a => ew_ev (g := F106) (fun I n a => by kernel_rfl) I n a
/-! laws.markVm -/
def F61 (I : Interp) (n : Nat) (a : List PV) : Option (List PV) :=
  ((I 69 [((nth a 0).fld 0), (nth a 1)]).bind fun r0 =>
  ((I 18 [(((nth a 0).setFld 0 (nth r0 1)).fld 1), (nth r0 0)]).bind fun r1 =>
  ((I 25 [((((nth a 0).setFld 0 (nth r0 1)).setFld 1 (nth r1 1)).fld 2), (nth r1 0)]).bind fun r2 =>
  ((I 133 [(((((nth a 0).setFld 0 (nth r0 1)).setFld 1 (nth r1 1)).setFld 2 (nth r2 1)).fld 3), (nth r2 0)]).bind fun r3 =>
  ((I 25 [((((((nth a 0).setFld 0 (nth r0 1)).setFld 1 (nth r1 1)).setFld 2 (nth r2 1)).setFld 3 (nth r3 1)).fld 4), (nth r3 0)]).bind fun r4 =>
  (some [(nth r4 0), ((((((nth a 0).setFld 0 (nth r0 1)).setFld 1 (nth r1 1)).setFld 2 (nth r2 1)).setFld 3 (nth r3 1)).setFld 4 (nth r4 1))]))))))
theorem e61 : ∀ I n a, (compF Try.prog sg 61).map (fun d => d.ev I n a) = some (F61 I n a) := fun I n a => by kernel_rfl
/-! laws.markVm -/
def F4157 (I : Interp) (n : Nat) (a : List PV) : Option (List PV) :=
  ((I 69 [((nth a 0).fld 0), (nth a 1)]).bind fun r0 =>
  ((I 18 [(((nth a 0).setFld 0 (nth r0 1)).fld 1), (nth r0 0)]).bind fun r1 =>
  ((I 25 [((((nth a 0).setFld 0 (nth r0 1)).setFld 1 (nth r1 1)).fld 2), (nth r1 0)]).bind fun r2 =>
  ((I 133 [(((((nth a 0).setFld 0 (nth r0 1)).setFld 1 (nth r1 1)).setFld 2 (nth r2 1)).fld 3), (nth r2 0)]).bind fun r3 =>
  ((I 25 [((((((nth a 0).setFld 0 (nth r0 1)).setFld 1 (nth r1 1)).setFld 2 (nth r2 1)).setFld 3 (nth r3 1)).fld 4), (nth r3 0)]).bind fun r4 =>
  (some [(nth r4 0)]))))))
theorem e4157 : ∀ I n a, (compF Try.prog sg 4157).map (fun d => d.ev I n a) = some (F4157 I n a) := fun I n a => by kernel_rfl
/-! impl.isBlock -/
def F108 (I : Interp) (n : Nat) (a : List PV) : Option (List PV) :=
  ((I 96 [(nth a 1)]).bind fun r0 =>
  ((I 167 [(nth a 0), (nth r0 0)]).bind fun r1 =>
  ((I 94 [(nth a 1)]).bind fun r2 =>
  (some [(selB (nth r2 0).toBool (selB ((nth r2 0).isB true) (nth r1 1) PV.unit) (PV.bool false))]))))
theorem e108 : ∀ I n a, (compF Try.prog sg 108).map (fun d => d.ev I n a) = some (F108 I n a) := fun I n a => by kernel_rfl
/-! laws.szVm -/
def F45 (I : Interp) (n : Nat) (a : List PV) : Option (List PV) :=
  ((I 73 [((nth a 0).fld 0), (nth a 1)]).bind fun r0 =>
  (iff (ltI (nth r0 0).toInt (0 : Int))
  (some [(PV.int (-1 : Int))])
  ((I 12 [((nth a 0).fld 1), (nth r0 0)]).bind fun r1 =>
  (iff (ltI (nth r1 0).toInt (0 : Int))
  (some [(PV.int (-1 : Int))])
  ((I 78 [((nth a 0).fld 2), (nth r1 0)]).bind fun r2 =>
  (iff (ltI (nth r2 0).toInt (0 : Int))
  (some [(PV.int (-1 : Int))])
  ((I 115 [((nth a 0).fld 3), (nth r2 0)]).bind fun r3 =>
  (iff (ltI (nth r3 0).toInt (0 : Int))
  (some [(PV.int (-1 : Int))])
  ((I 78 [((nth a 0).fld 4), (nth r3 0)]).bind fun r4 =>
  (iff (ltI (nth r4 0).toInt (0 : Int))
  (some [(PV.int (-1 : Int))])
  (some [(nth r4 0)])))))))))))
theorem e45 : ∀ I n a, (compF Try.prog sg 45).map (fun d => d.ev I n a) = some (F45 I n a) := fun I n a => by kernel_rfl
/-! spec.l17There -/
def F110 (I : Interp) (n : Nat) (a : List PV) : Option (List PV) :=
  ((I 156 [(nth a 1)]).bind fun r0 =>
  (iff (nth r0 0).toBool
  ((I 111 [(nth a 1)]).bind fun r1 =>
  ((I 113 [(nth a 0), (nth r1 0)]).bind fun r2 =>
  (some [(nth r2 0)])))
  ((I 157 [(nth a 1)]).bind fun r3 =>
  ((I 117 [(nth r3 0)]).bind fun r4 =>
  (some [(nth r4 0)])))))
theorem e110 : ∀ I n a, (compF Try.prog sg 110).map (fun d => d.ev I n a) = some (F110 I n a) := fun I n a => by kernel_rfl
/-! laws.eqVm -/
def F49 (I : Interp) (n : Nat) (a : List PV) : Option (List PV) :=
  ((I 66 [((nth a 0).fld 0), ((nth a 1).fld 0)]).bind fun r0 =>
  (iff (!(nth r0 0).toBool)
  (some [(PV.bool false)])
  ((I 17 [((nth a 0).fld 1), ((nth a 1).fld 1)]).bind fun r1 =>
  (iff (!(nth r1 0).toBool)
  (some [(PV.bool false)])
  ((I 24 [((nth a 0).fld 2), ((nth a 1).fld 2)]).bind fun r2 =>
  (iff (!(nth r2 0).toBool)
  (some [(PV.bool false)])
  ((I 121 [((nth a 0).fld 3), ((nth a 1).fld 3)]).bind fun r3 =>
  (iff (!(nth r3 0).toBool)
  (some [(PV.bool false)])
  ((I 24 [((nth a 0).fld 4), ((nth a 1).fld 4)]).bind fun r4 =>
  (iff (!(nth r4 0).toBool)
  (some [(PV.bool false)])
  (iff (neI ((nth a 0).fld 5).toInt ((nth a 1).fld 5).toInt)
  (some [(PV.bool false)])
  (iff ((((nth a 0).fld 6).toBool == ((nth a 1).fld 6).toBool) == false)
  (some [(PV.bool false)])
  (some [(PV.bool true)])))))))))))))
theorem e49 : ∀ I n a, (compF Try.prog sg 49).map (fun d => d.ev I n a) = some (F49 I n a) := fun I n a => by kernel_rfl
/-! laws.toVm -/
def F47 (I : Interp) (n : Nat) (a : List PV) : Option (List PV) :=
  ((I 75 [((nth a 0).fld 0)]).bind fun r0 =>
  ((I 14 [((nth a 0).fld 1)]).bind fun r1 =>
  ((I 22 [((nth a 0).fld 2)]).bind fun r2 =>
  ((I 118 [((nth a 0).fld 3)]).bind fun r3 =>
  ((I 22 [((nth a 0).fld 4)]).bind fun r4 =>
  (some [(PV.agg [(nth r0 0), (nth r1 0), (nth r2 0), (nth r3 0), (nth r4 0), ((nth a 0).fld 5), ((nth a 0).fld 6)])]))))))
theorem e47 : ∀ I n a, (compF Try.prog sg 47).map (fun d => d.ev I n a) = some (F47 I n a) := fun I n a => by kernel_rfl
/-! spec.l20Back -/
def F80 (I : Interp) (n : Nat) (a : List PV) : Option (List PV) :=
  ((iff ((eqI (nth a 3).toInt (0 : Int)) == false)
  ((I 110 [(selB ((eqI (nth a 3).toInt (0 : Int)) == false) (nth a 1) PV.unit), (selB ((eqI (nth a 3).toInt (0 : Int)) == false) (nth a 2) PV.unit)]).bind fun r0 =>
  (some [(nth r0 0), (nth r0 0)]))
  (some [PV.unit, PV.unit])).bind fun g1 =>
  (iff (selB (eqI (nth a 3).toInt (0 : Int)) (PV.bool true) (selB ((eqI (nth a 3).toInt (0 : Int)) == false) (PV.bool (!(nth g1 0).toBool)) PV.unit)).toBool
  (some [(PV.agg [(PV.int (0 : Int)), (PV.int (0 : Int)), (PV.list ([] : List PV))]), (PV.bool false)])
  ((I 156 [(nth a 2)]).bind fun r2 =>
  (iff (!(nth r2 0).toBool)
  ((I 157 [(nth a 2)]).bind fun r3 =>
  (some [(PV.agg [(PV.int (1 : Int)), (nth r3 0), (PV.list ([] : List PV))]), (PV.bool true)]))
  ((I 111 [(nth a 2)]).bind fun r4 =>
  (iff (geI (nth r4 0).toInt (0 : Int))
  (iff (ltI (nth r4 0).toInt (((nth a 0).fld 0).toList.length : Int))
  ((I 109 [(nth ((nth a 0).fld 0).toList (nth r4 0).toInt.toNat)]).bind fun r5 =>
  (iff (nth r5 0).toBool
  (some [(PV.agg [(PV.int (4 : Int)), (PV.int (0 : Int)), (PV.list ([] : List PV))]), (PV.bool true)])
  (iff (selB (eqI (nth r5 1).toInt (0 : Int)) (selB ((eqI (nth r5 1).toInt (0 : Int)) == true) (PV.bool (eqI (selB ((eqI (nth r5 1).toInt (0 : Int)) == true) (nth r5 2) PV.unit).toInt (0 : Int))) PV.unit) (PV.bool false)).toBool
  (some [(PV.agg [(PV.int (2 : Int)), (PV.int (0 : Int)), (PV.list ([] : List PV))]), (PV.bool true)])
  (iff (selB (neI (nth r5 1).toInt (1 : Int)) (PV.bool true) (selB ((neI (nth r5 1).toInt (1 : Int)) == false) (PV.bool (neI (selB ((neI (nth r5 1).toInt (1 : Int)) == false) (nth r5 2) PV.unit).toInt (2 : Int))) PV.unit)).toBool
  (some [(PV.agg [(PV.int (0 : Int)), (PV.int (0 : Int)), (PV.list ([] : List PV))]), (PV.bool false)])
  (iff (geI (IntKind.i64.wrap ((nth r4 0).toInt + (1 : Int))) (0 : Int))
  (iff (ltI (IntKind.i64.wrap ((nth r4 0).toInt + (1 : Int))) (((nth a 0).fld 0).toList.length : Int))
  ((I 80 [(nth a 0), (nth a 1), (nth ((nth a 0).fld 0).toList (IntKind.i64.wrap ((nth r4 0).toInt + (1 : Int))).toNat), (PV.int (IntKind.i64.wrap ((nth a 3).toInt - (1 : Int))))]).bind fun r6 =>
  (iff (geI (IntKind.i64.wrap ((nth r4 0).toInt + (2 : Int))) (0 : Int))
  (iff (ltI (IntKind.i64.wrap ((nth r4 0).toInt + (2 : Int))) (((nth a 0).fld 0).toList.length : Int))
  ((I 80 [(nth a 0), (nth a 1), (nth ((nth a 0).fld 0).toList (IntKind.i64.wrap ((nth r4 0).toInt + (2 : Int))).toNat), (PV.int (IntKind.i64.wrap ((nth a 3).toInt - (1 : Int))))]).bind fun r7 =>
  (iff (selB (!(nth r6 1).toBool) (PV.bool true) (selB ((!(nth r6 1).toBool) == false) (PV.bool (!(selB ((!(nth r6 1).toBool) == false) (nth r7 1) PV.unit).toBool)) PV.unit)).toBool
  (some [(PV.agg [(PV.int (0 : Int)), (PV.int (0 : Int)), (PV.list ([] : List PV))]), (PV.bool false)])
  (some [(PV.agg [(PV.int (3 : Int)), (PV.int (0 : Int)), (PV.list ((nth r6 0) :: ((nth r7 0) :: ([] : List PV))))]), (PV.bool true)])))
  none)
  none))
  none)
  none)))))
  none)
  none))))))
theorem e80 : ∀ I n a, (compF Try.prog sg 80).map (fun d => d.ev I n a) = some (F80 I n a) := fun I n a => by kernel_rfl
/-! spec.HeapOk -/
def L34_0 (I : Interp) (n : Nat) (p10 : List PV) : Option (Ex × List PV) :=
  (iff (leI (nth p10 0).toInt (nth p10 1).toInt)
  (iff (geI (nth p10 2).toInt (0 : Int))
  (iff (ltI (nth p10 2).toInt ((nth p10 3).toList.length : Int))
  (iff (geI (IntKind.i64.wrap ((nth (nth p10 3).toList (nth p10 2).toInt.toNat).toInt + (nth p10 0).toInt)) (0 : Int))
  (iff (ltI (IntKind.i64.wrap ((nth (nth p10 3).toList (nth p10 2).toInt.toNat).toInt + (nth p10 0).toInt)) (((nth p10 4).fld 0).toList.length : Int))
  ((I 110 [(nth p10 3), (nth ((nth p10 4).fld 0).toList (IntKind.i64.wrap ((nth (nth p10 3).toList (nth p10 2).toInt.toNat).toInt + (nth p10 0).toInt)).toNat)]).bind fun r11 =>
  (iff (!(nth r11 0).toBool)
  (some (Ex.r, [(PV.bool false)]))
  (some (Ex.n, [(PV.int (IntKind.i64.wrap ((nth p10 0).toInt + (1 : Int)))), (nth p10 1), (nth p10 2), (nth p10 3), (nth p10 4)]))))
  none)
  none)
  none)
  none)
  (some (Ex.x 2, [(nth p10 2), (nth p10 3), (nth p10 4)])))
def L34_1 (I : Interp) (n : Nat) (p8 : List PV) : Option (Ex × List PV) :=
  (iff (ltI (nth p8 0).toInt ((nth p8 1).toList.length : Int))
  (iff (geI (nth p8 0).toInt (0 : Int))
  (iff (ltI (nth p8 0).toInt ((nth p8 1).toList.length : Int))
  (iff (geI (nth (nth p8 1).toList (nth p8 0).toInt.toNat).toInt (0 : Int))
  (iff (ltI (nth (nth p8 1).toList (nth p8 0).toInt.toNat).toInt (((nth p8 2).fld 0).toList.length : Int))
  ((I 109 [(nth ((nth p8 2).fld 0).toList (nth (nth p8 1).toList (nth p8 0).toInt.toNat).toInt.toNat)]).bind fun r9 =>
  (thenN (thenE (loopEv (L34_0 I n) n [(PV.int (1 : Int)), (nth r9 2), (nth p8 0), (nth p8 1), (nth p8 2)])
  (passB 2))
  (fun p12 => (some (Ex.n, [(PV.int (IntKind.i64.wrap ((nth p12 0).toInt + (1 : Int)))), (nth p12 1), (nth p12 2)])))
  passE))
  none)
  none)
  none)
  none)
  (some (Ex.x 0, [])))
def F34 (I : Interp) (n : Nat) (a : List PV) : Option (List PV) :=
  ((I 104 [((nth a 0).fld 1), (PV.int (1 : Int)), (PV.int (3000 : Int))]).bind fun r0 =>
  (letB (selB (!(nth r0 0).toBool) (PV.bool true) (selB ((!(nth r0 0).toBool) == false) (PV.bool (neI (selB ((!(nth r0 0).toBool) == false) (PV.int ((selB ((!(nth r0 0).toBool) == false) ((nth a 0).fld 0) PV.unit).toList.length : Int)) PV.unit).toInt (selB ((!(nth r0 0).toBool) == false) (PV.int (IntKind.i64.wrap ((2 : Int) * (selB ((!(nth r0 0).toBool) == false) ((nth a 0).fld 1) PV.unit).toInt))) PV.unit).toInt)) PV.unit)) fun v1 =>
  (letB (selB (v1.isB false) (selB (selB (v1.isB false) (selB (v1.isB false) (PV.bool (neI (selB (v1.isB false) ((nth a 0).fld 2) PV.unit).toInt (0 : Int))) PV.unit) PV.unit).toBool (selB ((selB (v1.isB false) (selB (v1.isB false) (PV.bool (neI (selB (v1.isB false) ((nth a 0).fld 2) PV.unit).toInt (0 : Int))) PV.unit) PV.unit).isB true) (PV.bool (neI (selB ((selB (v1.isB false) (selB (v1.isB false) (PV.bool (neI (selB (v1.isB false) ((nth a 0).fld 2) PV.unit).toInt (0 : Int))) PV.unit) PV.unit).isB true) ((nth a 0).fld 2) PV.unit).toInt (selB ((selB (v1.isB false) (selB (v1.isB false) (PV.bool (neI (selB (v1.isB false) ((nth a 0).fld 2) PV.unit).toInt (0 : Int))) PV.unit) PV.unit).isB true) ((nth a 0).fld 1) PV.unit).toInt)) PV.unit) (PV.bool false)) PV.unit) fun v2 =>
  (letB (selB v1.toBool (PV.bool true) v2) fun v3 =>
  ((iff (v3.isB false)
  ((I 104 [(selB (v3.isB false) ((nth a 0).fld 3) PV.unit), (selB (v3.isB false) ((nth a 0).fld 2) PV.unit), (selB (v3.isB false) (PV.int (IntKind.i64.wrap ((selB (v3.isB false) ((nth a 0).fld 2) PV.unit).toInt + (selB (v3.isB false) ((nth a 0).fld 1) PV.unit).toInt))) PV.unit)]).bind fun r4 =>
  (some [(nth r4 0), (nth r4 0)]))
  (some [PV.unit, PV.unit])).bind fun g5 =>
  (letB (selB v3.toBool (PV.bool true) (selB (v3.isB false) (PV.bool (!(nth g5 0).toBool)) PV.unit)) fun v6 =>
  (iff v6.toBool
  (some [(PV.bool false)])
  ((I 79 [(nth a 0)]).bind fun r7 =>
  (iff (!(nth r7 1).toBool)
  (some [(PV.bool false)])
  (thenN (thenE (loopEv (L34_1 I n) n [(PV.int (0 : Int)), (nth r7 0), (nth a 0)])
  (passB 0))
  (fun p13 => (some [(PV.bool true)]))
  (retE fun q14 => [(nth q14 0)])))))))))))
theorem e34 : ∀ I n a, (compF Try.prog sg 34).map (fun d => d.ev I n a) = some (F34 I n a) := fun I n a => ew_ev (g := F34) (fun I n a => by kernel_rfl) I n a
/-! impl.blockAt -/
def F112 (I : Interp) (n : Nat) (a : List PV) : Option (List PV) :=
  ((I 106 [(nth a 0)]).bind fun r0 =>
  ((I 167 [(nth r0 0), (nth a 1)]).bind fun r1 =>
  (iff (!(nth r1 1).toBool)
  (some [(PV.bool false), (PV.int (0 : Int)), (PV.list ([] : List PV)), (PV.bool false)])
  (iff (geI (nth a 1).toInt (0 : Int))
  (iff (ltI (nth a 1).toInt (((nth a 0).fld 0).toList.length : Int))
  ((I 163 [(nth ((nth a 0).fld 0).toList (nth a 1).toInt.toNat)]).bind fun r2 =>
  ((I 92 [(nth a 0), (nth a 1)]).bind fun r3 =>
  ((I 90 [(nth r3 0)]).bind fun r4 =>
  (some [(nth r2 0), (nth r2 1), (nth r4 0), (PV.bool true)]))))
  none)
  none))))
theorem e112 : ∀ I n a, (compF Try.prog sg 112).map (fun d => d.ev I n a) = some (F112 I n a) := fun I n a => by kernel_rfl
/-! spec.Back -/
def F13 (I : Interp) (n : Nat) (a : List PV) : Option (List PV) :=
  ((I 34 [(nth a 0)]).bind fun r0 =>
  (iff (!(nth r0 0).toBool)
  (some [(PV.agg [(PV.int (0 : Int)), (PV.int (0 : Int)), (PV.list ([] : List PV))]), (PV.bool false)])
  ((I 79 [(nth a 0)]).bind fun r1 =>
  ((I 80 [(nth a 0), (nth r1 0), (nth a 1), (PV.int (16 : Int))]).bind fun r2 =>
  (some [(nth r2 0), (nth r2 1)])))))
theorem e13 : ∀ I n a, (compF Try.prog sg 13).map (fun d => d.ev I n a) = some (F13 I n a) := fun I n a => by kernel_rfl
/-! spec.Outcome -/
def F59 (I : Interp) (n : Nat) (a : List PV) : Option (List PV) :=
  (iff (selB (neI ((nth a 0).fld 5).toInt (1 : Int)) (PV.bool true) (selB ((neI ((nth a 0).fld 5).toInt (1 : Int)) == false) (PV.bool (neI (selB ((neI ((nth a 0).fld 5).toInt (1 : Int)) == false) (PV.int ((selB ((neI ((nth a 0).fld 5).toInt (1 : Int)) == false) ((nth a 0).fld 2) PV.unit).toList.length : Int)) PV.unit).toInt (1 : Int))) PV.unit)).toBool
  (some [(PV.agg [(PV.int (0 : Int)), (PV.int (0 : Int)), (PV.list ([] : List PV))]), (PV.bool false)])
  (iff (geI (0 : Int) (0 : Int))
  (iff (ltI (0 : Int) (((nth a 0).fld 2).toList.length : Int))
  ((I 13 [((nth a 0).fld 1), (nth ((nth a 0).fld 2).toList (0 : Int).toNat)]).bind fun r0 =>
  (some [(nth r0 0), (nth r0 1)]))
  none)
  none))
theorem e59 : ∀ I n a, (compF Try.prog sg 59).map (fun d => d.ev I n a) = some (F59 I n a) := fun I n a => by kernel_rfl
/-! impl.HeapOk -/
def L33_0 (I : Interp) (n : Nat) (p3 : List PV) : Option (Ex × List PV) :=
  (iff (ltI (nth p3 0).toInt (nth p3 1).toInt)
  (iff (geI (nth p3 0).toInt (0 : Int))
  (iff (ltI (nth p3 0).toInt ((nth p3 2).toList.length : Int))
  ((I 107 [(nth (nth p3 2).toList (nth p3 0).toInt.toNat)]).bind fun r4 =>
  ((iff ((!(nth r4 0).toBool) == true)
  ((I 108 [(nth p3 5), (selB ((!(nth r4 0).toBool) == true) (nth (nth p3 2).toList (nth p3 0).toInt.toNat) PV.unit)]).bind fun r5 =>
  (some [(nth r5 0), (nth r5 0)]))
  (some [PV.unit, PV.unit])).bind fun g6 =>
  (iff (selB (!(nth r4 0).toBool) (selB ((!(nth r4 0).toBool) == true) (PV.bool (!(nth g6 0).toBool)) PV.unit) (PV.bool false)).toBool
  (some (Ex.r, [(PV.bool false)]))
  (some (Ex.n, [(PV.int (IntKind.i64.wrap ((nth p3 0).toInt + (1 : Int)))), (nth p3 1), (nth p3 2), (nth p3 3), (nth p3 4), (nth p3 5), (nth p3 6)])))))
  none)
  none)
  (some (Ex.x 2, [(nth p3 3), (nth p3 4), (nth p3 5), (nth p3 6)])))
def L33_1 (I : Interp) (n : Nat) (p1 : List PV) : Option (Ex × List PV) :=
  (iff (ltI (nth p1 0).toInt (nth p1 1).toInt)
  (iff (geI (nth p1 0).toInt (0 : Int))
  (iff (ltI (nth p1 0).toInt ((nth p1 2).toList.length : Int))
  ((I 92 [(nth p1 3), (nth (nth p1 2).toList (nth p1 0).toInt.toNat)]).bind fun r2 =>
  (thenN (thenE (loopEv (L33_0 I n) n [(PV.int (0 : Int)), (PV.int ((nth r2 0).toList.length : Int)), (nth r2 0), (nth p1 0), (nth p1 1), (nth p1 2), (nth p1 3)])
  (passB 2))
  (fun p7 => (some (Ex.n, [(PV.int (IntKind.i64.wrap ((nth p7 0).toInt + (1 : Int)))), (nth p7 1), (nth p7 2), (nth p7 3)])))
  passE))
  none)
  none)
  (some (Ex.x 0, [])))
def F33 (I : Interp) (n : Nat) (a : List PV) : Option (List PV) :=
  ((I 106 [(nth a 0)]).bind fun r0 =>
  (iff (!(nth r0 1).toBool)
  (some [(PV.bool false)])
  (thenN (thenE (loopEv (L33_1 I n) n [(PV.int (0 : Int)), (PV.int ((nth r0 0).toList.length : Int)), (nth r0 0), (nth a 0)])
  (passB 0))
  (fun p8 => (some [(PV.bool true)]))
  (retE fun q9 => [(nth q9 0)]))))
theorem e33 : ∀ I n a, (compF Try.prog sg 33).map (fun d => d.ev I n a) = some (F33 I n a) := fun I n a => by kernel_rfl
/-! impl.backOf -/
def L81_0 (I : Interp) (n : Nat) (p5 : List PV) : Option (Ex × List PV) :=
  (iff (ltI (nth p5 0).toInt (nth p5 1).toInt)
  (iff (geI (nth p5 0).toInt (0 : Int))
  (iff (ltI (nth p5 0).toInt ((nth p5 3).toList.length : Int))
  ((I 81 [(nth p5 4), (nth (nth p5 3).toList (nth p5 0).toInt.toNat), (PV.int (IntKind.i64.wrap ((nth p5 2).toInt - (1 : Int))))]).bind fun r6 =>
  (iff (!(nth r6 1).toBool)
  (some (Ex.r, [(PV.bool false), (PV.agg [(PV.int (0 : Int)), (PV.int (0 : Int)), (PV.list ([] : List PV))])]))
  (iff (leN (((nth p5 5).fld 2).toList.length + ((nth r6 0) :: ([] : List PV)).length) 3518437208883)
  (some (Ex.n, [(PV.int (IntKind.i64.wrap ((nth p5 0).toInt + (1 : Int)))), (nth p5 1), (nth p5 2), (nth p5 3), (nth p5 4), (((nth p5 5).setFld 2 PV.unit).setFld 2 (PV.list (((nth p5 5).fld 2).toList ++ ((nth r6 0) :: ([] : List PV))))), (nth p5 6)]))
  none)))
  none)
  none)
  (some (Ex.x 1, [(nth p5 5), (nth p5 6)])))
def F81 (I : Interp) (n : Nat) (a : List PV) : Option (List PV) :=
  (iff (eqI (nth a 2).toInt (0 : Int))
  (some [(PV.agg [(PV.int (0 : Int)), (PV.int (0 : Int)), (PV.list ([] : List PV))]), (PV.bool false)])
  ((I 107 [(nth a 1)]).bind fun r0 =>
  (iff (nth r0 0).toBool
  ((I 158 [(nth a 1)]).bind fun r1 =>
  (some [(PV.agg [(PV.int (1 : Int)), (nth r1 0), (PV.list ([] : List PV))]), (PV.bool true)]))
  ((I 94 [(nth a 1)]).bind fun r2 =>
  (iff (!(nth r2 0).toBool)
  (some [(PV.agg [(PV.int (0 : Int)), (PV.int (0 : Int)), (PV.list ([] : List PV))]), (PV.bool false)])
  ((I 96 [(nth a 1)]).bind fun r3 =>
  ((I 112 [(nth a 0), (nth r3 0)]).bind fun r4 =>
  (iff (!(nth r4 3).toBool)
  (some [(PV.agg [(PV.int (0 : Int)), (PV.int (0 : Int)), (PV.list ([] : List PV))]), (PV.bool false)])
  (iff (nth r4 0).toBool
  (some [(PV.agg [(PV.int (4 : Int)), (PV.int (0 : Int)), (PV.list ([] : List PV))]), (PV.bool true)])
  (iff (selB (eqI (nth r4 1).toInt (0 : Int)) (selB ((eqI (nth r4 1).toInt (0 : Int)) == true) (PV.bool (eqI (selB ((eqI (nth r4 1).toInt (0 : Int)) == true) (PV.int ((nth r4 2).toList.length : Int)) PV.unit).toInt (0 : Int))) PV.unit) (PV.bool false)).toBool
  (some [(PV.agg [(PV.int (2 : Int)), (PV.int (0 : Int)), (PV.list ([] : List PV))]), (PV.bool true)])
  (iff (selB (neI (nth r4 1).toInt (1 : Int)) (PV.bool true) (selB ((neI (nth r4 1).toInt (1 : Int)) == false) (PV.bool (neI (selB ((neI (nth r4 1).toInt (1 : Int)) == false) (PV.int ((nth r4 2).toList.length : Int)) PV.unit).toInt (2 : Int))) PV.unit)).toBool
  (some [(PV.agg [(PV.int (0 : Int)), (PV.int (0 : Int)), (PV.list ([] : List PV))]), (PV.bool false)])
  (thenN (thenE (loopEv (L81_0 I n) n [(PV.int (0 : Int)), (PV.int ((nth r4 2).toList.length : Int)), (nth a 2), (nth r4 2), (nth a 0), (PV.agg [(PV.int (3 : Int)), (PV.int (0 : Int)), (PV.list ([] : List PV))]), (PV.agg [(PV.int (0 : Int)), (PV.int (0 : Int)), (PV.list ([] : List PV))])])
  (passB 1))
  (fun p7 => (some [(nth p7 0), (PV.bool true)]))
  (retE fun q8 => [(nth q8 1), (nth q8 0)])))))))))))))
theorem e81 : ∀ I n a, (compF Try.prog sg 81).map (fun d => d.ev I n a) = some (F81 I n a) := fun I n a => by kernel_rfl
/-! impl.Back -/
def F15 (I : Interp) (n : Nat) (a : List PV) : Option (List PV) :=
  ((I 33 [(nth a 0)]).bind fun r0 =>
  (iff (!(nth r0 0).toBool)
  (some [(PV.agg [(PV.int (0 : Int)), (PV.int (0 : Int)), (PV.list ([] : List PV))]), (PV.bool false)])
  ((I 81 [(nth a 0), (nth a 1), (PV.int (16 : Int))]).bind fun r1 =>
  (some [(nth r1 0), (nth r1 1)]))))
theorem e15 : ∀ I n a, (compF Try.prog sg 15).map (fun d => d.ev I n a) = some (F15 I n a) := fun I n a => by kernel_rfl
/-! impl.Outcome -/
def F60 (I : Interp) (n : Nat) (a : List PV) : Option (List PV) :=
  (iff (selB (neI ((nth a 0).fld 5).toInt (1 : Int)) (PV.bool true) (selB ((neI ((nth a 0).fld 5).toInt (1 : Int)) == false) (PV.bool (neI (selB ((neI ((nth a 0).fld 5).toInt (1 : Int)) == false) (PV.int ((selB ((neI ((nth a 0).fld 5).toInt (1 : Int)) == false) ((nth a 0).fld 2) PV.unit).toList.length : Int)) PV.unit).toInt (1 : Int))) PV.unit)).toBool
  (some [(PV.agg [(PV.int (0 : Int)), (PV.int (0 : Int)), (PV.list ([] : List PV))]), (PV.bool false)])
  (iff (geI (0 : Int) (0 : Int))
  (iff (ltI (0 : Int) (((nth a 0).fld 2).toList.length : Int))
  ((I 15 [((nth a 0).fld 1), (nth ((nth a 0).fld 2).toList (0 : Int).toNat)]).bind fun r0 =>
  (some [(nth r0 0), (nth r0 1)]))
  none)
  none))
theorem e60 : ∀ I n a, (compF Try.prog sg 60).map (fun d => d.ev I n a) = some (F60 I n a) := fun I n a => by kernel_rfl
/-! laws.FnExactOutcome -/
def F8 (I : Interp) (n : Nat) (a : List PV) : Option (List PV) :=
  ((I 45 [(nth a 0), (PV.int (1048576 : Int))]).bind fun r0 =>
  (iff (ltI (nth r0 0).toInt (0 : Int))
  (some [(PV.bool true)])
  ((I 47 [(nth a 0)]).bind fun r1 =>
  ((I 59 [(nth r1 0)]).bind fun r2 =>
  ((I 47 [(nth a 0)]).bind fun r3 =>
  ((I 60 [(nth r3 0)]).bind fun r4 =>
  ((I 16 [(nth r4 0), (nth r2 0)]).bind fun r5 =>
  (iff (selB (!(nth r5 0).toBool) (PV.bool true) (selB ((!(nth r5 0).toBool) == false) (PV.bool (((selB ((!(nth r5 0).toBool) == false) (nth r4 1) PV.unit).toBool == (selB ((!(nth r5 0).toBool) == false) (nth r2 1) PV.unit).toBool) == false)) PV.unit)).toBool
  (some [(PV.bool false)])
  ((I 47 [(nth a 0)]).bind fun r6 =>
  ((I 49 [(nth r3 0), (nth r6 0)]).bind fun r7 =>
  (iff (!(nth r7 0).toBool)
  (some [(PV.bool false)])
  ((I 61 [(nth r3 0), (PV.int (1 : Int))]).bind fun r8 =>
  ((iff ((ltI (nth r8 0).toInt (0 : Int)) == false)
  ((I 16 [(nth r4 0), (nth r2 0)]).bind fun r9 =>
  (some [(nth r9 0), (nth r9 0)]))
  (some [PV.unit, PV.unit])).bind fun g10 =>
  (iff (selB (selB (ltI (nth r8 0).toInt (0 : Int)) (PV.bool true) (selB ((ltI (nth r8 0).toInt (0 : Int)) == false) (PV.bool (!(nth g10 0).toBool)) PV.unit)).toBool (PV.bool true) (selB ((selB (ltI (nth r8 0).toInt (0 : Int)) (PV.bool true) (selB ((ltI (nth r8 0).toInt (0 : Int)) == false) (PV.bool (!(nth g10 0).toBool)) PV.unit)).isB false) (PV.bool (((selB ((selB (ltI (nth r8 0).toInt (0 : Int)) (PV.bool true) (selB ((ltI (nth r8 0).toInt (0 : Int)) == false) (PV.bool (!(nth g10 0).toBool)) PV.unit)).isB false) (nth r4 1) PV.unit).toBool == (selB ((selB (ltI (nth r8 0).toInt (0 : Int)) (PV.bool true) (selB ((ltI (nth r8 0).toInt (0 : Int)) == false) (PV.bool (!(nth g10 0).toBool)) PV.unit)).isB false) (nth r2 1) PV.unit).toBool) == false)) PV.unit)).toBool
  (some [(PV.bool false)])
  ((I 19 [(nth r4 0), (PV.int (1 : Int))]).bind fun r11 =>
  ((I 20 [(nth r11 1), (PV.int (1 : Int))]).bind fun r12 =>
  (iff (ltI (nth r12 0).toInt (0 : Int))
  (some [(PV.bool false)])
  (iff (neI (nth r12 0).toInt (nth r11 0).toInt)
  (some [(PV.bool false)])
  ((I 47 [(nth a 0)]).bind fun r13 =>
  ((I 60 [(nth r13 0)]).bind fun r14 =>
  ((I 16 [(nth r14 0), (nth r2 0)]).bind fun r15 =>
  (iff (selB (!(nth r15 0).toBool) (PV.bool true) (selB ((!(nth r15 0).toBool) == false) (PV.bool (((selB ((!(nth r15 0).toBool) == false) (nth r14 1) PV.unit).toBool == (selB ((!(nth r15 0).toBool) == false) (nth r2 1) PV.unit).toBool) == false)) PV.unit)).toBool
  (some [(PV.bool false)])
  ((I 20 [(nth r11 1), (PV.int (1 : Int))]).bind fun r16 =>
  (iff (ltI (nth r16 0).toInt (0 : Int))
  (some [(PV.bool false)])
  (iff (neI (nth r16 0).toInt (nth r11 0).toInt)
  (some [(PV.bool false)])
  (some [(PV.bool true)]))))))))))))))))))))))))))
theorem e8 : ∀ I n a, (compF Try.prog sg 8).map (fun d => d.ev I n a) = some (F8 I n a) := fun I n a => by kernel_rfl
end Go.Proofs.Ytijgokehlicmnaa.GFnExactOutcome
