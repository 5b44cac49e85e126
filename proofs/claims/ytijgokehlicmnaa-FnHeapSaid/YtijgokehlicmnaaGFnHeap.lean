/- The pure programs of the functions that the law FnHeap reaches, out of the compiled code. No conditions. -/
import Derived.Test.YtijgokehlicmnaaRows
import Derived.Test.YtijgokehlicmnaaRscZq
namespace Go.Proofs.Ytijgokehlicmnaa.GFnHeap
open Go Go.Rsc Go.Proofs.Ytijgokehlicmnaa
set_option maxRecDepth 100000
set_option linter.unusedVariables false
def sg : FuncId → Option Sig := fun f => match f with
  | 86 => some { ps := [PM.ro (SD.sc (SD.bor 3) (SD.sc (SD.int (IntKind.i64)) (SD.sc (SD.int (IntKind.i64)) (SD.sc (SD.int (IntKind.i64)) (SD.sn)))))], rs := [RM.v (SD.sc (SD.own 3 false) (SD.sc (SD.int (IntKind.i64)) (SD.sc (SD.int (IntKind.i64)) (SD.sc (SD.int (IntKind.i64)) (SD.sn)))))] }
  | 193 => some { ps := [PM.ro (SD.bool)], rs := [RM.v (SD.int (IntKind.i64))] }
  | 42 => some { ps := [PM.ro (SD.bor 3), PM.ro (SD.bor 3)], rs := [RM.v (SD.bool)] }
  | 195 => some { ps := [PM.ro (SD.int (IntKind.i64))], rs := [RM.v (SD.bool)] }
  | 220 => some { ps := [PM.ro (SD.int (IntKind.i64))], rs := [RM.v (SD.bool)] }
  | 96 => some { ps := [PM.ro (SD.int (IntKind.i64))], rs := [RM.v (SD.int (IntKind.i64))] }
  | 94 => some { ps := [PM.ro (SD.int (IntKind.i64))], rs := [RM.v (SD.bool)] }
  | 158 => some { ps := [PM.ro (SD.int (IntKind.i64))], rs := [RM.v (SD.int (IntKind.i64))] }
  | 102 => some { ps := [PM.ro (SD.int (IntKind.i64)), PM.ro (SD.int (IntKind.i64)), PM.ro (SD.int (IntKind.i64))], rs := [RM.v (SD.bool)] }
  | 90 => some { ps := [PM.ro (SD.bor 3)], rs := [RM.v (SD.own 3 false)] }
  | 109 => some { ps := [PM.ro (SD.int (IntKind.i64))], rs := [RM.v (SD.bool), RM.v (SD.int (IntKind.i64)), RM.v (SD.int (IntKind.i64))] }
  | 157 => some { ps := [PM.ro (SD.int (IntKind.i64))], rs := [RM.v (SD.int (IntKind.i64))] }
  | 168 => some { ps := [PM.ro (SD.bor 3), PM.ro (SD.int (IntKind.i64))], rs := [RM.v (SD.bool)] }
  | 111 => some { ps := [PM.ro (SD.int (IntKind.i64))], rs := [RM.v (SD.int (IntKind.i64))] }
  | 156 => some { ps := [PM.ro (SD.int (IntKind.i64))], rs := [RM.v (SD.bool)] }
  | 165 => some { ps := [PM.ref 189 (SD.sc (SD.bor 5) (SD.sc (SD.int (IntKind.i64)) (SD.sc (SD.int (IntKind.i64)) (SD.sn)))) (SD.sc (SD.bor 5) (SD.sc (SD.int (IntKind.i64)) (SD.sc (SD.int (IntKind.i64)) (SD.sn))))], rs := [RM.v (SD.int (IntKind.i64))] }
  | 4261 => some { ps := [PM.ref 189 (SD.sc (SD.own 5 false) (SD.sc (SD.int (IntKind.i64)) (SD.sc (SD.int (IntKind.i64)) (SD.sn)))) (SD.sc (SD.own 5 false) (SD.sc (SD.int (IntKind.i64)) (SD.sc (SD.int (IntKind.i64)) (SD.sn))))], rs := [RM.v (SD.int (IntKind.i64))] }
  | 104 => some { ps := [PM.ro (SD.int (IntKind.i64)), PM.ro (SD.int (IntKind.i64)), PM.ro (SD.int (IntKind.i64))], rs := [RM.v (SD.bool)] }
  | 97 => some { ps := [PM.ro (SD.bor 5)], rs := [RM.bx 189 (SD.sc (SD.bor 5) (SD.sc (SD.int (IntKind.i64)) (SD.sc (SD.int (IntKind.i64)) (SD.sn))))] }
  | 28 => some { ps := [PM.ro (SD.bor 5)], rs := [RM.v (SD.bool)] }
  | 191 => some { ps := [PM.ro (SD.int (IntKind.i64))], rs := [RM.v (SD.int (IntKind.i64))] }
  | 194 => some { ps := [PM.ro (SD.int (IntKind.i64)), PM.ro (SD.int (IntKind.i64))], rs := [RM.v (SD.bool)] }
  | 113 => some { ps := [PM.ro (SD.bor 3), PM.ro (SD.int (IntKind.i64))], rs := [RM.v (SD.bool)] }
  | 89 => some { ps := [PM.ro (SD.sc (SD.bor 3) (SD.sc (SD.int (IntKind.i64)) (SD.sc (SD.int (IntKind.i64)) (SD.sc (SD.int (IntKind.i64)) (SD.sn)))))], rs := [RM.v (SD.sc (SD.own 3 false) (SD.sc (SD.int (IntKind.i64)) (SD.sc (SD.int (IntKind.i64)) (SD.sc (SD.int (IntKind.i64)) (SD.sn)))))] }
  | 166 => some { ps := [PM.ro (SD.bool), PM.ro (SD.int (IntKind.i64)), PM.ro (SD.int (IntKind.i64))], rs := [RM.v (SD.int (IntKind.i64))] }
  | 32 => some { ps := [PM.ro (SD.sc (SD.bor 3) (SD.sc (SD.int (IntKind.i64)) (SD.sc (SD.int (IntKind.i64)) (SD.sc (SD.int (IntKind.i64)) (SD.sn))))), PM.ro (SD.sc (SD.bor 3) (SD.sc (SD.int (IntKind.i64)) (SD.sc (SD.int (IntKind.i64)) (SD.sc (SD.int (IntKind.i64)) (SD.sn)))))], rs := [RM.v (SD.bool)] }
  | 120 => some { ps := [PM.ro (SD.int (IntKind.i64))], rs := [RM.v (SD.bool)] }
  | 41 => some { ps := [PM.ro (SD.int (IntKind.i64))], rs := [RM.v (SD.sc (SD.own 3 false) (SD.sc (SD.int (IntKind.i64)) (SD.sc (SD.int (IntKind.i64)) (SD.sc (SD.int (IntKind.i64)) (SD.sn))))), RM.v (SD.bool)] }
  | 117 => some { ps := [PM.ro (SD.int (IntKind.i64))], rs := [RM.v (SD.bool)] }
  | 99 => some { ps := [PM.ref 189 (SD.sc (SD.bor 5) (SD.sc (SD.int (IntKind.i64)) (SD.sc (SD.int (IntKind.i64)) (SD.sn)))) (SD.sc (SD.bor 5) (SD.sc (SD.int (IntKind.i64)) (SD.sc (SD.int (IntKind.i64)) (SD.sn)))), PM.ro (SD.int (IntKind.i64))], rs := [RM.v (SD.int (IntKind.i64))] }
  | 4195 => some { ps := [PM.ref 189 (SD.sc (SD.own 5 false) (SD.sc (SD.int (IntKind.i64)) (SD.sc (SD.int (IntKind.i64)) (SD.sn)))) (SD.sc (SD.own 5 false) (SD.sc (SD.int (IntKind.i64)) (SD.sc (SD.int (IntKind.i64)) (SD.sn)))), PM.ro (SD.int (IntKind.i64))], rs := [RM.v (SD.int (IntKind.i64))] }
  | 40 => some { ps := [PM.ro (SD.int (IntKind.i64))], rs := [RM.v (SD.sc (SD.own 3 false) (SD.sc (SD.int (IntKind.i64)) (SD.sc (SD.int (IntKind.i64)) (SD.sc (SD.int (IntKind.i64)) (SD.sn))))), RM.v (SD.bool)] }
  | 79 => some { ps := [PM.ro (SD.sc (SD.bor 3) (SD.sc (SD.int (IntKind.i64)) (SD.sc (SD.int (IntKind.i64)) (SD.sc (SD.int (IntKind.i64)) (SD.sn)))))], rs := [RM.v (SD.own 3 false), RM.v (SD.bool)] }
  | 103 => some { ps := [PM.ro (SD.int (IntKind.i64))], rs := [RM.v (SD.int (IntKind.i64))] }
  | 105 => some { ps := [PM.mv (SD.sc (SD.own 3 false) (SD.sc (SD.int (IntKind.i64)) (SD.sc (SD.int (IntKind.i64)) (SD.sc (SD.int (IntKind.i64)) (SD.sn))))), PM.ro (SD.bool), PM.ro (SD.int (IntKind.i64)), PM.ro (SD.bor 3)], rs := [RM.v (SD.sc (SD.own 3 false) (SD.sc (SD.int (IntKind.i64)) (SD.sc (SD.int (IntKind.i64)) (SD.sc (SD.int (IntKind.i64)) (SD.sn))))), RM.v (SD.int (IntKind.i64)), RM.v (SD.bool)] }
  | 4201 => some { ps := [PM.mv (SD.sc (SD.own 3 false) (SD.sc (SD.int (IntKind.i64)) (SD.sc (SD.int (IntKind.i64)) (SD.sc (SD.int (IntKind.i64)) (SD.sn))))), PM.ro (SD.bool), PM.ro (SD.int (IntKind.i64)), PM.mut (SD.own 3 false)], rs := [RM.v (SD.sc (SD.own 3 false) (SD.sc (SD.int (IntKind.i64)) (SD.sc (SD.int (IntKind.i64)) (SD.sc (SD.int (IntKind.i64)) (SD.sn))))), RM.v (SD.int (IntKind.i64)), RM.v (SD.bool)] }
  | 8297 => some { ps := [PM.mv (SD.sc (SD.own 3 false) (SD.sc (SD.int (IntKind.i64)) (SD.sc (SD.int (IntKind.i64)) (SD.sc (SD.int (IntKind.i64)) (SD.sn))))), PM.ro (SD.bool), PM.ro (SD.int (IntKind.i64)), PM.mv (SD.own 3 false)], rs := [RM.v (SD.sc (SD.own 3 false) (SD.sc (SD.int (IntKind.i64)) (SD.sc (SD.int (IntKind.i64)) (SD.sc (SD.int (IntKind.i64)) (SD.sn))))), RM.v (SD.int (IntKind.i64)), RM.v (SD.bool)] }
  | 100 => some { ps := [PM.ref 189 (SD.sc (SD.bor 5) (SD.sc (SD.int (IntKind.i64)) (SD.sc (SD.int (IntKind.i64)) (SD.sn)))) (SD.sc (SD.bor 5) (SD.sc (SD.int (IntKind.i64)) (SD.sc (SD.int (IntKind.i64)) (SD.sn)))), PM.ro (SD.int (IntKind.i64))], rs := [RM.v (SD.bool)] }
  | 4196 => some { ps := [PM.ref 189 (SD.sc (SD.own 5 false) (SD.sc (SD.int (IntKind.i64)) (SD.sc (SD.int (IntKind.i64)) (SD.sn)))) (SD.sc (SD.own 5 false) (SD.sc (SD.int (IntKind.i64)) (SD.sc (SD.int (IntKind.i64)) (SD.sn)))), PM.ro (SD.int (IntKind.i64))], rs := [RM.v (SD.bool)] }
  | 163 => some { ps := [PM.ro (SD.int (IntKind.i64))], rs := [RM.v (SD.bool), RM.v (SD.int (IntKind.i64)), RM.v (SD.int (IntKind.i64)), RM.v (SD.bool)] }
  | 101 => some { ps := [PM.ref 189 (SD.sc (SD.bor 5) (SD.sc (SD.int (IntKind.i64)) (SD.sc (SD.int (IntKind.i64)) (SD.sn)))) (SD.sc (SD.bor 5) (SD.sc (SD.int (IntKind.i64)) (SD.sc (SD.int (IntKind.i64)) (SD.sn)))), PM.ro (SD.bor 3)], rs := [RM.v (SD.int (IntKind.i64))] }
  | 4197 => some { ps := [PM.ref 189 (SD.sc (SD.bor 5) (SD.sc (SD.int (IntKind.i64)) (SD.sc (SD.int (IntKind.i64)) (SD.sn)))) (SD.sc (SD.bor 5) (SD.sc (SD.int (IntKind.i64)) (SD.sc (SD.int (IntKind.i64)) (SD.sn)))), PM.mut (SD.own 3 false)], rs := [RM.v (SD.int (IntKind.i64))] }
  | 8293 => some { ps := [PM.ref 189 (SD.sc (SD.bor 5) (SD.sc (SD.int (IntKind.i64)) (SD.sc (SD.int (IntKind.i64)) (SD.sn)))) (SD.sc (SD.bor 5) (SD.sc (SD.int (IntKind.i64)) (SD.sc (SD.int (IntKind.i64)) (SD.sn)))), PM.mv (SD.own 3 false)], rs := [RM.v (SD.int (IntKind.i64))] }
  | 12389 => some { ps := [PM.ref 189 (SD.sc (SD.own 5 false) (SD.sc (SD.int (IntKind.i64)) (SD.sc (SD.int (IntKind.i64)) (SD.sn)))) (SD.sc (SD.own 5 false) (SD.sc (SD.int (IntKind.i64)) (SD.sc (SD.int (IntKind.i64)) (SD.sn)))), PM.ro (SD.bor 3)], rs := [RM.v (SD.int (IntKind.i64))] }
  | 16485 => some { ps := [PM.ref 189 (SD.sc (SD.own 5 false) (SD.sc (SD.int (IntKind.i64)) (SD.sc (SD.int (IntKind.i64)) (SD.sn)))) (SD.sc (SD.own 5 false) (SD.sc (SD.int (IntKind.i64)) (SD.sc (SD.int (IntKind.i64)) (SD.sn)))), PM.mut (SD.own 3 false)], rs := [RM.v (SD.int (IntKind.i64))] }
  | 20581 => some { ps := [PM.ref 189 (SD.sc (SD.own 5 false) (SD.sc (SD.int (IntKind.i64)) (SD.sc (SD.int (IntKind.i64)) (SD.sn)))) (SD.sc (SD.own 5 false) (SD.sc (SD.int (IntKind.i64)) (SD.sc (SD.int (IntKind.i64)) (SD.sn)))), PM.mv (SD.own 3 false)], rs := [RM.v (SD.int (IntKind.i64))] }
  | 192 => some { ps := [PM.ro (SD.int (IntKind.i64))], rs := [RM.v (SD.int (IntKind.i64))] }
  | 167 => some { ps := [PM.ro (SD.bor 3), PM.ro (SD.int (IntKind.i64))], rs := [RM.v (SD.int (IntKind.i64)), RM.v (SD.bool)] }
  | 92 => some { ps := [PM.ro (SD.sc (SD.bor 3) (SD.sc (SD.int (IntKind.i64)) (SD.sc (SD.int (IntKind.i64)) (SD.sc (SD.int (IntKind.i64)) (SD.sn))))), PM.ro (SD.int (IntKind.i64))], rs := [RM.v (SD.bor 3)] }
  | 39 => some { ps := [PM.ro (SD.bor 5)], rs := [RM.v (SD.int (IntKind.i64))] }
  | 106 => some { ps := [PM.ro (SD.sc (SD.bor 3) (SD.sc (SD.int (IntKind.i64)) (SD.sc (SD.int (IntKind.i64)) (SD.sc (SD.int (IntKind.i64)) (SD.sn)))))], rs := [RM.v (SD.own 3 false), RM.v (SD.bool)] }
  | 107 => some { ps := [PM.ro (SD.int (IntKind.i64))], rs := [RM.v (SD.bool)] }
  | 159 => some { ps := [PM.ref 181 (SD.sc (SD.sc (SD.own 3 false) (SD.sc (SD.int (IntKind.i64)) (SD.sc (SD.int (IntKind.i64)) (SD.sc (SD.int (IntKind.i64)) (SD.sn))))) (SD.sc (SD.sc (SD.own 3 false) (SD.sc (SD.int (IntKind.i64)) (SD.sc (SD.int (IntKind.i64)) (SD.sc (SD.int (IntKind.i64)) (SD.sn))))) (SD.sc (SD.own 3 false) (SD.sc (SD.own 3 false) (SD.sn))))) (SD.sc (SD.sc (SD.own 3 false) (SD.sc (SD.int (IntKind.i64)) (SD.sc (SD.int (IntKind.i64)) (SD.sc (SD.int (IntKind.i64)) (SD.sn))))) (SD.sc (SD.sc (SD.own 3 false) (SD.sc (SD.int (IntKind.i64)) (SD.sc (SD.int (IntKind.i64)) (SD.sc (SD.int (IntKind.i64)) (SD.sn))))) (SD.sc (SD.own 3 false) (SD.sc (SD.own 3 false) (SD.sn))))), PM.ro (SD.int (IntKind.i64))], rs := [RM.v (SD.int (IntKind.i64))] }
  | 108 => some { ps := [PM.ro (SD.bor 3), PM.ro (SD.int (IntKind.i64))], rs := [RM.v (SD.bool)] }
  | 87 => some { ps := [PM.mv (SD.sc (SD.own 3 false) (SD.sc (SD.int (IntKind.i64)) (SD.sc (SD.int (IntKind.i64)) (SD.sc (SD.int (IntKind.i64)) (SD.sn))))), PM.ro (SD.bor 3)], rs := [RM.v (SD.sc (SD.own 3 false) (SD.sc (SD.int (IntKind.i64)) (SD.sc (SD.int (IntKind.i64)) (SD.sc (SD.int (IntKind.i64)) (SD.sn))))), RM.v (SD.own 3 false)] }
  | 4183 => some { ps := [PM.mv (SD.sc (SD.own 3 false) (SD.sc (SD.int (IntKind.i64)) (SD.sc (SD.int (IntKind.i64)) (SD.sc (SD.int (IntKind.i64)) (SD.sn))))), PM.mut (SD.own 3 false)], rs := [RM.v (SD.sc (SD.own 3 false) (SD.sc (SD.int (IntKind.i64)) (SD.sc (SD.int (IntKind.i64)) (SD.sc (SD.int (IntKind.i64)) (SD.sn))))), RM.v (SD.own 3 false)] }
  | 8279 => some { ps := [PM.mv (SD.sc (SD.own 3 false) (SD.sc (SD.int (IntKind.i64)) (SD.sc (SD.int (IntKind.i64)) (SD.sc (SD.int (IntKind.i64)) (SD.sn))))), PM.mv (SD.own 3 false)], rs := [RM.v (SD.sc (SD.own 3 false) (SD.sc (SD.int (IntKind.i64)) (SD.sc (SD.int (IntKind.i64)) (SD.sc (SD.int (IntKind.i64)) (SD.sn))))), RM.v (SD.own 3 false)] }
  | 110 => some { ps := [PM.ro (SD.bor 3), PM.ro (SD.int (IntKind.i64))], rs := [RM.v (SD.bool)] }
  | 34 => some { ps := [PM.ro (SD.sc (SD.bor 3) (SD.sc (SD.int (IntKind.i64)) (SD.sc (SD.int (IntKind.i64)) (SD.sc (SD.int (IntKind.i64)) (SD.sn)))))], rs := [RM.v (SD.bool)] }
  | 44 => some { ps := [PM.ro (SD.sc (SD.bor 3) (SD.sc (SD.int (IntKind.i64)) (SD.sc (SD.int (IntKind.i64)) (SD.sc (SD.int (IntKind.i64)) (SD.sn)))))], rs := [RM.v (SD.int (IntKind.i64))] }
  | 37 => some { ps := [PM.ro (SD.sc (SD.bor 3) (SD.sc (SD.int (IntKind.i64)) (SD.sc (SD.int (IntKind.i64)) (SD.sc (SD.int (IntKind.i64)) (SD.sn))))), PM.ro (SD.int (IntKind.i64))], rs := [RM.v (SD.bool), RM.v (SD.int (IntKind.i64)), RM.v (SD.own 3 false), RM.v (SD.bool)] }
  | 112 => some { ps := [PM.ro (SD.sc (SD.bor 3) (SD.sc (SD.int (IntKind.i64)) (SD.sc (SD.int (IntKind.i64)) (SD.sc (SD.int (IntKind.i64)) (SD.sn))))), PM.ro (SD.int (IntKind.i64))], rs := [RM.v (SD.bool), RM.v (SD.int (IntKind.i64)), RM.v (SD.own 3 false), RM.v (SD.bool)] }
  | 85 => some { ps := [PM.ro (SD.sc (SD.bor 3) (SD.sc (SD.int (IntKind.i64)) (SD.sc (SD.int (IntKind.i64)) (SD.sc (SD.int (IntKind.i64)) (SD.sn))))), PM.ro (SD.bor 3)], rs := [RM.v (SD.bool)] }
  | 33 => some { ps := [PM.ro (SD.sc (SD.bor 3) (SD.sc (SD.int (IntKind.i64)) (SD.sc (SD.int (IntKind.i64)) (SD.sc (SD.int (IntKind.i64)) (SD.sn)))))], rs := [RM.v (SD.bool)] }
  | 43 => some { ps := [PM.ro (SD.sc (SD.bor 3) (SD.sc (SD.int (IntKind.i64)) (SD.sc (SD.int (IntKind.i64)) (SD.sc (SD.int (IntKind.i64)) (SD.sn)))))], rs := [RM.v (SD.int (IntKind.i64))] }
  | 31 => some { ps := [PM.ro (SD.sc (SD.bor 3) (SD.sc (SD.int (IntKind.i64)) (SD.sc (SD.int (IntKind.i64)) (SD.sc (SD.int (IntKind.i64)) (SD.sn))))), PM.ro (SD.bool), PM.ro (SD.int (IntKind.i64)), PM.ro (SD.bor 3)], rs := [RM.v (SD.sc (SD.own 3 false) (SD.sc (SD.int (IntKind.i64)) (SD.sc (SD.int (IntKind.i64)) (SD.sc (SD.int (IntKind.i64)) (SD.sn))))), RM.v (SD.int (IntKind.i64)), RM.v (SD.bool)] }
  | 21 => some { ps := [PM.mv (SD.sc (SD.own 3 false) (SD.sc (SD.int (IntKind.i64)) (SD.sc (SD.int (IntKind.i64)) (SD.sc (SD.int (IntKind.i64)) (SD.sn))))), PM.ro (SD.bor 3)], rs := [RM.v (SD.sc (SD.own 3 false) (SD.sc (SD.int (IntKind.i64)) (SD.sc (SD.int (IntKind.i64)) (SD.sc (SD.int (IntKind.i64)) (SD.sn))))), RM.v (SD.own 3 false)] }
  | 4117 => some { ps := [PM.mv (SD.sc (SD.own 3 false) (SD.sc (SD.int (IntKind.i64)) (SD.sc (SD.int (IntKind.i64)) (SD.sc (SD.int (IntKind.i64)) (SD.sn))))), PM.mut (SD.own 3 false)], rs := [RM.v (SD.sc (SD.own 3 false) (SD.sc (SD.int (IntKind.i64)) (SD.sc (SD.int (IntKind.i64)) (SD.sc (SD.int (IntKind.i64)) (SD.sn))))), RM.v (SD.own 3 false)] }
  | 8213 => some { ps := [PM.mv (SD.sc (SD.own 3 false) (SD.sc (SD.int (IntKind.i64)) (SD.sc (SD.int (IntKind.i64)) (SD.sc (SD.int (IntKind.i64)) (SD.sn))))), PM.mv (SD.own 3 false)], rs := [RM.v (SD.sc (SD.own 3 false) (SD.sc (SD.int (IntKind.i64)) (SD.sc (SD.int (IntKind.i64)) (SD.sc (SD.int (IntKind.i64)) (SD.sn))))), RM.v (SD.own 3 false)] }
  | 36 => some { ps := [PM.ro (SD.sc (SD.bor 3) (SD.sc (SD.int (IntKind.i64)) (SD.sc (SD.int (IntKind.i64)) (SD.sc (SD.int (IntKind.i64)) (SD.sn))))), PM.ro (SD.int (IntKind.i64))], rs := [RM.v (SD.bool), RM.v (SD.int (IntKind.i64)), RM.v (SD.own 3 false), RM.v (SD.bool)] }
  | 30 => some { ps := [PM.ro (SD.sc (SD.bor 3) (SD.sc (SD.int (IntKind.i64)) (SD.sc (SD.int (IntKind.i64)) (SD.sc (SD.int (IntKind.i64)) (SD.sn))))), PM.ro (SD.bool), PM.ro (SD.int (IntKind.i64)), PM.ro (SD.bor 3)], rs := [RM.v (SD.sc (SD.own 3 false) (SD.sc (SD.int (IntKind.i64)) (SD.sc (SD.int (IntKind.i64)) (SD.sc (SD.int (IntKind.i64)) (SD.sn))))), RM.v (SD.int (IntKind.i64)), RM.v (SD.bool)] }
  | 164 => some { ps := [PM.ref 189 (SD.sc (SD.bor 5) (SD.sc (SD.int (IntKind.i64)) (SD.sc (SD.int (IntKind.i64)) (SD.sn)))) (SD.sc (SD.bor 5) (SD.sc (SD.int (IntKind.i64)) (SD.sc (SD.int (IntKind.i64)) (SD.sn))))], rs := [RM.v (SD.sc (SD.own 3 false) (SD.sc (SD.int (IntKind.i64)) (SD.sc (SD.int (IntKind.i64)) (SD.sc (SD.int (IntKind.i64)) (SD.sn))))), RM.v (SD.own 3 false)] }
  | 4260 => some { ps := [PM.ref 189 (SD.sc (SD.own 5 false) (SD.sc (SD.int (IntKind.i64)) (SD.sc (SD.int (IntKind.i64)) (SD.sn)))) (SD.sc (SD.own 5 false) (SD.sc (SD.int (IntKind.i64)) (SD.sc (SD.int (IntKind.i64)) (SD.sn))))], rs := [RM.v (SD.sc (SD.own 3 false) (SD.sc (SD.int (IntKind.i64)) (SD.sc (SD.int (IntKind.i64)) (SD.sc (SD.int (IntKind.i64)) (SD.sn))))), RM.v (SD.own 3 false)] }
  | 98 => some { ps := [PM.ref 189 (SD.sc (SD.bor 5) (SD.sc (SD.int (IntKind.i64)) (SD.sc (SD.int (IntKind.i64)) (SD.sn)))) (SD.sc (SD.bor 5) (SD.sc (SD.int (IntKind.i64)) (SD.sc (SD.int (IntKind.i64)) (SD.sn))))], rs := [RM.v (SD.sc (SD.own 3 false) (SD.sc (SD.int (IntKind.i64)) (SD.sc (SD.int (IntKind.i64)) (SD.sc (SD.int (IntKind.i64)) (SD.sn))))), RM.v (SD.own 3 false)] }
  | 4194 => some { ps := [PM.ref 189 (SD.sc (SD.own 5 false) (SD.sc (SD.int (IntKind.i64)) (SD.sc (SD.int (IntKind.i64)) (SD.sn)))) (SD.sc (SD.own 5 false) (SD.sc (SD.int (IntKind.i64)) (SD.sc (SD.int (IntKind.i64)) (SD.sn))))], rs := [RM.v (SD.sc (SD.own 3 false) (SD.sc (SD.int (IntKind.i64)) (SD.sc (SD.int (IntKind.i64)) (SD.sc (SD.int (IntKind.i64)) (SD.sn))))), RM.v (SD.own 3 false)] }
  | 114 => some { ps := [PM.ro (SD.bor 5)], rs := [RM.v (SD.sc (SD.own 3 false) (SD.sc (SD.int (IntKind.i64)) (SD.sc (SD.int (IntKind.i64)) (SD.sc (SD.int (IntKind.i64)) (SD.sn)))))] }
  | 29 => some { ps := [PM.ro (SD.bor 5)], rs := [RM.v (SD.sc (SD.own 3 false) (SD.sc (SD.int (IntKind.i64)) (SD.sc (SD.int (IntKind.i64)) (SD.sc (SD.int (IntKind.i64)) (SD.sn))))), RM.v (SD.bool), RM.v (SD.int (IntKind.i64)), RM.v (SD.own 3 false)] }
  | 35 => some { ps := [PM.ro (SD.bor 5)], rs := [RM.v (SD.sc (SD.own 3 false) (SD.sc (SD.int (IntKind.i64)) (SD.sc (SD.int (IntKind.i64)) (SD.sc (SD.int (IntKind.i64)) (SD.sn))))), RM.v (SD.int (IntKind.i64))] }
  | 38 => some { ps := [PM.ro (SD.bor 5)], rs := [RM.v (SD.sc (SD.own 3 false) (SD.sc (SD.int (IntKind.i64)) (SD.sc (SD.int (IntKind.i64)) (SD.sc (SD.int (IntKind.i64)) (SD.sn)))))] }
  | 5 => some { ps := [PM.ro (SD.bor 5)], rs := [RM.v (SD.bool)] }
  | _ => none
/-! spec.l17Copy -/
def F86 (I : Interp) (n : Nat) (a : List PV) : Option (List PV) :=
  (iff (leN (([] : List PV).length + ((nth a 0).fld 0).toList.length) 17592186044416)
  (some [(PV.agg [(PV.list (([] : List PV) ++ ((nth a 0).fld 0).toList)), ((nth a 0).fld 1), ((nth a 0).fld 2), ((nth a 0).fld 3)])])
  none)
theorem e86 : ∀ I n a, (compF Try.prog sg 86).map (fun d => d.ev I n a) = some (F86 I n a) := fun I n a => by kernel_rfl
/-! spec.l1Bit -/
def F193 (I : Interp) (n : Nat) (a : List PV) : Option (List PV) :=
  (iff (nth a 0).toBool
  (some [(PV.int (1 : Int))])
  (some [(PV.int (0 : Int))]))
theorem e193 : ∀ I n a, (compF Try.prog sg 193).map (fun d => d.ev I n a) = some (F193 I n a) := fun I n a => by kernel_rfl
/-! laws.sameInts -/
def L42_0 (I : Interp) (n : Nat) (p0 : List PV) : Option (Ex × List PV) :=
  (iff (ltI (nth p0 0).toInt ((nth p0 1).toList.length : Int))
  (iff (geI (nth p0 0).toInt (0 : Int))
  (iff (ltI (nth p0 0).toInt ((nth p0 1).toList.length : Int))
  (iff (geI (nth p0 0).toInt (0 : Int))
  (iff (ltI (nth p0 0).toInt ((nth p0 2).toList.length : Int))
  (iff (neI (nth (nth p0 1).toList (nth p0 0).toInt.toNat).toInt (nth (nth p0 2).toList (nth p0 0).toInt.toNat).toInt)
  (some (Ex.r, [(PV.bool false)]))
  (some (Ex.n, [(PV.int (IntKind.i64.wrap ((nth p0 0).toInt + (1 : Int)))), (nth p0 1), (nth p0 2)])))
  none)
  none)
  none)
  none)
  (some (Ex.x 0, [])))
def F42 (I : Interp) (n : Nat) (a : List PV) : Option (List PV) :=
  (iff (neI ((nth a 0).toList.length : Int) ((nth a 1).toList.length : Int))
  (some [(PV.bool false)])
  (thenN (thenE (loopEv (L42_0 I n) n [(PV.int (0 : Int)), (nth a 0), (nth a 1)])
  (passB 0))
  (fun p1 => (some [(PV.bool true)]))
  (retE fun q2 => [(nth q2 0)])))
theorem e42 : ∀ I n a, (compF Try.prog sg 42).map (fun d => d.ev I n a) = some (F42 I n a) := fun I n a => by kernel_rfl
/-! slices.isNaN[int] -/
def F195 (I : Interp) (n : Nat) (a : List PV) : Option (List PV) :=
  (some [(PV.bool (neI (nth a 0).toInt (nth a 0).toInt))])
theorem e195 : ∀ I n a, (compF Try.prog sg 195).map (fun d => d.ev I n a) = some (F195 I n a) := fun I n a => by kernel_rfl
/-! cmp.isNaN[int] -/
def F220 (I : Interp) (n : Nat) (a : List PV) : Option (List PV) :=
  (some [(PV.bool (neI (nth a 0).toInt (nth a 0).toInt))])
theorem e220 : ∀ I n a, (compF Try.prog sg 220).map (fun d => d.ev I n a) = some (F220 I n a) := fun I n a => by kernel_rfl
/-! impl.WordRef -/
def F96 (I : Interp) (n : Nat) (a : List PV) : Option (List PV) :=
  (iff (geI (1 : Int) (0 : Int))
  (some [(PV.int (arith BinOp.shr IntKind.i64 (nth a 0).toInt (1 : Int)))])
  none)
theorem e96 : ∀ I n a, (compF Try.prog sg 96).map (fun d => d.ev I n a) = some (F96 I n a) := fun I n a => by kernel_rfl
/-! impl.IsRef -/
def F94 (I : Interp) (n : Nat) (a : List PV) : Option (List PV) :=
  (some [(PV.bool (eqI (arith BinOp.and IntKind.i64 (nth a 0).toInt (1 : Int)) (0 : Int)))])
theorem e94 : ∀ I n a, (compF Try.prog sg 94).map (fun d => d.ev I n a) = some (F94 I n a) := fun I n a => by kernel_rfl
/-! impl.WordInt -/
def F158 (I : Interp) (n : Nat) (a : List PV) : Option (List PV) :=
  (iff (geI (1 : Int) (0 : Int))
  (some [(PV.int (arith BinOp.shr IntKind.i64 (nth a 0).toInt (1 : Int)))])
  none)
theorem e158 : ∀ I n a, (compF Try.prog sg 158).map (fun d => d.ev I n a) = some (F158 I n a) := fun I n a => by kernel_rfl
/-! impl.within -/
def F102 (I : Interp) (n : Nat) (a : List PV) : Option (List PV) :=
  (some [(selB (geI (nth a 0).toInt (nth a 1).toInt) (selB ((geI (nth a 0).toInt (nth a 1).toInt) == true) (PV.bool (leI (selB ((geI (nth a 0).toInt (nth a 1).toInt) == true) (nth a 0) PV.unit).toInt (selB ((geI (nth a 0).toInt (nth a 1).toInt) == true) (nth a 2) PV.unit).toInt)) PV.unit) (PV.bool false))])
theorem e102 : ∀ I n a, (compF Try.prog sg 102).map (fun d => d.ev I n a) = some (F102 I n a) := fun I n a => by kernel_rfl
/-! impl.copyInts -/
def F90 (I : Interp) (n : Nat) (a : List PV) : Option (List PV) :=
  (iff (leN (([] : List PV).length + (nth a 0).toList.length) 17592186044416)
  (some [(PV.list (([] : List PV) ++ (nth a 0).toList))])
  none)
theorem e90 : ∀ I n a, (compF Try.prog sg 90).map (fun d => d.ev I n a) = some (F90 I n a) := fun I n a => by kernel_rfl
/-! spec.l17Of -/
def F109 (I : Interp) (n : Nat) (a : List PV) : Option (List PV) :=
  (iff (geI (1 : Int) (0 : Int))
  (iff (geI (1 : Int) (0 : Int))
  (iff (neI (64 : Int) (0 : Int))
  (iff (geI (1 : Int) (0 : Int))
  (some [(PV.bool (eqI (arith BinOp.and IntKind.i64 (arith BinOp.shr IntKind.i64 (nth a 0).toInt (1 : Int)) (1 : Int)) (1 : Int))), (PV.int (arith BinOp.quo IntKind.i64 (arith BinOp.shr IntKind.i64 (arith BinOp.shr IntKind.i64 (nth a 0).toInt (1 : Int)) (1 : Int)) (64 : Int))), (PV.int (arith BinOp.and IntKind.i64 (arith BinOp.shr IntKind.i64 (arith BinOp.shr IntKind.i64 (nth a 0).toInt (1 : Int)) (1 : Int)) (63 : Int)))])
  none)
  none)
  none)
  none)
theorem e109 : ∀ I n a, (compF Try.prog sg 109).map (fun d => d.ev I n a) = some (F109 I n a) := fun I n a => by kernel_rfl
/-! spec.WordInt -/
def F157 (I : Interp) (n : Nat) (a : List PV) : Option (List PV) :=
  (iff (geI (1 : Int) (0 : Int))
  (some [(PV.int (arith BinOp.shr IntKind.i64 (nth a 0).toInt (1 : Int)))])
  none)
theorem e157 : ∀ I n a, (compF Try.prog sg 157).map (fun d => d.ev I n a) = some (F157 I n a) := fun I n a => by kernel_rfl
/-! spec.l4Has -/
def L168_0 (I : Interp) (n : Nat) (p0 : List PV) : Option (Ex × List PV) :=
  (iff (ltI (nth p0 0).toInt ((nth p0 1).toList.length : Int))
  (iff (geI (nth p0 0).toInt (0 : Int))
  (iff (ltI (nth p0 0).toInt ((nth p0 1).toList.length : Int))
  (iff (eqI (nth (nth p0 1).toList (nth p0 0).toInt.toNat).toInt (nth p0 2).toInt)
  (some (Ex.r, [(PV.bool true)]))
  (some (Ex.n, [(PV.int (IntKind.i64.wrap ((nth p0 0).toInt + (1 : Int)))), (nth p0 1), (nth p0 2)])))
  none)
  none)
  (some (Ex.x 0, [])))
def F168 (I : Interp) (n : Nat) (a : List PV) : Option (List PV) :=
  (thenN (thenE (loopEv (L168_0 I n) n [(PV.int (0 : Int)), (nth a 0), (nth a 1)])
  (passB 0))
  (fun p1 => (some [(PV.bool false)]))
  (retE fun q2 => [(nth q2 0)]))
theorem e168 : ∀ I n a, (compF Try.prog sg 168).map (fun d => d.ev I n a) = some (F168 I n a) := fun I n a => by kernel_rfl
/-! spec.WordRef -/
def F111 (I : Interp) (n : Nat) (a : List PV) : Option (List PV) :=
  (iff (geI (1 : Int) (0 : Int))
  (some [(PV.int (arith BinOp.shr IntKind.i64 (nth a 0).toInt (1 : Int)))])
  none)
theorem e111 : ∀ I n a, (compF Try.prog sg 111).map (fun d => d.ev I n a) = some (F111 I n a) := fun I n a => by kernel_rfl
/-! spec.IsRef -/
def F156 (I : Interp) (n : Nat) (a : List PV) : Option (List PV) :=
  (some [(PV.bool (eqI (arith BinOp.and IntKind.i64 (nth a 0).toInt (1 : Int)) (0 : Int)))])
theorem e156 : ∀ I n a, (compF Try.prog sg 156).map (fun d => d.ev I n a) = some (F156 I n a) := fun I n a => by kernel_rfl
/-! spec.l1Byte -/
def F165 (I : Interp) (n : Nat) (a : List PV) : Option (List PV) :=
  (iff (geI (33 : Int) (0 : Int))
  (iff (geI (45 : Int) (0 : Int))
  (thenN (iff (ltI (((nth a 0).setFld 2 (PV.int (IntKind.i64.wrap ((IntKind.i64.wrap (((nth a 0).fld 2).toInt * (6364136223846793005 : Int))) + (1442695040888963407 : Int))))).fld 1).toInt ((((nth a 0).setFld 2 (PV.int (IntKind.i64.wrap ((IntKind.i64.wrap (((nth a 0).fld 2).toInt * (6364136223846793005 : Int))) + (1442695040888963407 : Int))))).fld 0).toList.length : Int))
  (iff (geI (((nth a 0).setFld 2 (PV.int (IntKind.i64.wrap ((IntKind.i64.wrap (((nth a 0).fld 2).toInt * (6364136223846793005 : Int))) + (1442695040888963407 : Int))))).fld 1).toInt (0 : Int))
  (iff (ltI (((nth a 0).setFld 2 (PV.int (IntKind.i64.wrap ((IntKind.i64.wrap (((nth a 0).fld 2).toInt * (6364136223846793005 : Int))) + (1442695040888963407 : Int))))).fld 1).toInt ((((nth a 0).setFld 2 (PV.int (IntKind.i64.wrap ((IntKind.i64.wrap (((nth a 0).fld 2).toInt * (6364136223846793005 : Int))) + (1442695040888963407 : Int))))).fld 0).toList.length : Int))
  (some (Ex.n, [(((nth a 0).setFld 2 (PV.int (IntKind.i64.wrap ((IntKind.i64.wrap (((nth a 0).fld 2).toInt * (6364136223846793005 : Int))) + (1442695040888963407 : Int))))).setFld 1 (PV.int (IntKind.i64.wrap ((((nth a 0).setFld 2 (PV.int (IntKind.i64.wrap ((IntKind.i64.wrap (((nth a 0).fld 2).toInt * (6364136223846793005 : Int))) + (1442695040888963407 : Int))))).fld 1).toInt + (1 : Int))))), (PV.int (arith BinOp.and IntKind.i64 (IntKind.i64.wrap ((arith BinOp.and IntKind.i64 (arith BinOp.xor IntKind.i64 (arith BinOp.shr IntKind.i64 (((nth a 0).setFld 2 (PV.int (IntKind.i64.wrap ((IntKind.i64.wrap (((nth a 0).fld 2).toInt * (6364136223846793005 : Int))) + (1442695040888963407 : Int))))).fld 2).toInt (33 : Int)) (arith BinOp.shr IntKind.i64 (((nth a 0).setFld 2 (PV.int (IntKind.i64.wrap ((IntKind.i64.wrap (((nth a 0).fld 2).toInt * (6364136223846793005 : Int))) + (1442695040888963407 : Int))))).fld 2).toInt (45 : Int))) (255 : Int)) + (IntKind.i64.wrap (nth (((nth a 0).setFld 2 (PV.int (IntKind.i64.wrap ((IntKind.i64.wrap (((nth a 0).fld 2).toInt * (6364136223846793005 : Int))) + (1442695040888963407 : Int))))).fld 0).toList (((nth a 0).setFld 2 (PV.int (IntKind.i64.wrap ((IntKind.i64.wrap (((nth a 0).fld 2).toInt * (6364136223846793005 : Int))) + (1442695040888963407 : Int))))).fld 1).toInt.toNat).toInt))) (255 : Int)))]))
  none)
  none)
  (some (Ex.n, [((nth a 0).setFld 2 (PV.int (IntKind.i64.wrap ((IntKind.i64.wrap (((nth a 0).fld 2).toInt * (6364136223846793005 : Int))) + (1442695040888963407 : Int))))), (PV.int (arith BinOp.and IntKind.i64 (arith BinOp.xor IntKind.i64 (arith BinOp.shr IntKind.i64 (((nth a 0).setFld 2 (PV.int (IntKind.i64.wrap ((IntKind.i64.wrap (((nth a 0).fld 2).toInt * (6364136223846793005 : Int))) + (1442695040888963407 : Int))))).fld 2).toInt (33 : Int)) (arith BinOp.shr IntKind.i64 (((nth a 0).setFld 2 (PV.int (IntKind.i64.wrap ((IntKind.i64.wrap (((nth a 0).fld 2).toInt * (6364136223846793005 : Int))) + (1442695040888963407 : Int))))).fld 2).toInt (45 : Int))) (255 : Int)))])))
  (fun p0 => (some [(nth p0 1), (nth p0 0)]))
  (retE fun q1 => [(nth q1 1), (nth q1 0)]))
  none)
  none)
theorem e165 : ∀ I n a, (compF Try.prog sg 165).map (fun d => d.ev I n a) = some (F165 I n a) := fun I n a => by kernel_rfl
/-! spec.l1Byte -/
def F4261 (I : Interp) (n : Nat) (a : List PV) : Option (List PV) :=
  (iff (geI (33 : Int) (0 : Int))
  (iff (geI (45 : Int) (0 : Int))
  (thenN (iff (ltI (((nth a 0).setFld 2 (PV.int (IntKind.i64.wrap ((IntKind.i64.wrap (((nth a 0).fld 2).toInt * (6364136223846793005 : Int))) + (1442695040888963407 : Int))))).fld 1).toInt ((((nth a 0).setFld 2 (PV.int (IntKind.i64.wrap ((IntKind.i64.wrap (((nth a 0).fld 2).toInt * (6364136223846793005 : Int))) + (1442695040888963407 : Int))))).fld 0).toList.length : Int))
  (iff (geI (((nth a 0).setFld 2 (PV.int (IntKind.i64.wrap ((IntKind.i64.wrap (((nth a 0).fld 2).toInt * (6364136223846793005 : Int))) + (1442695040888963407 : Int))))).fld 1).toInt (0 : Int))
  (iff (ltI (((nth a 0).setFld 2 (PV.int (IntKind.i64.wrap ((IntKind.i64.wrap (((nth a 0).fld 2).toInt * (6364136223846793005 : Int))) + (1442695040888963407 : Int))))).fld 1).toInt ((((nth a 0).setFld 2 (PV.int (IntKind.i64.wrap ((IntKind.i64.wrap (((nth a 0).fld 2).toInt * (6364136223846793005 : Int))) + (1442695040888963407 : Int))))).fld 0).toList.length : Int))
  (some (Ex.n, [(((nth a 0).setFld 2 (PV.int (IntKind.i64.wrap ((IntKind.i64.wrap (((nth a 0).fld 2).toInt * (6364136223846793005 : Int))) + (1442695040888963407 : Int))))).setFld 1 (PV.int (IntKind.i64.wrap ((((nth a 0).setFld 2 (PV.int (IntKind.i64.wrap ((IntKind.i64.wrap (((nth a 0).fld 2).toInt * (6364136223846793005 : Int))) + (1442695040888963407 : Int))))).fld 1).toInt + (1 : Int))))), (PV.int (arith BinOp.and IntKind.i64 (IntKind.i64.wrap ((arith BinOp.and IntKind.i64 (arith BinOp.xor IntKind.i64 (arith BinOp.shr IntKind.i64 (((nth a 0).setFld 2 (PV.int (IntKind.i64.wrap ((IntKind.i64.wrap (((nth a 0).fld 2).toInt * (6364136223846793005 : Int))) + (1442695040888963407 : Int))))).fld 2).toInt (33 : Int)) (arith BinOp.shr IntKind.i64 (((nth a 0).setFld 2 (PV.int (IntKind.i64.wrap ((IntKind.i64.wrap (((nth a 0).fld 2).toInt * (6364136223846793005 : Int))) + (1442695040888963407 : Int))))).fld 2).toInt (45 : Int))) (255 : Int)) + (IntKind.i64.wrap (nth (((nth a 0).setFld 2 (PV.int (IntKind.i64.wrap ((IntKind.i64.wrap (((nth a 0).fld 2).toInt * (6364136223846793005 : Int))) + (1442695040888963407 : Int))))).fld 0).toList (((nth a 0).setFld 2 (PV.int (IntKind.i64.wrap ((IntKind.i64.wrap (((nth a 0).fld 2).toInt * (6364136223846793005 : Int))) + (1442695040888963407 : Int))))).fld 1).toInt.toNat).toInt))) (255 : Int)))]))
  none)
  none)
  (some (Ex.n, [((nth a 0).setFld 2 (PV.int (IntKind.i64.wrap ((IntKind.i64.wrap (((nth a 0).fld 2).toInt * (6364136223846793005 : Int))) + (1442695040888963407 : Int))))), (PV.int (arith BinOp.and IntKind.i64 (arith BinOp.xor IntKind.i64 (arith BinOp.shr IntKind.i64 (((nth a 0).setFld 2 (PV.int (IntKind.i64.wrap ((IntKind.i64.wrap (((nth a 0).fld 2).toInt * (6364136223846793005 : Int))) + (1442695040888963407 : Int))))).fld 2).toInt (33 : Int)) (arith BinOp.shr IntKind.i64 (((nth a 0).setFld 2 (PV.int (IntKind.i64.wrap ((IntKind.i64.wrap (((nth a 0).fld 2).toInt * (6364136223846793005 : Int))) + (1442695040888963407 : Int))))).fld 2).toInt (45 : Int))) (255 : Int)))])))
  (fun p0 => (some [(nth p0 1), (nth p0 0)]))
  (retE fun q1 => [(nth q1 1), (nth q1 0)]))
  none)
  none)
theorem e4261 : ∀ I n a, (compF Try.prog sg 4261).map (fun d => d.ev I n a) = some (F4261 I n a) := fun I n a => by kernel_rfl
/-! spec.l1In -/
def F104 (I : Interp) (n : Nat) (a : List PV) : Option (List PV) :=
  (some [(selB (geI (nth a 0).toInt (nth a 1).toInt) (selB ((geI (nth a 0).toInt (nth a 1).toInt) == true) (PV.bool (leI (selB ((geI (nth a 0).toInt (nth a 1).toInt) == true) (nth a 0) PV.unit).toInt (selB ((geI (nth a 0).toInt (nth a 1).toInt) == true) (nth a 2) PV.unit).toInt)) PV.unit) (PV.bool false))])
theorem e104 : ∀ I n a, (compF Try.prog sg 104).map (fun d => d.ev I n a) = some (F104 I n a) := fun I n a => by kernel_rfl
/-! spec.l1New -/
def L97_0 (I : Interp) (n : Nat) (p0 : List PV) : Option (Ex × List PV) :=
  (iff (selB (ltI (nth p0 0).toInt ((nth p0 1).toList.length : Int)) (selB ((ltI (nth p0 0).toInt ((nth p0 1).toList.length : Int)) == true) (PV.bool (ltI (selB ((ltI (nth p0 0).toInt ((nth p0 1).toList.length : Int)) == true) (nth p0 0) PV.unit).toInt (4000 : Int))) PV.unit) (PV.bool false)).toBool
  (iff (geI (nth p0 0).toInt (0 : Int))
  (iff (ltI (nth p0 0).toInt ((nth p0 1).toList.length : Int))
  (some (Ex.n, [(PV.int (IntKind.i64.wrap ((nth p0 0).toInt + (1 : Int)))), (nth p0 1), (PV.int (arith BinOp.and IntKind.i64 (IntKind.i64.wrap ((IntKind.i64.wrap ((IntKind.i64.wrap ((nth p0 2).toInt * (131 : Int))) + (IntKind.i64.wrap (nth (nth p0 1).toList (nth p0 0).toInt.toNat).toInt))) + (7 : Int))) (1073741823 : Int)))]))
  none)
  none)
  (some (Ex.x 0, [(nth p0 1), (nth p0 2)])))
def F97 (I : Interp) (n : Nat) (a : List PV) : Option (List PV) :=
  (thenN (thenE (loopEv (L97_0 I n) n [(PV.int (0 : Int)), (nth a 0), (PV.int (IntKind.i64.wrap ((24659 : Int) + ((nth a 0).toList.length : Int))))])
  (passB 0))
  (fun p1 => (some [(PV.agg [(nth p1 0), (PV.int (0 : Int)), (nth p1 1)])]))
  (retE fun q2 => [(nth q2 0)]))
theorem e97 : ∀ I n a, (compF Try.prog sg 97).map (fun d => d.ev I n a) = some (F97 I n a) := fun I n a => by kernel_rfl
/-! laws.big -/
def F28 (I : Interp) (n : Nat) (a : List PV) : Option (List PV) :=
  (some [(PV.bool (gtI ((nth a 0).toList.length : Int) (1048576 : Int)))])
theorem e28 : ∀ I n a, (compF Try.prog sg 28).map (fun d => d.ev I n a) = some (F28 I n a) := fun I n a => by kernel_rfl
/-! spec.RefWord -/
def F191 (I : Interp) (n : Nat) (a : List PV) : Option (List PV) :=
  ((I 104 [(nth a 0), (PV.int (0 : Int)), (PV.int (6000 : Int))]).bind fun r0 =>
  (iff (!(nth r0 0).toBool)
  (some [(PV.int (0 : Int))])
  (some [(PV.int (IntKind.i64.wrap ((2 : Int) * (nth a 0).toInt)))])))
theorem e191 : ∀ I n a, (compF Try.prog sg 191).map (fun d => d.ev I n a) = some (F191 I n a) := fun I n a => by kernel_rfl
/-! cmp.Less[int] -/
def F194 (I : Interp) (n : Nat) (a : List PV) : Option (List PV) :=
  ((I 220 [(nth a 0)]).bind fun r0 =>
  ((iff ((nth r0 0).isB true)
  ((I 220 [(selB ((nth r0 0).isB true) (nth a 1) PV.unit)]).bind fun r1 =>
  (some [(nth r1 0), (nth r1 0)]))
  (some [PV.unit, PV.unit])).bind fun g2 =>
  (some [(selB (selB (nth r0 0).toBool (selB ((nth r0 0).isB true) (PV.bool (!(nth g2 0).toBool)) PV.unit) (PV.bool false)).toBool (PV.bool true) (selB ((selB (nth r0 0).toBool (selB ((nth r0 0).isB true) (PV.bool (!(nth g2 0).toBool)) PV.unit) (PV.bool false)).isB false) (PV.bool (ltI (selB ((selB (nth r0 0).toBool (selB ((nth r0 0).isB true) (PV.bool (!(nth g2 0).toBool)) PV.unit) (PV.bool false)).isB false) (nth a 0) PV.unit).toInt (selB ((selB (nth r0 0).toBool (selB ((nth r0 0).isB true) (PV.bool (!(nth g2 0).toBool)) PV.unit) (PV.bool false)).isB false) (nth a 1) PV.unit).toInt)) PV.unit))])))
theorem e194 : ∀ I n a, (compF Try.prog sg 194).map (fun d => d.ev I n a) = some (F194 I n a) := fun I n a => by kernel_rfl
/-! spec.l7In -/
def F113 (I : Interp) (n : Nat) (a : List PV) : Option (List PV) :=
  ((I 168 [(nth a 0), (nth a 1)]).bind fun r0 =>
  (some [(nth r0 0)]))
theorem e113 : ∀ I n a, (compF Try.prog sg 113).map (fun d => d.ev I n a) = some (F113 I n a) := fun I n a => by kernel_rfl
/-! impl.copyHeap -/
def F89 (I : Interp) (n : Nat) (a : List PV) : Option (List PV) :=
  ((I 90 [((nth a 0).fld 0)]).bind fun r0 =>
  (some [((nth a 0).setFld 0 (nth r0 0))]))
theorem e89 : ∀ I n a, (compF Try.prog sg 89).map (fun d => d.ev I n a) = some (F89 I n a) := fun I n a => by kernel_rfl
/-! spec.l17Head -/
def F166 (I : Interp) (n : Nat) (a : List PV) : Option (List PV) :=
  ((I 193 [(nth a 0)]).bind fun r0 =>
  (some [(PV.int (IntKind.i64.wrap ((IntKind.i64.wrap ((2 : Int) * (IntKind.i64.wrap ((IntKind.i64.wrap ((2 : Int) * (IntKind.i64.wrap ((IntKind.i64.wrap ((64 : Int) * (nth a 1).toInt)) + (nth a 2).toInt)))) + (nth r0 0).toInt)))) + (1 : Int))))]))
theorem e166 : ∀ I n a, (compF Try.prog sg 166).map (fun d => d.ev I n a) = some (F166 I n a) := fun I n a => by kernel_rfl
/-! laws.sameHeap -/
def F32 (I : Interp) (n : Nat) (a : List PV) : Option (List PV) :=
  ((iff ((selB (selB (eqI ((nth a 0).fld 1).toInt ((nth a 1).fld 1).toInt) (selB ((eqI ((nth a 0).fld 1).toInt ((nth a 1).fld 1).toInt) == true) (PV.bool (eqI (selB ((eqI ((nth a 0).fld 1).toInt ((nth a 1).fld 1).toInt) == true) ((nth a 0).fld 2) PV.unit).toInt (selB ((eqI ((nth a 0).fld 1).toInt ((nth a 1).fld 1).toInt) == true) ((nth a 1).fld 2) PV.unit).toInt)) PV.unit) (PV.bool false)).toBool (selB ((selB (eqI ((nth a 0).fld 1).toInt ((nth a 1).fld 1).toInt) (selB ((eqI ((nth a 0).fld 1).toInt ((nth a 1).fld 1).toInt) == true) (PV.bool (eqI (selB ((eqI ((nth a 0).fld 1).toInt ((nth a 1).fld 1).toInt) == true) ((nth a 0).fld 2) PV.unit).toInt (selB ((eqI ((nth a 0).fld 1).toInt ((nth a 1).fld 1).toInt) == true) ((nth a 1).fld 2) PV.unit).toInt)) PV.unit) (PV.bool false)).isB true) (PV.bool (eqI (selB ((selB (eqI ((nth a 0).fld 1).toInt ((nth a 1).fld 1).toInt) (selB ((eqI ((nth a 0).fld 1).toInt ((nth a 1).fld 1).toInt) == true) (PV.bool (eqI (selB ((eqI ((nth a 0).fld 1).toInt ((nth a 1).fld 1).toInt) == true) ((nth a 0).fld 2) PV.unit).toInt (selB ((eqI ((nth a 0).fld 1).toInt ((nth a 1).fld 1).toInt) == true) ((nth a 1).fld 2) PV.unit).toInt)) PV.unit) (PV.bool false)).isB true) ((nth a 0).fld 3) PV.unit).toInt (selB ((selB (eqI ((nth a 0).fld 1).toInt ((nth a 1).fld 1).toInt) (selB ((eqI ((nth a 0).fld 1).toInt ((nth a 1).fld 1).toInt) == true) (PV.bool (eqI (selB ((eqI ((nth a 0).fld 1).toInt ((nth a 1).fld 1).toInt) == true) ((nth a 0).fld 2) PV.unit).toInt (selB ((eqI ((nth a 0).fld 1).toInt ((nth a 1).fld 1).toInt) == true) ((nth a 1).fld 2) PV.unit).toInt)) PV.unit) (PV.bool false)).isB true) ((nth a 1).fld 3) PV.unit).toInt)) PV.unit) (PV.bool false)).isB true)
  ((I 42 [(selB ((selB (selB (eqI ((nth a 0).fld 1).toInt ((nth a 1).fld 1).toInt) (selB ((eqI ((nth a 0).fld 1).toInt ((nth a 1).fld 1).toInt) == true) (PV.bool (eqI (selB ((eqI ((nth a 0).fld 1).toInt ((nth a 1).fld 1).toInt) == true) ((nth a 0).fld 2) PV.unit).toInt (selB ((eqI ((nth a 0).fld 1).toInt ((nth a 1).fld 1).toInt) == true) ((nth a 1).fld 2) PV.unit).toInt)) PV.unit) (PV.bool false)).toBool (selB ((selB (eqI ((nth a 0).fld 1).toInt ((nth a 1).fld 1).toInt) (selB ((eqI ((nth a 0).fld 1).toInt ((nth a 1).fld 1).toInt) == true) (PV.bool (eqI (selB ((eqI ((nth a 0).fld 1).toInt ((nth a 1).fld 1).toInt) == true) ((nth a 0).fld 2) PV.unit).toInt (selB ((eqI ((nth a 0).fld 1).toInt ((nth a 1).fld 1).toInt) == true) ((nth a 1).fld 2) PV.unit).toInt)) PV.unit) (PV.bool false)).isB true) (PV.bool (eqI (selB ((selB (eqI ((nth a 0).fld 1).toInt ((nth a 1).fld 1).toInt) (selB ((eqI ((nth a 0).fld 1).toInt ((nth a 1).fld 1).toInt) == true) (PV.bool (eqI (selB ((eqI ((nth a 0).fld 1).toInt ((nth a 1).fld 1).toInt) == true) ((nth a 0).fld 2) PV.unit).toInt (selB ((eqI ((nth a 0).fld 1).toInt ((nth a 1).fld 1).toInt) == true) ((nth a 1).fld 2) PV.unit).toInt)) PV.unit) (PV.bool false)).isB true) ((nth a 0).fld 3) PV.unit).toInt (selB ((selB (eqI ((nth a 0).fld 1).toInt ((nth a 1).fld 1).toInt) (selB ((eqI ((nth a 0).fld 1).toInt ((nth a 1).fld 1).toInt) == true) (PV.bool (eqI (selB ((eqI ((nth a 0).fld 1).toInt ((nth a 1).fld 1).toInt) == true) ((nth a 0).fld 2) PV.unit).toInt (selB ((eqI ((nth a 0).fld 1).toInt ((nth a 1).fld 1).toInt) == true) ((nth a 1).fld 2) PV.unit).toInt)) PV.unit) (PV.bool false)).isB true) ((nth a 1).fld 3) PV.unit).toInt)) PV.unit) (PV.bool false)).isB true) ((nth a 0).fld 0) PV.unit), (selB ((selB (selB (eqI ((nth a 0).fld 1).toInt ((nth a 1).fld 1).toInt) (selB ((eqI ((nth a 0).fld 1).toInt ((nth a 1).fld 1).toInt) == true) (PV.bool (eqI (selB ((eqI ((nth a 0).fld 1).toInt ((nth a 1).fld 1).toInt) == true) ((nth a 0).fld 2) PV.unit).toInt (selB ((eqI ((nth a 0).fld 1).toInt ((nth a 1).fld 1).toInt) == true) ((nth a 1).fld 2) PV.unit).toInt)) PV.unit) (PV.bool false)).toBool (selB ((selB (eqI ((nth a 0).fld 1).toInt ((nth a 1).fld 1).toInt) (selB ((eqI ((nth a 0).fld 1).toInt ((nth a 1).fld 1).toInt) == true) (PV.bool (eqI (selB ((eqI ((nth a 0).fld 1).toInt ((nth a 1).fld 1).toInt) == true) ((nth a 0).fld 2) PV.unit).toInt (selB ((eqI ((nth a 0).fld 1).toInt ((nth a 1).fld 1).toInt) == true) ((nth a 1).fld 2) PV.unit).toInt)) PV.unit) (PV.bool false)).isB true) (PV.bool (eqI (selB ((selB (eqI ((nth a 0).fld 1).toInt ((nth a 1).fld 1).toInt) (selB ((eqI ((nth a 0).fld 1).toInt ((nth a 1).fld 1).toInt) == true) (PV.bool (eqI (selB ((eqI ((nth a 0).fld 1).toInt ((nth a 1).fld 1).toInt) == true) ((nth a 0).fld 2) PV.unit).toInt (selB ((eqI ((nth a 0).fld 1).toInt ((nth a 1).fld 1).toInt) == true) ((nth a 1).fld 2) PV.unit).toInt)) PV.unit) (PV.bool false)).isB true) ((nth a 0).fld 3) PV.unit).toInt (selB ((selB (eqI ((nth a 0).fld 1).toInt ((nth a 1).fld 1).toInt) (selB ((eqI ((nth a 0).fld 1).toInt ((nth a 1).fld 1).toInt) == true) (PV.bool (eqI (selB ((eqI ((nth a 0).fld 1).toInt ((nth a 1).fld 1).toInt) == true) ((nth a 0).fld 2) PV.unit).toInt (selB ((eqI ((nth a 0).fld 1).toInt ((nth a 1).fld 1).toInt) == true) ((nth a 1).fld 2) PV.unit).toInt)) PV.unit) (PV.bool false)).isB true) ((nth a 1).fld 3) PV.unit).toInt)) PV.unit) (PV.bool false)).isB true) ((nth a 1).fld 0) PV.unit)]).bind fun r0 =>
  (some [(nth r0 0), (nth r0 0)]))
  (some [PV.unit, PV.unit])).bind fun g1 =>
  (some [(selB (selB (selB (eqI ((nth a 0).fld 1).toInt ((nth a 1).fld 1).toInt) (selB ((eqI ((nth a 0).fld 1).toInt ((nth a 1).fld 1).toInt) == true) (PV.bool (eqI (selB ((eqI ((nth a 0).fld 1).toInt ((nth a 1).fld 1).toInt) == true) ((nth a 0).fld 2) PV.unit).toInt (selB ((eqI ((nth a 0).fld 1).toInt ((nth a 1).fld 1).toInt) == true) ((nth a 1).fld 2) PV.unit).toInt)) PV.unit) (PV.bool false)).toBool (selB ((selB (eqI ((nth a 0).fld 1).toInt ((nth a 1).fld 1).toInt) (selB ((eqI ((nth a 0).fld 1).toInt ((nth a 1).fld 1).toInt) == true) (PV.bool (eqI (selB ((eqI ((nth a 0).fld 1).toInt ((nth a 1).fld 1).toInt) == true) ((nth a 0).fld 2) PV.unit).toInt (selB ((eqI ((nth a 0).fld 1).toInt ((nth a 1).fld 1).toInt) == true) ((nth a 1).fld 2) PV.unit).toInt)) PV.unit) (PV.bool false)).isB true) (PV.bool (eqI (selB ((selB (eqI ((nth a 0).fld 1).toInt ((nth a 1).fld 1).toInt) (selB ((eqI ((nth a 0).fld 1).toInt ((nth a 1).fld 1).toInt) == true) (PV.bool (eqI (selB ((eqI ((nth a 0).fld 1).toInt ((nth a 1).fld 1).toInt) == true) ((nth a 0).fld 2) PV.unit).toInt (selB ((eqI ((nth a 0).fld 1).toInt ((nth a 1).fld 1).toInt) == true) ((nth a 1).fld 2) PV.unit).toInt)) PV.unit) (PV.bool false)).isB true) ((nth a 0).fld 3) PV.unit).toInt (selB ((selB (eqI ((nth a 0).fld 1).toInt ((nth a 1).fld 1).toInt) (selB ((eqI ((nth a 0).fld 1).toInt ((nth a 1).fld 1).toInt) == true) (PV.bool (eqI (selB ((eqI ((nth a 0).fld 1).toInt ((nth a 1).fld 1).toInt) == true) ((nth a 0).fld 2) PV.unit).toInt (selB ((eqI ((nth a 0).fld 1).toInt ((nth a 1).fld 1).toInt) == true) ((nth a 1).fld 2) PV.unit).toInt)) PV.unit) (PV.bool false)).isB true) ((nth a 1).fld 3) PV.unit).toInt)) PV.unit) (PV.bool false)).toBool (nth g1 0) (PV.bool false))]))
theorem e32 : ∀ I n a, (compF Try.prog sg 32).map (fun d => d.ev I n a) = some (F32 I n a) := fun I n a => by kernel_rfl
/-! impl.WordOk -/
def F120 (I : Interp) (n : Nat) (a : List PV) : Option (List PV) :=
  ((I 102 [(nth a 0), (PV.int (-1073741824 : Int)), (PV.int (1073741823 : Int))]).bind fun r0 =>
  (some [(nth r0 0)]))
theorem e120 : ∀ I n a, (compF Try.prog sg 120).map (fun d => d.ev I n a) = some (F120 I n a) := fun I n a => by kernel_rfl
/-! spec.HeapNew -/
def F41 (I : Interp) (n : Nat) (a : List PV) : Option (List PV) :=
  ((I 104 [(nth a 0), (PV.int (1 : Int)), (PV.int (3000 : Int))]).bind fun r0 =>
  (iff (!(nth r0 0).toBool)
  (some [(PV.agg [(PV.list ([] : List PV)), (PV.int (0 : Int)), (PV.int (0 : Int)), (PV.int (0 : Int))]), (PV.bool false)])
  (iff (geI (IntKind.i64.wrap ((2 : Int) * (nth a 0).toInt)) (0 : Int))
  (iff (leI (IntKind.i64.wrap ((2 : Int) * (nth a 0).toInt)) (IntKind.i64.wrap ((2 : Int) * (nth a 0).toInt)))
  (iff (leI (IntKind.i64.wrap ((2 : Int) * (nth a 0).toInt)) (17592186044416 : Int))
  (some [(PV.agg [(PV.list (List.replicate (IntKind.i64.wrap ((2 : Int) * (nth a 0).toInt)).toNat (PV.int (0 : Int)))), (nth a 0), (PV.int (0 : Int)), (PV.int (0 : Int))]), (PV.bool true)])
  none)
  none)
  none)))
theorem e41 : ∀ I n a, (compF Try.prog sg 41).map (fun d => d.ev I n a) = some (F41 I n a) := fun I n a => by kernel_rfl
/-! spec.WordOk -/
def F117 (I : Interp) (n : Nat) (a : List PV) : Option (List PV) :=
  ((I 104 [(nth a 0), (PV.int (-1073741824 : Int)), (PV.int (1073741823 : Int))]).bind fun r0 =>
  (some [(nth r0 0)]))
theorem e117 : ∀ I n a, (compF Try.prog sg 117).map (fun d => d.ev I n a) = some (F117 I n a) := fun I n a => by kernel_rfl
/-! spec.l1Below -/
def F99 (I : Interp) (n : Nat) (a : List PV) : Option (List PV) :=
  (iff (leI (nth a 1).toInt (0 : Int))
  (some [(PV.int (0 : Int)), (nth a 0)])
  (iff (leI (nth a 1).toInt (256 : Int))
  ((I 165 [(nth a 0)]).bind fun r0 =>
  (iff (neI (nth a 1).toInt (0 : Int))
  (some [(PV.int (arith BinOp.rem IntKind.i64 (nth r0 0).toInt (nth a 1).toInt)), (nth r0 1)])
  none))
  ((I 165 [(nth a 0)]).bind fun r1 =>
  ((I 165 [(nth r1 1)]).bind fun r2 =>
  ((I 165 [(nth r2 1)]).bind fun r3 =>
  ((I 165 [(nth r3 1)]).bind fun r4 =>
  (iff (neI (nth a 1).toInt (0 : Int))
  (some [(PV.int (arith BinOp.rem IntKind.i64 (IntKind.i64.wrap ((IntKind.i64.wrap ((IntKind.i64.wrap ((IntKind.i64.wrap ((nth r1 0).toInt * (16777216 : Int))) + (IntKind.i64.wrap ((nth r2 0).toInt * (65536 : Int))))) + (IntKind.i64.wrap ((nth r3 0).toInt * (256 : Int))))) + (nth r4 0).toInt)) (nth a 1).toInt)), (nth r4 1)])
  none)))))))
theorem e99 : ∀ I n a, (compF Try.prog sg 99).map (fun d => d.ev I n a) = some (F99 I n a) := fun I n a => by kernel_rfl
/-! spec.l1Below -/
def F4195 (I : Interp) (n : Nat) (a : List PV) : Option (List PV) :=
  (iff (leI (nth a 1).toInt (0 : Int))
  (some [(PV.int (0 : Int)), (nth a 0)])
  (iff (leI (nth a 1).toInt (256 : Int))
  ((I 4261 [(nth a 0)]).bind fun r0 =>
  (iff (neI (nth a 1).toInt (0 : Int))
  (some [(PV.int (arith BinOp.rem IntKind.i64 (nth r0 0).toInt (nth a 1).toInt)), (nth r0 1)])
  none))
  ((I 4261 [(nth a 0)]).bind fun r1 =>
  ((I 4261 [(nth r1 1)]).bind fun r2 =>
  ((I 4261 [(nth r2 1)]).bind fun r3 =>
  ((I 4261 [(nth r3 1)]).bind fun r4 =>
  (iff (neI (nth a 1).toInt (0 : Int))
  (some [(PV.int (arith BinOp.rem IntKind.i64 (IntKind.i64.wrap ((IntKind.i64.wrap ((IntKind.i64.wrap ((IntKind.i64.wrap ((nth r1 0).toInt * (16777216 : Int))) + (IntKind.i64.wrap ((nth r2 0).toInt * (65536 : Int))))) + (IntKind.i64.wrap ((nth r3 0).toInt * (256 : Int))))) + (nth r4 0).toInt)) (nth a 1).toInt)), (nth r4 1)])
  none)))))))
theorem e4195 : ∀ I n a, (compF Try.prog sg 4195).map (fun d => d.ev I n a) = some (F4195 I n a) := fun I n a => by kernel_rfl
/-! impl.HeapNew -/
def F40 (I : Interp) (n : Nat) (a : List PV) : Option (List PV) :=
  ((I 102 [(nth a 0), (PV.int (1 : Int)), (PV.int (3000 : Int))]).bind fun r0 =>
  (iff (!(nth r0 0).toBool)
  (some [(PV.agg [(PV.list ([] : List PV)), (PV.int (0 : Int)), (PV.int (0 : Int)), (PV.int (0 : Int))]), (PV.bool false)])
  (iff (geI (IntKind.i64.wrap ((2 : Int) * (nth a 0).toInt)) (0 : Int))
  (iff (leI (IntKind.i64.wrap ((2 : Int) * (nth a 0).toInt)) (IntKind.i64.wrap ((2 : Int) * (nth a 0).toInt)))
  (iff (leI (IntKind.i64.wrap ((2 : Int) * (nth a 0).toInt)) (17592186044416 : Int))
  (some [(PV.agg [(PV.list (List.replicate (IntKind.i64.wrap ((2 : Int) * (nth a 0).toInt)).toNat (PV.int (0 : Int)))), (nth a 0), (PV.int (0 : Int)), (PV.int (0 : Int))]), (PV.bool true)])
  none)
  none)
  none)))
theorem e40 : ∀ I n a, (compF Try.prog sg 40).map (fun d => d.ev I n a) = some (F40 I n a) := fun I n a => by kernel_rfl
/-! spec.l17Places -/
def L79_0 (I : Interp) (n : Nat) (p0 : List PV) : Option (Ex × List PV) :=
  (iff (ltI (nth p0 0).toInt ((nth p0 2).fld 3).toInt)
  (iff (geI (nth p0 0).toInt (0 : Int))
  (iff (ltI (nth p0 0).toInt (((nth p0 2).fld 0).toList.length : Int))
  ((I 109 [(nth ((nth p0 2).fld 0).toList (nth p0 0).toInt.toNat)]).bind fun r1 =>
  ((iff ((ltI (nth ((nth p0 2).fld 0).toList (nth p0 0).toInt.toNat).toInt (0 : Int)) == false)
  ((I 156 [(selB ((ltI (nth ((nth p0 2).fld 0).toList (nth p0 0).toInt.toNat).toInt (0 : Int)) == false) (nth ((nth p0 2).fld 0).toList (nth p0 0).toInt.toNat) PV.unit)]).bind fun r2 =>
  (some [(nth r2 0), (nth r2 0)]))
  (some [PV.unit, PV.unit])).bind fun g3 =>
  (iff (selB (selB (selB (selB (ltI (nth ((nth p0 2).fld 0).toList (nth p0 0).toInt.toNat).toInt (0 : Int)) (PV.bool true) (nth g3 0)).toBool (PV.bool true) (selB ((selB (ltI (nth ((nth p0 2).fld 0).toList (nth p0 0).toInt.toNat).toInt (0 : Int)) (PV.bool true) (nth g3 0)).isB false) (PV.bool (gtI (selB ((selB (ltI (nth ((nth p0 2).fld 0).toList (nth p0 0).toInt.toNat).toInt (0 : Int)) (PV.bool true) (nth g3 0)).isB false) (nth r1 1) PV.unit).toInt (3000 : Int))) PV.unit)).toBool (PV.bool true) (selB ((selB (selB (ltI (nth ((nth p0 2).fld 0).toList (nth p0 0).toInt.toNat).toInt (0 : Int)) (PV.bool true) (nth g3 0)).toBool (PV.bool true) (selB ((selB (ltI (nth ((nth p0 2).fld 0).toList (nth p0 0).toInt.toNat).toInt (0 : Int)) (PV.bool true) (nth g3 0)).isB false) (PV.bool (gtI (selB ((selB (ltI (nth ((nth p0 2).fld 0).toList (nth p0 0).toInt.toNat).toInt (0 : Int)) (PV.bool true) (nth g3 0)).isB false) (nth r1 1) PV.unit).toInt (3000 : Int))) PV.unit)).isB false) (PV.bool (gtI (selB ((selB (selB (ltI (nth ((nth p0 2).fld 0).toList (nth p0 0).toInt.toNat).toInt (0 : Int)) (PV.bool true) (nth g3 0)).toBool (PV.bool true) (selB ((selB (ltI (nth ((nth p0 2).fld 0).toList (nth p0 0).toInt.toNat).toInt (0 : Int)) (PV.bool true) (nth g3 0)).isB false) (PV.bool (gtI (selB ((selB (ltI (nth ((nth p0 2).fld 0).toList (nth p0 0).toInt.toNat).toInt (0 : Int)) (PV.bool true) (nth g3 0)).isB false) (nth r1 1) PV.unit).toInt (3000 : Int))) PV.unit)).isB false) (nth r1 2) PV.unit).toInt (20 : Int))) PV.unit)).toBool (PV.bool true) (selB ((selB (selB (selB (ltI (nth ((nth p0 2).fld 0).toList (nth p0 0).toInt.toNat).toInt (0 : Int)) (PV.bool true) (nth g3 0)).toBool (PV.bool true) (selB ((selB (ltI (nth ((nth p0 2).fld 0).toList (nth p0 0).toInt.toNat).toInt (0 : Int)) (PV.bool true) (nth g3 0)).isB false) (PV.bool (gtI (selB ((selB (ltI (nth ((nth p0 2).fld 0).toList (nth p0 0).toInt.toNat).toInt (0 : Int)) (PV.bool true) (nth g3 0)).isB false) (nth r1 1) PV.unit).toInt (3000 : Int))) PV.unit)).toBool (PV.bool true) (selB ((selB (selB (ltI (nth ((nth p0 2).fld 0).toList (nth p0 0).toInt.toNat).toInt (0 : Int)) (PV.bool true) (nth g3 0)).toBool (PV.bool true) (selB ((selB (ltI (nth ((nth p0 2).fld 0).toList (nth p0 0).toInt.toNat).toInt (0 : Int)) (PV.bool true) (nth g3 0)).isB false) (PV.bool (gtI (selB ((selB (ltI (nth ((nth p0 2).fld 0).toList (nth p0 0).toInt.toNat).toInt (0 : Int)) (PV.bool true) (nth g3 0)).isB false) (nth r1 1) PV.unit).toInt (3000 : Int))) PV.unit)).isB false) (PV.bool (gtI (selB ((selB (selB (ltI (nth ((nth p0 2).fld 0).toList (nth p0 0).toInt.toNat).toInt (0 : Int)) (PV.bool true) (nth g3 0)).toBool (PV.bool true) (selB ((selB (ltI (nth ((nth p0 2).fld 0).toList (nth p0 0).toInt.toNat).toInt (0 : Int)) (PV.bool true) (nth g3 0)).isB false) (PV.bool (gtI (selB ((selB (ltI (nth ((nth p0 2).fld 0).toList (nth p0 0).toInt.toNat).toInt (0 : Int)) (PV.bool true) (nth g3 0)).isB false) (nth r1 1) PV.unit).toInt (3000 : Int))) PV.unit)).isB false) (nth r1 2) PV.unit).toInt (20 : Int))) PV.unit)).isB false) (PV.bool (geI (selB ((selB (selB (selB (ltI (nth ((nth p0 2).fld 0).toList (nth p0 0).toInt.toNat).toInt (0 : Int)) (PV.bool true) (nth g3 0)).toBool (PV.bool true) (selB ((selB (ltI (nth ((nth p0 2).fld 0).toList (nth p0 0).toInt.toNat).toInt (0 : Int)) (PV.bool true) (nth g3 0)).isB false) (PV.bool (gtI (selB ((selB (ltI (nth ((nth p0 2).fld 0).toList (nth p0 0).toInt.toNat).toInt (0 : Int)) (PV.bool true) (nth g3 0)).isB false) (nth r1 1) PV.unit).toInt (3000 : Int))) PV.unit)).toBool (PV.bool true) (selB ((selB (selB (ltI (nth ((nth p0 2).fld 0).toList (nth p0 0).toInt.toNat).toInt (0 : Int)) (PV.bool true) (nth g3 0)).toBool (PV.bool true) (selB ((selB (ltI (nth ((nth p0 2).fld 0).toList (nth p0 0).toInt.toNat).toInt (0 : Int)) (PV.bool true) (nth g3 0)).isB false) (PV.bool (gtI (selB ((selB (ltI (nth ((nth p0 2).fld 0).toList (nth p0 0).toInt.toNat).toInt (0 : Int)) (PV.bool true) (nth g3 0)).isB false) (nth r1 1) PV.unit).toInt (3000 : Int))) PV.unit)).isB false) (PV.bool (gtI (selB ((selB (selB (ltI (nth ((nth p0 2).fld 0).toList (nth p0 0).toInt.toNat).toInt (0 : Int)) (PV.bool true) (nth g3 0)).toBool (PV.bool true) (selB ((selB (ltI (nth ((nth p0 2).fld 0).toList (nth p0 0).toInt.toNat).toInt (0 : Int)) (PV.bool true) (nth g3 0)).isB false) (PV.bool (gtI (selB ((selB (ltI (nth ((nth p0 2).fld 0).toList (nth p0 0).toInt.toNat).toInt (0 : Int)) (PV.bool true) (nth g3 0)).isB false) (nth r1 1) PV.unit).toInt (3000 : Int))) PV.unit)).isB false) (nth r1 2) PV.unit).toInt (20 : Int))) PV.unit)).isB false) (nth r1 2) PV.unit).toInt (selB ((selB (selB (selB (ltI (nth ((nth p0 2).fld 0).toList (nth p0 0).toInt.toNat).toInt (0 : Int)) (PV.bool true) (nth g3 0)).toBool (PV.bool true) (selB ((selB (ltI (nth ((nth p0 2).fld 0).toList (nth p0 0).toInt.toNat).toInt (0 : Int)) (PV.bool true) (nth g3 0)).isB false) (PV.bool (gtI (selB ((selB (ltI (nth ((nth p0 2).fld 0).toList (nth p0 0).toInt.toNat).toInt (0 : Int)) (PV.bool true) (nth g3 0)).isB false) (nth r1 1) PV.unit).toInt (3000 : Int))) PV.unit)).toBool (PV.bool true) (selB ((selB (selB (ltI (nth ((nth p0 2).fld 0).toList (nth p0 0).toInt.toNat).toInt (0 : Int)) (PV.bool true) (nth g3 0)).toBool (PV.bool true) (selB ((selB (ltI (nth ((nth p0 2).fld 0).toList (nth p0 0).toInt.toNat).toInt (0 : Int)) (PV.bool true) (nth g3 0)).isB false) (PV.bool (gtI (selB ((selB (ltI (nth ((nth p0 2).fld 0).toList (nth p0 0).toInt.toNat).toInt (0 : Int)) (PV.bool true) (nth g3 0)).isB false) (nth r1 1) PV.unit).toInt (3000 : Int))) PV.unit)).isB false) (PV.bool (gtI (selB ((selB (selB (ltI (nth ((nth p0 2).fld 0).toList (nth p0 0).toInt.toNat).toInt (0 : Int)) (PV.bool true) (nth g3 0)).toBool (PV.bool true) (selB ((selB (ltI (nth ((nth p0 2).fld 0).toList (nth p0 0).toInt.toNat).toInt (0 : Int)) (PV.bool true) (nth g3 0)).isB false) (PV.bool (gtI (selB ((selB (ltI (nth ((nth p0 2).fld 0).toList (nth p0 0).toInt.toNat).toInt (0 : Int)) (PV.bool true) (nth g3 0)).isB false) (nth r1 1) PV.unit).toInt (3000 : Int))) PV.unit)).isB false) (nth r1 2) PV.unit).toInt (20 : Int))) PV.unit)).isB false) (PV.int (IntKind.i64.wrap ((selB ((selB (selB (selB (ltI (nth ((nth p0 2).fld 0).toList (nth p0 0).toInt.toNat).toInt (0 : Int)) (PV.bool true) (nth g3 0)).toBool (PV.bool true) (selB ((selB (ltI (nth ((nth p0 2).fld 0).toList (nth p0 0).toInt.toNat).toInt (0 : Int)) (PV.bool true) (nth g3 0)).isB false) (PV.bool (gtI (selB ((selB (ltI (nth ((nth p0 2).fld 0).toList (nth p0 0).toInt.toNat).toInt (0 : Int)) (PV.bool true) (nth g3 0)).isB false) (nth r1 1) PV.unit).toInt (3000 : Int))) PV.unit)).toBool (PV.bool true) (selB ((selB (selB (ltI (nth ((nth p0 2).fld 0).toList (nth p0 0).toInt.toNat).toInt (0 : Int)) (PV.bool true) (nth g3 0)).toBool (PV.bool true) (selB ((selB (ltI (nth ((nth p0 2).fld 0).toList (nth p0 0).toInt.toNat).toInt (0 : Int)) (PV.bool true) (nth g3 0)).isB false) (PV.bool (gtI (selB ((selB (ltI (nth ((nth p0 2).fld 0).toList (nth p0 0).toInt.toNat).toInt (0 : Int)) (PV.bool true) (nth g3 0)).isB false) (nth r1 1) PV.unit).toInt (3000 : Int))) PV.unit)).isB false) (PV.bool (gtI (selB ((selB (selB (ltI (nth ((nth p0 2).fld 0).toList (nth p0 0).toInt.toNat).toInt (0 : Int)) (PV.bool true) (nth g3 0)).toBool (PV.bool true) (selB ((selB (ltI (nth ((nth p0 2).fld 0).toList (nth p0 0).toInt.toNat).toInt (0 : Int)) (PV.bool true) (nth g3 0)).isB false) (PV.bool (gtI (selB ((selB (ltI (nth ((nth p0 2).fld 0).toList (nth p0 0).toInt.toNat).toInt (0 : Int)) (PV.bool true) (nth g3 0)).isB false) (nth r1 1) PV.unit).toInt (3000 : Int))) PV.unit)).isB false) (nth r1 2) PV.unit).toInt (20 : Int))) PV.unit)).isB false) ((nth p0 2).fld 3) PV.unit).toInt - (selB ((selB (selB (selB (ltI (nth ((nth p0 2).fld 0).toList (nth p0 0).toInt.toNat).toInt (0 : Int)) (PV.bool true) (nth g3 0)).toBool (PV.bool true) (selB ((selB (ltI (nth ((nth p0 2).fld 0).toList (nth p0 0).toInt.toNat).toInt (0 : Int)) (PV.bool true) (nth g3 0)).isB false) (PV.bool (gtI (selB ((selB (ltI (nth ((nth p0 2).fld 0).toList (nth p0 0).toInt.toNat).toInt (0 : Int)) (PV.bool true) (nth g3 0)).isB false) (nth r1 1) PV.unit).toInt (3000 : Int))) PV.unit)).toBool (PV.bool true) (selB ((selB (selB (ltI (nth ((nth p0 2).fld 0).toList (nth p0 0).toInt.toNat).toInt (0 : Int)) (PV.bool true) (nth g3 0)).toBool (PV.bool true) (selB ((selB (ltI (nth ((nth p0 2).fld 0).toList (nth p0 0).toInt.toNat).toInt (0 : Int)) (PV.bool true) (nth g3 0)).isB false) (PV.bool (gtI (selB ((selB (ltI (nth ((nth p0 2).fld 0).toList (nth p0 0).toInt.toNat).toInt (0 : Int)) (PV.bool true) (nth g3 0)).isB false) (nth r1 1) PV.unit).toInt (3000 : Int))) PV.unit)).isB false) (PV.bool (gtI (selB ((selB (selB (ltI (nth ((nth p0 2).fld 0).toList (nth p0 0).toInt.toNat).toInt (0 : Int)) (PV.bool true) (nth g3 0)).toBool (PV.bool true) (selB ((selB (ltI (nth ((nth p0 2).fld 0).toList (nth p0 0).toInt.toNat).toInt (0 : Int)) (PV.bool true) (nth g3 0)).isB false) (PV.bool (gtI (selB ((selB (ltI (nth ((nth p0 2).fld 0).toList (nth p0 0).toInt.toNat).toInt (0 : Int)) (PV.bool true) (nth g3 0)).isB false) (nth r1 1) PV.unit).toInt (3000 : Int))) PV.unit)).isB false) (nth r1 2) PV.unit).toInt (20 : Int))) PV.unit)).isB false) (nth p0 0) PV.unit).toInt))) PV.unit).toInt)) PV.unit)).toBool
  (some (Ex.r, [(nth p0 1), (PV.bool false)]))
  (iff (leN ((nth p0 1).toList.length + ((nth p0 0) :: ([] : List PV)).length) 17592186044416)
  (some (Ex.n, [(PV.int (IntKind.i64.wrap ((IntKind.i64.wrap ((nth p0 0).toInt + (1 : Int))) + (nth r1 2).toInt))), (PV.list ((nth p0 1).toList ++ ((nth p0 0) :: ([] : List PV)))), (nth p0 2)]))
  none))))
  none)
  none)
  (some (Ex.x 0, [(nth p0 1)])))
def F79 (I : Interp) (n : Nat) (a : List PV) : Option (List PV) :=
  (thenN (thenE (loopEv (L79_0 I n) n [((nth a 0).fld 2), (PV.list ([] : List PV)), (nth a 0)])
  (passB 0))
  (fun p4 => (some [(nth p4 0), (PV.bool true)]))
  (retE fun q5 => [(nth q5 0), (nth q5 1)]))
theorem e79 : ∀ I n a, (compF Try.prog sg 79).map (fun d => d.ev I n a) = some (F79 I n a) := fun I n a => by kernel_rfl
/-! impl.IntWord -/
def F103 (I : Interp) (n : Nat) (a : List PV) : Option (List PV) :=
  ((I 120 [(nth a 0)]).bind fun r0 =>
  (iff (!(nth r0 0).toBool)
  (some [(PV.int (1 : Int))])
  (some [(PV.int (IntKind.i64.wrap ((IntKind.i64.wrap ((2 : Int) * (nth a 0).toInt)) + (1 : Int))))])))
theorem e103 : ∀ I n a, (compF Try.prog sg 103).map (fun d => d.ev I n a) = some (F103 I n a) := fun I n a => by kernel_rfl
/-! spec.l17Put -/
def L105_0 (I : Interp) (n : Nat) (p1 : List PV) : Option (Ex × List PV) :=
  (iff (ltI (nth p1 0).toInt ((nth p1 1).toList.length : Int))
  (iff (geI (nth p1 0).toInt (0 : Int))
  (iff (ltI (nth p1 0).toInt ((nth p1 1).toList.length : Int))
  (iff (geI (IntKind.i64.wrap ((IntKind.i64.wrap ((nth p1 2).toInt + (1 : Int))) + (nth p1 0).toInt)) (0 : Int))
  (iff (ltI (IntKind.i64.wrap ((IntKind.i64.wrap ((nth p1 2).toInt + (1 : Int))) + (nth p1 0).toInt)) (((nth p1 3).fld 0).toList.length : Int))
  (some (Ex.n, [(PV.int (IntKind.i64.wrap ((nth p1 0).toInt + (1 : Int)))), (nth p1 1), (nth p1 2), ((nth p1 3).setFld 0 (PV.list (((nth p1 3).fld 0).toList.set (IntKind.i64.wrap ((IntKind.i64.wrap ((nth p1 2).toInt + (1 : Int))) + (nth p1 0).toInt)).toNat (nth (nth p1 1).toList (nth p1 0).toInt.toNat)))), (nth p1 4)]))
  none)
  none)
  none)
  none)
  (some (Ex.x 0, [(nth p1 1), (nth p1 2), (nth p1 3), (nth p1 4)])))
def F105 (I : Interp) (n : Nat) (a : List PV) : Option (List PV) :=
  (iff (geI ((nth a 3).toList.length : Int) (IntKind.i64.wrap ((IntKind.i64.wrap (((nth a 0).fld 2).toInt + ((nth a 0).fld 1).toInt)) - ((nth a 0).fld 3).toInt)))
  (some [(nth a 0), (PV.int (0 : Int)), (PV.bool false)])
  ((I 166 [(nth a 1), (nth a 2), (PV.int ((nth a 3).toList.length : Int))]).bind fun r0 =>
  (iff (geI ((nth a 0).fld 3).toInt (0 : Int))
  (iff (ltI ((nth a 0).fld 3).toInt (((nth a 0).fld 0).toList.length : Int))
  (thenN (thenE (loopEv (L105_0 I n) n [(PV.int (0 : Int)), (nth a 3), ((nth a 0).fld 3), ((nth a 0).setFld 0 (PV.list (((nth a 0).fld 0).toList.set ((nth a 0).fld 3).toInt.toNat (nth r0 0)))), (PV.agg [(PV.list ([] : List PV)), (PV.int (0 : Int)), (PV.int (0 : Int)), (PV.int (0 : Int))])])
  (passB 0))
  (fun p2 => (some [((nth p2 2).setFld 3 (PV.int (IntKind.i64.wrap ((IntKind.i64.wrap ((nth p2 1).toInt + (1 : Int))) + ((nth p2 0).toList.length : Int))))), (nth p2 1), (PV.bool true)]))
  (retE fun q3 => [(nth q3 2), (nth q3 0), (nth q3 1)]))
  none)
  none)))
theorem e105 : ∀ I n a, (compF Try.prog sg 105).map (fun d => d.ev I n a) = some (F105 I n a) := fun I n a => by kernel_rfl
/-! spec.l17Put -/
def L4201_0 (I : Interp) (n : Nat) (p1 : List PV) : Option (Ex × List PV) :=
  (iff (ltI (nth p1 0).toInt ((nth p1 2).toList.length : Int))
  (iff (geI (nth p1 0).toInt (0 : Int))
  (iff (ltI (nth p1 0).toInt ((nth p1 2).toList.length : Int))
  (iff (geI (IntKind.i64.wrap ((IntKind.i64.wrap ((nth p1 1).toInt + (1 : Int))) + (nth p1 0).toInt)) (0 : Int))
  (iff (ltI (IntKind.i64.wrap ((IntKind.i64.wrap ((nth p1 1).toInt + (1 : Int))) + (nth p1 0).toInt)) (((nth p1 3).fld 0).toList.length : Int))
  (some (Ex.n, [(PV.int (IntKind.i64.wrap ((nth p1 0).toInt + (1 : Int)))), (nth p1 1), (nth p1 2), ((nth p1 3).setFld 0 (PV.list (((nth p1 3).fld 0).toList.set (IntKind.i64.wrap ((IntKind.i64.wrap ((nth p1 1).toInt + (1 : Int))) + (nth p1 0).toInt)).toNat (nth (nth p1 2).toList (nth p1 0).toInt.toNat)))), (nth p1 4)]))
  none)
  none)
  none)
  none)
  (some (Ex.x 0, [(nth p1 1), (nth p1 2), (nth p1 3), (nth p1 4)])))
def F4201 (I : Interp) (n : Nat) (a : List PV) : Option (List PV) :=
  (iff (geI ((nth a 3).toList.length : Int) (IntKind.i64.wrap ((IntKind.i64.wrap (((nth a 0).fld 2).toInt + ((nth a 0).fld 1).toInt)) - ((nth a 0).fld 3).toInt)))
  (some [(nth a 0), (PV.int (0 : Int)), (PV.bool false), (nth a 3)])
  ((I 166 [(nth a 1), (nth a 2), (PV.int ((nth a 3).toList.length : Int))]).bind fun r0 =>
  (iff (geI ((nth a 0).fld 3).toInt (0 : Int))
  (iff (ltI ((nth a 0).fld 3).toInt (((nth a 0).fld 0).toList.length : Int))
  (thenN (thenE (loopEv (L4201_0 I n) n [(PV.int (0 : Int)), ((nth a 0).fld 3), (nth a 3), ((nth a 0).setFld 0 (PV.list (((nth a 0).fld 0).toList.set ((nth a 0).fld 3).toInt.toNat (nth r0 0)))), (PV.agg [(PV.list ([] : List PV)), (PV.int (0 : Int)), (PV.int (0 : Int)), (PV.int (0 : Int))])])
  (passB 0))
  (fun p2 => (some [((nth p2 2).setFld 3 (PV.int (IntKind.i64.wrap ((IntKind.i64.wrap ((nth p2 0).toInt + (1 : Int))) + ((nth p2 1).toList.length : Int))))), (nth p2 0), (PV.bool true), (nth p2 1)]))
  (retE fun q3 => [(nth q3 3), (nth q3 1), (nth q3 2), (nth q3 0)]))
  none)
  none)))
theorem e4201 : ∀ I n a, (compF Try.prog sg 4201).map (fun d => d.ev I n a) = some (F4201 I n a) := fun I n a => by kernel_rfl
/-! spec.l17Put -/
def L8297_0 (I : Interp) (n : Nat) (p1 : List PV) : Option (Ex × List PV) :=
  (iff (ltI (nth p1 0).toInt ((nth p1 1).toList.length : Int))
  (iff (geI (nth p1 0).toInt (0 : Int))
  (iff (ltI (nth p1 0).toInt ((nth p1 1).toList.length : Int))
  (iff (geI (IntKind.i64.wrap ((IntKind.i64.wrap ((nth p1 2).toInt + (1 : Int))) + (nth p1 0).toInt)) (0 : Int))
  (iff (ltI (IntKind.i64.wrap ((IntKind.i64.wrap ((nth p1 2).toInt + (1 : Int))) + (nth p1 0).toInt)) (((nth p1 3).fld 0).toList.length : Int))
  (some (Ex.n, [(PV.int (IntKind.i64.wrap ((nth p1 0).toInt + (1 : Int)))), (nth p1 1), (nth p1 2), ((nth p1 3).setFld 0 (PV.list (((nth p1 3).fld 0).toList.set (IntKind.i64.wrap ((IntKind.i64.wrap ((nth p1 2).toInt + (1 : Int))) + (nth p1 0).toInt)).toNat (nth (nth p1 1).toList (nth p1 0).toInt.toNat)))), (nth p1 4)]))
  none)
  none)
  none)
  none)
  (some (Ex.x 0, [(nth p1 1), (nth p1 2), (nth p1 3), (nth p1 4)])))
def F8297 (I : Interp) (n : Nat) (a : List PV) : Option (List PV) :=
  (iff (geI ((nth a 3).toList.length : Int) (IntKind.i64.wrap ((IntKind.i64.wrap (((nth a 0).fld 2).toInt + ((nth a 0).fld 1).toInt)) - ((nth a 0).fld 3).toInt)))
  (some [(nth a 0), (PV.int (0 : Int)), (PV.bool false)])
  ((I 166 [(nth a 1), (nth a 2), (PV.int ((nth a 3).toList.length : Int))]).bind fun r0 =>
  (iff (geI ((nth a 0).fld 3).toInt (0 : Int))
  (iff (ltI ((nth a 0).fld 3).toInt (((nth a 0).fld 0).toList.length : Int))
  (thenN (thenE (loopEv (L8297_0 I n) n [(PV.int (0 : Int)), (nth a 3), ((nth a 0).fld 3), ((nth a 0).setFld 0 (PV.list (((nth a 0).fld 0).toList.set ((nth a 0).fld 3).toInt.toNat (nth r0 0)))), (PV.agg [(PV.list ([] : List PV)), (PV.int (0 : Int)), (PV.int (0 : Int)), (PV.int (0 : Int))])])
  (passB 0))
  (fun p2 => (some [((nth p2 2).setFld 3 (PV.int (IntKind.i64.wrap ((IntKind.i64.wrap ((nth p2 1).toInt + (1 : Int))) + ((nth p2 0).toList.length : Int))))), (nth p2 1), (PV.bool true)]))
  (retE fun q3 => [(nth q3 2), (nth q3 0), (nth q3 1)]))
  none)
  none)))
theorem e8297 : ∀ I n a, (compF Try.prog sg 8297).map (fun d => d.ev I n a) = some (F8297 I n a) := fun I n a => by kernel_rfl
/-! spec.l1Once -/
def F100 (I : Interp) (n : Nat) (a : List PV) : Option (List PV) :=
  ((I 99 [(nth a 0), (nth a 1)]).bind fun r0 =>
  (some [(PV.bool (eqI (nth r0 0).toInt (0 : Int))), (nth r0 1)]))
theorem e100 : ∀ I n a, (compF Try.prog sg 100).map (fun d => d.ev I n a) = some (F100 I n a) := fun I n a => by kernel_rfl
/-! spec.l1Once -/
def F4196 (I : Interp) (n : Nat) (a : List PV) : Option (List PV) :=
  ((I 4195 [(nth a 0), (nth a 1)]).bind fun r0 =>
  (some [(PV.bool (eqI (nth r0 0).toInt (0 : Int))), (nth r0 1)]))
theorem e4196 : ∀ I n a, (compF Try.prog sg 4196).map (fun d => d.ev I n a) = some (F4196 I n a) := fun I n a => by kernel_rfl
/-! impl.header -/
def F163 (I : Interp) (n : Nat) (a : List PV) : Option (List PV) :=
  ((I 158 [(nth a 0)]).bind fun r0 =>
  (iff (geI (7 : Int) (0 : Int))
  (iff (geI (1 : Int) (0 : Int))
  ((I 94 [(nth a 0)]).bind fun r1 =>
  (some [(PV.bool (eqI (arith BinOp.and IntKind.i64 (nth r0 0).toInt (1 : Int)) (1 : Int))), (PV.int (arith BinOp.shr IntKind.i64 (nth r0 0).toInt (7 : Int))), (PV.int (arith BinOp.and IntKind.i64 (arith BinOp.shr IntKind.i64 (nth r0 0).toInt (1 : Int)) (63 : Int))), (selB (selB (selB (!(nth r1 0).toBool) (selB ((!(nth r1 0).toBool) == true) (PV.bool (geI (selB ((!(nth r1 0).toBool) == true) (nth r0 0) PV.unit).toInt (0 : Int))) PV.unit) (PV.bool false)).toBool (selB ((selB (!(nth r1 0).toBool) (selB ((!(nth r1 0).toBool) == true) (PV.bool (geI (selB ((!(nth r1 0).toBool) == true) (nth r0 0) PV.unit).toInt (0 : Int))) PV.unit) (PV.bool false)).isB true) (PV.bool (leI (selB ((selB (!(nth r1 0).toBool) (selB ((!(nth r1 0).toBool) == true) (PV.bool (geI (selB ((!(nth r1 0).toBool) == true) (nth r0 0) PV.unit).toInt (0 : Int))) PV.unit) (PV.bool false)).isB true) (PV.int (arith BinOp.shr IntKind.i64 (nth r0 0).toInt (7 : Int))) PV.unit).toInt (3000 : Int))) PV.unit) (PV.bool false)).toBool (selB ((selB (selB (!(nth r1 0).toBool) (selB ((!(nth r1 0).toBool) == true) (PV.bool (geI (selB ((!(nth r1 0).toBool) == true) (nth r0 0) PV.unit).toInt (0 : Int))) PV.unit) (PV.bool false)).toBool (selB ((selB (!(nth r1 0).toBool) (selB ((!(nth r1 0).toBool) == true) (PV.bool (geI (selB ((!(nth r1 0).toBool) == true) (nth r0 0) PV.unit).toInt (0 : Int))) PV.unit) (PV.bool false)).isB true) (PV.bool (leI (selB ((selB (!(nth r1 0).toBool) (selB ((!(nth r1 0).toBool) == true) (PV.bool (geI (selB ((!(nth r1 0).toBool) == true) (nth r0 0) PV.unit).toInt (0 : Int))) PV.unit) (PV.bool false)).isB true) (PV.int (arith BinOp.shr IntKind.i64 (nth r0 0).toInt (7 : Int))) PV.unit).toInt (3000 : Int))) PV.unit) (PV.bool false)).isB true) (PV.bool (leI (selB ((selB (selB (!(nth r1 0).toBool) (selB ((!(nth r1 0).toBool) == true) (PV.bool (geI (selB ((!(nth r1 0).toBool) == true) (nth r0 0) PV.unit).toInt (0 : Int))) PV.unit) (PV.bool false)).toBool (selB ((selB (!(nth r1 0).toBool) (selB ((!(nth r1 0).toBool) == true) (PV.bool (geI (selB ((!(nth r1 0).toBool) == true) (nth r0 0) PV.unit).toInt (0 : Int))) PV.unit) (PV.bool false)).isB true) (PV.bool (leI (selB ((selB (!(nth r1 0).toBool) (selB ((!(nth r1 0).toBool) == true) (PV.bool (geI (selB ((!(nth r1 0).toBool) == true) (nth r0 0) PV.unit).toInt (0 : Int))) PV.unit) (PV.bool false)).isB true) (PV.int (arith BinOp.shr IntKind.i64 (nth r0 0).toInt (7 : Int))) PV.unit).toInt (3000 : Int))) PV.unit) (PV.bool false)).isB true) (PV.int (arith BinOp.and IntKind.i64 (arith BinOp.shr IntKind.i64 (nth r0 0).toInt (1 : Int)) (63 : Int))) PV.unit).toInt (20 : Int))) PV.unit) (PV.bool false))]))
  none)
  none))
theorem e163 : ∀ I n a, (compF Try.prog sg 163).map (fun d => d.ev I n a) = some (F163 I n a) := fun I n a => by kernel_rfl
/-! spec.l1PickInt -/
def F101 (I : Interp) (n : Nat) (a : List PV) : Option (List PV) :=
  ((I 99 [(nth a 0), (PV.int ((nth a 1).toList.length : Int))]).bind fun r0 =>
  (iff (geI (nth r0 0).toInt (0 : Int))
  (iff (ltI (nth r0 0).toInt ((nth a 1).toList.length : Int))
  (some [(nth (nth a 1).toList (nth r0 0).toInt.toNat), (nth r0 1)])
  none)
  none))
theorem e101 : ∀ I n a, (compF Try.prog sg 101).map (fun d => d.ev I n a) = some (F101 I n a) := fun I n a => by kernel_rfl
/-! spec.l1PickInt -/
def F4197 (I : Interp) (n : Nat) (a : List PV) : Option (List PV) :=
  ((I 99 [(nth a 0), (PV.int ((nth a 1).toList.length : Int))]).bind fun r0 =>
  (iff (geI (nth r0 0).toInt (0 : Int))
  (iff (ltI (nth r0 0).toInt ((nth a 1).toList.length : Int))
  (some [(nth (nth a 1).toList (nth r0 0).toInt.toNat), (nth r0 1), (nth a 1)])
  none)
  none))
theorem e4197 : ∀ I n a, (compF Try.prog sg 4197).map (fun d => d.ev I n a) = some (F4197 I n a) := fun I n a => by kernel_rfl
/-! spec.l1PickInt -/
def F8293 (I : Interp) (n : Nat) (a : List PV) : Option (List PV) :=
  ((I 99 [(nth a 0), (PV.int ((nth a 1).toList.length : Int))]).bind fun r0 =>
  (iff (geI (nth r0 0).toInt (0 : Int))
  (iff (ltI (nth r0 0).toInt ((nth a 1).toList.length : Int))
  (some [(nth (nth a 1).toList (nth r0 0).toInt.toNat), (nth r0 1)])
  none)
  none))
theorem e8293 : ∀ I n a, (compF Try.prog sg 8293).map (fun d => d.ev I n a) = some (F8293 I n a) := fun I n a => by kernel_rfl
/-! spec.l1PickInt -/
def F12389 (I : Interp) (n : Nat) (a : List PV) : Option (List PV) :=
  ((I 4195 [(nth a 0), (PV.int ((nth a 1).toList.length : Int))]).bind fun r0 =>
  (iff (geI (nth r0 0).toInt (0 : Int))
  (iff (ltI (nth r0 0).toInt ((nth a 1).toList.length : Int))
  (some [(nth (nth a 1).toList (nth r0 0).toInt.toNat), (nth r0 1)])
  none)
  none))
theorem e12389 : ∀ I n a, (compF Try.prog sg 12389).map (fun d => d.ev I n a) = some (F12389 I n a) := fun I n a => by kernel_rfl
/-! spec.l1PickInt -/
def F16485 (I : Interp) (n : Nat) (a : List PV) : Option (List PV) :=
  ((I 4195 [(nth a 0), (PV.int ((nth a 1).toList.length : Int))]).bind fun r0 =>
  (iff (geI (nth r0 0).toInt (0 : Int))
  (iff (ltI (nth r0 0).toInt ((nth a 1).toList.length : Int))
  (some [(nth (nth a 1).toList (nth r0 0).toInt.toNat), (nth r0 1), (nth a 1)])
  none)
  none))
theorem e16485 : ∀ I n a, (compF Try.prog sg 16485).map (fun d => d.ev I n a) = some (F16485 I n a) := fun I n a => by kernel_rfl
/-! spec.l1PickInt -/
def F20581 (I : Interp) (n : Nat) (a : List PV) : Option (List PV) :=
  ((I 4195 [(nth a 0), (PV.int ((nth a 1).toList.length : Int))]).bind fun r0 =>
  (iff (geI (nth r0 0).toInt (0 : Int))
  (iff (ltI (nth r0 0).toInt ((nth a 1).toList.length : Int))
  (some [(nth (nth a 1).toList (nth r0 0).toInt.toNat), (nth r0 1)])
  none)
  none))
theorem e20581 : ∀ I n a, (compF Try.prog sg 20581).map (fun d => d.ev I n a) = some (F20581 I n a) := fun I n a => by kernel_rfl
/-! spec.IntWord -/
def F192 (I : Interp) (n : Nat) (a : List PV) : Option (List PV) :=
  ((I 117 [(nth a 0)]).bind fun r0 =>
  (iff (!(nth r0 0).toBool)
  (some [(PV.int (1 : Int))])
  (some [(PV.int (IntKind.i64.wrap ((IntKind.i64.wrap ((2 : Int) * (nth a 0).toInt)) + (1 : Int))))])))
theorem e192 : ∀ I n a, (compF Try.prog sg 192).map (fun d => d.ev I n a) = some (F192 I n a) := fun I n a => by kernel_rfl
/-! slices.BinarySearch[[]int,int] -/
def L167_0 (I : Interp) (n : Nat) (p0 : List PV) : Option (Ex × List PV) :=
  (iff (ltI (nth p0 3).toInt (nth p0 0).toInt)
  (iff (geI (1 : Int) (0 : Int))
  (iff (geI (IntKind.i64.wrap (arith BinOp.shr IntKind.u64 (IntKind.u64.wrap (IntKind.i64.wrap ((nth p0 3).toInt + (nth p0 0).toInt))) (1 : Int))) (0 : Int))
  (iff (ltI (IntKind.i64.wrap (arith BinOp.shr IntKind.u64 (IntKind.u64.wrap (IntKind.i64.wrap ((nth p0 3).toInt + (nth p0 0).toInt))) (1 : Int))) ((nth p0 2).toList.length : Int))
  ((I 194 [(nth (nth p0 2).toList (IntKind.i64.wrap (arith BinOp.shr IntKind.u64 (IntKind.u64.wrap (IntKind.i64.wrap ((nth p0 3).toInt + (nth p0 0).toInt))) (1 : Int))).toNat), (nth p0 4)]).bind fun r1 =>
  (iff (nth r1 0).toBool
  (some (Ex.n, [(nth p0 0), (nth p0 1), (nth p0 2), (PV.int (IntKind.i64.wrap ((IntKind.i64.wrap (arith BinOp.shr IntKind.u64 (IntKind.u64.wrap (IntKind.i64.wrap ((nth p0 3).toInt + (nth p0 0).toInt))) (1 : Int))) + (1 : Int)))), (nth p0 4)]))
  (some (Ex.n, [(PV.int (IntKind.i64.wrap (arith BinOp.shr IntKind.u64 (IntKind.u64.wrap (IntKind.i64.wrap ((nth p0 3).toInt + (nth p0 0).toInt))) (1 : Int)))), (nth p0 1), (nth p0 2), (nth p0 3), (nth p0 4)]))))
  none)
  none)
  none)
  (some (Ex.x 0, [(nth p0 1), (nth p0 2), (nth p0 3), (nth p0 4)])))
def F167 (I : Interp) (n : Nat) (a : List PV) : Option (List PV) :=
  (thenN (thenE (loopEv (L167_0 I n) n [(PV.int ((nth a 0).toList.length : Int)), (PV.int ((nth a 0).toList.length : Int)), (nth a 0), (PV.int (0 : Int)), (nth a 1)])
  (passB 0))
  (fun p2 => ((iff ((ltI (nth p2 2).toInt (nth p2 0).toInt) == true)
  (iff (geI (selB ((ltI (nth p2 2).toInt (nth p2 0).toInt) == true) (nth p2 2) PV.unit).toInt (0 : Int))
  (iff (ltI (selB ((ltI (nth p2 2).toInt (nth p2 0).toInt) == true) (nth p2 2) PV.unit).toInt ((selB ((ltI (nth p2 2).toInt (nth p2 0).toInt) == true) (nth p2 1) PV.unit).toList.length : Int))
  (some [(nth (selB ((ltI (nth p2 2).toInt (nth p2 0).toInt) == true) (nth p2 1) PV.unit).toList (selB ((ltI (nth p2 2).toInt (nth p2 0).toInt) == true) (nth p2 2) PV.unit).toInt.toNat), (nth (selB ((ltI (nth p2 2).toInt (nth p2 0).toInt) == true) (nth p2 1) PV.unit).toList (selB ((ltI (nth p2 2).toInt (nth p2 0).toInt) == true) (nth p2 2) PV.unit).toInt.toNat)])
  none)
  none)
  (some [PV.unit, PV.unit])).bind fun g3 =>
  ((iff ((selB ((ltI (nth p2 2).toInt (nth p2 0).toInt) == true) (selB ((ltI (nth p2 2).toInt (nth p2 0).toInt) == true) (PV.bool (eqI (selB ((ltI (nth p2 2).toInt (nth p2 0).toInt) == true) (nth g3 0) PV.unit).toInt (selB ((ltI (nth p2 2).toInt (nth p2 0).toInt) == true) (nth p2 3) PV.unit).toInt)) PV.unit) PV.unit).isB false)
  (iff (geI (selB ((selB ((ltI (nth p2 2).toInt (nth p2 0).toInt) == true) (selB ((ltI (nth p2 2).toInt (nth p2 0).toInt) == true) (PV.bool (eqI (selB ((ltI (nth p2 2).toInt (nth p2 0).toInt) == true) (nth g3 0) PV.unit).toInt (selB ((ltI (nth p2 2).toInt (nth p2 0).toInt) == true) (nth p2 3) PV.unit).toInt)) PV.unit) PV.unit).isB false) (nth p2 2) PV.unit).toInt (0 : Int))
  (iff (ltI (selB ((selB ((ltI (nth p2 2).toInt (nth p2 0).toInt) == true) (selB ((ltI (nth p2 2).toInt (nth p2 0).toInt) == true) (PV.bool (eqI (selB ((ltI (nth p2 2).toInt (nth p2 0).toInt) == true) (nth g3 0) PV.unit).toInt (selB ((ltI (nth p2 2).toInt (nth p2 0).toInt) == true) (nth p2 3) PV.unit).toInt)) PV.unit) PV.unit).isB false) (nth p2 2) PV.unit).toInt ((selB ((selB ((ltI (nth p2 2).toInt (nth p2 0).toInt) == true) (selB ((ltI (nth p2 2).toInt (nth p2 0).toInt) == true) (PV.bool (eqI (selB ((ltI (nth p2 2).toInt (nth p2 0).toInt) == true) (nth g3 0) PV.unit).toInt (selB ((ltI (nth p2 2).toInt (nth p2 0).toInt) == true) (nth p2 3) PV.unit).toInt)) PV.unit) PV.unit).isB false) (nth p2 1) PV.unit).toList.length : Int))
  (some [(nth (selB ((selB ((ltI (nth p2 2).toInt (nth p2 0).toInt) == true) (selB ((ltI (nth p2 2).toInt (nth p2 0).toInt) == true) (PV.bool (eqI (selB ((ltI (nth p2 2).toInt (nth p2 0).toInt) == true) (nth g3 0) PV.unit).toInt (selB ((ltI (nth p2 2).toInt (nth p2 0).toInt) == true) (nth p2 3) PV.unit).toInt)) PV.unit) PV.unit).isB false) (nth p2 1) PV.unit).toList (selB ((selB ((ltI (nth p2 2).toInt (nth p2 0).toInt) == true) (selB ((ltI (nth p2 2).toInt (nth p2 0).toInt) == true) (PV.bool (eqI (selB ((ltI (nth p2 2).toInt (nth p2 0).toInt) == true) (nth g3 0) PV.unit).toInt (selB ((ltI (nth p2 2).toInt (nth p2 0).toInt) == true) (nth p2 3) PV.unit).toInt)) PV.unit) PV.unit).isB false) (nth p2 2) PV.unit).toInt.toNat), (nth (selB ((selB ((ltI (nth p2 2).toInt (nth p2 0).toInt) == true) (selB ((ltI (nth p2 2).toInt (nth p2 0).toInt) == true) (PV.bool (eqI (selB ((ltI (nth p2 2).toInt (nth p2 0).toInt) == true) (nth g3 0) PV.unit).toInt (selB ((ltI (nth p2 2).toInt (nth p2 0).toInt) == true) (nth p2 3) PV.unit).toInt)) PV.unit) PV.unit).isB false) (nth p2 1) PV.unit).toList (selB ((selB ((ltI (nth p2 2).toInt (nth p2 0).toInt) == true) (selB ((ltI (nth p2 2).toInt (nth p2 0).toInt) == true) (PV.bool (eqI (selB ((ltI (nth p2 2).toInt (nth p2 0).toInt) == true) (nth g3 0) PV.unit).toInt (selB ((ltI (nth p2 2).toInt (nth p2 0).toInt) == true) (nth p2 3) PV.unit).toInt)) PV.unit) PV.unit).isB false) (nth p2 2) PV.unit).toInt.toNat)])
  none)
  none)
  (some [PV.unit, PV.unit])).bind fun g4 =>
  ((iff ((selB ((ltI (nth p2 2).toInt (nth p2 0).toInt) == true) (selB ((ltI (nth p2 2).toInt (nth p2 0).toInt) == true) (PV.bool (eqI (selB ((ltI (nth p2 2).toInt (nth p2 0).toInt) == true) (nth g3 0) PV.unit).toInt (selB ((ltI (nth p2 2).toInt (nth p2 0).toInt) == true) (nth p2 3) PV.unit).toInt)) PV.unit) PV.unit).isB false)
  ((I 195 [(selB ((selB ((ltI (nth p2 2).toInt (nth p2 0).toInt) == true) (selB ((ltI (nth p2 2).toInt (nth p2 0).toInt) == true) (PV.bool (eqI (selB ((ltI (nth p2 2).toInt (nth p2 0).toInt) == true) (nth g3 0) PV.unit).toInt (selB ((ltI (nth p2 2).toInt (nth p2 0).toInt) == true) (nth p2 3) PV.unit).toInt)) PV.unit) PV.unit).isB false) (nth g4 0) PV.unit)]).bind fun r5 =>
  (some [(nth r5 0), (nth r5 0)]))
  (some [PV.unit, PV.unit])).bind fun g6 =>
  ((iff ((selB ((selB ((ltI (nth p2 2).toInt (nth p2 0).toInt) == true) (selB ((ltI (nth p2 2).toInt (nth p2 0).toInt) == true) (PV.bool (eqI (selB ((ltI (nth p2 2).toInt (nth p2 0).toInt) == true) (nth g3 0) PV.unit).toInt (selB ((ltI (nth p2 2).toInt (nth p2 0).toInt) == true) (nth p2 3) PV.unit).toInt)) PV.unit) PV.unit).isB false) (nth g6 0) PV.unit).isB true)
  ((I 195 [(selB ((selB ((selB ((ltI (nth p2 2).toInt (nth p2 0).toInt) == true) (selB ((ltI (nth p2 2).toInt (nth p2 0).toInt) == true) (PV.bool (eqI (selB ((ltI (nth p2 2).toInt (nth p2 0).toInt) == true) (nth g3 0) PV.unit).toInt (selB ((ltI (nth p2 2).toInt (nth p2 0).toInt) == true) (nth p2 3) PV.unit).toInt)) PV.unit) PV.unit).isB false) (nth g6 0) PV.unit).isB true) (nth p2 3) PV.unit)]).bind fun r7 =>
  (some [(nth r7 0), (nth r7 0)]))
  (some [PV.unit, PV.unit])).bind fun g8 =>
  (some [(nth p2 2), (selB (ltI (nth p2 2).toInt (nth p2 0).toInt) (selB ((ltI (nth p2 2).toInt (nth p2 0).toInt) == true) (selB (selB ((ltI (nth p2 2).toInt (nth p2 0).toInt) == true) (selB ((ltI (nth p2 2).toInt (nth p2 0).toInt) == true) (PV.bool (eqI (selB ((ltI (nth p2 2).toInt (nth p2 0).toInt) == true) (nth g3 0) PV.unit).toInt (selB ((ltI (nth p2 2).toInt (nth p2 0).toInt) == true) (nth p2 3) PV.unit).toInt)) PV.unit) PV.unit).toBool (PV.bool true) (selB ((selB ((ltI (nth p2 2).toInt (nth p2 0).toInt) == true) (selB ((ltI (nth p2 2).toInt (nth p2 0).toInt) == true) (PV.bool (eqI (selB ((ltI (nth p2 2).toInt (nth p2 0).toInt) == true) (nth g3 0) PV.unit).toInt (selB ((ltI (nth p2 2).toInt (nth p2 0).toInt) == true) (nth p2 3) PV.unit).toInt)) PV.unit) PV.unit).isB false) (selB (selB ((selB ((ltI (nth p2 2).toInt (nth p2 0).toInt) == true) (selB ((ltI (nth p2 2).toInt (nth p2 0).toInt) == true) (PV.bool (eqI (selB ((ltI (nth p2 2).toInt (nth p2 0).toInt) == true) (nth g3 0) PV.unit).toInt (selB ((ltI (nth p2 2).toInt (nth p2 0).toInt) == true) (nth p2 3) PV.unit).toInt)) PV.unit) PV.unit).isB false) (nth g6 0) PV.unit).toBool (nth g8 0) (PV.bool false)) PV.unit)) PV.unit) (PV.bool false))]))))))
  (retE fun q9 => [(nth q9 0), (nth q9 1)]))
theorem e167 : ∀ I n a, (compF Try.prog sg 167).map (fun d => d.ev I n a) = some (F167 I n a) := fun I n a => by kernel_rfl
/-! impl.kidsAt -/
def F92 (I : Interp) (n : Nat) (a : List PV) : Option (List PV) :=
  (iff (geI (nth a 1).toInt (0 : Int))
  (iff (ltI (nth a 1).toInt (((nth a 0).fld 0).toList.length : Int))
  ((I 163 [(nth ((nth a 0).fld 0).toList (nth a 1).toInt.toNat)]).bind fun r0 =>
  (iff (geI (IntKind.i64.wrap ((nth a 1).toInt + (1 : Int))) (0 : Int))
  (iff (leI (IntKind.i64.wrap ((nth a 1).toInt + (1 : Int))) (IntKind.i64.wrap ((IntKind.i64.wrap ((nth a 1).toInt + (1 : Int))) + (nth r0 2).toInt)))
  (iff (leI (IntKind.i64.wrap ((IntKind.i64.wrap ((nth a 1).toInt + (1 : Int))) + (nth r0 2).toInt)) (((nth a 0).fld 0).toList.length : Int))
  (some [(PV.list ((((nth a 0).fld 0).toList.drop (IntKind.i64.wrap ((nth a 1).toInt + (1 : Int))).toNat).take ((IntKind.i64.wrap ((IntKind.i64.wrap ((nth a 1).toInt + (1 : Int))) + (nth r0 2).toInt)).toNat - (IntKind.i64.wrap ((nth a 1).toInt + (1 : Int))).toNat)))])
  none)
  none)
  none))
  none)
  none)
theorem e92 : ∀ I n a, (compF Try.prog sg 92).map (fun d => d.ev I n a) = some (F92 I n a) := fun I n a => by kernel_rfl
/-! spec.DrawHeapNew -/
def F39 (I : Interp) (n : Nat) (a : List PV) : Option (List PV) :=
  ((I 97 [(nth a 0)]).bind fun r0 =>
  ((I 4197 [(nth r0 0), (PV.list ((PV.int (0 : Int)) :: ((PV.int (1 : Int)) :: ((PV.int (5 : Int)) :: ((PV.int (3000 : Int)) :: ((PV.int (3001 : Int)) :: ((PV.int (-1 : Int)) :: ([] : List PV))))))))]).bind fun r1 =>
  (some [(nth r1 0)])))
theorem e39 : ∀ I n a, (compF Try.prog sg 39).map (fun d => d.ev I n a) = some (F39 I n a) := fun I n a => by kernel_rfl
/-! impl.blocksOf -/
def L106_0 (I : Interp) (n : Nat) (p7 : List PV) : Option (Ex × List PV) :=
  (iff (ltI (nth p7 0).toInt ((nth p7 2).fld 3).toInt)
  (iff (geI (nth p7 0).toInt (0 : Int))
  (iff (ltI (nth p7 0).toInt (((nth p7 2).fld 0).toList.length : Int))
  ((I 163 [(nth ((nth p7 2).fld 0).toList (nth p7 0).toInt.toNat)]).bind fun r8 =>
  (letB (selB (!(nth r8 3).toBool) (PV.bool true) (selB ((!(nth r8 3).toBool) == false) (PV.bool (gtI (selB ((!(nth r8 3).toBool) == false) (PV.int (IntKind.i64.wrap ((selB ((!(nth r8 3).toBool) == false) (PV.int (IntKind.i64.wrap ((selB ((!(nth r8 3).toBool) == false) (nth p7 0) PV.unit).toInt + (1 : Int)))) PV.unit).toInt + (selB ((!(nth r8 3).toBool) == false) (nth r8 2) PV.unit).toInt))) PV.unit).toInt (selB ((!(nth r8 3).toBool) == false) ((nth p7 2).fld 3) PV.unit).toInt)) PV.unit)) fun v9 =>
  (iff v9.toBool
  (some (Ex.r, [(PV.list ([] : List PV)), (PV.bool false)]))
  (iff (leN ((nth p7 1).toList.length + ((nth p7 0) :: ([] : List PV)).length) 17592186044416)
  (some (Ex.n, [(PV.int (IntKind.i64.wrap ((nth p7 0).toInt + (IntKind.i64.wrap ((1 : Int) + (nth r8 2).toInt))))), (PV.list ((nth p7 1).toList ++ ((nth p7 0) :: ([] : List PV)))), (nth p7 2)]))
  none))))
  none)
  none)
  (some (Ex.x 0, [(nth p7 1)])))
def F106 (I : Interp) (n : Nat) (a : List PV) : Option (List PV) :=
  ((I 102 [((nth a 0).fld 1), (PV.int (1 : Int)), (PV.int (3000 : Int))]).bind fun r0 =>
  (letB (selB (!(nth r0 0).toBool) (PV.bool true) (selB ((!(nth r0 0).toBool) == false) (PV.bool (neI (selB ((!(nth r0 0).toBool) == false) (PV.int ((selB ((!(nth r0 0).toBool) == false) ((nth a 0).fld 0) PV.unit).toList.length : Int)) PV.unit).toInt (selB ((!(nth r0 0).toBool) == false) (PV.int (IntKind.i64.wrap ((2 : Int) * (selB ((!(nth r0 0).toBool) == false) ((nth a 0).fld 1) PV.unit).toInt))) PV.unit).toInt)) PV.unit)) fun v1 =>
  (letB (selB (v1.isB false) (selB (selB (v1.isB false) (selB (v1.isB false) (PV.bool (neI (selB (v1.isB false) ((nth a 0).fld 2) PV.unit).toInt (0 : Int))) PV.unit) PV.unit).toBool (selB ((selB (v1.isB false) (selB (v1.isB false) (PV.bool (neI (selB (v1.isB false) ((nth a 0).fld 2) PV.unit).toInt (0 : Int))) PV.unit) PV.unit).isB true) (PV.bool (neI (selB ((selB (v1.isB false) (selB (v1.isB false) (PV.bool (neI (selB (v1.isB false) ((nth a 0).fld 2) PV.unit).toInt (0 : Int))) PV.unit) PV.unit).isB true) ((nth a 0).fld 2) PV.unit).toInt (selB ((selB (v1.isB false) (selB (v1.isB false) (PV.bool (neI (selB (v1.isB false) ((nth a 0).fld 2) PV.unit).toInt (0 : Int))) PV.unit) PV.unit).isB true) ((nth a 0).fld 1) PV.unit).toInt)) PV.unit) (PV.bool false)) PV.unit) fun v2 =>
  (letB (selB v1.toBool (PV.bool true) v2) fun v3 =>
  ((iff (v3.isB false)
  ((I 102 [(selB (v3.isB false) ((nth a 0).fld 3) PV.unit), (selB (v3.isB false) ((nth a 0).fld 2) PV.unit), (selB (v3.isB false) (PV.int (IntKind.i64.wrap ((selB (v3.isB false) ((nth a 0).fld 2) PV.unit).toInt + (selB (v3.isB false) ((nth a 0).fld 1) PV.unit).toInt))) PV.unit)]).bind fun r4 =>
  (some [(nth r4 0), (nth r4 0)]))
  (some [PV.unit, PV.unit])).bind fun g5 =>
  (letB (selB v3.toBool (PV.bool true) (selB (v3.isB false) (PV.bool (!(nth g5 0).toBool)) PV.unit)) fun v6 =>
  (iff v6.toBool
  (some [(PV.list ([] : List PV)), (PV.bool false)])
  (thenN (thenE (loopEv (L106_0 I n) n [((nth a 0).fld 2), (PV.list ([] : List PV)), (nth a 0)])
  (passB 0))
  (fun p10 => (some [(nth p10 0), (PV.bool true)]))
  (retE fun q11 => [(nth q11 0), (nth q11 1)])))))))))
theorem e106 : ∀ I n a, (compF Try.prog sg 106).map (fun d => d.ev I n a) = some (F106 I n a) := fun I n a => ew_ev (g := F106) (fun I n a => by kernel_rfl) I n a
/-! impl.isInt -/
def F107 (I : Interp) (n : Nat) (a : List PV) : Option (List PV) :=
  ((I 94 [(nth a 0)]).bind fun r0 =>
  ((iff ((!(nth r0 0).toBool) == true)
  ((I 158 [(selB ((!(nth r0 0).toBool) == true) (nth a 0) PV.unit)]).bind fun r1 =>
  (some [(nth r1 0), (nth r1 0)]))
  (some [PV.unit, PV.unit])).bind fun g2 =>
  ((iff ((!(nth r0 0).toBool) == true)
  ((I 120 [(nth g2 0)]).bind fun r3 =>
  (some [(nth r3 0), (nth r3 0)]))
  (some [PV.unit, PV.unit])).bind fun g4 =>
  (some [(selB (!(nth r0 0).toBool) (nth g4 0) (PV.bool false))]))))
theorem e107 : ∀ I n a, (compF Try.prog sg 107).map (fun d => d.ev I n a) = some (F107 I n a) := fun I n a => by kernel_rfl
/-! spec.l18Move -/
def L159_0 (I : Interp) (n : Nat) (p2 : List PV) : Option (Ex × List PV) :=
  (iff (ltI (nth p2 0).toInt (((nth p2 2).fld 2).toList.length : Int))
  (iff (geI (nth p2 0).toInt (0 : Int))
  (iff (ltI (nth p2 0).toInt (((nth p2 2).fld 2).toList.length : Int))
  (iff (eqI (nth ((nth p2 2).fld 2).toList (nth p2 0).toInt.toNat).toInt (nth p2 1).toInt)
  (iff (geI (nth p2 0).toInt (0 : Int))
  (iff (ltI (nth p2 0).toInt (((nth p2 2).fld 3).toList.length : Int))
  ((I 191 [(nth ((nth p2 2).fld 3).toList (nth p2 0).toInt.toNat)]).bind fun r3 =>
  (some (Ex.r, [(nth p2 2), (nth r3 0)])))
  none)
  none)
  (some (Ex.n, [(PV.int (IntKind.i64.wrap ((nth p2 0).toInt + (1 : Int)))), (nth p2 1), (nth p2 2)])))
  none)
  none)
  (some (Ex.x 0, [(nth p2 1), (nth p2 2)])))
def L159_1 (I : Interp) (n : Nat) (p6 : List PV) : Option (Ex × List PV) :=
  (iff (leI (nth p6 0).toInt (nth p6 1).toInt)
  (iff (geI (IntKind.i64.wrap ((nth p6 2).toInt + (nth p6 0).toInt)) (0 : Int))
  (iff (ltI (IntKind.i64.wrap ((nth p6 2).toInt + (nth p6 0).toInt)) ((((nth p6 4).fld 0).fld 0).toList.length : Int))
  (iff (geI (IntKind.i64.wrap ((nth p6 3).toInt + (nth p6 0).toInt)) (0 : Int))
  (iff (ltI (IntKind.i64.wrap ((nth p6 3).toInt + (nth p6 0).toInt)) ((((nth p6 4).fld 1).fld 0).toList.length : Int))
  (some (Ex.n, [(PV.int (IntKind.i64.wrap ((nth p6 0).toInt + (1 : Int)))), (nth p6 1), (nth p6 2), (nth p6 3), ((nth p6 4).setFld 1 (((nth p6 4).fld 1).setFld 0 (PV.list ((((nth p6 4).fld 1).fld 0).toList.set (IntKind.i64.wrap ((nth p6 3).toInt + (nth p6 0).toInt)).toNat (nth (((nth p6 4).fld 0).fld 0).toList (IntKind.i64.wrap ((nth p6 2).toInt + (nth p6 0).toInt)).toNat)))))]))
  none)
  none)
  none)
  none)
  (some (Ex.x 2, [(nth p6 1), (nth p6 2), (nth p6 3), (nth p6 4)])))
def F159 (I : Interp) (n : Nat) (a : List PV) : Option (List PV) :=
  ((I 156 [(nth a 1)]).bind fun r0 =>
  (iff (!(nth r0 0).toBool)
  (some [(nth a 1), (nth a 0)])
  ((I 111 [(nth a 1)]).bind fun r1 =>
  (thenN (thenE (loopEv (L159_0 I n) n [(PV.int (0 : Int)), (nth r1 0), (nth a 0)])
  (passB 0))
  (fun p4 => (iff (geI (nth p4 0).toInt (0 : Int))
  (iff (ltI (nth p4 0).toInt ((((nth p4 1).fld 0).fld 0).toList.length : Int))
  ((I 109 [(nth (((nth p4 1).fld 0).fld 0).toList (nth p4 0).toInt.toNat)]).bind fun r5 =>
  (thenN (thenE (loopEv (L159_1 I n) n [(PV.int (0 : Int)), (nth r5 2), (nth p4 0), (((nth p4 1).fld 1).fld 3), (nth p4 1)])
  (passB 2))
  (fun p7 => (iff (leN ((((nth p7 3).setFld 1 (((nth p7 3).fld 1).setFld 3 (PV.int (IntKind.i64.wrap ((IntKind.i64.wrap ((nth p7 2).toInt + (1 : Int))) + (nth p7 0).toInt))))).fld 2).toList.length + ((nth p7 1) :: ([] : List PV)).length) 17592186044416)
  (iff (leN ((((((nth p7 3).setFld 1 (((nth p7 3).fld 1).setFld 3 (PV.int (IntKind.i64.wrap ((IntKind.i64.wrap ((nth p7 2).toInt + (1 : Int))) + (nth p7 0).toInt))))).setFld 2 PV.unit).setFld 2 (PV.list ((((nth p7 3).setFld 1 (((nth p7 3).fld 1).setFld 3 (PV.int (IntKind.i64.wrap ((IntKind.i64.wrap ((nth p7 2).toInt + (1 : Int))) + (nth p7 0).toInt))))).fld 2).toList ++ ((nth p7 1) :: ([] : List PV))))).fld 3).toList.length + ((nth p7 2) :: ([] : List PV)).length) 17592186044416)
  ((I 191 [(nth p7 2)]).bind fun r8 =>
  (some [(nth r8 0), ((((((nth p7 3).setFld 1 (((nth p7 3).fld 1).setFld 3 (PV.int (IntKind.i64.wrap ((IntKind.i64.wrap ((nth p7 2).toInt + (1 : Int))) + (nth p7 0).toInt))))).setFld 2 PV.unit).setFld 2 (PV.list ((((nth p7 3).setFld 1 (((nth p7 3).fld 1).setFld 3 (PV.int (IntKind.i64.wrap ((IntKind.i64.wrap ((nth p7 2).toInt + (1 : Int))) + (nth p7 0).toInt))))).fld 2).toList ++ ((nth p7 1) :: ([] : List PV))))).setFld 3 PV.unit).setFld 3 (PV.list ((((((nth p7 3).setFld 1 (((nth p7 3).fld 1).setFld 3 (PV.int (IntKind.i64.wrap ((IntKind.i64.wrap ((nth p7 2).toInt + (1 : Int))) + (nth p7 0).toInt))))).setFld 2 PV.unit).setFld 2 (PV.list ((((nth p7 3).setFld 1 (((nth p7 3).fld 1).setFld 3 (PV.int (IntKind.i64.wrap ((IntKind.i64.wrap ((nth p7 2).toInt + (1 : Int))) + (nth p7 0).toInt))))).fld 2).toList ++ ((nth p7 1) :: ([] : List PV))))).fld 3).toList ++ ((nth p7 2) :: ([] : List PV)))))]))
  none)
  none))
  (retE fun q9 => [(nth q9 1), (nth q9 0)])))
  none)
  none))
  (retE fun q10 => [(nth q10 1), (nth q10 0)])))))
theorem e159 : ∀ I n a, (compF Try.prog sg 159).map (fun d => d.ev I n a) = some (F159 I n a) := fun I n a => by kernel_rfl
/-! impl.isBlock -/
def F108 (I : Interp) (n : Nat) (a : List PV) : Option (List PV) :=
  ((I 96 [(nth a 1)]).bind fun r0 =>
  ((I 167 [(nth a 0), (nth r0 0)]).bind fun r1 =>
  ((I 94 [(nth a 1)]).bind fun r2 =>
  (some [(selB (nth r2 0).toBool (selB ((nth r2 0).isB true) (nth r1 1) PV.unit) (PV.bool false))]))))
theorem e108 : ∀ I n a, (compF Try.prog sg 108).map (fun d => d.ev I n a) = some (F108 I n a) := fun I n a => by kernel_rfl
/-! spec.l18Collect -/
def L87_0 (I : Interp) (n : Nat) (p0 : List PV) : Option (Ex × List PV) :=
  (iff (ltI (nth p0 0).toInt ((nth p0 1).toList.length : Int))
  (iff (geI (nth p0 0).toInt (0 : Int))
  (iff (ltI (nth p0 0).toInt ((nth p0 1).toList.length : Int))
  ((I 159 [(nth p0 3), (nth (nth p0 1).toList (nth p0 0).toInt.toNat)]).bind fun r1 =>
  (iff (leN ((nth p0 2).toList.length + ((nth r1 0) :: ([] : List PV)).length) 17592186044416)
  (some (Ex.n, [(PV.int (IntKind.i64.wrap ((nth p0 0).toInt + (1 : Int)))), (nth p0 1), (PV.list ((nth p0 2).toList ++ ((nth r1 0) :: ([] : List PV)))), (nth r1 1), (nth p0 4)]))
  none))
  none)
  none)
  (some (Ex.x 0, [(nth p0 2), (nth p0 3), (nth p0 4)])))
def L87_1 (I : Interp) (n : Nat) (p5 : List PV) : Option (Ex × List PV) :=
  (iff (leI (nth p5 0).toInt (nth p5 2).toInt)
  (iff (geI (IntKind.i64.wrap ((nth p5 1).toInt + (nth p5 0).toInt)) (0 : Int))
  (iff (ltI (IntKind.i64.wrap ((nth p5 1).toInt + (nth p5 0).toInt)) ((((nth p5 4).fld 1).fld 0).toList.length : Int))
  ((I 159 [(nth p5 4), (nth (((nth p5 4).fld 1).fld 0).toList (IntKind.i64.wrap ((nth p5 1).toInt + (nth p5 0).toInt)).toNat)]).bind fun r6 =>
  (iff (geI (IntKind.i64.wrap ((nth p5 1).toInt + (nth p5 0).toInt)) (0 : Int))
  (iff (ltI (IntKind.i64.wrap ((nth p5 1).toInt + (nth p5 0).toInt)) ((((nth r6 1).fld 1).fld 0).toList.length : Int))
  (some (Ex.n, [(PV.int (IntKind.i64.wrap ((nth p5 0).toInt + (1 : Int)))), (nth p5 1), (nth p5 2), (nth p5 3), ((nth r6 1).setFld 1 (((nth r6 1).fld 1).setFld 0 (PV.list ((((nth r6 1).fld 1).fld 0).toList.set (IntKind.i64.wrap ((nth p5 1).toInt + (nth p5 0).toInt)).toNat (nth r6 0))))), (nth p5 5)]))
  none)
  none))
  none)
  none)
  (some (Ex.x 4, [(nth p5 1), (nth p5 2), (nth p5 3), (nth p5 4), (nth p5 5)])))
def L87_2 (I : Interp) (n : Nat) (p3 : List PV) : Option (Ex × List PV) :=
  (iff (ltI (nth p3 0).toInt (((nth p3 2).fld 1).fld 3).toInt)
  (iff (geI (nth p3 0).toInt (0 : Int))
  (iff (ltI (nth p3 0).toInt ((((nth p3 2).fld 1).fld 0).toList.length : Int))
  ((I 109 [(nth (((nth p3 2).fld 1).fld 0).toList (nth p3 0).toInt.toNat)]).bind fun r4 =>
  (thenN (thenE (loopEv (L87_1 I n) n [(PV.int (1 : Int)), (nth p3 0), (nth r4 2), (nth p3 1), (nth p3 2), (nth p3 3)])
  (passB 4))
  (fun p7 => (some (Ex.n, [(PV.int (IntKind.i64.wrap ((IntKind.i64.wrap ((nth p7 0).toInt + (1 : Int))) + (nth p7 1).toInt))), (nth p7 2), (nth p7 3), (nth p7 4)])))
  passE))
  none)
  none)
  (some (Ex.x 2, [(nth p3 1), (nth p3 2), (nth p3 3)])))
def F87 (I : Interp) (n : Nat) (a : List PV) : Option (List PV) :=
  (iff (geI (IntKind.i64.wrap ((2 : Int) * ((nth a 0).fld 1).toInt)) (0 : Int))
  (iff (leI (IntKind.i64.wrap ((2 : Int) * ((nth a 0).fld 1).toInt)) (IntKind.i64.wrap ((2 : Int) * ((nth a 0).fld 1).toInt)))
  (iff (leI (IntKind.i64.wrap ((2 : Int) * ((nth a 0).fld 1).toInt)) (17592186044416 : Int))
  (thenN (thenE (loopEv (L87_0 I n) n [(PV.int (0 : Int)), (nth a 1), (PV.list ([] : List PV)), (PV.agg [(nth a 0), (PV.agg [(PV.list (List.replicate (IntKind.i64.wrap ((2 : Int) * ((nth a 0).fld 1).toInt)).toNat (PV.int (0 : Int)))), ((nth a 0).fld 1), (PV.int (IntKind.i64.wrap (((nth a 0).fld 1).toInt - ((nth a 0).fld 2).toInt))), (PV.int (IntKind.i64.wrap (((nth a 0).fld 1).toInt - ((nth a 0).fld 2).toInt)))]), (PV.list ([] : List PV)), (PV.list ([] : List PV))]), (PV.agg [(PV.list ([] : List PV)), (PV.int (0 : Int)), (PV.int (0 : Int)), (PV.int (0 : Int))])])
  (passB 0))
  (fun p2 => (thenN (thenE (loopEv (L87_2 I n) n [(((nth p2 1).fld 1).fld 2), (nth p2 0), (nth p2 1), (nth p2 2)])
  (passB 2))
  (fun p8 => (some [((nth p8 1).fld 1), (nth p8 0)]))
  (retE fun q9 => [(nth q9 1), (nth q9 0)])))
  (retE fun q10 => [(nth q10 1), (nth q10 0)]))
  none)
  none)
  none)
theorem e87 : ∀ I n a, (compF Try.prog sg 87).map (fun d => d.ev I n a) = some (F87 I n a) := fun I n a => by kernel_rfl
/-! spec.l18Collect -/
def L4183_0 (I : Interp) (n : Nat) (p0 : List PV) : Option (Ex × List PV) :=
  (iff (ltI (nth p0 0).toInt ((nth p0 2).toList.length : Int))
  (iff (geI (nth p0 0).toInt (0 : Int))
  (iff (ltI (nth p0 0).toInt ((nth p0 2).toList.length : Int))
  ((I 159 [(nth p0 3), (nth (nth p0 2).toList (nth p0 0).toInt.toNat)]).bind fun r1 =>
  (iff (leN ((nth p0 1).toList.length + ((nth r1 0) :: ([] : List PV)).length) 17592186044416)
  (some (Ex.n, [(PV.int (IntKind.i64.wrap ((nth p0 0).toInt + (1 : Int)))), (PV.list ((nth p0 1).toList ++ ((nth r1 0) :: ([] : List PV)))), (nth p0 2), (nth r1 1), (nth p0 4)]))
  none))
  none)
  none)
  (some (Ex.x 0, [(nth p0 2), (nth p0 1), (nth p0 3), (nth p0 4)])))
def L4183_1 (I : Interp) (n : Nat) (p5 : List PV) : Option (Ex × List PV) :=
  (iff (leI (nth p5 1).toInt (nth p5 3).toInt)
  (iff (geI (IntKind.i64.wrap ((nth p5 2).toInt + (nth p5 1).toInt)) (0 : Int))
  (iff (ltI (IntKind.i64.wrap ((nth p5 2).toInt + (nth p5 1).toInt)) ((((nth p5 5).fld 1).fld 0).toList.length : Int))
  ((I 159 [(nth p5 5), (nth (((nth p5 5).fld 1).fld 0).toList (IntKind.i64.wrap ((nth p5 2).toInt + (nth p5 1).toInt)).toNat)]).bind fun r6 =>
  (iff (geI (IntKind.i64.wrap ((nth p5 2).toInt + (nth p5 1).toInt)) (0 : Int))
  (iff (ltI (IntKind.i64.wrap ((nth p5 2).toInt + (nth p5 1).toInt)) ((((nth r6 1).fld 1).fld 0).toList.length : Int))
  (some (Ex.n, [(nth p5 0), (PV.int (IntKind.i64.wrap ((nth p5 1).toInt + (1 : Int)))), (nth p5 2), (nth p5 3), (nth p5 4), ((nth r6 1).setFld 1 (((nth r6 1).fld 1).setFld 0 (PV.list ((((nth r6 1).fld 1).fld 0).toList.set (IntKind.i64.wrap ((nth p5 2).toInt + (nth p5 1).toInt)).toNat (nth r6 0))))), (nth p5 6)]))
  none)
  none))
  none)
  none)
  (some (Ex.x 4, [(nth p5 0), (nth p5 2), (nth p5 3), (nth p5 4), (nth p5 5), (nth p5 6)])))
def L4183_2 (I : Interp) (n : Nat) (p3 : List PV) : Option (Ex × List PV) :=
  (iff (ltI (nth p3 1).toInt (((nth p3 3).fld 1).fld 3).toInt)
  (iff (geI (nth p3 1).toInt (0 : Int))
  (iff (ltI (nth p3 1).toInt ((((nth p3 3).fld 1).fld 0).toList.length : Int))
  ((I 109 [(nth (((nth p3 3).fld 1).fld 0).toList (nth p3 1).toInt.toNat)]).bind fun r4 =>
  (thenN (thenE (loopEv (L4183_1 I n) n [(nth p3 0), (PV.int (1 : Int)), (nth p3 1), (nth r4 2), (nth p3 2), (nth p3 3), (nth p3 4)])
  (passB 4))
  (fun p7 => (some (Ex.n, [(nth p7 0), (PV.int (IntKind.i64.wrap ((IntKind.i64.wrap ((nth p7 1).toInt + (1 : Int))) + (nth p7 2).toInt))), (nth p7 3), (nth p7 4), (nth p7 5)])))
  passE))
  none)
  none)
  (some (Ex.x 2, [(nth p3 0), (nth p3 2), (nth p3 3), (nth p3 4)])))
def F4183 (I : Interp) (n : Nat) (a : List PV) : Option (List PV) :=
  (iff (geI (IntKind.i64.wrap ((2 : Int) * ((nth a 0).fld 1).toInt)) (0 : Int))
  (iff (leI (IntKind.i64.wrap ((2 : Int) * ((nth a 0).fld 1).toInt)) (IntKind.i64.wrap ((2 : Int) * ((nth a 0).fld 1).toInt)))
  (iff (leI (IntKind.i64.wrap ((2 : Int) * ((nth a 0).fld 1).toInt)) (17592186044416 : Int))
  (thenN (thenE (loopEv (L4183_0 I n) n [(PV.int (0 : Int)), (PV.list ([] : List PV)), (nth a 1), (PV.agg [(nth a 0), (PV.agg [(PV.list (List.replicate (IntKind.i64.wrap ((2 : Int) * ((nth a 0).fld 1).toInt)).toNat (PV.int (0 : Int)))), ((nth a 0).fld 1), (PV.int (IntKind.i64.wrap (((nth a 0).fld 1).toInt - ((nth a 0).fld 2).toInt))), (PV.int (IntKind.i64.wrap (((nth a 0).fld 1).toInt - ((nth a 0).fld 2).toInt)))]), (PV.list ([] : List PV)), (PV.list ([] : List PV))]), (PV.agg [(PV.list ([] : List PV)), (PV.int (0 : Int)), (PV.int (0 : Int)), (PV.int (0 : Int))])])
  (passB 0))
  (fun p2 => (thenN (thenE (loopEv (L4183_2 I n) n [(nth p2 0), (((nth p2 2).fld 1).fld 2), (nth p2 1), (nth p2 2), (nth p2 3)])
  (passB 2))
  (fun p8 => (some [((nth p8 2).fld 1), (nth p8 1), (nth p8 0)]))
  (retE fun q9 => [(nth q9 2), (nth q9 1), (nth q9 0)])))
  (retE fun q10 => [(nth q10 2), (nth q10 1), (nth q10 0)]))
  none)
  none)
  none)
theorem e4183 : ∀ I n a, (compF Try.prog sg 4183).map (fun d => d.ev I n a) = some (F4183 I n a) := fun I n a => by kernel_rfl
/-! spec.l18Collect -/
def L8279_0 (I : Interp) (n : Nat) (p0 : List PV) : Option (Ex × List PV) :=
  (iff (ltI (nth p0 0).toInt ((nth p0 1).toList.length : Int))
  (iff (geI (nth p0 0).toInt (0 : Int))
  (iff (ltI (nth p0 0).toInt ((nth p0 1).toList.length : Int))
  ((I 159 [(nth p0 3), (nth (nth p0 1).toList (nth p0 0).toInt.toNat)]).bind fun r1 =>
  (iff (leN ((nth p0 2).toList.length + ((nth r1 0) :: ([] : List PV)).length) 17592186044416)
  (some (Ex.n, [(PV.int (IntKind.i64.wrap ((nth p0 0).toInt + (1 : Int)))), (nth p0 1), (PV.list ((nth p0 2).toList ++ ((nth r1 0) :: ([] : List PV)))), (nth r1 1), (nth p0 4)]))
  none))
  none)
  none)
  (some (Ex.x 0, [(nth p0 2), (nth p0 3), (nth p0 4)])))
def L8279_1 (I : Interp) (n : Nat) (p5 : List PV) : Option (Ex × List PV) :=
  (iff (leI (nth p5 0).toInt (nth p5 2).toInt)
  (iff (geI (IntKind.i64.wrap ((nth p5 1).toInt + (nth p5 0).toInt)) (0 : Int))
  (iff (ltI (IntKind.i64.wrap ((nth p5 1).toInt + (nth p5 0).toInt)) ((((nth p5 4).fld 1).fld 0).toList.length : Int))
  ((I 159 [(nth p5 4), (nth (((nth p5 4).fld 1).fld 0).toList (IntKind.i64.wrap ((nth p5 1).toInt + (nth p5 0).toInt)).toNat)]).bind fun r6 =>
  (iff (geI (IntKind.i64.wrap ((nth p5 1).toInt + (nth p5 0).toInt)) (0 : Int))
  (iff (ltI (IntKind.i64.wrap ((nth p5 1).toInt + (nth p5 0).toInt)) ((((nth r6 1).fld 1).fld 0).toList.length : Int))
  (some (Ex.n, [(PV.int (IntKind.i64.wrap ((nth p5 0).toInt + (1 : Int)))), (nth p5 1), (nth p5 2), (nth p5 3), ((nth r6 1).setFld 1 (((nth r6 1).fld 1).setFld 0 (PV.list ((((nth r6 1).fld 1).fld 0).toList.set (IntKind.i64.wrap ((nth p5 1).toInt + (nth p5 0).toInt)).toNat (nth r6 0))))), (nth p5 5)]))
  none)
  none))
  none)
  none)
  (some (Ex.x 4, [(nth p5 1), (nth p5 2), (nth p5 3), (nth p5 4), (nth p5 5)])))
def L8279_2 (I : Interp) (n : Nat) (p3 : List PV) : Option (Ex × List PV) :=
  (iff (ltI (nth p3 0).toInt (((nth p3 2).fld 1).fld 3).toInt)
  (iff (geI (nth p3 0).toInt (0 : Int))
  (iff (ltI (nth p3 0).toInt ((((nth p3 2).fld 1).fld 0).toList.length : Int))
  ((I 109 [(nth (((nth p3 2).fld 1).fld 0).toList (nth p3 0).toInt.toNat)]).bind fun r4 =>
  (thenN (thenE (loopEv (L8279_1 I n) n [(PV.int (1 : Int)), (nth p3 0), (nth r4 2), (nth p3 1), (nth p3 2), (nth p3 3)])
  (passB 4))
  (fun p7 => (some (Ex.n, [(PV.int (IntKind.i64.wrap ((IntKind.i64.wrap ((nth p7 0).toInt + (1 : Int))) + (nth p7 1).toInt))), (nth p7 2), (nth p7 3), (nth p7 4)])))
  passE))
  none)
  none)
  (some (Ex.x 2, [(nth p3 1), (nth p3 2), (nth p3 3)])))
def F8279 (I : Interp) (n : Nat) (a : List PV) : Option (List PV) :=
  (iff (geI (IntKind.i64.wrap ((2 : Int) * ((nth a 0).fld 1).toInt)) (0 : Int))
  (iff (leI (IntKind.i64.wrap ((2 : Int) * ((nth a 0).fld 1).toInt)) (IntKind.i64.wrap ((2 : Int) * ((nth a 0).fld 1).toInt)))
  (iff (leI (IntKind.i64.wrap ((2 : Int) * ((nth a 0).fld 1).toInt)) (17592186044416 : Int))
  (thenN (thenE (loopEv (L8279_0 I n) n [(PV.int (0 : Int)), (nth a 1), (PV.list ([] : List PV)), (PV.agg [(nth a 0), (PV.agg [(PV.list (List.replicate (IntKind.i64.wrap ((2 : Int) * ((nth a 0).fld 1).toInt)).toNat (PV.int (0 : Int)))), ((nth a 0).fld 1), (PV.int (IntKind.i64.wrap (((nth a 0).fld 1).toInt - ((nth a 0).fld 2).toInt))), (PV.int (IntKind.i64.wrap (((nth a 0).fld 1).toInt - ((nth a 0).fld 2).toInt)))]), (PV.list ([] : List PV)), (PV.list ([] : List PV))]), (PV.agg [(PV.list ([] : List PV)), (PV.int (0 : Int)), (PV.int (0 : Int)), (PV.int (0 : Int))])])
  (passB 0))
  (fun p2 => (thenN (thenE (loopEv (L8279_2 I n) n [(((nth p2 1).fld 1).fld 2), (nth p2 0), (nth p2 1), (nth p2 2)])
  (passB 2))
  (fun p8 => (some [((nth p8 1).fld 1), (nth p8 0)]))
  (retE fun q9 => [(nth q9 1), (nth q9 0)])))
  (retE fun q10 => [(nth q10 1), (nth q10 0)]))
  none)
  none)
  none)
theorem e8279 : ∀ I n a, (compF Try.prog sg 8279).map (fun d => d.ev I n a) = some (F8279 I n a) := fun I n a => by kernel_rfl
/-! spec.l17There -/
def F110 (I : Interp) (n : Nat) (a : List PV) : Option (List PV) :=
  ((I 156 [(nth a 1)]).bind fun r0 =>
  (iff (nth r0 0).toBool
  ((I 111 [(nth a 1)]).bind fun r1 =>
  ((I 113 [(nth a 0), (nth r1 0)]).bind fun r2 =>
  (some [(nth r2 0)])))
  ((I 157 [(nth a 1)]).bind fun r3 =>
  ((I 117 [(nth r3 0)]).bind fun r4 =>
  (some [(nth r4 0)])))))
theorem e110 : ∀ I n a, (compF Try.prog sg 110).map (fun d => d.ev I n a) = some (F110 I n a) := fun I n a => by kernel_rfl
/-! spec.HeapOk -/
def L34_0 (I : Interp) (n : Nat) (p10 : List PV) : Option (Ex × List PV) :=
  (iff (leI (nth p10 0).toInt (nth p10 1).toInt)
  (iff (geI (nth p10 2).toInt (0 : Int))
  (iff (ltI (nth p10 2).toInt ((nth p10 3).toList.length : Int))
  (iff (geI (IntKind.i64.wrap ((nth (nth p10 3).toList (nth p10 2).toInt.toNat).toInt + (nth p10 0).toInt)) (0 : Int))
  (iff (ltI (IntKind.i64.wrap ((nth (nth p10 3).toList (nth p10 2).toInt.toNat).toInt + (nth p10 0).toInt)) (((nth p10 4).fld 0).toList.length : Int))
  ((I 110 [(nth p10 3), (nth ((nth p10 4).fld 0).toList (IntKind.i64.wrap ((nth (nth p10 3).toList (nth p10 2).toInt.toNat).toInt + (nth p10 0).toInt)).toNat)]).bind fun r11 =>
  (iff (!(nth r11 0).toBool)
  (some (Ex.r, [(PV.bool false)]))
  (some (Ex.n, [(PV.int (IntKind.i64.wrap ((nth p10 0).toInt + (1 : Int)))), (nth p10 1), (nth p10 2), (nth p10 3), (nth p10 4)]))))
  none)
  none)
  none)
  none)
  (some (Ex.x 2, [(nth p10 2), (nth p10 3), (nth p10 4)])))
def L34_1 (I : Interp) (n : Nat) (p8 : List PV) : Option (Ex × List PV) :=
  (iff (ltI (nth p8 0).toInt ((nth p8 1).toList.length : Int))
  (iff (geI (nth p8 0).toInt (0 : Int))
  (iff (ltI (nth p8 0).toInt ((nth p8 1).toList.length : Int))
  (iff (geI (nth (nth p8 1).toList (nth p8 0).toInt.toNat).toInt (0 : Int))
  (iff (ltI (nth (nth p8 1).toList (nth p8 0).toInt.toNat).toInt (((nth p8 2).fld 0).toList.length : Int))
  ((I 109 [(nth ((nth p8 2).fld 0).toList (nth (nth p8 1).toList (nth p8 0).toInt.toNat).toInt.toNat)]).bind fun r9 =>
  (thenN (thenE (loopEv (L34_0 I n) n [(PV.int (1 : Int)), (nth r9 2), (nth p8 0), (nth p8 1), (nth p8 2)])
  (passB 2))
  (fun p12 => (some (Ex.n, [(PV.int (IntKind.i64.wrap ((nth p12 0).toInt + (1 : Int)))), (nth p12 1), (nth p12 2)])))
  passE))
  none)
  none)
  none)
  none)
  (some (Ex.x 0, [])))
def F34 (I : Interp) (n : Nat) (a : List PV) : Option (List PV) :=
  ((I 104 [((nth a 0).fld 1), (PV.int (1 : Int)), (PV.int (3000 : Int))]).bind fun r0 =>
  (letB (selB (!(nth r0 0).toBool) (PV.bool true) (selB ((!(nth r0 0).toBool) == false) (PV.bool (neI (selB ((!(nth r0 0).toBool) == false) (PV.int ((selB ((!(nth r0 0).toBool) == false) ((nth a 0).fld 0) PV.unit).toList.length : Int)) PV.unit).toInt (selB ((!(nth r0 0).toBool) == false) (PV.int (IntKind.i64.wrap ((2 : Int) * (selB ((!(nth r0 0).toBool) == false) ((nth a 0).fld 1) PV.unit).toInt))) PV.unit).toInt)) PV.unit)) fun v1 =>
  (letB (selB (v1.isB false) (selB (selB (v1.isB false) (selB (v1.isB false) (PV.bool (neI (selB (v1.isB false) ((nth a 0).fld 2) PV.unit).toInt (0 : Int))) PV.unit) PV.unit).toBool (selB ((selB (v1.isB false) (selB (v1.isB false) (PV.bool (neI (selB (v1.isB false) ((nth a 0).fld 2) PV.unit).toInt (0 : Int))) PV.unit) PV.unit).isB true) (PV.bool (neI (selB ((selB (v1.isB false) (selB (v1.isB false) (PV.bool (neI (selB (v1.isB false) ((nth a 0).fld 2) PV.unit).toInt (0 : Int))) PV.unit) PV.unit).isB true) ((nth a 0).fld 2) PV.unit).toInt (selB ((selB (v1.isB false) (selB (v1.isB false) (PV.bool (neI (selB (v1.isB false) ((nth a 0).fld 2) PV.unit).toInt (0 : Int))) PV.unit) PV.unit).isB true) ((nth a 0).fld 1) PV.unit).toInt)) PV.unit) (PV.bool false)) PV.unit) fun v2 =>
  (letB (selB v1.toBool (PV.bool true) v2) fun v3 =>
  ((iff (v3.isB false)
  ((I 104 [(selB (v3.isB false) ((nth a 0).fld 3) PV.unit), (selB (v3.isB false) ((nth a 0).fld 2) PV.unit), (selB (v3.isB false) (PV.int (IntKind.i64.wrap ((selB (v3.isB false) ((nth a 0).fld 2) PV.unit).toInt + (selB (v3.isB false) ((nth a 0).fld 1) PV.unit).toInt))) PV.unit)]).bind fun r4 =>
  (some [(nth r4 0), (nth r4 0)]))
  (some [PV.unit, PV.unit])).bind fun g5 =>
  (letB (selB v3.toBool (PV.bool true) (selB (v3.isB false) (PV.bool (!(nth g5 0).toBool)) PV.unit)) fun v6 =>
  (iff v6.toBool
  (some [(PV.bool false)])
  ((I 79 [(nth a 0)]).bind fun r7 =>
  (iff (!(nth r7 1).toBool)
  (some [(PV.bool false)])
  (thenN (thenE (loopEv (L34_1 I n) n [(PV.int (0 : Int)), (nth r7 0), (nth a 0)])
  (passB 0))
  (fun p13 => (some [(PV.bool true)]))
  (retE fun q14 => [(nth q14 0)])))))))))))
theorem e34 : ∀ I n a, (compF Try.prog sg 34).map (fun d => d.ev I n a) = some (F34 I n a) := fun I n a => ew_ev (g := F34) (fun I n a => by kernel_rfl) I n a
/-! spec.Room -/
def F44 (I : Interp) (n : Nat) (a : List PV) : Option (List PV) :=
  ((I 34 [(nth a 0)]).bind fun r0 =>
  (iff (!(nth r0 0).toBool)
  (some [(PV.int (0 : Int))])
  (some [(PV.int (IntKind.i64.wrap ((IntKind.i64.wrap (((nth a 0).fld 2).toInt + ((nth a 0).fld 1).toInt)) - ((nth a 0).fld 3).toInt)))])))
theorem e44 : ∀ I n a, (compF Try.prog sg 44).map (fun d => d.ev I n a) = some (F44 I n a) := fun I n a => by kernel_rfl
/-! spec.BlockAt -/
def F37 (I : Interp) (n : Nat) (a : List PV) : Option (List PV) :=
  ((I 34 [(nth a 0)]).bind fun r0 =>
  (iff (!(nth r0 0).toBool)
  (some [(PV.bool false), (PV.int (0 : Int)), (PV.list ([] : List PV)), (PV.bool false)])
  ((I 79 [(nth a 0)]).bind fun r1 =>
  ((I 113 [(nth r1 0), (nth a 1)]).bind fun r2 =>
  (iff (!(nth r2 0).toBool)
  (some [(PV.bool false), (PV.int (0 : Int)), (PV.list ([] : List PV)), (PV.bool false)])
  (iff (geI (nth a 1).toInt (0 : Int))
  (iff (ltI (nth a 1).toInt (((nth a 0).fld 0).toList.length : Int))
  ((I 109 [(nth ((nth a 0).fld 0).toList (nth a 1).toInt.toNat)]).bind fun r3 =>
  (iff (geI (IntKind.i64.wrap ((nth a 1).toInt + (1 : Int))) (0 : Int))
  (iff (leI (IntKind.i64.wrap ((nth a 1).toInt + (1 : Int))) (IntKind.i64.wrap ((IntKind.i64.wrap ((nth a 1).toInt + (1 : Int))) + (nth r3 2).toInt)))
  (iff (leI (IntKind.i64.wrap ((IntKind.i64.wrap ((nth a 1).toInt + (1 : Int))) + (nth r3 2).toInt)) (((nth a 0).fld 0).toList.length : Int))
  (iff (leN (([] : List PV).length + ((((nth a 0).fld 0).toList.drop (IntKind.i64.wrap ((nth a 1).toInt + (1 : Int))).toNat).take ((IntKind.i64.wrap ((IntKind.i64.wrap ((nth a 1).toInt + (1 : Int))) + (nth r3 2).toInt)).toNat - (IntKind.i64.wrap ((nth a 1).toInt + (1 : Int))).toNat)).length) 17592186044416)
  (some [(nth r3 0), (nth r3 1), (PV.list (([] : List PV) ++ ((((nth a 0).fld 0).toList.drop (IntKind.i64.wrap ((nth a 1).toInt + (1 : Int))).toNat).take ((IntKind.i64.wrap ((IntKind.i64.wrap ((nth a 1).toInt + (1 : Int))) + (nth r3 2).toInt)).toNat - (IntKind.i64.wrap ((nth a 1).toInt + (1 : Int))).toNat)))), (PV.bool true)])
  none)
  none)
  none)
  none))
  none)
  none))))))
theorem e37 : ∀ I n a, (compF Try.prog sg 37).map (fun d => d.ev I n a) = some (F37 I n a) := fun I n a => by kernel_rfl
/-! impl.blockAt -/
def F112 (I : Interp) (n : Nat) (a : List PV) : Option (List PV) :=
  ((I 106 [(nth a 0)]).bind fun r0 =>
  ((I 167 [(nth r0 0), (nth a 1)]).bind fun r1 =>
  (iff (!(nth r1 1).toBool)
  (some [(PV.bool false), (PV.int (0 : Int)), (PV.list ([] : List PV)), (PV.bool false)])
  (iff (geI (nth a 1).toInt (0 : Int))
  (iff (ltI (nth a 1).toInt (((nth a 0).fld 0).toList.length : Int))
  ((I 163 [(nth ((nth a 0).fld 0).toList (nth a 1).toInt.toNat)]).bind fun r2 =>
  ((I 92 [(nth a 0), (nth a 1)]).bind fun r3 =>
  ((I 90 [(nth r3 0)]).bind fun r4 =>
  (some [(nth r2 0), (nth r2 1), (nth r4 0), (PV.bool true)]))))
  none)
  none))))
theorem e112 : ∀ I n a, (compF Try.prog sg 112).map (fun d => d.ev I n a) = some (F112 I n a) := fun I n a => by kernel_rfl
/-! spec.l18Right -/
def L85_0 (I : Interp) (n : Nat) (p2 : List PV) : Option (Ex × List PV) :=
  (iff (ltI (nth p2 0).toInt ((nth p2 2).toList.length : Int))
  (iff (geI (nth p2 0).toInt (0 : Int))
  (iff (ltI (nth p2 0).toInt ((nth p2 2).toList.length : Int))
  ((I 110 [(nth p2 1), (nth (nth p2 2).toList (nth p2 0).toInt.toNat)]).bind fun r3 =>
  (iff (!(nth r3 0).toBool)
  (some (Ex.r, [(PV.bool false)]))
  (some (Ex.n, [(PV.int (IntKind.i64.wrap ((nth p2 0).toInt + (1 : Int)))), (nth p2 1), (nth p2 2)]))))
  none)
  none)
  (some (Ex.x 0, [])))
def F85 (I : Interp) (n : Nat) (a : List PV) : Option (List PV) :=
  ((I 34 [(nth a 0)]).bind fun r0 =>
  (iff (!(nth r0 0).toBool)
  (some [(PV.bool false)])
  ((I 79 [(nth a 0)]).bind fun r1 =>
  (thenN (thenE (loopEv (L85_0 I n) n [(PV.int (0 : Int)), (nth r1 0), (nth a 1)])
  (passB 0))
  (fun p4 => (some [(PV.bool true)]))
  (retE fun q5 => [(nth q5 0)])))))
theorem e85 : ∀ I n a, (compF Try.prog sg 85).map (fun d => d.ev I n a) = some (F85 I n a) := fun I n a => by kernel_rfl
/-! impl.HeapOk -/
def L33_0 (I : Interp) (n : Nat) (p3 : List PV) : Option (Ex × List PV) :=
  (iff (ltI (nth p3 0).toInt (nth p3 1).toInt)
  (iff (geI (nth p3 0).toInt (0 : Int))
  (iff (ltI (nth p3 0).toInt ((nth p3 2).toList.length : Int))
  ((I 107 [(nth (nth p3 2).toList (nth p3 0).toInt.toNat)]).bind fun r4 =>
  ((iff ((!(nth r4 0).toBool) == true)
  ((I 108 [(nth p3 5), (selB ((!(nth r4 0).toBool) == true) (nth (nth p3 2).toList (nth p3 0).toInt.toNat) PV.unit)]).bind fun r5 =>
  (some [(nth r5 0), (nth r5 0)]))
  (some [PV.unit, PV.unit])).bind fun g6 =>
  (iff (selB (!(nth r4 0).toBool) (selB ((!(nth r4 0).toBool) == true) (PV.bool (!(nth g6 0).toBool)) PV.unit) (PV.bool false)).toBool
  (some (Ex.r, [(PV.bool false)]))
  (some (Ex.n, [(PV.int (IntKind.i64.wrap ((nth p3 0).toInt + (1 : Int)))), (nth p3 1), (nth p3 2), (nth p3 3), (nth p3 4), (nth p3 5), (nth p3 6)])))))
  none)
  none)
  (some (Ex.x 2, [(nth p3 3), (nth p3 4), (nth p3 5), (nth p3 6)])))
def L33_1 (I : Interp) (n : Nat) (p1 : List PV) : Option (Ex × List PV) :=
  (iff (ltI (nth p1 0).toInt (nth p1 1).toInt)
  (iff (geI (nth p1 0).toInt (0 : Int))
  (iff (ltI (nth p1 0).toInt ((nth p1 2).toList.length : Int))
  ((I 92 [(nth p1 3), (nth (nth p1 2).toList (nth p1 0).toInt.toNat)]).bind fun r2 =>
  (thenN (thenE (loopEv (L33_0 I n) n [(PV.int (0 : Int)), (PV.int ((nth r2 0).toList.length : Int)), (nth r2 0), (nth p1 0), (nth p1 1), (nth p1 2), (nth p1 3)])
  (passB 2))
  (fun p7 => (some (Ex.n, [(PV.int (IntKind.i64.wrap ((nth p7 0).toInt + (1 : Int)))), (nth p7 1), (nth p7 2), (nth p7 3)])))
  passE))
  none)
  none)
  (some (Ex.x 0, [])))
def F33 (I : Interp) (n : Nat) (a : List PV) : Option (List PV) :=
  ((I 106 [(nth a 0)]).bind fun r0 =>
  (iff (!(nth r0 1).toBool)
  (some [(PV.bool false)])
  (thenN (thenE (loopEv (L33_1 I n) n [(PV.int (0 : Int)), (PV.int ((nth r0 0).toList.length : Int)), (nth r0 0), (nth a 0)])
  (passB 0))
  (fun p8 => (some [(PV.bool true)]))
  (retE fun q9 => [(nth q9 0)]))))
theorem e33 : ∀ I n a, (compF Try.prog sg 33).map (fun d => d.ev I n a) = some (F33 I n a) := fun I n a => by kernel_rfl
/-! impl.Room -/
def F43 (I : Interp) (n : Nat) (a : List PV) : Option (List PV) :=
  ((I 33 [(nth a 0)]).bind fun r0 =>
  (iff (!(nth r0 0).toBool)
  (some [(PV.int (0 : Int))])
  (some [(PV.int (IntKind.i64.wrap ((IntKind.i64.wrap (((nth a 0).fld 2).toInt + ((nth a 0).fld 1).toInt)) - ((nth a 0).fld 3).toInt)))])))
theorem e43 : ∀ I n a, (compF Try.prog sg 43).map (fun d => d.ev I n a) = some (F43 I n a) := fun I n a => by kernel_rfl
/-! spec.Alloc -/
def F31 (I : Interp) (n : Nat) (a : List PV) : Option (List PV) :=
  ((I 34 [(nth a 0)]).bind fun r0 =>
  ((iff ((!(nth r0 0).toBool) == false)
  ((I 104 [(selB ((!(nth r0 0).toBool) == false) (nth a 2) PV.unit), (PV.int (0 : Int)), (PV.int (3000 : Int))]).bind fun r1 =>
  (some [(nth r1 0), (nth r1 0)]))
  (some [PV.unit, PV.unit])).bind fun g2 =>
  (iff (selB (selB (!(nth r0 0).toBool) (PV.bool true) (selB ((!(nth r0 0).toBool) == false) (PV.bool (!(nth g2 0).toBool)) PV.unit)).toBool (PV.bool true) (selB ((selB (!(nth r0 0).toBool) (PV.bool true) (selB ((!(nth r0 0).toBool) == false) (PV.bool (!(nth g2 0).toBool)) PV.unit)).isB false) (PV.bool (gtI (selB ((selB (!(nth r0 0).toBool) (PV.bool true) (selB ((!(nth r0 0).toBool) == false) (PV.bool (!(nth g2 0).toBool)) PV.unit)).isB false) (PV.int ((selB ((selB (!(nth r0 0).toBool) (PV.bool true) (selB ((!(nth r0 0).toBool) == false) (PV.bool (!(nth g2 0).toBool)) PV.unit)).isB false) (nth a 3) PV.unit).toList.length : Int)) PV.unit).toInt (20 : Int))) PV.unit)).toBool
  ((I 86 [(nth a 0)]).bind fun r3 =>
  (some [(nth r3 0), (PV.int (0 : Int)), (PV.bool false)]))
  ((I 86 [(nth a 0)]).bind fun r4 =>
  ((I 105 [(nth r4 0), (nth a 1), (nth a 2), (nth a 3)]).bind fun r5 =>
  ((iff ((!(nth r5 2).toBool) == false)
  ((I 34 [(nth r5 0)]).bind fun r6 =>
  (some [(nth r6 0), (nth r6 0)]))
  (some [PV.unit, PV.unit])).bind fun g7 =>
  (iff (selB (!(nth r5 2).toBool) (PV.bool true) (selB ((!(nth r5 2).toBool) == false) (PV.bool (!(nth g7 0).toBool)) PV.unit)).toBool
  ((I 86 [(nth a 0)]).bind fun r8 =>
  (some [(nth r8 0), (PV.int (0 : Int)), (PV.bool false)]))
  (some [(nth r5 0), (nth r5 1), (PV.bool true)]))))))))
theorem e31 : ∀ I n a, (compF Try.prog sg 31).map (fun d => d.ev I n a) = some (F31 I n a) := fun I n a => by kernel_rfl
/-! spec.Collect -/
def F21 (I : Interp) (n : Nat) (a : List PV) : Option (List PV) :=
  ((I 85 [(nth a 0), (nth a 1)]).bind fun r0 =>
  (iff (!(nth r0 0).toBool)
  ((I 86 [(nth a 0)]).bind fun r1 =>
  (iff (leN (([] : List PV).length + (nth a 1).toList.length) 17592186044416)
  (some [(nth r1 0), (PV.list (([] : List PV) ++ (nth a 1).toList))])
  none))
  ((I 87 [(nth a 0), (nth a 1)]).bind fun r2 =>
  (some [(nth r2 0), (nth r2 1)]))))
theorem e21 : ∀ I n a, (compF Try.prog sg 21).map (fun d => d.ev I n a) = some (F21 I n a) := fun I n a => by kernel_rfl
/-! spec.Collect -/
def F4117 (I : Interp) (n : Nat) (a : List PV) : Option (List PV) :=
  ((I 85 [(nth a 0), (nth a 1)]).bind fun r0 =>
  (iff (!(nth r0 0).toBool)
  ((I 86 [(nth a 0)]).bind fun r1 =>
  (iff (leN (([] : List PV).length + (nth a 1).toList.length) 17592186044416)
  (some [(nth r1 0), (PV.list (([] : List PV) ++ (nth a 1).toList)), (nth a 1)])
  none))
  ((I 87 [(nth a 0), (nth a 1)]).bind fun r2 =>
  (some [(nth r2 0), (nth r2 1), (nth a 1)]))))
theorem e4117 : ∀ I n a, (compF Try.prog sg 4117).map (fun d => d.ev I n a) = some (F4117 I n a) := fun I n a => by kernel_rfl
/-! spec.Collect -/
def F8213 (I : Interp) (n : Nat) (a : List PV) : Option (List PV) :=
  ((I 85 [(nth a 0), (nth a 1)]).bind fun r0 =>
  (iff (!(nth r0 0).toBool)
  ((I 86 [(nth a 0)]).bind fun r1 =>
  (iff (leN (([] : List PV).length + (nth a 1).toList.length) 17592186044416)
  (some [(nth r1 0), (PV.list (([] : List PV) ++ (nth a 1).toList))])
  none))
  ((I 87 [(nth a 0), (nth a 1)]).bind fun r2 =>
  (some [(nth r2 0), (nth r2 1)]))))
theorem e8213 : ∀ I n a, (compF Try.prog sg 8213).map (fun d => d.ev I n a) = some (F8213 I n a) := fun I n a => by kernel_rfl
/-! impl.BlockAt -/
def F36 (I : Interp) (n : Nat) (a : List PV) : Option (List PV) :=
  ((I 33 [(nth a 0)]).bind fun r0 =>
  (iff (!(nth r0 0).toBool)
  (some [(PV.bool false), (PV.int (0 : Int)), (PV.list ([] : List PV)), (PV.bool false)])
  ((I 112 [(nth a 0), (nth a 1)]).bind fun r1 =>
  (some [(nth r1 0), (nth r1 1), (nth r1 2), (nth r1 3)]))))
theorem e36 : ∀ I n a, (compF Try.prog sg 36).map (fun d => d.ev I n a) = some (F36 I n a) := fun I n a => by kernel_rfl
/-! impl.Alloc -/
def F30 (I : Interp) (n : Nat) (a : List PV) : Option (List PV) :=
  ((I 89 [(nth a 0)]).bind fun r0 =>
  ((I 33 [(nth a 0)]).bind fun r1 =>
  ((iff ((!(nth r1 0).toBool) == false)
  ((I 102 [(selB ((!(nth r1 0).toBool) == false) (nth a 2) PV.unit), (PV.int (0 : Int)), (PV.int (3000 : Int))]).bind fun r2 =>
  (some [(nth r2 0), (nth r2 0)]))
  (some [PV.unit, PV.unit])).bind fun g3 =>
  ((iff ((selB (selB (!(nth r1 0).toBool) (PV.bool true) (selB ((!(nth r1 0).toBool) == false) (PV.bool (!(nth g3 0).toBool)) PV.unit)).toBool (PV.bool true) (selB ((selB (!(nth r1 0).toBool) (PV.bool true) (selB ((!(nth r1 0).toBool) == false) (PV.bool (!(nth g3 0).toBool)) PV.unit)).isB false) (PV.bool (gtI (selB ((selB (!(nth r1 0).toBool) (PV.bool true) (selB ((!(nth r1 0).toBool) == false) (PV.bool (!(nth g3 0).toBool)) PV.unit)).isB false) (PV.int ((selB ((selB (!(nth r1 0).toBool) (PV.bool true) (selB ((!(nth r1 0).toBool) == false) (PV.bool (!(nth g3 0).toBool)) PV.unit)).isB false) (nth a 3) PV.unit).toList.length : Int)) PV.unit).toInt (20 : Int))) PV.unit)).isB false)
  ((I 43 [(selB ((selB (selB (!(nth r1 0).toBool) (PV.bool true) (selB ((!(nth r1 0).toBool) == false) (PV.bool (!(nth g3 0).toBool)) PV.unit)).toBool (PV.bool true) (selB ((selB (!(nth r1 0).toBool) (PV.bool true) (selB ((!(nth r1 0).toBool) == false) (PV.bool (!(nth g3 0).toBool)) PV.unit)).isB false) (PV.bool (gtI (selB ((selB (!(nth r1 0).toBool) (PV.bool true) (selB ((!(nth r1 0).toBool) == false) (PV.bool (!(nth g3 0).toBool)) PV.unit)).isB false) (PV.int ((selB ((selB (!(nth r1 0).toBool) (PV.bool true) (selB ((!(nth r1 0).toBool) == false) (PV.bool (!(nth g3 0).toBool)) PV.unit)).isB false) (nth a 3) PV.unit).toList.length : Int)) PV.unit).toInt (20 : Int))) PV.unit)).isB false) (nth a 0) PV.unit)]).bind fun r4 =>
  (some [(nth r4 0), (nth r4 0)]))
  (some [PV.unit, PV.unit])).bind fun g5 =>
  (iff (selB (selB (selB (!(nth r1 0).toBool) (PV.bool true) (selB ((!(nth r1 0).toBool) == false) (PV.bool (!(nth g3 0).toBool)) PV.unit)).toBool (PV.bool true) (selB ((selB (!(nth r1 0).toBool) (PV.bool true) (selB ((!(nth r1 0).toBool) == false) (PV.bool (!(nth g3 0).toBool)) PV.unit)).isB false) (PV.bool (gtI (selB ((selB (!(nth r1 0).toBool) (PV.bool true) (selB ((!(nth r1 0).toBool) == false) (PV.bool (!(nth g3 0).toBool)) PV.unit)).isB false) (PV.int ((selB ((selB (!(nth r1 0).toBool) (PV.bool true) (selB ((!(nth r1 0).toBool) == false) (PV.bool (!(nth g3 0).toBool)) PV.unit)).isB false) (nth a 3) PV.unit).toList.length : Int)) PV.unit).toInt (20 : Int))) PV.unit)).toBool (PV.bool true) (selB ((selB (selB (!(nth r1 0).toBool) (PV.bool true) (selB ((!(nth r1 0).toBool) == false) (PV.bool (!(nth g3 0).toBool)) PV.unit)).toBool (PV.bool true) (selB ((selB (!(nth r1 0).toBool) (PV.bool true) (selB ((!(nth r1 0).toBool) == false) (PV.bool (!(nth g3 0).toBool)) PV.unit)).isB false) (PV.bool (gtI (selB ((selB (!(nth r1 0).toBool) (PV.bool true) (selB ((!(nth r1 0).toBool) == false) (PV.bool (!(nth g3 0).toBool)) PV.unit)).isB false) (PV.int ((selB ((selB (!(nth r1 0).toBool) (PV.bool true) (selB ((!(nth r1 0).toBool) == false) (PV.bool (!(nth g3 0).toBool)) PV.unit)).isB false) (nth a 3) PV.unit).toList.length : Int)) PV.unit).toInt (20 : Int))) PV.unit)).isB false) (PV.bool (gtI (selB ((selB (selB (!(nth r1 0).toBool) (PV.bool true) (selB ((!(nth r1 0).toBool) == false) (PV.bool (!(nth g3 0).toBool)) PV.unit)).toBool (PV.bool true) (selB ((selB (!(nth r1 0).toBool) (PV.bool true) (selB ((!(nth r1 0).toBool) == false) (PV.bool (!(nth g3 0).toBool)) PV.unit)).isB false) (PV.bool (gtI (selB ((selB (!(nth r1 0).toBool) (PV.bool true) (selB ((!(nth r1 0).toBool) == false) (PV.bool (!(nth g3 0).toBool)) PV.unit)).isB false) (PV.int ((selB ((selB (!(nth r1 0).toBool) (PV.bool true) (selB ((!(nth r1 0).toBool) == false) (PV.bool (!(nth g3 0).toBool)) PV.unit)).isB false) (nth a 3) PV.unit).toList.length : Int)) PV.unit).toInt (20 : Int))) PV.unit)).isB false) (PV.int (IntKind.i64.wrap ((selB ((selB (selB (!(nth r1 0).toBool) (PV.bool true) (selB ((!(nth r1 0).toBool) == false) (PV.bool (!(nth g3 0).toBool)) PV.unit)).toBool (PV.bool true) (selB ((selB (!(nth r1 0).toBool) (PV.bool true) (selB ((!(nth r1 0).toBool) == false) (PV.bool (!(nth g3 0).toBool)) PV.unit)).isB false) (PV.bool (gtI (selB ((selB (!(nth r1 0).toBool) (PV.bool true) (selB ((!(nth r1 0).toBool) == false) (PV.bool (!(nth g3 0).toBool)) PV.unit)).isB false) (PV.int ((selB ((selB (!(nth r1 0).toBool) (PV.bool true) (selB ((!(nth r1 0).toBool) == false) (PV.bool (!(nth g3 0).toBool)) PV.unit)).isB false) (nth a 3) PV.unit).toList.length : Int)) PV.unit).toInt (20 : Int))) PV.unit)).isB false) (PV.int ((selB ((selB (selB (!(nth r1 0).toBool) (PV.bool true) (selB ((!(nth r1 0).toBool) == false) (PV.bool (!(nth g3 0).toBool)) PV.unit)).toBool (PV.bool true) (selB ((selB (!(nth r1 0).toBool) (PV.bool true) (selB ((!(nth r1 0).toBool) == false) (PV.bool (!(nth g3 0).toBool)) PV.unit)).isB false) (PV.bool (gtI (selB ((selB (!(nth r1 0).toBool) (PV.bool true) (selB ((!(nth r1 0).toBool) == false) (PV.bool (!(nth g3 0).toBool)) PV.unit)).isB false) (PV.int ((selB ((selB (!(nth r1 0).toBool) (PV.bool true) (selB ((!(nth r1 0).toBool) == false) (PV.bool (!(nth g3 0).toBool)) PV.unit)).isB false) (nth a 3) PV.unit).toList.length : Int)) PV.unit).toInt (20 : Int))) PV.unit)).isB false) (nth a 3) PV.unit).toList.length : Int)) PV.unit).toInt + (1 : Int)))) PV.unit).toInt (nth g5 0).toInt)) PV.unit)).toBool
  (some [(nth r0 0), (PV.int (0 : Int)), (PV.bool false)])
  (thenN (iff (nth a 1).toBool
  (some (Ex.n, [(PV.int (IntKind.i64.wrap ((IntKind.i64.wrap ((2 : Int) * (IntKind.i64.wrap ((IntKind.i64.wrap ((64 : Int) * (nth a 2).toInt)) + ((nth a 3).toList.length : Int))))) + (1 : Int)))), (nth a 3), (nth r0 0), (nth a 0), (PV.agg [(PV.list ([] : List PV)), (PV.int (0 : Int)), (PV.int (0 : Int)), (PV.int (0 : Int))])]))
  (some (Ex.n, [(PV.int (IntKind.i64.wrap ((2 : Int) * (IntKind.i64.wrap ((IntKind.i64.wrap ((64 : Int) * (nth a 2).toInt)) + ((nth a 3).toList.length : Int)))))), (nth a 3), (nth r0 0), (nth a 0), (PV.agg [(PV.list ([] : List PV)), (PV.int (0 : Int)), (PV.int (0 : Int)), (PV.int (0 : Int))])])))
  (fun p6 => ((I 103 [(nth p6 0)]).bind fun r7 =>
  (iff (geI ((nth p6 3).fld 3).toInt (0 : Int))
  (iff (ltI ((nth p6 3).fld 3).toInt (((nth p6 2).fld 0).toList.length : Int))
  (iff (geI (IntKind.i64.wrap (((nth p6 3).fld 3).toInt + (1 : Int))) (0 : Int))
  (iff (leI (IntKind.i64.wrap (((nth p6 3).fld 3).toInt + (1 : Int))) ((((nth p6 2).setFld 0 (PV.list (((nth p6 2).fld 0).toList.set ((nth p6 3).fld 3).toInt.toNat (nth r7 0)))).fld 0).toList.length : Int))
  (iff (leI ((((nth p6 2).setFld 0 (PV.list (((nth p6 2).fld 0).toList.set ((nth p6 3).fld 3).toInt.toNat (nth r7 0)))).fld 0).toList.length : Int) ((((nth p6 2).setFld 0 (PV.list (((nth p6 2).fld 0).toList.set ((nth p6 3).fld 3).toInt.toNat (nth r7 0)))).fld 0).toList.length : Int))
  ((I 33 [((((nth p6 2).setFld 0 (PV.list (((nth p6 2).fld 0).toList.set ((nth p6 3).fld 3).toInt.toNat (nth r7 0)))).setFld 0 (PV.list (spliceL (((nth p6 2).setFld 0 (PV.list (((nth p6 2).fld 0).toList.set ((nth p6 3).fld 3).toInt.toNat (nth r7 0)))).fld 0).toList (IntKind.i64.wrap (((nth p6 3).fld 3).toInt + (1 : Int))).toNat (min (nth p6 1).toList.length (((((nth p6 2).setFld 0 (PV.list (((nth p6 2).fld 0).toList.set ((nth p6 3).fld 3).toInt.toNat (nth r7 0)))).fld 0).toList.length : Int).toNat - (IntKind.i64.wrap (((nth p6 3).fld 3).toInt + (1 : Int))).toNat)) (nth p6 1).toList))).setFld 3 (PV.int (IntKind.i64.wrap (((((nth p6 2).setFld 0 (PV.list (((nth p6 2).fld 0).toList.set ((nth p6 3).fld 3).toInt.toNat (nth r7 0)))).setFld 0 (PV.list (spliceL (((nth p6 2).setFld 0 (PV.list (((nth p6 2).fld 0).toList.set ((nth p6 3).fld 3).toInt.toNat (nth r7 0)))).fld 0).toList (IntKind.i64.wrap (((nth p6 3).fld 3).toInt + (1 : Int))).toNat (min (nth p6 1).toList.length (((((nth p6 2).setFld 0 (PV.list (((nth p6 2).fld 0).toList.set ((nth p6 3).fld 3).toInt.toNat (nth r7 0)))).fld 0).toList.length : Int).toNat - (IntKind.i64.wrap (((nth p6 3).fld 3).toInt + (1 : Int))).toNat)) (nth p6 1).toList))).fld 3).toInt + (IntKind.i64.wrap ((1 : Int) + ((nth p6 1).toList.length : Int)))))))]).bind fun r8 =>
  (iff (!(nth r8 0).toBool)
  ((I 89 [(nth p6 3)]).bind fun r9 =>
  (some [(nth r9 0), (PV.int (0 : Int)), (PV.bool false)]))
  (some [((((nth p6 2).setFld 0 (PV.list (((nth p6 2).fld 0).toList.set ((nth p6 3).fld 3).toInt.toNat (nth r7 0)))).setFld 0 (PV.list (spliceL (((nth p6 2).setFld 0 (PV.list (((nth p6 2).fld 0).toList.set ((nth p6 3).fld 3).toInt.toNat (nth r7 0)))).fld 0).toList (IntKind.i64.wrap (((nth p6 3).fld 3).toInt + (1 : Int))).toNat (min (nth p6 1).toList.length (((((nth p6 2).setFld 0 (PV.list (((nth p6 2).fld 0).toList.set ((nth p6 3).fld 3).toInt.toNat (nth r7 0)))).fld 0).toList.length : Int).toNat - (IntKind.i64.wrap (((nth p6 3).fld 3).toInt + (1 : Int))).toNat)) (nth p6 1).toList))).setFld 3 (PV.int (IntKind.i64.wrap (((((nth p6 2).setFld 0 (PV.list (((nth p6 2).fld 0).toList.set ((nth p6 3).fld 3).toInt.toNat (nth r7 0)))).setFld 0 (PV.list (spliceL (((nth p6 2).setFld 0 (PV.list (((nth p6 2).fld 0).toList.set ((nth p6 3).fld 3).toInt.toNat (nth r7 0)))).fld 0).toList (IntKind.i64.wrap (((nth p6 3).fld 3).toInt + (1 : Int))).toNat (min (nth p6 1).toList.length (((((nth p6 2).setFld 0 (PV.list (((nth p6 2).fld 0).toList.set ((nth p6 3).fld 3).toInt.toNat (nth r7 0)))).fld 0).toList.length : Int).toNat - (IntKind.i64.wrap (((nth p6 3).fld 3).toInt + (1 : Int))).toNat)) (nth p6 1).toList))).fld 3).toInt + (IntKind.i64.wrap ((1 : Int) + ((nth p6 1).toList.length : Int))))))), ((nth p6 3).fld 3), (PV.bool true)])))
  none)
  none)
  none)
  none)
  none)))
  (retE fun q10 => [(nth q10 2), (nth q10 0), (nth q10 1)])))))))
theorem e30 : ∀ I n a, (compF Try.prog sg 30).map (fun d => d.ev I n a) = some (F30 I n a) := fun I n a => by kernel_rfl
/-! spec.l17DrawRight -/
def L164_0 (I : Interp) (n : Nat) (p5 : List PV) : Option (Ex × List PV) :=
  ((I 99 [(nth p5 4), (PV.int (4 : Int))]).bind fun r6 =>
  (iff (ltI (nth p5 0).toInt (nth r6 0).toInt)
  ((I 99 [(nth r6 1), (PV.int ((nth p5 3).toList.length : Int))]).bind fun r7 =>
  (iff (geI (nth r7 0).toInt (0 : Int))
  (iff (ltI (nth r7 0).toInt ((nth p5 3).toList.length : Int))
  (iff (leN ((nth p5 1).toList.length + ((nth (nth p5 3).toList (nth r7 0).toInt.toNat) :: ([] : List PV)).length) 17592186044416)
  (some (Ex.n, [(PV.int (IntKind.i64.wrap ((nth p5 0).toInt + (1 : Int)))), (PV.list ((nth p5 1).toList ++ ((nth (nth p5 3).toList (nth r7 0).toInt.toNat) :: ([] : List PV)))), (nth p5 2), (nth p5 3), (nth r7 1), (nth p5 5), (nth p5 6)]))
  none)
  none)
  none))
  (some (Ex.x 2, [(nth p5 1), (nth p5 2), (nth p5 3), (nth r6 1), (nth p5 5), (nth p5 6)]))))
def L164_1 (I : Interp) (n : Nat) (p3 : List PV) : Option (Ex × List PV) :=
  ((I 99 [(nth p3 2), (PV.int (14 : Int))]).bind fun r4 =>
  (iff (ltI (nth p3 0).toInt (nth r4 0).toInt)
  (thenN (thenN (thenE (loopEv (L164_0 I n) n [(PV.int (0 : Int)), (PV.list ([] : List PV)), (nth p3 0), (nth p3 1), (nth r4 1), (nth p3 3), (nth p3 4)])
  (passB 2))
  (fun p8 => ((I 100 [(nth p8 3), (PV.int (4 : Int))]).bind fun r9 =>
  ((I 99 [(nth r9 1), (PV.int (5 : Int))]).bind fun r10 =>
  ((I 31 [(nth p8 4), (nth r9 0), (nth r10 0), (nth p8 0)]).bind fun r11 =>
  (thenN (iff (nth r11 2).toBool
  ((I 191 [(nth r11 1)]).bind fun r12 =>
  (iff (leN ((nth p8 2).toList.length + ((nth r12 0) :: ([] : List PV)).length) 17592186044416)
  (some (Ex.n, [(nth p8 1), (PV.list ((nth p8 2).toList ++ ((nth r12 0) :: ([] : List PV)))), (nth r10 1), (nth r11 0), (nth p8 5)]))
  none))
  (some (Ex.n, [(nth p8 1), (nth p8 2), (nth r10 1), (nth p8 4), (nth p8 5)])))
  (fun p13 => ((I 100 [(nth p13 2), (PV.int (9 : Int))]).bind fun r14 =>
  (iff (nth r14 0).toBool
  ((I 21 [(nth p13 3), (nth p13 1)]).bind fun r15 =>
  (some (Ex.n, [(nth p13 0), (nth r15 1), (nth r14 1), (nth r15 0), (nth p13 4)])))
  (some (Ex.n, [(nth p13 0), (nth p13 1), (nth r14 1), (nth p13 3), (nth p13 4)])))))
  passE)))))
  passE)
  (fun p16 => (some (Ex.n, [(PV.int (IntKind.i64.wrap ((nth p16 0).toInt + (1 : Int)))), (nth p16 1), (nth p16 2), (nth p16 3), (nth p16 4)])))
  passE)
  (some (Ex.x 0, [(nth r4 1), (nth p3 1), (nth p3 3), (nth p3 4)]))))
def F164 (I : Interp) (n : Nat) (a : List PV) : Option (List PV) :=
  ((I 4197 [(nth a 0), (PV.list ((PV.int (1 : Int)) :: ((PV.int (6 : Int)) :: ((PV.int (20 : Int)) :: ((PV.int (60 : Int)) :: ([] : List PV))))))]).bind fun r0 =>
  ((I 41 [(nth r0 0)]).bind fun r1 =>
  ((I 192 [(PV.int (5 : Int))]).bind fun r2 =>
  (thenN (thenE (loopEv (L164_1 I n) n [(PV.int (0 : Int)), (PV.list ((PV.int (1 : Int)) :: ((nth r2 0) :: ([] : List PV)))), (nth r0 1), (nth r1 0), (PV.agg [(PV.list ([] : List PV)), (PV.int (0 : Int)), (PV.int (0 : Int)), (PV.int (0 : Int))])])
  (passB 0))
  (fun p17 => (some [(nth p17 2), (nth p17 1), (nth p17 0)]))
  (retE fun q18 => [(nth q18 2), (nth q18 1), (nth q18 0)])))))
theorem e164 : ∀ I n a, (compF Try.prog sg 164).map (fun d => d.ev I n a) = some (F164 I n a) := fun I n a => by kernel_rfl
/-! spec.l17DrawRight -/
def L4260_0 (I : Interp) (n : Nat) (p5 : List PV) : Option (Ex × List PV) :=
  ((I 4195 [(nth p5 4), (PV.int (4 : Int))]).bind fun r6 =>
  (iff (ltI (nth p5 0).toInt (nth r6 0).toInt)
  ((I 4195 [(nth r6 1), (PV.int ((nth p5 3).toList.length : Int))]).bind fun r7 =>
  (iff (geI (nth r7 0).toInt (0 : Int))
  (iff (ltI (nth r7 0).toInt ((nth p5 3).toList.length : Int))
  (iff (leN ((nth p5 1).toList.length + ((nth (nth p5 3).toList (nth r7 0).toInt.toNat) :: ([] : List PV)).length) 17592186044416)
  (some (Ex.n, [(PV.int (IntKind.i64.wrap ((nth p5 0).toInt + (1 : Int)))), (PV.list ((nth p5 1).toList ++ ((nth (nth p5 3).toList (nth r7 0).toInt.toNat) :: ([] : List PV)))), (nth p5 2), (nth p5 3), (nth r7 1), (nth p5 5), (nth p5 6)]))
  none)
  none)
  none))
  (some (Ex.x 2, [(nth p5 1), (nth p5 2), (nth p5 3), (nth r6 1), (nth p5 5), (nth p5 6)]))))
def L4260_1 (I : Interp) (n : Nat) (p3 : List PV) : Option (Ex × List PV) :=
  ((I 4195 [(nth p3 2), (PV.int (14 : Int))]).bind fun r4 =>
  (iff (ltI (nth p3 0).toInt (nth r4 0).toInt)
  (thenN (thenN (thenE (loopEv (L4260_0 I n) n [(PV.int (0 : Int)), (PV.list ([] : List PV)), (nth p3 0), (nth p3 1), (nth r4 1), (nth p3 3), (nth p3 4)])
  (passB 2))
  (fun p8 => ((I 4196 [(nth p8 3), (PV.int (4 : Int))]).bind fun r9 =>
  ((I 4195 [(nth r9 1), (PV.int (5 : Int))]).bind fun r10 =>
  ((I 31 [(nth p8 4), (nth r9 0), (nth r10 0), (nth p8 0)]).bind fun r11 =>
  (thenN (iff (nth r11 2).toBool
  ((I 191 [(nth r11 1)]).bind fun r12 =>
  (iff (leN ((nth p8 2).toList.length + ((nth r12 0) :: ([] : List PV)).length) 17592186044416)
  (some (Ex.n, [(nth p8 1), (PV.list ((nth p8 2).toList ++ ((nth r12 0) :: ([] : List PV)))), (nth r10 1), (nth r11 0), (nth p8 5)]))
  none))
  (some (Ex.n, [(nth p8 1), (nth p8 2), (nth r10 1), (nth p8 4), (nth p8 5)])))
  (fun p13 => ((I 4196 [(nth p13 2), (PV.int (9 : Int))]).bind fun r14 =>
  (iff (nth r14 0).toBool
  ((I 21 [(nth p13 3), (nth p13 1)]).bind fun r15 =>
  (some (Ex.n, [(nth p13 0), (nth r15 1), (nth r14 1), (nth r15 0), (nth p13 4)])))
  (some (Ex.n, [(nth p13 0), (nth p13 1), (nth r14 1), (nth p13 3), (nth p13 4)])))))
  passE)))))
  passE)
  (fun p16 => (some (Ex.n, [(PV.int (IntKind.i64.wrap ((nth p16 0).toInt + (1 : Int)))), (nth p16 1), (nth p16 2), (nth p16 3), (nth p16 4)])))
  passE)
  (some (Ex.x 0, [(nth r4 1), (nth p3 1), (nth p3 3), (nth p3 4)]))))
def F4260 (I : Interp) (n : Nat) (a : List PV) : Option (List PV) :=
  ((I 12389 [(nth a 0), (PV.list ((PV.int (1 : Int)) :: ((PV.int (6 : Int)) :: ((PV.int (20 : Int)) :: ((PV.int (60 : Int)) :: ([] : List PV))))))]).bind fun r0 =>
  ((I 41 [(nth r0 0)]).bind fun r1 =>
  ((I 192 [(PV.int (5 : Int))]).bind fun r2 =>
  (thenN (thenE (loopEv (L4260_1 I n) n [(PV.int (0 : Int)), (PV.list ((PV.int (1 : Int)) :: ((nth r2 0) :: ([] : List PV)))), (nth r0 1), (nth r1 0), (PV.agg [(PV.list ([] : List PV)), (PV.int (0 : Int)), (PV.int (0 : Int)), (PV.int (0 : Int))])])
  (passB 0))
  (fun p17 => (some [(nth p17 2), (nth p17 1), (nth p17 0)]))
  (retE fun q18 => [(nth q18 2), (nth q18 1), (nth q18 0)])))))
theorem e4260 : ∀ I n a, (compF Try.prog sg 4260).map (fun d => d.ev I n a) = some (F4260 I n a) := fun I n a => by kernel_rfl
/-! spec.l17Draw -/
def F98 (I : Interp) (n : Nat) (a : List PV) : Option (List PV) :=
  ((I 164 [(nth a 0)]).bind fun r0 =>
  (thenN ((I 99 [(nth r0 2), (PV.int (14 : Int))]).bind fun r1 =>
  (iff (eqI (nth r1 0).toInt (0 : Int))
  ((I 99 [(nth r1 1), (PV.int (((nth r0 0).fld 0).toList.length : Int))]).bind fun r2 =>
  ((I 4197 [(nth r2 1), (PV.list ((PV.int (0 : Int)) :: ((PV.int (1 : Int)) :: ((PV.int (2 : Int)) :: ((PV.int (3 : Int)) :: ((PV.int (200 : Int)) :: ((PV.int (99999 : Int)) :: ((PV.int (-1 : Int)) :: ((PV.int (9223372036854775807 : Int)) :: ([] : List PV))))))))))]).bind fun r3 =>
  (iff (geI (nth r2 0).toInt (0 : Int))
  (iff (ltI (nth r2 0).toInt (((nth r0 0).fld 0).toList.length : Int))
  (some (Ex.n, [(nth r3 1), (nth r0 1), ((nth r0 0).setFld 0 (PV.list (((nth r0 0).fld 0).toList.set (nth r2 0).toInt.toNat (nth r3 0)))), (PV.agg [(PV.list ([] : List PV)), (PV.int (0 : Int)), (PV.int (0 : Int)), (PV.int (0 : Int))])]))
  none)
  none)))
  (iff (eqI (nth r1 0).toInt (1 : Int))
  ((I 4197 [(nth r1 1), (PV.list ((PV.int (-1 : Int)) :: ((PV.int (0 : Int)) :: ((PV.int (1 : Int)) :: ((PV.int (3 : Int)) :: ((PV.int (60 : Int)) :: ((PV.int (121 : Int)) :: ([] : List PV))))))))]).bind fun r4 =>
  (some (Ex.n, [(nth r4 1), (nth r0 1), ((nth r0 0).setFld 3 (nth r4 0)), (PV.agg [(PV.list ([] : List PV)), (PV.int (0 : Int)), (PV.int (0 : Int)), (PV.int (0 : Int))])])))
  (iff (eqI (nth r1 0).toInt (2 : Int))
  ((I 4197 [(nth r1 1), (PV.list ((PV.int (0 : Int)) :: ((PV.int (1 : Int)) :: ((PV.int (6 : Int)) :: ((PV.int (20 : Int)) :: ([] : List PV))))))]).bind fun r5 =>
  (some (Ex.n, [(nth r5 1), (nth r0 1), ((nth r0 0).setFld 2 (nth r5 0)), (PV.agg [(PV.list ([] : List PV)), (PV.int (0 : Int)), (PV.int (0 : Int)), (PV.int (0 : Int))])])))
  (iff (eqI (nth r1 0).toInt (3 : Int))
  ((I 4197 [(nth r1 1), (PV.list ((PV.int (0 : Int)) :: ((PV.int (6 : Int)) :: ((PV.int (3001 : Int)) :: ([] : List PV)))))]).bind fun r6 =>
  (some (Ex.n, [(nth r6 1), (nth r0 1), ((nth r0 0).setFld 1 (nth r6 0)), (PV.agg [(PV.list ([] : List PV)), (PV.int (0 : Int)), (PV.int (0 : Int)), (PV.int (0 : Int))])])))
  (iff (eqI (nth r1 0).toInt (4 : Int))
  ((I 4197 [(nth r1 1), (PV.list ((PV.int (0 : Int)) :: ((PV.int (2 : Int)) :: ((PV.int (4 : Int)) :: ((PV.int (98 : Int)) :: ((PV.int (-2 : Int)) :: ([] : List PV)))))))]).bind fun r7 =>
  (iff (leN ((nth r0 1).toList.length + ((nth r7 0) :: ([] : List PV)).length) 17592186044416)
  (some (Ex.n, [(nth r7 1), (PV.list ((nth r0 1).toList ++ ((nth r7 0) :: ([] : List PV)))), (nth r0 0), (PV.agg [(PV.list ([] : List PV)), (PV.int (0 : Int)), (PV.int (0 : Int)), (PV.int (0 : Int))])]))
  none))
  (some (Ex.n, [(nth r1 1), (nth r0 1), (nth r0 0), (PV.agg [(PV.list ([] : List PV)), (PV.int (0 : Int)), (PV.int (0 : Int)), (PV.int (0 : Int))])]))))))))
  (fun p8 => (some [(nth p8 2), (nth p8 1), (nth p8 0)]))
  (retE fun q9 => [(nth q9 2), (nth q9 1), (nth q9 0)])))
theorem e98 : ∀ I n a, (compF Try.prog sg 98).map (fun d => d.ev I n a) = some (F98 I n a) := fun I n a => by kernel_rfl
/-! spec.l17Draw -/
def F4194 (I : Interp) (n : Nat) (a : List PV) : Option (List PV) :=
  ((I 4260 [(nth a 0)]).bind fun r0 =>
  (thenN ((I 4195 [(nth r0 2), (PV.int (14 : Int))]).bind fun r1 =>
  (iff (eqI (nth r1 0).toInt (0 : Int))
  ((I 4195 [(nth r1 1), (PV.int (((nth r0 0).fld 0).toList.length : Int))]).bind fun r2 =>
  ((I 12389 [(nth r2 1), (PV.list ((PV.int (0 : Int)) :: ((PV.int (1 : Int)) :: ((PV.int (2 : Int)) :: ((PV.int (3 : Int)) :: ((PV.int (200 : Int)) :: ((PV.int (99999 : Int)) :: ((PV.int (-1 : Int)) :: ((PV.int (9223372036854775807 : Int)) :: ([] : List PV))))))))))]).bind fun r3 =>
  (iff (geI (nth r2 0).toInt (0 : Int))
  (iff (ltI (nth r2 0).toInt (((nth r0 0).fld 0).toList.length : Int))
  (some (Ex.n, [(nth r3 1), (nth r0 1), ((nth r0 0).setFld 0 (PV.list (((nth r0 0).fld 0).toList.set (nth r2 0).toInt.toNat (nth r3 0)))), (PV.agg [(PV.list ([] : List PV)), (PV.int (0 : Int)), (PV.int (0 : Int)), (PV.int (0 : Int))])]))
  none)
  none)))
  (iff (eqI (nth r1 0).toInt (1 : Int))
  ((I 12389 [(nth r1 1), (PV.list ((PV.int (-1 : Int)) :: ((PV.int (0 : Int)) :: ((PV.int (1 : Int)) :: ((PV.int (3 : Int)) :: ((PV.int (60 : Int)) :: ((PV.int (121 : Int)) :: ([] : List PV))))))))]).bind fun r4 =>
  (some (Ex.n, [(nth r4 1), (nth r0 1), ((nth r0 0).setFld 3 (nth r4 0)), (PV.agg [(PV.list ([] : List PV)), (PV.int (0 : Int)), (PV.int (0 : Int)), (PV.int (0 : Int))])])))
  (iff (eqI (nth r1 0).toInt (2 : Int))
  ((I 12389 [(nth r1 1), (PV.list ((PV.int (0 : Int)) :: ((PV.int (1 : Int)) :: ((PV.int (6 : Int)) :: ((PV.int (20 : Int)) :: ([] : List PV))))))]).bind fun r5 =>
  (some (Ex.n, [(nth r5 1), (nth r0 1), ((nth r0 0).setFld 2 (nth r5 0)), (PV.agg [(PV.list ([] : List PV)), (PV.int (0 : Int)), (PV.int (0 : Int)), (PV.int (0 : Int))])])))
  (iff (eqI (nth r1 0).toInt (3 : Int))
  ((I 12389 [(nth r1 1), (PV.list ((PV.int (0 : Int)) :: ((PV.int (6 : Int)) :: ((PV.int (3001 : Int)) :: ([] : List PV)))))]).bind fun r6 =>
  (some (Ex.n, [(nth r6 1), (nth r0 1), ((nth r0 0).setFld 1 (nth r6 0)), (PV.agg [(PV.list ([] : List PV)), (PV.int (0 : Int)), (PV.int (0 : Int)), (PV.int (0 : Int))])])))
  (iff (eqI (nth r1 0).toInt (4 : Int))
  ((I 12389 [(nth r1 1), (PV.list ((PV.int (0 : Int)) :: ((PV.int (2 : Int)) :: ((PV.int (4 : Int)) :: ((PV.int (98 : Int)) :: ((PV.int (-2 : Int)) :: ([] : List PV)))))))]).bind fun r7 =>
  (iff (leN ((nth r0 1).toList.length + ((nth r7 0) :: ([] : List PV)).length) 17592186044416)
  (some (Ex.n, [(nth r7 1), (PV.list ((nth r0 1).toList ++ ((nth r7 0) :: ([] : List PV)))), (nth r0 0), (PV.agg [(PV.list ([] : List PV)), (PV.int (0 : Int)), (PV.int (0 : Int)), (PV.int (0 : Int))])]))
  none))
  (some (Ex.n, [(nth r1 1), (nth r0 1), (nth r0 0), (PV.agg [(PV.list ([] : List PV)), (PV.int (0 : Int)), (PV.int (0 : Int)), (PV.int (0 : Int))])]))))))))
  (fun p8 => (some [(nth p8 2), (nth p8 1), (nth p8 0)]))
  (retE fun q9 => [(nth q9 2), (nth q9 1), (nth q9 0)])))
theorem e4194 : ∀ I n a, (compF Try.prog sg 4194).map (fun d => d.ev I n a) = some (F4194 I n a) := fun I n a => by kernel_rfl
/-! spec.DrawHeapOk -/
def F114 (I : Interp) (n : Nat) (a : List PV) : Option (List PV) :=
  ((I 97 [(nth a 0)]).bind fun r0 =>
  ((I 98 [(nth r0 0)]).bind fun r1 =>
  (some [(nth r1 0)])))
theorem e114 : ∀ I n a, (compF Try.prog sg 114).map (fun d => d.ev I n a) = some (F114 I n a) := fun I n a => by kernel_rfl
/-! spec.DrawAlloc -/
def L29_0 (I : Interp) (n : Nat) (p2 : List PV) : Option (Ex × List PV) :=
  ((I 99 [(nth p2 4), (PV.int (4 : Int))]).bind fun r3 =>
  (iff (ltI (nth p2 0).toInt (nth r3 0).toInt)
  ((I 99 [(nth r3 1), (PV.int ((nth p2 1).toList.length : Int))]).bind fun r4 =>
  (iff (geI (nth r4 0).toInt (0 : Int))
  (iff (ltI (nth r4 0).toInt ((nth p2 1).toList.length : Int))
  (iff (leN ((nth p2 2).toList.length + ((nth (nth p2 1).toList (nth r4 0).toInt.toNat) :: ([] : List PV)).length) 17592186044416)
  (some (Ex.n, [(PV.int (IntKind.i64.wrap ((nth p2 0).toInt + (1 : Int)))), (nth p2 1), (PV.list ((nth p2 2).toList ++ ((nth (nth p2 1).toList (nth r4 0).toInt.toNat) :: ([] : List PV)))), (nth p2 3), (nth r4 1), (nth p2 5)]))
  none)
  none)
  none))
  (some (Ex.x 0, [(nth p2 2), (nth p2 3), (nth r3 1), (nth p2 5)]))))
def F29 (I : Interp) (n : Nat) (a : List PV) : Option (List PV) :=
  ((I 97 [(nth a 0)]).bind fun r0 =>
  ((I 98 [(nth r0 0)]).bind fun r1 =>
  (thenN (thenE (loopEv (L29_0 I n) n [(PV.int (0 : Int)), (nth r1 1), (PV.list ([] : List PV)), (nth r1 0), (nth r1 2), (PV.agg [(PV.list ([] : List PV)), (PV.int (0 : Int)), (PV.int (0 : Int)), (PV.int (0 : Int))])])
  (passB 0))
  (fun p5 => (thenN ((I 100 [(nth p5 2), (PV.int (12 : Int))]).bind fun r6 =>
  (iff (nth r6 0).toBool
  (iff (leN ((nth p5 0).toList.length + ((PV.int (98 : Int)) :: ([] : List PV)).length) 17592186044416)
  (some (Ex.n, [(PV.list ((nth p5 0).toList ++ ((PV.int (98 : Int)) :: ([] : List PV)))), (nth p5 1), (nth r6 1), (nth p5 3)]))
  none)
  (some (Ex.n, [(nth p5 0), (nth p5 1), (nth r6 1), (nth p5 3)]))))
  (fun p7 => ((I 100 [(nth p7 2), (PV.int (3 : Int))]).bind fun r8 =>
  ((I 4197 [(nth r8 1), (PV.list ((PV.int (0 : Int)) :: ((PV.int (1 : Int)) :: ((PV.int (7 : Int)) :: ((PV.int (3000 : Int)) :: ((PV.int (3001 : Int)) :: ((PV.int (-1 : Int)) :: ([] : List PV))))))))]).bind fun r9 =>
  (some [(nth p7 1), (nth r8 0), (nth r9 0), (nth p7 0)]))))
  (retE fun q10 => [(nth q10 3), (nth q10 0), (nth q10 1), (nth q10 2)])))
  (retE fun q11 => [(nth q11 3), (nth q11 0), (nth q11 1), (nth q11 2)]))))
theorem e29 : ∀ I n a, (compF Try.prog sg 29).map (fun d => d.ev I n a) = some (F29 I n a) := fun I n a => by kernel_rfl
/-! spec.DrawBlockAt -/
def F35 (I : Interp) (n : Nat) (a : List PV) : Option (List PV) :=
  ((I 97 [(nth a 0)]).bind fun r0 =>
  ((I 98 [(nth r0 0)]).bind fun r1 =>
  ((I 99 [(nth r1 2), (PV.int ((nth r1 1).toList.length : Int))]).bind fun r2 =>
  (iff (geI (nth r2 0).toInt (0 : Int))
  (iff (ltI (nth r2 0).toInt ((nth r1 1).toList.length : Int))
  ((I 111 [(nth (nth r1 1).toList (nth r2 0).toInt.toNat)]).bind fun r3 =>
  (thenN ((I 100 [(nth r2 1), (PV.int (4 : Int))]).bind fun r4 =>
  (iff (nth r4 0).toBool
  ((I 99 [(nth r4 1), (PV.int (9 : Int))]).bind fun r5 =>
  (some (Ex.n, [(PV.int (IntKind.i64.wrap ((nth r5 0).toInt - (1 : Int)))), (nth r1 0), (PV.agg [(PV.list ([] : List PV)), (PV.int (0 : Int)), (PV.int (0 : Int)), (PV.int (0 : Int))])])))
  (some (Ex.n, [(nth r3 0), (nth r1 0), (PV.agg [(PV.list ([] : List PV)), (PV.int (0 : Int)), (PV.int (0 : Int)), (PV.int (0 : Int))])]))))
  (fun p6 => (some [(nth p6 1), (nth p6 0)]))
  (retE fun q7 => [(nth q7 1), (nth q7 0)])))
  none)
  none))))
theorem e35 : ∀ I n a, (compF Try.prog sg 35).map (fun d => d.ev I n a) = some (F35 I n a) := fun I n a => by kernel_rfl
/-! spec.DrawRoom -/
def F38 (I : Interp) (n : Nat) (a : List PV) : Option (List PV) :=
  ((I 114 [(nth a 0)]).bind fun r0 =>
  (some [(nth r0 0)]))
theorem e38 : ∀ I n a, (compF Try.prog sg 38).map (fun d => d.ev I n a) = some (F38 I n a) := fun I n a => by kernel_rfl
/-! laws.FnHeap -/
def L5_0 (I : Interp) (n : Nat) (p47 : List PV) : Option (Ex × List PV) :=
  (iff (ltI (nth p47 0).toInt ((nth p47 1).fld 3).toInt)
  (iff (geI (nth p47 0).toInt (0 : Int))
  (iff (ltI (nth p47 0).toInt (((nth p47 2).fld 0).toList.length : Int))
  (iff (geI (nth p47 0).toInt (0 : Int))
  (iff (ltI (nth p47 0).toInt (((nth p47 1).fld 0).toList.length : Int))
  (iff (neI (nth ((nth p47 2).fld 0).toList (nth p47 0).toInt.toNat).toInt (nth ((nth p47 1).fld 0).toList (nth p47 0).toInt.toNat).toInt)
  (some (Ex.r, [(PV.bool false)]))
  (some (Ex.n, [(PV.int (IntKind.i64.wrap ((nth p47 0).toInt + (1 : Int)))), (nth p47 1), (nth p47 2)])))
  none)
  none)
  none)
  none)
  (some (Ex.x 0, [(nth p47 2)])))
def F5 (I : Interp) (n : Nat) (a : List PV) : Option (List PV) :=
  ((I 28 [(nth a 0)]).bind fun r0 =>
  (iff (nth r0 0).toBool
  (some [(PV.bool true)])
  ((I 29 [(nth a 0)]).bind fun r1 =>
  ((I 30 [(nth r1 0), (nth r1 1), (nth r1 2), (nth r1 3)]).bind fun r2 =>
  ((I 31 [(nth r1 0), (nth r1 1), (nth r1 2), (nth r1 3)]).bind fun r3 =>
  (letB (selB (((nth r2 2).toBool == (nth r3 2).toBool) == false) (PV.bool true) (selB ((((nth r2 2).toBool == (nth r3 2).toBool) == false) == false) (PV.bool (neI (selB ((((nth r2 2).toBool == (nth r3 2).toBool) == false) == false) (nth r2 1) PV.unit).toInt (selB ((((nth r2 2).toBool == (nth r3 2).toBool) == false) == false) (nth r3 1) PV.unit).toInt)) PV.unit)) fun v4 =>
  ((iff (v4.isB false)
  ((I 32 [(nth r2 0), (nth r3 0)]).bind fun r5 =>
  (some [(nth r5 0), (nth r5 0)]))
  (some [PV.unit, PV.unit])).bind fun g6 =>
  (letB (selB v4.toBool (PV.bool true) (selB (v4.isB false) (PV.bool (!(nth g6 0).toBool)) PV.unit)) fun v7 =>
  ((iff (v7.isB false)
  ((I 33 [(nth r1 0)]).bind fun r8 =>
  (some [(nth r8 0), (nth r8 0)]))
  (some [PV.unit, PV.unit])).bind fun g9 =>
  ((iff (v7.isB false)
  ((I 34 [(nth r1 0)]).bind fun r10 =>
  (some [(nth r10 0), (nth r10 0)]))
  (some [PV.unit, PV.unit])).bind fun g11 =>
  (letB (selB v7.toBool (PV.bool true) (selB (v7.isB false) (PV.bool (((nth g9 0).toBool == (nth g11 0).toBool) == false)) PV.unit)) fun v12 =>
  (iff v12.toBool
  (some [(PV.bool false)])
  ((I 35 [(nth a 0)]).bind fun r13 =>
  ((I 36 [(nth r13 0), (nth r13 1)]).bind fun r14 =>
  ((I 37 [(nth r13 0), (nth r13 1)]).bind fun r15 =>
  ((I 38 [(nth a 0)]).bind fun r16 =>
  ((I 39 [(nth a 0)]).bind fun r17 =>
  ((I 40 [(nth r17 0)]).bind fun r18 =>
  ((I 41 [(nth r17 0)]).bind fun r19 =>
  (letB (selB (((nth r14 3).toBool == (nth r15 3).toBool) == false) (PV.bool true) (selB ((((nth r14 3).toBool == (nth r15 3).toBool) == false) == false) (PV.bool (((selB ((((nth r14 3).toBool == (nth r15 3).toBool) == false) == false) (nth r14 0) PV.unit).toBool == (selB ((((nth r14 3).toBool == (nth r15 3).toBool) == false) == false) (nth r15 0) PV.unit).toBool) == false)) PV.unit)) fun v20 =>
  (letB (selB v20.toBool (PV.bool true) (selB (v20.isB false) (PV.bool (neI (selB (v20.isB false) (nth r14 1) PV.unit).toInt (selB (v20.isB false) (nth r15 1) PV.unit).toInt)) PV.unit)) fun v21 =>
  ((iff (v21.isB false)
  ((I 42 [(nth r14 2), (nth r15 2)]).bind fun r22 =>
  (some [(nth r22 0), (nth r22 0)]))
  (some [PV.unit, PV.unit])).bind fun g23 =>
  (letB (selB v21.toBool (PV.bool true) (selB (v21.isB false) (PV.bool (!(nth g23 0).toBool)) PV.unit)) fun v24 =>
  ((iff (v24.isB false)
  ((I 43 [(nth r16 0)]).bind fun r25 =>
  (some [(nth r25 0), (nth r25 0)]))
  (some [PV.unit, PV.unit])).bind fun g26 =>
  ((iff (v24.isB false)
  ((I 44 [(nth r16 0)]).bind fun r27 =>
  (some [(nth r27 0), (nth r27 0)]))
  (some [PV.unit, PV.unit])).bind fun g28 =>
  (letB (selB v24.toBool (PV.bool true) (selB (v24.isB false) (PV.bool (neI (nth g26 0).toInt (nth g28 0).toInt)) PV.unit)) fun v29 =>
  (letB (selB v29.toBool (PV.bool true) (selB (v29.isB false) (PV.bool (((selB (v29.isB false) (nth r18 1) PV.unit).toBool == (selB (v29.isB false) (nth r19 1) PV.unit).toBool) == false)) PV.unit)) fun v30 =>
  ((iff ((selB (v30.isB false) (selB (v30.isB false) (nth r18 1) PV.unit) PV.unit).isB true)
  ((I 33 [(nth r18 0)]).bind fun r31 =>
  (some [(nth r31 0), (nth r31 0)]))
  (some [PV.unit, PV.unit])).bind fun g32 =>
  (letB (selB (v30.isB false) (selB (selB (v30.isB false) (selB (v30.isB false) (nth r18 1) PV.unit) PV.unit).toBool (selB ((selB (v30.isB false) (selB (v30.isB false) (nth r18 1) PV.unit) PV.unit).isB true) (PV.bool (!(nth g32 0).toBool)) PV.unit) (PV.bool false)) PV.unit) fun v33 =>
  (letB (selB v30.toBool (PV.bool true) v33) fun v34 =>
  (iff v34.toBool
  (some [(PV.bool false)])
  (iff (!(nth r2 2).toBool)
  ((I 32 [(nth r2 0), (nth r1 0)]).bind fun r35 =>
  (some [(nth r35 0)]))
  ((I 36 [(nth r2 0), (nth r2 1)]).bind fun r36 =>
  (letB (selB (!(nth r36 3).toBool) (PV.bool true) (selB ((!(nth r36 3).toBool) == false) (PV.bool (((selB ((!(nth r36 3).toBool) == false) (nth r36 0) PV.unit).toBool == (selB ((!(nth r36 3).toBool) == false) (nth r1 1) PV.unit).toBool) == false)) PV.unit)) fun v37 =>
  (letB (selB v37.toBool (PV.bool true) (selB (v37.isB false) (PV.bool (neI (selB (v37.isB false) (nth r36 1) PV.unit).toInt (selB (v37.isB false) (nth r1 2) PV.unit).toInt)) PV.unit)) fun v38 =>
  ((iff (v38.isB false)
  ((I 42 [(nth r36 2), (nth r1 3)]).bind fun r39 =>
  (some [(nth r39 0), (nth r39 0)]))
  (some [PV.unit, PV.unit])).bind fun g40 =>
  (letB (selB v38.toBool (PV.bool true) (selB (v38.isB false) (PV.bool (!(nth g40 0).toBool)) PV.unit)) fun v41 =>
  ((iff (v41.isB false)
  ((I 43 [(nth r2 0)]).bind fun r42 =>
  (some [(nth r42 0), (nth r42 0)]))
  (some [PV.unit, PV.unit])).bind fun g43 =>
  ((iff (v41.isB false)
  ((I 43 [(nth r1 0)]).bind fun r44 =>
  (some [(nth r44 0), (nth r44 0)]))
  (some [PV.unit, PV.unit])).bind fun g45 =>
  (letB (selB v41.toBool (PV.bool true) (selB (v41.isB false) (PV.bool (neI (nth g43 0).toInt (selB (v41.isB false) (PV.int (IntKind.i64.wrap ((selB (v41.isB false) (PV.int (IntKind.i64.wrap ((nth g45 0).toInt - (1 : Int)))) PV.unit).toInt - (selB (v41.isB false) (PV.int ((nth r1 3).toList.length : Int)) PV.unit).toInt))) PV.unit).toInt)) PV.unit)) fun v46 =>
  (iff v46.toBool
  (some [(PV.bool false)])
  (thenN (thenE (loopEv (L5_0 I n) n [((nth r1 0).fld 2), (nth r1 0), (nth r2 0)])
  (passB 0))
  (fun p48 => ((I 33 [(nth p48 0)]).bind fun r49 =>
  (some [(nth r49 0)])))
  (retE fun q50 => [(nth q50 0)])))))))))))))))))))))))))))))))))))))))))))
theorem e5 : ∀ I n a, (compF Try.prog sg 5).map (fun d => d.ev I n a) = some (F5 I n a) := fun I n a => ew_ev (g := F5) (fun I n a => by kernel_rfl) I n a
end Go.Proofs.Ytijgokehlicmnaa.GFnHeap
