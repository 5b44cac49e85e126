/- The pure programs of the functions that the law FnExactEval reaches, out of the compiled code. No conditions. -/
import Derived.Test.YtdkfgnnebaahaaaRows
import Derived.Test.YtdkfgnnebaahaaaRscZt
namespace Go.Proofs.Ytdkfgnnebaahaaa.GFnExactEval
open Go Go.Rsc Go.Proofs.Ytdkfgnnebaahaaa
set_option maxRecDepth 100000
set_option linter.unusedVariables false
def sg : FuncId → Option Sig := fun f => match f with
  | 71 => some { ps := [PM.ro (SD.nl), PM.ro (SD.int (IntKind.i64))], rs := [RM.v (SD.own 9 false)], orc := some (Orc.grow) }
  | 18 => some { ps := [PM.ro (SD.sc (SD.int (IntKind.i64)) (SD.sc (SD.int (IntKind.i64)) (SD.sc (SD.bor 51) (SD.sc (SD.sc (SD.int (IntKind.i64)) (SD.sc (SD.int (IntKind.i64)) (SD.sc (SD.str) (SD.sc (SD.str) (SD.sc (SD.bor 35) (SD.sn)))))) (SD.sc (SD.str) (SD.sc (SD.str) (SD.sc (SD.bor 97) (SD.sn))))))))], rs := [RM.v (SD.sc (SD.int (IntKind.i64)) (SD.sc (SD.int (IntKind.i64)) (SD.sc (SD.own 28 true) (SD.sn))))], orc := none }
  | 30 => some { ps := [PM.ro (SD.bor 3), PM.ro (SD.int (IntKind.i64))], rs := [RM.v (SD.int (IntKind.i64))], orc := none }
  | 50 => some { ps := [PM.ro (SD.bor 28), PM.ro (SD.int (IntKind.i64))], rs := [RM.v (SD.int (IntKind.i64))], orc := none }
  | 28 => some { ps := [PM.mut (SD.own 3 false), PM.ro (SD.int (IntKind.i64))], rs := [RM.v (SD.int (IntKind.i64))], orc := none }
  | 4124 => some { ps := [PM.mv (SD.own 3 false), PM.ro (SD.int (IntKind.i64))], rs := [RM.v (SD.int (IntKind.i64))], orc := none }
  | 49 => some { ps := [PM.mut (SD.own 28 true), PM.ro (SD.int (IntKind.i64))], rs := [RM.v (SD.int (IntKind.i64))], orc := none }
  | 4145 => some { ps := [PM.mv (SD.own 28 true), PM.ro (SD.int (IntKind.i64))], rs := [RM.v (SD.int (IntKind.i64))], orc := none }
  | 48 => some { ps := [PM.ro (SD.int (IntKind.i64))], rs := [RM.v (SD.str)], orc := none }
  | 24 => some { ps := [PM.ro (SD.bor 3), PM.ro (SD.bor 3)], rs := [RM.v (SD.bool)], orc := none }
  | 22 => some { ps := [PM.ro (SD.fp 83), PM.ro (SD.int (IntKind.i64))], rs := [RM.v (SD.sc (SD.int (IntKind.i64)) (SD.sc (SD.int (IntKind.i64)) (SD.sc (SD.own 28 true) (SD.sn)))), RM.v (SD.bool)], orc := none }
  | 72 => some { ps := [PM.ro (SD.int (IntKind.i64))], rs := [RM.v (SD.int (IntKind.i64))], orc := none }
  | 43 => some { ps := [PM.ro (SD.int (IntKind.i64))], rs := [RM.v (SD.fp 83)], orc := none }
  | 42 => some { ps := [PM.ref 58 (SD.sc (SD.int (IntKind.i64)) (SD.sc (SD.int (IntKind.i64)) (SD.sc (SD.bor 3) (SD.sn)))) (SD.sc (SD.int (IntKind.i64)) (SD.sc (SD.int (IntKind.i64)) (SD.sc (SD.bor 3) (SD.sn)))), PM.ro (SD.int (IntKind.i64))], rs := [RM.v (SD.fp 83)], orc := none }
  | 4138 => some { ps := [PM.ref 58 (SD.sc (SD.int (IntKind.i64)) (SD.sc (SD.int (IntKind.i64)) (SD.sc (SD.own 3 false) (SD.sn)))) (SD.sc (SD.int (IntKind.i64)) (SD.sc (SD.int (IntKind.i64)) (SD.sc (SD.own 3 false) (SD.sn)))), PM.ro (SD.int (IntKind.i64))], rs := [RM.v (SD.fp 83)], orc := none }
  | 63 => some { ps := [PM.ro (SD.sc (SD.int (IntKind.i64)) (SD.sc (SD.int (IntKind.i64)) (SD.sc (SD.str) (SD.sc (SD.str) (SD.sc (SD.bor 35) (SD.sn)))))), PM.ro (SD.int (IntKind.i64))], rs := [RM.v (SD.own 9 false)], orc := none }
  | 70 => some { ps := [PM.ro (SD.bor 9), PM.ro (SD.str)], rs := [RM.v (SD.int (IntKind.i64))], orc := none }
  | 69 => some { ps := [PM.ro (SD.int (IntKind.i64)), PM.ro (SD.int (IntKind.i64)), PM.ro (SD.int (IntKind.i64))], rs := [RM.v (SD.bool)], orc := none }
  | 59 => some { ps := [PM.ro (SD.int (IntKind.i64))], rs := [RM.v (SD.int (IntKind.i64))], orc := none }
  | 15 => some { ps := [PM.ro (SD.int (IntKind.i64)), PM.ro (SD.int (IntKind.i64))], rs := [RM.v (SD.int (IntKind.i64))], orc := none }
  | 17 => some { ps := [PM.ro (SD.sc (SD.int (IntKind.i64)) (SD.sc (SD.int (IntKind.i64)) (SD.sc (SD.bor 51) (SD.sc (SD.sc (SD.int (IntKind.i64)) (SD.sc (SD.int (IntKind.i64)) (SD.sc (SD.str) (SD.sc (SD.str) (SD.sc (SD.bor 35) (SD.sn)))))) (SD.sc (SD.str) (SD.sc (SD.str) (SD.sc (SD.bor 97) (SD.sn)))))))), PM.ro (SD.int (IntKind.i64))], rs := [RM.v (SD.bool)], orc := none }
  | 68 => some { ps := [PM.ro (SD.int (IntKind.i64))], rs := [RM.v (SD.int (IntKind.i64))], orc := none }
  | 57 => some { ps := [PM.ro (SD.bool)], rs := [RM.v (SD.int (IntKind.i64))], orc := none }
  | 38 => some { ps := [PM.ro (SD.bor 97), PM.ro (SD.str), PM.ro (SD.sc (SD.int (IntKind.i64)) (SD.sc (SD.int (IntKind.i64)) (SD.sc (SD.bor 51) (SD.sc (SD.sc (SD.int (IntKind.i64)) (SD.sc (SD.int (IntKind.i64)) (SD.sc (SD.str) (SD.sc (SD.str) (SD.sc (SD.bor 35) (SD.sn)))))) (SD.sc (SD.str) (SD.sc (SD.str) (SD.sc (SD.bor 97) (SD.sn))))))))], rs := [RM.v (SD.own 97 false)], orc := none }
  | 4134 => some { ps := [PM.ro (SD.bor 97), PM.ro (SD.str), PM.mv (SD.sc (SD.int (IntKind.i64)) (SD.sc (SD.int (IntKind.i64)) (SD.sc (SD.own 51 true) (SD.sc (SD.sc (SD.int (IntKind.i64)) (SD.sc (SD.int (IntKind.i64)) (SD.sc (SD.str) (SD.sc (SD.str) (SD.sc (SD.own 35 true) (SD.sn)))))) (SD.sc (SD.str) (SD.sc (SD.str) (SD.sc (SD.own 97 true) (SD.sn))))))))], rs := [RM.v (SD.own 97 false)], orc := none }
  | 39 => some { ps := [PM.ref 47 (SD.sc (SD.int (IntKind.i64)) (SD.sc (SD.int (IntKind.i64)) (SD.sc (SD.bor 3) (SD.sn)))) (SD.sc (SD.int (IntKind.i64)) (SD.sc (SD.int (IntKind.i64)) (SD.sc (SD.bor 3) (SD.sn))))], rs := [RM.v (SD.sc (SD.int (IntKind.i64)) (SD.sc (SD.int (IntKind.i64)) (SD.sc (SD.own 51 true) (SD.sc (SD.sc (SD.int (IntKind.i64)) (SD.sc (SD.int (IntKind.i64)) (SD.sc (SD.str) (SD.sc (SD.str) (SD.sc (SD.own 35 true) (SD.sn)))))) (SD.sc (SD.str) (SD.sc (SD.str) (SD.sc (SD.own 97 true) (SD.sn))))))))], orc := none }
  | 4135 => some { ps := [PM.ref 47 (SD.sc (SD.int (IntKind.i64)) (SD.sc (SD.int (IntKind.i64)) (SD.sc (SD.own 3 false) (SD.sn)))) (SD.sc (SD.int (IntKind.i64)) (SD.sc (SD.int (IntKind.i64)) (SD.sc (SD.own 3 false) (SD.sn))))], rs := [RM.v (SD.sc (SD.int (IntKind.i64)) (SD.sc (SD.int (IntKind.i64)) (SD.sc (SD.own 51 true) (SD.sc (SD.sc (SD.int (IntKind.i64)) (SD.sc (SD.int (IntKind.i64)) (SD.sc (SD.str) (SD.sc (SD.str) (SD.sc (SD.own 35 true) (SD.sn)))))) (SD.sc (SD.str) (SD.sc (SD.str) (SD.sc (SD.own 97 true) (SD.sn))))))))], orc := none }
  | 34 => some { ps := [PM.ro (SD.int (IntKind.i64))], rs := [RM.v (SD.sc (SD.int (IntKind.i64)) (SD.sc (SD.int (IntKind.i64)) (SD.sc (SD.own 51 true) (SD.sc (SD.sc (SD.int (IntKind.i64)) (SD.sc (SD.int (IntKind.i64)) (SD.sc (SD.str) (SD.sc (SD.str) (SD.sc (SD.own 35 true) (SD.sn)))))) (SD.sc (SD.str) (SD.sc (SD.str) (SD.sc (SD.own 97 true) (SD.sn))))))))], orc := none }
  | 53 => some { ps := [PM.ro (SD.int (IntKind.i64))], rs := [RM.v (SD.bool)], orc := none }
  | 67 => some { ps := [PM.ro (SD.bor 9), PM.ro (SD.str)], rs := [RM.v (SD.own 9 false)], orc := none }
  | 55 => some { ps := [PM.ro (SD.bor 9), PM.ro (SD.str)], rs := [RM.v (SD.bool)], orc := none }
  | 66 => some { ps := [PM.ro (SD.int (IntKind.i64)), PM.ro (SD.int (IntKind.i64)), PM.ro (SD.int (IntKind.i64))], rs := [RM.v (SD.bool)], orc := none }
  | 51 => some { ps := [PM.ro (SD.int (IntKind.i64)), PM.ro (SD.int (IntKind.i64))], rs := [RM.v (SD.int (IntKind.i64))], orc := none }
  | 52 => some { ps := [PM.ro (SD.int (IntKind.i64))], rs := [RM.v (SD.int (IntKind.i64))], orc := none }
  | 31 => some { ps := [PM.ro (SD.sc (SD.int (IntKind.i64)) (SD.sc (SD.int (IntKind.i64)) (SD.sc (SD.str) (SD.sc (SD.str) (SD.sc (SD.bor 35) (SD.sn))))))], rs := [RM.v (SD.int (IntKind.i64))], orc := none }
  | 60 => some { ps := [PM.ro (SD.int (IntKind.i64))], rs := [RM.v (SD.bool)], orc := none }
  | 27 => some { ps := [PM.mut (SD.sc (SD.int (IntKind.i64)) (SD.sc (SD.int (IntKind.i64)) (SD.sc (SD.own 28 true) (SD.sn)))), PM.ro (SD.int (IntKind.i64))], rs := [RM.v (SD.int (IntKind.i64))], orc := none }
  | 4123 => some { ps := [PM.mv (SD.sc (SD.int (IntKind.i64)) (SD.sc (SD.int (IntKind.i64)) (SD.sc (SD.own 28 true) (SD.sn)))), PM.ro (SD.int (IntKind.i64))], rs := [RM.v (SD.int (IntKind.i64))], orc := none }
  | 56 => some { ps := [PM.ro (SD.sc (SD.int (IntKind.i64)) (SD.sc (SD.int (IntKind.i64)) (SD.sc (SD.str) (SD.sc (SD.str) (SD.sc (SD.bor 35) (SD.sn)))))), PM.ro (SD.int (IntKind.i64)), PM.ro (SD.bor 9)], rs := [RM.v (SD.bor 9)], orc := none }
  | 4152 => some { ps := [PM.ro (SD.sc (SD.int (IntKind.i64)) (SD.sc (SD.int (IntKind.i64)) (SD.sc (SD.str) (SD.sc (SD.str) (SD.sc (SD.bor 35) (SD.sn)))))), PM.ro (SD.int (IntKind.i64)), PM.mv (SD.own 9 false)], rs := [RM.v (SD.own 9 false)], orc := none }
  | 8248 => some { ps := [PM.mut (SD.sc (SD.int (IntKind.i64)) (SD.sc (SD.int (IntKind.i64)) (SD.sc (SD.str) (SD.sc (SD.str) (SD.sc (SD.own 35 true) (SD.sn)))))), PM.ro (SD.int (IntKind.i64)), PM.ro (SD.bor 9)], rs := [RM.v (SD.bor 9)], orc := none }
  | 12344 => some { ps := [PM.mut (SD.sc (SD.int (IntKind.i64)) (SD.sc (SD.int (IntKind.i64)) (SD.sc (SD.str) (SD.sc (SD.str) (SD.sc (SD.own 35 true) (SD.sn)))))), PM.ro (SD.int (IntKind.i64)), PM.mv (SD.own 9 false)], rs := [RM.v (SD.own 9 false)], orc := none }
  | 16440 => some { ps := [PM.mv (SD.sc (SD.int (IntKind.i64)) (SD.sc (SD.int (IntKind.i64)) (SD.sc (SD.str) (SD.sc (SD.str) (SD.sc (SD.own 35 true) (SD.sn)))))), PM.ro (SD.int (IntKind.i64)), PM.ro (SD.bor 9)], rs := [RM.v (SD.bor 9)], orc := none }
  | 20536 => some { ps := [PM.mv (SD.sc (SD.int (IntKind.i64)) (SD.sc (SD.int (IntKind.i64)) (SD.sc (SD.str) (SD.sc (SD.str) (SD.sc (SD.own 35 true) (SD.sn)))))), PM.ro (SD.int (IntKind.i64)), PM.mv (SD.own 9 false)], rs := [RM.v (SD.own 9 false)], orc := none }
  | 25 => some { ps := [PM.ro (SD.bor 35), PM.ro (SD.bor 35)], rs := [RM.v (SD.bool)], orc := none }
  | 9 => some { ps := [PM.ro (SD.sc (SD.int (IntKind.i64)) (SD.sc (SD.int (IntKind.i64)) (SD.sc (SD.str) (SD.sc (SD.str) (SD.sc (SD.bor 35) (SD.sn)))))), PM.ro (SD.sc (SD.int (IntKind.i64)) (SD.sc (SD.int (IntKind.i64)) (SD.sc (SD.str) (SD.sc (SD.str) (SD.sc (SD.bor 35) (SD.sn))))))], rs := [RM.v (SD.bool)], orc := none }
  | 64 => some { ps := [PM.ro (SD.bool)], rs := [RM.v (SD.fp 83)], orc := none }
  | 29 => some { ps := [PM.ro (SD.sc (SD.int (IntKind.i64)) (SD.sc (SD.int (IntKind.i64)) (SD.sc (SD.bor 28) (SD.sn)))), PM.ro (SD.int (IntKind.i64))], rs := [RM.v (SD.int (IntKind.i64))], orc := none }
  | 35 => some { ps := [PM.ref 47 (SD.sc (SD.int (IntKind.i64)) (SD.sc (SD.int (IntKind.i64)) (SD.sc (SD.bor 3) (SD.sn)))) (SD.sc (SD.int (IntKind.i64)) (SD.sc (SD.int (IntKind.i64)) (SD.sc (SD.bor 3) (SD.sn)))), PM.ro (SD.bor 97), PM.ro (SD.str)], rs := [RM.v (SD.sc (SD.int (IntKind.i64)) (SD.sc (SD.int (IntKind.i64)) (SD.sc (SD.bor 51) (SD.sc (SD.sc (SD.int (IntKind.i64)) (SD.sc (SD.int (IntKind.i64)) (SD.sc (SD.str) (SD.sc (SD.str) (SD.sc (SD.bor 35) (SD.sn)))))) (SD.sc (SD.str) (SD.sc (SD.str) (SD.sc (SD.bor 97) (SD.sn))))))))], orc := none }
  | 4131 => some { ps := [PM.ref 47 (SD.sc (SD.int (IntKind.i64)) (SD.sc (SD.int (IntKind.i64)) (SD.sc (SD.bor 3) (SD.sn)))) (SD.sc (SD.int (IntKind.i64)) (SD.sc (SD.int (IntKind.i64)) (SD.sc (SD.bor 3) (SD.sn)))), PM.mv (SD.own 97 true), PM.ro (SD.str)], rs := [RM.v (SD.sc (SD.int (IntKind.i64)) (SD.sc (SD.int (IntKind.i64)) (SD.sc (SD.bor 51) (SD.sc (SD.sc (SD.int (IntKind.i64)) (SD.sc (SD.int (IntKind.i64)) (SD.sc (SD.str) (SD.sc (SD.str) (SD.sc (SD.bor 35) (SD.sn)))))) (SD.sc (SD.str) (SD.sc (SD.str) (SD.sc (SD.bor 97) (SD.sn))))))))], orc := none }
  | 8227 => some { ps := [PM.ref 47 (SD.sc (SD.int (IntKind.i64)) (SD.sc (SD.int (IntKind.i64)) (SD.sc (SD.own 3 false) (SD.sn)))) (SD.sc (SD.int (IntKind.i64)) (SD.sc (SD.int (IntKind.i64)) (SD.sc (SD.own 3 false) (SD.sn)))), PM.ro (SD.bor 97), PM.ro (SD.str)], rs := [RM.v (SD.sc (SD.int (IntKind.i64)) (SD.sc (SD.int (IntKind.i64)) (SD.sc (SD.bor 51) (SD.sc (SD.sc (SD.int (IntKind.i64)) (SD.sc (SD.int (IntKind.i64)) (SD.sc (SD.str) (SD.sc (SD.str) (SD.sc (SD.bor 35) (SD.sn)))))) (SD.sc (SD.str) (SD.sc (SD.str) (SD.sc (SD.bor 97) (SD.sn))))))))], orc := none }
  | 12323 => some { ps := [PM.ref 47 (SD.sc (SD.int (IntKind.i64)) (SD.sc (SD.int (IntKind.i64)) (SD.sc (SD.own 3 false) (SD.sn)))) (SD.sc (SD.int (IntKind.i64)) (SD.sc (SD.int (IntKind.i64)) (SD.sc (SD.own 3 false) (SD.sn)))), PM.mv (SD.own 97 true), PM.ro (SD.str)], rs := [RM.v (SD.sc (SD.int (IntKind.i64)) (SD.sc (SD.int (IntKind.i64)) (SD.sc (SD.bor 51) (SD.sc (SD.sc (SD.int (IntKind.i64)) (SD.sc (SD.int (IntKind.i64)) (SD.sc (SD.str) (SD.sc (SD.str) (SD.sc (SD.bor 35) (SD.sn)))))) (SD.sc (SD.str) (SD.sc (SD.str) (SD.sc (SD.bor 97) (SD.sn))))))))], orc := none }
  | 26 => some { ps := [PM.mut (SD.own 35 true), PM.ro (SD.int (IntKind.i64))], rs := [RM.v (SD.int (IntKind.i64))], orc := none }
  | 4122 => some { ps := [PM.mv (SD.own 35 true), PM.ro (SD.int (IntKind.i64))], rs := [RM.v (SD.int (IntKind.i64))], orc := none }
  | 62 => some { ps := [PM.ro (SD.bor 71)], rs := [RM.v (SD.own 9 false)], orc := none }
  | 47 => some { ps := [PM.ro (SD.bor 28), PM.ro (SD.bor 28)], rs := [RM.v (SD.bool)], orc := none }
  | 23 => some { ps := [PM.ro (SD.sc (SD.int (IntKind.i64)) (SD.sc (SD.int (IntKind.i64)) (SD.sc (SD.bor 28) (SD.sn)))), PM.ro (SD.sc (SD.int (IntKind.i64)) (SD.sc (SD.int (IntKind.i64)) (SD.sc (SD.bor 28) (SD.sn))))], rs := [RM.v (SD.bool)], orc := none }
  | 61 => some { ps := [PM.ro (SD.bor 9), PM.ro (SD.str)], rs := [RM.v (SD.bool)], orc := none }
  | 54 => some { ps := [PM.ro (SD.int (IntKind.i64))], rs := [RM.v (SD.bool)], orc := none }
  | 19 => some { ps := [PM.ro (SD.bor 24)], rs := [RM.v (SD.own 35 true)], orc := none }
  | 6 => some { ps := [PM.ro (SD.sc (SD.int (IntKind.i64)) (SD.sc (SD.int (IntKind.i64)) (SD.sc (SD.str) (SD.sc (SD.str) (SD.sc (SD.bor 24) (SD.sn))))))], rs := [RM.v (SD.sc (SD.int (IntKind.i64)) (SD.sc (SD.int (IntKind.i64)) (SD.sc (SD.str) (SD.sc (SD.str) (SD.sc (SD.own 35 true) (SD.sn))))))], orc := none }
  | 32 => some { ps := [PM.ro (SD.sc (SD.int (IntKind.i64)) (SD.sc (SD.int (IntKind.i64)) (SD.sc (SD.str) (SD.sc (SD.str) (SD.sc (SD.bor 35) (SD.sn))))))], rs := [RM.v (SD.int (IntKind.i64))], orc := none }
  | 13 => some { ps := [PM.ro (SD.bor 24), PM.ro (SD.int (IntKind.i64))], rs := [RM.v (SD.int (IntKind.i64))], orc := none }
  | 4 => some { ps := [PM.ro (SD.sc (SD.int (IntKind.i64)) (SD.sc (SD.int (IntKind.i64)) (SD.sc (SD.str) (SD.sc (SD.str) (SD.sc (SD.bor 24) (SD.sn)))))), PM.ro (SD.int (IntKind.i64))], rs := [RM.v (SD.int (IntKind.i64))], orc := none }
  | 58 => some { ps := [PM.ro (SD.int (IntKind.i64)), PM.ro (SD.int (IntKind.i64)), PM.ro (SD.int (IntKind.i64))], rs := [RM.v (SD.int (IntKind.i64))], orc := none }
  | 10 => some { ps := [PM.mut (SD.sc (SD.int (IntKind.i64)) (SD.sc (SD.int (IntKind.i64)) (SD.sc (SD.str) (SD.sc (SD.str) (SD.sc (SD.own 35 true) (SD.sn)))))), PM.ro (SD.int (IntKind.i64))], rs := [RM.v (SD.int (IntKind.i64))], orc := none }
  | 4106 => some { ps := [PM.mv (SD.sc (SD.int (IntKind.i64)) (SD.sc (SD.int (IntKind.i64)) (SD.sc (SD.str) (SD.sc (SD.str) (SD.sc (SD.own 35 true) (SD.sn)))))), PM.ro (SD.int (IntKind.i64))], rs := [RM.v (SD.int (IntKind.i64))], orc := none }
  | 12 => some { ps := [PM.ro (SD.sc (SD.int (IntKind.i64)) (SD.sc (SD.sc (SD.int (IntKind.i64)) (SD.sc (SD.int (IntKind.i64)) (SD.sc (SD.bor 28) (SD.sn)))) (SD.sc (SD.bor 3) (SD.sn)))), PM.ro (SD.int (IntKind.i64))], rs := [RM.v (SD.int (IntKind.i64))], orc := none }
  | 65 => some { ps := [PM.ro (SD.int (IntKind.i64)), PM.ro (SD.int (IntKind.i64)), PM.ro (SD.int (IntKind.i64))], rs := [RM.v (SD.fp 83)], orc := none }
  | 8 => some { ps := [PM.ro (SD.sc (SD.int (IntKind.i64)) (SD.sc (SD.sc (SD.int (IntKind.i64)) (SD.sc (SD.int (IntKind.i64)) (SD.sc (SD.bor 28) (SD.sn)))) (SD.sc (SD.bor 3) (SD.sn)))), PM.ro (SD.sc (SD.int (IntKind.i64)) (SD.sc (SD.sc (SD.int (IntKind.i64)) (SD.sc (SD.int (IntKind.i64)) (SD.sc (SD.bor 28) (SD.sn)))) (SD.sc (SD.bor 3) (SD.sn))))], rs := [RM.v (SD.bool)], orc := none }
  | 11 => some { ps := [PM.mut (SD.sc (SD.int (IntKind.i64)) (SD.sc (SD.sc (SD.int (IntKind.i64)) (SD.sc (SD.int (IntKind.i64)) (SD.sc (SD.own 28 true) (SD.sn)))) (SD.sc (SD.own 3 false) (SD.sn)))), PM.ro (SD.int (IntKind.i64))], rs := [RM.v (SD.int (IntKind.i64))], orc := none }
  | 4107 => some { ps := [PM.mv (SD.sc (SD.int (IntKind.i64)) (SD.sc (SD.sc (SD.int (IntKind.i64)) (SD.sc (SD.int (IntKind.i64)) (SD.sc (SD.own 28 true) (SD.sn)))) (SD.sc (SD.own 3 false) (SD.sn)))), PM.ro (SD.int (IntKind.i64))], rs := [RM.v (SD.int (IntKind.i64))], orc := none }
  | 40 => some { ps := [PM.ref 47 (SD.sc (SD.int (IntKind.i64)) (SD.sc (SD.int (IntKind.i64)) (SD.sc (SD.own 3 false) (SD.sn)))) (SD.sc (SD.int (IntKind.i64)) (SD.sc (SD.int (IntKind.i64)) (SD.sc (SD.own 3 false) (SD.sn)))), PM.ro (SD.sc (SD.int (IntKind.i64)) (SD.sc (SD.int (IntKind.i64)) (SD.sc (SD.str) (SD.sc (SD.str) (SD.sc (SD.bor 35) (SD.sn)))))), PM.ro (SD.bor 51)], rs := [RM.v (SD.sc (SD.int (IntKind.i64)) (SD.sc (SD.int (IntKind.i64)) (SD.sc (SD.bor 51) (SD.sc (SD.sc (SD.int (IntKind.i64)) (SD.sc (SD.int (IntKind.i64)) (SD.sc (SD.str) (SD.sc (SD.str) (SD.sc (SD.bor 35) (SD.sn)))))) (SD.sc (SD.str) (SD.sc (SD.str) (SD.sc (SD.bor 97) (SD.sn))))))))], orc := none }
  | 4136 => some { ps := [PM.ref 47 (SD.sc (SD.int (IntKind.i64)) (SD.sc (SD.int (IntKind.i64)) (SD.sc (SD.own 3 false) (SD.sn)))) (SD.sc (SD.int (IntKind.i64)) (SD.sc (SD.int (IntKind.i64)) (SD.sc (SD.own 3 false) (SD.sn)))), PM.ro (SD.sc (SD.int (IntKind.i64)) (SD.sc (SD.int (IntKind.i64)) (SD.sc (SD.str) (SD.sc (SD.str) (SD.sc (SD.bor 35) (SD.sn)))))), PM.mv (SD.own 51 true)], rs := [RM.v (SD.sc (SD.int (IntKind.i64)) (SD.sc (SD.int (IntKind.i64)) (SD.sc (SD.bor 51) (SD.sc (SD.sc (SD.int (IntKind.i64)) (SD.sc (SD.int (IntKind.i64)) (SD.sc (SD.str) (SD.sc (SD.str) (SD.sc (SD.bor 35) (SD.sn)))))) (SD.sc (SD.str) (SD.sc (SD.str) (SD.sc (SD.bor 97) (SD.sn))))))))], orc := none }
  | 8232 => some { ps := [PM.ref 47 (SD.sc (SD.int (IntKind.i64)) (SD.sc (SD.int (IntKind.i64)) (SD.sc (SD.own 3 false) (SD.sn)))) (SD.sc (SD.int (IntKind.i64)) (SD.sc (SD.int (IntKind.i64)) (SD.sc (SD.own 3 false) (SD.sn)))), PM.mut (SD.sc (SD.int (IntKind.i64)) (SD.sc (SD.int (IntKind.i64)) (SD.sc (SD.str) (SD.sc (SD.str) (SD.sc (SD.own 35 true) (SD.sn)))))), PM.ro (SD.bor 51)], rs := [RM.v (SD.sc (SD.int (IntKind.i64)) (SD.sc (SD.int (IntKind.i64)) (SD.sc (SD.bor 51) (SD.sc (SD.sc (SD.int (IntKind.i64)) (SD.sc (SD.int (IntKind.i64)) (SD.sc (SD.str) (SD.sc (SD.str) (SD.sc (SD.bor 35) (SD.sn)))))) (SD.sc (SD.str) (SD.sc (SD.str) (SD.sc (SD.bor 97) (SD.sn))))))))], orc := none }
  | 12328 => some { ps := [PM.ref 47 (SD.sc (SD.int (IntKind.i64)) (SD.sc (SD.int (IntKind.i64)) (SD.sc (SD.own 3 false) (SD.sn)))) (SD.sc (SD.int (IntKind.i64)) (SD.sc (SD.int (IntKind.i64)) (SD.sc (SD.own 3 false) (SD.sn)))), PM.mut (SD.sc (SD.int (IntKind.i64)) (SD.sc (SD.int (IntKind.i64)) (SD.sc (SD.str) (SD.sc (SD.str) (SD.sc (SD.own 35 true) (SD.sn)))))), PM.mv (SD.own 51 true)], rs := [RM.v (SD.sc (SD.int (IntKind.i64)) (SD.sc (SD.int (IntKind.i64)) (SD.sc (SD.bor 51) (SD.sc (SD.sc (SD.int (IntKind.i64)) (SD.sc (SD.int (IntKind.i64)) (SD.sc (SD.str) (SD.sc (SD.str) (SD.sc (SD.bor 35) (SD.sn)))))) (SD.sc (SD.str) (SD.sc (SD.str) (SD.sc (SD.bor 97) (SD.sn))))))))], orc := none }
  | 16424 => some { ps := [PM.ref 47 (SD.sc (SD.int (IntKind.i64)) (SD.sc (SD.int (IntKind.i64)) (SD.sc (SD.own 3 false) (SD.sn)))) (SD.sc (SD.int (IntKind.i64)) (SD.sc (SD.int (IntKind.i64)) (SD.sc (SD.own 3 false) (SD.sn)))), PM.mv (SD.sc (SD.int (IntKind.i64)) (SD.sc (SD.int (IntKind.i64)) (SD.sc (SD.str) (SD.sc (SD.str) (SD.sc (SD.own 35 true) (SD.sn)))))), PM.ro (SD.bor 51)], rs := [RM.v (SD.sc (SD.int (IntKind.i64)) (SD.sc (SD.int (IntKind.i64)) (SD.sc (SD.bor 51) (SD.sc (SD.sc (SD.int (IntKind.i64)) (SD.sc (SD.int (IntKind.i64)) (SD.sc (SD.str) (SD.sc (SD.str) (SD.sc (SD.bor 35) (SD.sn)))))) (SD.sc (SD.str) (SD.sc (SD.str) (SD.sc (SD.bor 97) (SD.sn))))))))], orc := none }
  | 20520 => some { ps := [PM.ref 47 (SD.sc (SD.int (IntKind.i64)) (SD.sc (SD.int (IntKind.i64)) (SD.sc (SD.own 3 false) (SD.sn)))) (SD.sc (SD.int (IntKind.i64)) (SD.sc (SD.int (IntKind.i64)) (SD.sc (SD.own 3 false) (SD.sn)))), PM.mv (SD.sc (SD.int (IntKind.i64)) (SD.sc (SD.int (IntKind.i64)) (SD.sc (SD.str) (SD.sc (SD.str) (SD.sc (SD.own 35 true) (SD.sn)))))), PM.mv (SD.own 51 true)], rs := [RM.v (SD.sc (SD.int (IntKind.i64)) (SD.sc (SD.int (IntKind.i64)) (SD.sc (SD.bor 51) (SD.sc (SD.sc (SD.int (IntKind.i64)) (SD.sc (SD.int (IntKind.i64)) (SD.sc (SD.str) (SD.sc (SD.str) (SD.sc (SD.bor 35) (SD.sn)))))) (SD.sc (SD.str) (SD.sc (SD.str) (SD.sc (SD.bor 97) (SD.sn))))))))], orc := none }
  | 33 => some { ps := [PM.ro (SD.sc (SD.int (IntKind.i64)) (SD.sc (SD.int (IntKind.i64)) (SD.sc (SD.str) (SD.sc (SD.str) (SD.sc (SD.bor 35) (SD.sn)))))), PM.ro (SD.bor 9)], rs := [RM.v (SD.bool)], orc := none }
  | 41 => some { ps := [PM.ro (SD.sc (SD.int (IntKind.i64)) (SD.sc (SD.int (IntKind.i64)) (SD.sc (SD.str) (SD.sc (SD.str) (SD.sc (SD.bor 35) (SD.sn)))))), PM.ro (SD.bor 9), PM.ro (SD.int (IntKind.i64))], rs := [RM.v (SD.int (IntKind.i64))], orc := none }
  | 46 => some { ps := [PM.ref 58 (SD.sc (SD.int (IntKind.i64)) (SD.sc (SD.int (IntKind.i64)) (SD.sc (SD.own 3 false) (SD.sn)))) (SD.sc (SD.int (IntKind.i64)) (SD.sc (SD.int (IntKind.i64)) (SD.sc (SD.own 3 false) (SD.sn)))), PM.ro (SD.sc (SD.int (IntKind.i64)) (SD.sc (SD.int (IntKind.i64)) (SD.sc (SD.str) (SD.sc (SD.str) (SD.sc (SD.bor 35) (SD.sn)))))), PM.ro (SD.bor 59)], rs := [RM.v (SD.fp 83)], orc := none }
  | 45 => some { ps := [PM.ref 58 (SD.sc (SD.int (IntKind.i64)) (SD.sc (SD.int (IntKind.i64)) (SD.sc (SD.own 3 false) (SD.sn)))) (SD.sc (SD.int (IntKind.i64)) (SD.sc (SD.int (IntKind.i64)) (SD.sc (SD.own 3 false) (SD.sn)))), PM.ro (SD.sc (SD.int (IntKind.i64)) (SD.sc (SD.int (IntKind.i64)) (SD.sc (SD.str) (SD.sc (SD.str) (SD.sc (SD.bor 35) (SD.sn)))))), PM.ro (SD.int (IntKind.i64)), PM.ro (SD.fp 85)], rs := [RM.v (SD.fp 83)], orc := none }
  | 44 => some { ps := [PM.ref 58 (SD.sc (SD.int (IntKind.i64)) (SD.sc (SD.int (IntKind.i64)) (SD.sc (SD.own 3 false) (SD.sn)))) (SD.sc (SD.int (IntKind.i64)) (SD.sc (SD.int (IntKind.i64)) (SD.sc (SD.own 3 false) (SD.sn)))), PM.ro (SD.sc (SD.int (IntKind.i64)) (SD.sc (SD.int (IntKind.i64)) (SD.sc (SD.str) (SD.sc (SD.str) (SD.sc (SD.bor 35) (SD.sn)))))), PM.ro (SD.fp 85)], rs := [RM.v (SD.fp 83)], orc := none }
  | 21 => some { ps := [PM.ref 58 (SD.sc (SD.int (IntKind.i64)) (SD.sc (SD.int (IntKind.i64)) (SD.sc (SD.own 3 false) (SD.sn)))) (SD.sc (SD.int (IntKind.i64)) (SD.sc (SD.int (IntKind.i64)) (SD.sc (SD.own 3 false) (SD.sn)))), PM.ro (SD.sc (SD.int (IntKind.i64)) (SD.sc (SD.int (IntKind.i64)) (SD.sc (SD.str) (SD.sc (SD.str) (SD.sc (SD.bor 35) (SD.sn)))))), PM.ro (SD.fp 85)], rs := [RM.v (SD.fp 83)], orc := none }
  | 20 => some { ps := [PM.ro (SD.sc (SD.int (IntKind.i64)) (SD.sc (SD.int (IntKind.i64)) (SD.sc (SD.str) (SD.sc (SD.str) (SD.sc (SD.bor 35) (SD.sn))))))], rs := [RM.v (SD.bool)], orc := none }
  | 37 => some { ps := [PM.ref 47 (SD.sc (SD.int (IntKind.i64)) (SD.sc (SD.int (IntKind.i64)) (SD.sc (SD.own 3 false) (SD.sn)))) (SD.sc (SD.int (IntKind.i64)) (SD.sc (SD.int (IntKind.i64)) (SD.sc (SD.own 3 false) (SD.sn)))), PM.ro (SD.sc (SD.int (IntKind.i64)) (SD.sc (SD.int (IntKind.i64)) (SD.sc (SD.bor 51) (SD.sc (SD.sc (SD.int (IntKind.i64)) (SD.sc (SD.int (IntKind.i64)) (SD.sc (SD.str) (SD.sc (SD.str) (SD.sc (SD.bor 35) (SD.sn)))))) (SD.sc (SD.str) (SD.sc (SD.str) (SD.sc (SD.bor 97) (SD.sn)))))))), PM.ro (SD.sc (SD.int (IntKind.i64)) (SD.sc (SD.int (IntKind.i64)) (SD.sc (SD.bor 51) (SD.sc (SD.sc (SD.int (IntKind.i64)) (SD.sc (SD.int (IntKind.i64)) (SD.sc (SD.str) (SD.sc (SD.str) (SD.sc (SD.bor 35) (SD.sn)))))) (SD.sc (SD.str) (SD.sc (SD.str) (SD.sc (SD.bor 97) (SD.sn))))))))], rs := [RM.v (SD.sc (SD.int (IntKind.i64)) (SD.sc (SD.int (IntKind.i64)) (SD.sc (SD.bor 51) (SD.sc (SD.sc (SD.int (IntKind.i64)) (SD.sc (SD.int (IntKind.i64)) (SD.sc (SD.str) (SD.sc (SD.str) (SD.sc (SD.bor 35) (SD.sn)))))) (SD.sc (SD.str) (SD.sc (SD.str) (SD.sc (SD.bor 97) (SD.sn))))))))], orc := none }
  | 36 => some { ps := [PM.ref 47 (SD.sc (SD.int (IntKind.i64)) (SD.sc (SD.int (IntKind.i64)) (SD.sc (SD.own 3 false) (SD.sn)))) (SD.sc (SD.int (IntKind.i64)) (SD.sc (SD.int (IntKind.i64)) (SD.sc (SD.own 3 false) (SD.sn)))), PM.ro (SD.sc (SD.int (IntKind.i64)) (SD.sc (SD.int (IntKind.i64)) (SD.sc (SD.str) (SD.sc (SD.str) (SD.sc (SD.bor 35) (SD.sn)))))), PM.ro (SD.bor 97)], rs := [RM.v (SD.bor 51)], orc := none }
  | 16 => some { ps := [PM.ref 47 (SD.sc (SD.int (IntKind.i64)) (SD.sc (SD.int (IntKind.i64)) (SD.sc (SD.own 3 false) (SD.sn)))) (SD.sc (SD.int (IntKind.i64)) (SD.sc (SD.int (IntKind.i64)) (SD.sc (SD.own 3 false) (SD.sn)))), PM.ro (SD.sc (SD.int (IntKind.i64)) (SD.sc (SD.int (IntKind.i64)) (SD.sc (SD.str) (SD.sc (SD.str) (SD.sc (SD.bor 35) (SD.sn)))))), PM.ro (SD.bor 97)], rs := [RM.v (SD.sc (SD.int (IntKind.i64)) (SD.sc (SD.int (IntKind.i64)) (SD.sc (SD.bor 51) (SD.sc (SD.sc (SD.int (IntKind.i64)) (SD.sc (SD.int (IntKind.i64)) (SD.sc (SD.str) (SD.sc (SD.str) (SD.sc (SD.bor 35) (SD.sn)))))) (SD.sc (SD.str) (SD.sc (SD.str) (SD.sc (SD.bor 97) (SD.sn))))))))], orc := none }
  | 14 => some { ps := [PM.ro (SD.sc (SD.int (IntKind.i64)) (SD.sc (SD.int (IntKind.i64)) (SD.sc (SD.str) (SD.sc (SD.str) (SD.sc (SD.bor 35) (SD.sn))))))], rs := [RM.v (SD.bool)], orc := none }
  | 7 => some { ps := [PM.ro (SD.sc (SD.int (IntKind.i64)) (SD.sc (SD.int (IntKind.i64)) (SD.sc (SD.str) (SD.sc (SD.str) (SD.sc (SD.bor 35) (SD.sn)))))), PM.ro (SD.int (IntKind.i64))], rs := [RM.v (SD.sc (SD.int (IntKind.i64)) (SD.sc (SD.sc (SD.int (IntKind.i64)) (SD.sc (SD.int (IntKind.i64)) (SD.sc (SD.own 28 true) (SD.sn)))) (SD.sc (SD.own 3 false) (SD.sn))))], orc := none }
  | 5 => some { ps := [PM.ro (SD.sc (SD.int (IntKind.i64)) (SD.sc (SD.int (IntKind.i64)) (SD.sc (SD.str) (SD.sc (SD.str) (SD.sc (SD.bor 35) (SD.sn)))))), PM.ro (SD.int (IntKind.i64))], rs := [RM.v (SD.sc (SD.int (IntKind.i64)) (SD.sc (SD.sc (SD.int (IntKind.i64)) (SD.sc (SD.int (IntKind.i64)) (SD.sc (SD.own 28 true) (SD.sn)))) (SD.sc (SD.own 3 false) (SD.sn))))], orc := none }
  | 3 => some { ps := [PM.ro (SD.sc (SD.int (IntKind.i64)) (SD.sc (SD.int (IntKind.i64)) (SD.sc (SD.str) (SD.sc (SD.str) (SD.sc (SD.bor 24) (SD.sn)))))), PM.ro (SD.int (IntKind.i64))], rs := [RM.v (SD.bool)], orc := none }
  | _ => none
/-! spec.l11Told -/
noncomputable def L18_0 (I : Interp) (n : Nat) (p0 : List PV) : Option (Ex × List PV) :=
  (iff (ltI (nth p0 0).toInt (((nth p0 1).fld 2).toList.length : Int))
  (iff (geI (nth p0 0).toInt (0 : Int))
  (iff (ltI (nth p0 0).toInt (((nth p0 1).fld 2).toList.length : Int))
  ((I 18 [(nth ((nth p0 1).fld 2).toList (nth p0 0).toInt.toNat)]).bind fun r1 =>
  (iff (leN (((nth p0 2).fld 2).toList.length + ((nth r1 0) :: ([] : List PV)).length) 3518437208883)
  (some (Ex.n, [(PV.int (IntKind.i64.wrap ((nth p0 0).toInt + (1 : Int)))), (nth p0 1), (((nth p0 2).setFld 2 PV.unit).setFld 2 (PV.list (((nth p0 2).fld 2).toList ++ ((nth r1 0) :: ([] : List PV))))), (nth p0 3)]))
  none))
  none)
  none)
  (some (Ex.x 0, [(nth p0 2), (nth p0 3)])))
noncomputable def F18 (I : Interp) (n : Nat) (a : List PV) : Option (List PV) :=
  (thenN (thenE (loopEv (L18_0 I n) n [(PV.int (0 : Int)), (nth a 0), (PV.agg [((nth a 0).fld 0), ((nth a 0).fld 1), (PV.list ([] : List PV))]), (PV.agg [(PV.int (0 : Int)), (PV.int (0 : Int)), (PV.list ([] : List PV))])])
  (passB 0))
  (fun p2 => (some [(nth p2 0)]))
  (retE fun q3 => [(nth q3 0)]))
theorem e18 : ∀ I n a, (compF Try.prog sg 18).map (fun d => d.ev I n a) = some (F18 I n a) := fun I n a => by kernel_rfl
/-! laws.heldIntS -/
noncomputable def L30_0 (I : Interp) (n : Nat) (p0 : List PV) : Option (Ex × List PV) :=
  (iff (ltI (nth p0 0).toInt ((nth p0 1).toList.length : Int))
  (iff (geI (nth p0 0).toInt (0 : Int))
  (iff (ltI (nth p0 0).toInt ((nth p0 1).toList.length : Int))
  (iff (neI (nth (nth p0 1).toList (nth p0 0).toInt.toNat).toInt (nth p0 2).toInt)
  (some (Ex.r, [(PV.int (-1 : Int))]))
  (some (Ex.n, [(PV.int (IntKind.i64.wrap ((nth p0 0).toInt + (1 : Int)))), (nth p0 1), (PV.int (IntKind.i64.wrap ((nth p0 2).toInt + (1 : Int))))])))
  none)
  none)
  (some (Ex.x 0, [(nth p0 2)])))
noncomputable def F30 (I : Interp) (n : Nat) (a : List PV) : Option (List PV) :=
  (thenN (thenE (loopEv (L30_0 I n) n [(PV.int (0 : Int)), (nth a 0), (nth a 1)])
  (passB 0))
  (fun p1 => (some [(nth p1 0)]))
  (retE fun q2 => [(nth q2 0)]))
theorem e30 : ∀ I n a, (compF Try.prog sg 30).map (fun d => d.ev I n a) = some (F30 I n a) := fun I n a => by kernel_rfl
/-! laws.heldValueS -/
noncomputable def L50_0 (I : Interp) (n : Nat) (p0 : List PV) : Option (Ex × List PV) :=
  (iff (ltI (nth p0 0).toInt ((nth p0 1).toList.length : Int))
  (iff (geI (nth p0 0).toInt (0 : Int))
  (iff (ltI (nth p0 0).toInt ((nth p0 1).toList.length : Int))
  (iff (neI ((nth (nth p0 1).toList (nth p0 0).toInt.toNat).fld 0).toInt (nth p0 2).toInt)
  (some (Ex.r, [(PV.int (-1 : Int))]))
  (iff (geI (nth p0 0).toInt (0 : Int))
  (iff (ltI (nth p0 0).toInt ((nth p0 1).toList.length : Int))
  (iff (neI ((nth (nth p0 1).toList (nth p0 0).toInt.toNat).fld 1).toInt (IntKind.i64.wrap ((nth p0 2).toInt + (1 : Int))))
  (some (Ex.r, [(PV.int (-1 : Int))]))
  (iff (geI (nth p0 0).toInt (0 : Int))
  (iff (ltI (nth p0 0).toInt ((nth p0 1).toList.length : Int))
  ((I 50 [((nth (nth p0 1).toList (nth p0 0).toInt.toNat).fld 2), (PV.int (IntKind.i64.wrap ((IntKind.i64.wrap ((nth p0 2).toInt + (1 : Int))) + (1 : Int))))]).bind fun r1 =>
  (iff (ltI (nth r1 0).toInt (0 : Int))
  (some (Ex.r, [(PV.int (-1 : Int))]))
  (some (Ex.n, [(PV.int (IntKind.i64.wrap ((nth p0 0).toInt + (1 : Int)))), (nth p0 1), (nth r1 0)]))))
  none)
  none))
  none)
  none))
  none)
  none)
  (some (Ex.x 0, [(nth p0 2)])))
noncomputable def F50 (I : Interp) (n : Nat) (a : List PV) : Option (List PV) :=
  (thenN (thenE (loopEv (L50_0 I n) n [(PV.int (0 : Int)), (nth a 0), (nth a 1)])
  (passB 0))
  (fun p2 => (some [(nth p2 0)]))
  (retE fun q3 => [(nth q3 0)]))
theorem e50 : ∀ I n a, (compF Try.prog sg 50).map (fun d => d.ev I n a) = some (F50 I n a) := fun I n a => by kernel_rfl
/-! laws.markIntS -/
noncomputable def L28_0 (I : Interp) (n : Nat) (p0 : List PV) : Option (Ex × List PV) :=
  (iff (ltI (nth p0 0).toInt ((nth p0 2).toList.length : Int))
  (iff (geI (nth p0 0).toInt (0 : Int))
  (iff (ltI (nth p0 0).toInt ((nth p0 2).toList.length : Int))
  (some (Ex.n, [(PV.int (IntKind.i64.wrap ((nth p0 0).toInt + (1 : Int)))), (PV.int (IntKind.i64.wrap ((nth p0 1).toInt + (1 : Int)))), (PV.list ((nth p0 2).toList.set (nth p0 0).toInt.toNat (nth p0 1)))]))
  none)
  none)
  (some (Ex.x 0, [(nth p0 2), (nth p0 1)])))
noncomputable def F28 (I : Interp) (n : Nat) (a : List PV) : Option (List PV) :=
  (thenN (thenE (loopEv (L28_0 I n) n [(PV.int (0 : Int)), (nth a 1), (nth a 0)])
  (passB 0))
  (fun p1 => (some [(nth p1 1), (nth p1 0)]))
  (retE fun q2 => [(nth q2 1), (nth q2 0)]))
theorem e28 : ∀ I n a, (compF Try.prog sg 28).map (fun d => d.ev I n a) = some (F28 I n a) := fun I n a => by kernel_rfl
/-! laws.markIntS -/
noncomputable def L4124_0 (I : Interp) (n : Nat) (p0 : List PV) : Option (Ex × List PV) :=
  (iff (ltI (nth p0 0).toInt ((nth p0 1).toList.length : Int))
  (iff (geI (nth p0 0).toInt (0 : Int))
  (iff (ltI (nth p0 0).toInt ((nth p0 1).toList.length : Int))
  (some (Ex.n, [(PV.int (IntKind.i64.wrap ((nth p0 0).toInt + (1 : Int)))), (PV.list ((nth p0 1).toList.set (nth p0 0).toInt.toNat (nth p0 2))), (PV.int (IntKind.i64.wrap ((nth p0 2).toInt + (1 : Int))))]))
  none)
  none)
  (some (Ex.x 0, [(nth p0 2)])))
noncomputable def F4124 (I : Interp) (n : Nat) (a : List PV) : Option (List PV) :=
  (thenN (thenE (loopEv (L4124_0 I n) n [(PV.int (0 : Int)), (nth a 0), (nth a 1)])
  (passB 0))
  (fun p1 => (some [(nth p1 0)]))
  (retE fun q2 => [(nth q2 0)]))
theorem e4124 : ∀ I n a, (compF Try.prog sg 4124).map (fun d => d.ev I n a) = some (F4124 I n a) := fun I n a => by kernel_rfl
/-! laws.markValueS -/
noncomputable def L49_0 (I : Interp) (n : Nat) (p0 : List PV) : Option (Ex × List PV) :=
  (iff (ltI (nth p0 0).toInt ((nth p0 2).toList.length : Int))
  (iff (geI (nth p0 0).toInt (0 : Int))
  (iff (ltI (nth p0 0).toInt ((nth p0 2).toList.length : Int))
  (iff (geI (nth p0 0).toInt (0 : Int))
  (iff (ltI (nth p0 0).toInt (((nth p0 2).toList.set (nth p0 0).toInt.toNat ((nth (nth p0 2).toList (nth p0 0).toInt.toNat).setFld 0 (nth p0 1))).length : Int))
  (iff (geI (nth p0 0).toInt (0 : Int))
  (iff (ltI (nth p0 0).toInt ((((nth p0 2).toList.set (nth p0 0).toInt.toNat ((nth (nth p0 2).toList (nth p0 0).toInt.toNat).setFld 0 (nth p0 1))).set (nth p0 0).toInt.toNat ((nth ((nth p0 2).toList.set (nth p0 0).toInt.toNat ((nth (nth p0 2).toList (nth p0 0).toInt.toNat).setFld 0 (nth p0 1))) (nth p0 0).toInt.toNat).setFld 1 (PV.int (IntKind.i64.wrap ((nth p0 1).toInt + (1 : Int)))))).length : Int))
  ((I 49 [((nth (((nth p0 2).toList.set (nth p0 0).toInt.toNat ((nth (nth p0 2).toList (nth p0 0).toInt.toNat).setFld 0 (nth p0 1))).set (nth p0 0).toInt.toNat ((nth ((nth p0 2).toList.set (nth p0 0).toInt.toNat ((nth (nth p0 2).toList (nth p0 0).toInt.toNat).setFld 0 (nth p0 1))) (nth p0 0).toInt.toNat).setFld 1 (PV.int (IntKind.i64.wrap ((nth p0 1).toInt + (1 : Int)))))) (nth p0 0).toInt.toNat).fld 2), (PV.int (IntKind.i64.wrap ((IntKind.i64.wrap ((nth p0 1).toInt + (1 : Int))) + (1 : Int))))]).bind fun r1 =>
  (some (Ex.n, [(PV.int (IntKind.i64.wrap ((nth p0 0).toInt + (1 : Int)))), (nth r1 0), (PV.list ((((nth p0 2).toList.set (nth p0 0).toInt.toNat ((nth (nth p0 2).toList (nth p0 0).toInt.toNat).setFld 0 (nth p0 1))).set (nth p0 0).toInt.toNat ((nth ((nth p0 2).toList.set (nth p0 0).toInt.toNat ((nth (nth p0 2).toList (nth p0 0).toInt.toNat).setFld 0 (nth p0 1))) (nth p0 0).toInt.toNat).setFld 1 (PV.int (IntKind.i64.wrap ((nth p0 1).toInt + (1 : Int)))))).set (nth p0 0).toInt.toNat ((nth (((nth p0 2).toList.set (nth p0 0).toInt.toNat ((nth (nth p0 2).toList (nth p0 0).toInt.toNat).setFld 0 (nth p0 1))).set (nth p0 0).toInt.toNat ((nth ((nth p0 2).toList.set (nth p0 0).toInt.toNat ((nth (nth p0 2).toList (nth p0 0).toInt.toNat).setFld 0 (nth p0 1))) (nth p0 0).toInt.toNat).setFld 1 (PV.int (IntKind.i64.wrap ((nth p0 1).toInt + (1 : Int)))))) (nth p0 0).toInt.toNat).setFld 2 (nth r1 1))))])))
  none)
  none)
  none)
  none)
  none)
  none)
  (some (Ex.x 0, [(nth p0 2), (nth p0 1)])))
noncomputable def F49 (I : Interp) (n : Nat) (a : List PV) : Option (List PV) :=
  (thenN (thenE (loopEv (L49_0 I n) n [(PV.int (0 : Int)), (nth a 1), (nth a 0)])
  (passB 0))
  (fun p2 => (some [(nth p2 1), (nth p2 0)]))
  (retE fun q3 => [(nth q3 1), (nth q3 0)]))
theorem e49 : ∀ I n a, (compF Try.prog sg 49).map (fun d => d.ev I n a) = some (F49 I n a) := fun I n a => by kernel_rfl
/-! laws.markValueS -/
noncomputable def L4145_0 (I : Interp) (n : Nat) (p0 : List PV) : Option (Ex × List PV) :=
  (iff (ltI (nth p0 0).toInt ((nth p0 1).toList.length : Int))
  (iff (geI (nth p0 0).toInt (0 : Int))
  (iff (ltI (nth p0 0).toInt ((nth p0 1).toList.length : Int))
  (iff (geI (nth p0 0).toInt (0 : Int))
  (iff (ltI (nth p0 0).toInt (((nth p0 1).toList.set (nth p0 0).toInt.toNat ((nth (nth p0 1).toList (nth p0 0).toInt.toNat).setFld 0 (nth p0 2))).length : Int))
  (iff (geI (nth p0 0).toInt (0 : Int))
  (iff (ltI (nth p0 0).toInt ((((nth p0 1).toList.set (nth p0 0).toInt.toNat ((nth (nth p0 1).toList (nth p0 0).toInt.toNat).setFld 0 (nth p0 2))).set (nth p0 0).toInt.toNat ((nth ((nth p0 1).toList.set (nth p0 0).toInt.toNat ((nth (nth p0 1).toList (nth p0 0).toInt.toNat).setFld 0 (nth p0 2))) (nth p0 0).toInt.toNat).setFld 1 (PV.int (IntKind.i64.wrap ((nth p0 2).toInt + (1 : Int)))))).length : Int))
  ((I 49 [((nth (((nth p0 1).toList.set (nth p0 0).toInt.toNat ((nth (nth p0 1).toList (nth p0 0).toInt.toNat).setFld 0 (nth p0 2))).set (nth p0 0).toInt.toNat ((nth ((nth p0 1).toList.set (nth p0 0).toInt.toNat ((nth (nth p0 1).toList (nth p0 0).toInt.toNat).setFld 0 (nth p0 2))) (nth p0 0).toInt.toNat).setFld 1 (PV.int (IntKind.i64.wrap ((nth p0 2).toInt + (1 : Int)))))) (nth p0 0).toInt.toNat).fld 2), (PV.int (IntKind.i64.wrap ((IntKind.i64.wrap ((nth p0 2).toInt + (1 : Int))) + (1 : Int))))]).bind fun r1 =>
  (some (Ex.n, [(PV.int (IntKind.i64.wrap ((nth p0 0).toInt + (1 : Int)))), (PV.list ((((nth p0 1).toList.set (nth p0 0).toInt.toNat ((nth (nth p0 1).toList (nth p0 0).toInt.toNat).setFld 0 (nth p0 2))).set (nth p0 0).toInt.toNat ((nth ((nth p0 1).toList.set (nth p0 0).toInt.toNat ((nth (nth p0 1).toList (nth p0 0).toInt.toNat).setFld 0 (nth p0 2))) (nth p0 0).toInt.toNat).setFld 1 (PV.int (IntKind.i64.wrap ((nth p0 2).toInt + (1 : Int)))))).set (nth p0 0).toInt.toNat ((nth (((nth p0 1).toList.set (nth p0 0).toInt.toNat ((nth (nth p0 1).toList (nth p0 0).toInt.toNat).setFld 0 (nth p0 2))).set (nth p0 0).toInt.toNat ((nth ((nth p0 1).toList.set (nth p0 0).toInt.toNat ((nth (nth p0 1).toList (nth p0 0).toInt.toNat).setFld 0 (nth p0 2))) (nth p0 0).toInt.toNat).setFld 1 (PV.int (IntKind.i64.wrap ((nth p0 2).toInt + (1 : Int)))))) (nth p0 0).toInt.toNat).setFld 2 (nth r1 1)))), (nth r1 0)])))
  none)
  none)
  none)
  none)
  none)
  none)
  (some (Ex.x 0, [(nth p0 2)])))
noncomputable def F4145 (I : Interp) (n : Nat) (a : List PV) : Option (List PV) :=
  (thenN (thenE (loopEv (L4145_0 I n) n [(PV.int (0 : Int)), (nth a 0), (nth a 1)])
  (passB 0))
  (fun p2 => (some [(nth p2 0)]))
  (retE fun q3 => [(nth q3 0)]))
theorem e4145 : ∀ I n a, (compF Try.prog sg 4145).map (fun d => d.ev I n a) = some (F4145 I n a) := fun I n a => by kernel_rfl
/-! laws.markText -/
noncomputable def L48_0 (I : Interp) (n : Nat) (p0 : List PV) : Option (Ex × List PV) :=
  (iff (gtI (nth p0 0).toInt (0 : Int))
  (iff (neI (10 : Int) (0 : Int))
  (iff (leI ((catB (b2sL ((PV.int (IntKind.u8.wrap (IntKind.i64.wrap ((48 : Int) + (arith BinOp.rem IntKind.i64 (nth p0 0).toInt (10 : Int)))))) :: ([] : List PV))) (nth p0 1).toStr).size : Int) (9223372036854775807 : Int))
  (iff (neI (10 : Int) (0 : Int))
  (some (Ex.n, [(PV.int (arith BinOp.quo IntKind.i64 (nth p0 0).toInt (10 : Int))), (PV.str (catB (b2sL ((PV.int (IntKind.u8.wrap (IntKind.i64.wrap ((48 : Int) + (arith BinOp.rem IntKind.i64 (nth p0 0).toInt (10 : Int)))))) :: ([] : List PV))) (nth p0 1).toStr))]))
  none)
  none)
  none)
  (some (Ex.x 0, [(nth p0 1)])))
noncomputable def F48 (I : Interp) (n : Nat) (a : List PV) : Option (List PV) :=
  (iff (leI (nth a 0).toInt (0 : Int))
  (some [(PV.str (⟨#[109, 48]⟩ : ByteArray))])
  (thenN (thenE (loopEv (L48_0 I n) n [(nth a 0), (PV.str (⟨#[]⟩ : ByteArray))])
  (passB 0))
  (fun p1 => (iff (leI ((catB (⟨#[109]⟩ : ByteArray) (nth p1 0).toStr).size : Int) (9223372036854775807 : Int))
  (some [(PV.str (catB (⟨#[109]⟩ : ByteArray) (nth p1 0).toStr))])
  none))
  (retE fun q2 => [(nth q2 0)])))
theorem e48 : ∀ I n a, (compF Try.prog sg 48).map (fun d => d.ev I n a) = some (F48 I n a) := fun I n a => by kernel_rfl
/-! laws.eqIntS -/
noncomputable def L24_0 (I : Interp) (n : Nat) (p0 : List PV) : Option (Ex × List PV) :=
  (iff (ltI (nth p0 0).toInt ((nth p0 1).toList.length : Int))
  (iff (geI (nth p0 0).toInt (0 : Int))
  (iff (ltI (nth p0 0).toInt ((nth p0 1).toList.length : Int))
  (iff (geI (nth p0 0).toInt (0 : Int))
  (iff (ltI (nth p0 0).toInt ((nth p0 2).toList.length : Int))
  (iff (neI (nth (nth p0 1).toList (nth p0 0).toInt.toNat).toInt (nth (nth p0 2).toList (nth p0 0).toInt.toNat).toInt)
  (some (Ex.r, [(PV.bool false)]))
  (some (Ex.n, [(PV.int (IntKind.i64.wrap ((nth p0 0).toInt + (1 : Int)))), (nth p0 1), (nth p0 2)])))
  none)
  none)
  none)
  none)
  (some (Ex.x 0, [])))
noncomputable def F24 (I : Interp) (n : Nat) (a : List PV) : Option (List PV) :=
  (iff (neI ((nth a 0).toList.length : Int) ((nth a 1).toList.length : Int))
  (some [(PV.bool false)])
  (thenN (thenE (loopEv (L24_0 I n) n [(PV.int (0 : Int)), (nth a 0), (nth a 1)])
  (passB 0))
  (fun p1 => (some [(PV.bool true)]))
  (retE fun q2 => [(nth q2 0)])))
theorem e24 : ∀ I n a, (compF Try.prog sg 24).map (fun d => d.ev I n a) = some (F24 I n a) := fun I n a => by kernel_rfl
/-! impl.told -/
noncomputable def F22 (I : Interp) (n : Nat) (a : List PV) : Option (List PV) :=
  (iff (eqI (nth a 1).toInt (0 : Int))
  (some [(PV.agg [(PV.int (0 : Int)), (PV.int (0 : Int)), (PV.list ([] : List PV))]), (PV.bool false)])
  (iff (gtI ((nth a 0).toList.length : Int) (0 : Int))
  (iff (gtI ((nth a 0).toList.length : Int) (0 : Int))
  (iff (gtI ((nth a 0).toList.length : Int) (0 : Int))
  (iff (gtI ((nth a 0).toList.length : Int) (0 : Int))
  (thenN (iff (gtI ((nth a 0).toList.length : Int) (0 : Int))
  (iff (gtI ((nth a 0).toList.length : Int) (0 : Int))
  (iff (eqI ((nth (nth a 0).toList (0 : Int).toNat).fld 0).toInt (3 : Int))
  (iff (gtI ((nth a 0).toList.length : Int) (0 : Int))
  (iff (gtI ((nth a 0).toList.length : Int) (0 : Int))
  ((I 22 [((nth (nth a 0).toList (0 : Int).toNat).fld 2), (PV.int (IntKind.i64.wrap ((nth a 1).toInt - (1 : Int))))]).bind fun r0 =>
  (iff (!(nth r0 1).toBool)
  (some (Ex.r, [(PV.bool false), (PV.agg [(PV.int (0 : Int)), (PV.int (0 : Int)), (PV.list ([] : List PV))])]))
  (iff (gtI ((nth a 0).toList.length : Int) (0 : Int))
  (iff (gtI ((nth a 0).toList.length : Int) (0 : Int))
  ((I 22 [((nth (nth a 0).toList (0 : Int).toNat).fld 3), (PV.int (IntKind.i64.wrap ((nth a 1).toInt - (1 : Int))))]).bind fun r1 =>
  (iff (!(nth r1 1).toBool)
  (some (Ex.r, [(PV.bool false), (PV.agg [(PV.int (0 : Int)), (PV.int (0 : Int)), (PV.list ([] : List PV))])]))
  (some (Ex.n, [(PV.agg [((nth (nth a 0).toList (0 : Int).toNat).fld 0), ((nth (nth a 0).toList (0 : Int).toNat).fld 1), (PV.list ((nth r0 0) :: ((nth r1 0) :: ([] : List PV))))]), (PV.agg [(PV.int (0 : Int)), (PV.int (0 : Int)), (PV.list ([] : List PV))])]))))
  none)
  none)))
  none)
  none)
  (some (Ex.n, [(PV.agg [((nth (nth a 0).toList (0 : Int).toNat).fld 0), ((nth (nth a 0).toList (0 : Int).toNat).fld 1), (PV.list ([] : List PV))]), (PV.agg [(PV.int (0 : Int)), (PV.int (0 : Int)), (PV.list ([] : List PV))])])))
  none)
  none)
  (fun p2 => (some [(nth p2 0), (PV.bool true)]))
  (retE fun q3 => [(nth q3 1), (nth q3 0)]))
  none)
  none)
  none)
  none))
theorem e22 : ∀ I n a, (compF Try.prog sg 22).map (fun d => d.ev I n a) = some (F22 I n a) := fun I n a => by kernel_rfl
/-! impl.Round -/
noncomputable def F72 (I : Interp) (n : Nat) (a : List PV) : Option (List PV) :=
  (thenN (iff (geI (arith BinOp.and IntKind.i64 (nth a 0).toInt (2147483647 : Int)) (1073741824 : Int))
  (some (Ex.n, [(PV.int (IntKind.i64.wrap ((arith BinOp.and IntKind.i64 (nth a 0).toInt (2147483647 : Int)) - (2147483648 : Int))))]))
  (some (Ex.n, [(PV.int (arith BinOp.and IntKind.i64 (nth a 0).toInt (2147483647 : Int)))])))
  (fun p0 => (some [(nth p0 0)]))
  (retE fun q1 => [(nth q1 0)]))
theorem e72 : ∀ I n a, (compF Try.prog sg 72).map (fun d => d.ev I n a) = some (F72 I n a) := fun I n a => by kernel_rfl
/-! impl.integer -/
noncomputable def F43 (I : Interp) (n : Nat) (a : List PV) : Option (List PV) :=
  (some [(PV.list ((PV.agg [(PV.int (1 : Int)), (nth a 0), (PV.list ([] : List PV)), (PV.list ([] : List PV)), (PV.str (⟨#[]⟩ : ByteArray)), (PV.agg [(PV.int (0 : Int)), (PV.int (0 : Int)), (PV.str (⟨#[]⟩ : ByteArray)), (PV.str (⟨#[]⟩ : ByteArray)), (PV.list ([] : List PV))]), (PV.list ([] : List PV))]) :: ([] : List PV)))])
theorem e43 : ∀ I n a, (compF Try.prog sg 43).map (fun d => d.ev I n a) = some (F43 I n a) := fun I n a => by kernel_rfl
/-! impl.meaner).fail -/
noncomputable def F42 (I : Interp) (n : Nat) (a : List PV) : Option (List PV) :=
  (thenN (iff (eqI ((nth a 0).fld 1).toInt (0 : Int))
  (some (Ex.n, [((nth a 0).setFld 1 (nth a 1))]))
  (some (Ex.n, [(nth a 0)])))
  (fun p0 => (some [(PV.list ((PV.agg [(PV.int (2 : Int)), (PV.int (0 : Int)), (PV.list ([] : List PV)), (PV.list ([] : List PV)), (PV.str (⟨#[]⟩ : ByteArray)), (PV.agg [(PV.int (0 : Int)), (PV.int (0 : Int)), (PV.str (⟨#[]⟩ : ByteArray)), (PV.str (⟨#[]⟩ : ByteArray)), (PV.list ([] : List PV))]), (PV.list ([] : List PV))]) :: ([] : List PV))), (nth p0 0)]))
  (retE fun q1 => [(nth q1 1), (nth q1 0)]))
theorem e42 : ∀ I n a, (compF Try.prog sg 42).map (fun d => d.ev I n a) = some (F42 I n a) := fun I n a => by kernel_rfl
/-! impl.meaner).fail -/
noncomputable def F4138 (I : Interp) (n : Nat) (a : List PV) : Option (List PV) :=
  (thenN (iff (eqI ((nth a 0).fld 1).toInt (0 : Int))
  (some (Ex.n, [((nth a 0).setFld 1 (nth a 1))]))
  (some (Ex.n, [(nth a 0)])))
  (fun p0 => (some [(PV.list ((PV.agg [(PV.int (2 : Int)), (PV.int (0 : Int)), (PV.list ([] : List PV)), (PV.list ([] : List PV)), (PV.str (⟨#[]⟩ : ByteArray)), (PV.agg [(PV.int (0 : Int)), (PV.int (0 : Int)), (PV.str (⟨#[]⟩ : ByteArray)), (PV.str (⟨#[]⟩ : ByteArray)), (PV.list ([] : List PV))]), (PV.list ([] : List PV))]) :: ([] : List PV))), (nth p0 0)]))
  (retE fun q1 => [(nth q1 1), (nth q1 0)]))
theorem e4138 : ∀ I n a, (compF Try.prog sg 4138).map (fun d => d.ev I n a) = some (F4138 I n a) := fun I n a => by kernel_rfl
/-! impl.bindsIn -/
noncomputable def F63 (I : Interp) (n : Nat) (a : List PV) : Option (List PV) :=
  (thenN (iff (eqI ((nth a 0).fld 0).toInt (3 : Int))
  (some (Ex.n, [(PV.bool (eqI ((nth a 0).fld 0).toInt (3 : Int))), (nth a 0)]))
  (iff (selB (eqI ((nth a 0).fld 0).toInt (5 : Int)) (selB ((eqI ((nth a 0).fld 0).toInt (5 : Int)) == true) (PV.bool (eqI (selB ((eqI ((nth a 0).fld 0).toInt (5 : Int)) == true) (nth a 1) PV.unit).toInt (1 : Int))) PV.unit) (PV.bool false)).toBool
  (some (Ex.n, [(selB (eqI ((nth a 0).fld 0).toInt (5 : Int)) (selB ((eqI ((nth a 0).fld 0).toInt (5 : Int)) == true) (PV.bool (eqI (selB ((eqI ((nth a 0).fld 0).toInt (5 : Int)) == true) (nth a 1) PV.unit).toInt (1 : Int))) PV.unit) (PV.bool false)), (nth a 0)]))
  (some (Ex.n, [(selB (eqI ((nth a 0).fld 0).toInt (6 : Int)) (selB ((eqI ((nth a 0).fld 0).toInt (6 : Int)) == true) (PV.bool (eqI (selB ((eqI ((nth a 0).fld 0).toInt (6 : Int)) == true) (nth a 1) PV.unit).toInt (1 : Int))) PV.unit) (PV.bool false)), (nth a 0)]))))
  (fun p0 => (iff (nth p0 0).toBool
  (some [(PV.list (((nth p0 1).fld 2) :: ([] : List PV)))])
  (iff (eqI ((nth p0 1).fld 0).toInt (6 : Int))
  (some [(PV.list (((nth p0 1).fld 2) :: (((nth p0 1).fld 3) :: ([] : List PV))))])
  (some [(PV.list ([] : List PV))]))))
  (retE fun q1 => [(nth q1 0)]))
theorem e63 : ∀ I n a, (compF Try.prog sg 63).map (fun d => d.ev I n a) = some (F63 I n a) := fun I n a => by kernel_rfl
/-! slices.Index[[]string,string] -/
noncomputable def L70_0 (I : Interp) (n : Nat) (p0 : List PV) : Option (Ex × List PV) :=
  (iff (ltI (nth p0 0).toInt (nth p0 1).toInt)
  (iff (geI (nth p0 0).toInt (0 : Int))
  (iff (ltI (nth p0 0).toInt ((nth p0 3).toList.length : Int))
  (iff (cmpS BinOp.eql (nth p0 2).toStr (nth (nth p0 3).toList (nth p0 0).toInt.toNat).toStr)
  (some (Ex.r, [(nth p0 0)]))
  (some (Ex.n, [(PV.int (IntKind.i64.wrap ((nth p0 0).toInt + (1 : Int)))), (nth p0 1), (nth p0 2), (nth p0 3)])))
  none)
  none)
  (some (Ex.x 0, [])))
noncomputable def F70 (I : Interp) (n : Nat) (a : List PV) : Option (List PV) :=
  (thenN (thenE (loopEv (L70_0 I n) n [(PV.int (0 : Int)), (PV.int ((nth a 0).toList.length : Int)), (nth a 1), (nth a 0)])
  (passB 0))
  (fun p1 => (some [(PV.int (-1 : Int))]))
  (retE fun q2 => [(nth q2 0)]))
theorem e70 : ∀ I n a, (compF Try.prog sg 70).map (fun d => d.ev I n a) = some (F70 I n a) := fun I n a => by kernel_rfl
/-! impl.within -/
noncomputable def F69 (I : Interp) (n : Nat) (a : List PV) : Option (List PV) :=
  (some [(selB (geI (nth a 0).toInt (nth a 1).toInt) (selB ((geI (nth a 0).toInt (nth a 1).toInt) == true) (PV.bool (leI (selB ((geI (nth a 0).toInt (nth a 1).toInt) == true) (nth a 0) PV.unit).toInt (selB ((geI (nth a 0).toInt (nth a 1).toInt) == true) (nth a 2) PV.unit).toInt)) PV.unit) (PV.bool false))])
theorem e69 : ∀ I n a, (compF Try.prog sg 69).map (fun d => d.ev I n a) = some (F69 I n a) := fun I n a => by kernel_rfl
/-! impl.arity -/
noncomputable def F59 (I : Interp) (n : Nat) (a : List PV) : Option (List PV) :=
  (thenN (iff (eqI (nth a 0).toInt (1 : Int))
  (some (Ex.n, [(PV.bool (eqI (nth a 0).toInt (1 : Int))), (nth a 0)]))
  (iff (eqI (nth a 0).toInt (2 : Int))
  (some (Ex.n, [(PV.bool (eqI (nth a 0).toInt (2 : Int))), (nth a 0)]))
  (some (Ex.n, [(PV.bool (eqI (nth a 0).toInt (13 : Int))), (nth a 0)]))))
  (fun p0 => (iff (nth p0 0).toBool
  (some [(PV.int (0 : Int))])
  (thenN (iff (eqI (nth p0 1).toInt (3 : Int))
  (some (Ex.n, [(PV.bool (eqI (nth p0 1).toInt (3 : Int))), (nth p0 1)]))
  (iff (eqI (nth p0 1).toInt (15 : Int))
  (some (Ex.n, [(PV.bool (eqI (nth p0 1).toInt (15 : Int))), (nth p0 1)]))
  (iff (eqI (nth p0 1).toInt (16 : Int))
  (some (Ex.n, [(PV.bool (eqI (nth p0 1).toInt (16 : Int))), (nth p0 1)]))
  (iff (eqI (nth p0 1).toInt (17 : Int))
  (some (Ex.n, [(PV.bool (eqI (nth p0 1).toInt (17 : Int))), (nth p0 1)]))
  (some (Ex.n, [(PV.bool (eqI (nth p0 1).toInt (18 : Int))), (nth p0 1)]))))))
  (fun p1 => (iff (nth p1 0).toBool
  (some [(PV.int (1 : Int))])
  (thenN (iff (eqI (nth p1 1).toInt (4 : Int))
  (some (Ex.n, [(PV.bool (eqI (nth p1 1).toInt (4 : Int))), (nth p1 1)]))
  (iff (eqI (nth p1 1).toInt (5 : Int))
  (some (Ex.n, [(PV.bool (eqI (nth p1 1).toInt (5 : Int))), (nth p1 1)]))
  (iff (eqI (nth p1 1).toInt (6 : Int))
  (some (Ex.n, [(PV.bool (eqI (nth p1 1).toInt (6 : Int))), (nth p1 1)]))
  (iff (eqI (nth p1 1).toInt (8 : Int))
  (some (Ex.n, [(PV.bool (eqI (nth p1 1).toInt (8 : Int))), (nth p1 1)]))
  (iff (eqI (nth p1 1).toInt (9 : Int))
  (some (Ex.n, [(PV.bool (eqI (nth p1 1).toInt (9 : Int))), (nth p1 1)]))
  (iff (eqI (nth p1 1).toInt (10 : Int))
  (some (Ex.n, [(PV.bool (eqI (nth p1 1).toInt (10 : Int))), (nth p1 1)]))
  (iff (eqI (nth p1 1).toInt (11 : Int))
  (some (Ex.n, [(PV.bool (eqI (nth p1 1).toInt (11 : Int))), (nth p1 1)]))
  (iff (eqI (nth p1 1).toInt (12 : Int))
  (some (Ex.n, [(PV.bool (eqI (nth p1 1).toInt (12 : Int))), (nth p1 1)]))
  (some (Ex.n, [(PV.bool (eqI (nth p1 1).toInt (14 : Int))), (nth p1 1)]))))))))))
  (fun p2 => (iff (nth p2 0).toBool
  (some [(PV.int (2 : Int))])
  (iff (eqI (nth p2 1).toInt (7 : Int))
  (some [(PV.int (3 : Int))])
  (some [(PV.int (-1 : Int))]))))
  (retE fun q3 => [(nth q3 0)]))))
  (retE fun q4 => [(nth q4 0)]))))
  (retE fun q5 => [(nth q5 0)]))
theorem e59 : ∀ I n a, (compF Try.prog sg 59).map (fun d => d.ev I n a) = some (F59 I n a) := fun I n a => by kernel_rfl
/-! spec.l1Min -/
noncomputable def F15 (I : Interp) (n : Nat) (a : List PV) : Option (List PV) :=
  (iff (ltI (nth a 0).toInt (nth a 1).toInt)
  (some [(nth a 0)])
  (some [(nth a 1)]))
theorem e15 : ∀ I n a, (compF Try.prog sg 15).map (fun d => d.ev I n a) = some (F15 I n a) := fun I n a => by kernel_rfl
/-! spec.l11Over -/
noncomputable def L17_0 (I : Interp) (n : Nat) (p0 : List PV) : Option (Ex × List PV) :=
  (iff (ltI (nth p0 0).toInt (((nth p0 2).fld 2).toList.length : Int))
  (iff (geI (nth p0 0).toInt (0 : Int))
  (iff (ltI (nth p0 0).toInt (((nth p0 2).fld 2).toList.length : Int))
  ((I 17 [(nth ((nth p0 2).fld 2).toList (nth p0 0).toInt.toNat), (PV.int (IntKind.i64.wrap ((nth p0 1).toInt - (1 : Int))))]).bind fun r1 =>
  (iff (nth r1 0).toBool
  (some (Ex.r, [(PV.bool true)]))
  (some (Ex.n, [(PV.int (IntKind.i64.wrap ((nth p0 0).toInt + (1 : Int)))), (nth p0 1), (nth p0 2)]))))
  none)
  none)
  (some (Ex.x 0, [])))
noncomputable def F17 (I : Interp) (n : Nat) (a : List PV) : Option (List PV) :=
  (iff (eqI (nth a 1).toInt (0 : Int))
  (some [(PV.bool true)])
  (thenN (thenE (loopEv (L17_0 I n) n [(PV.int (0 : Int)), (nth a 1), (nth a 0)])
  (passB 0))
  (fun p2 => (some [(PV.bool false)]))
  (retE fun q3 => [(nth q3 0)])))
theorem e17 : ∀ I n a, (compF Try.prog sg 17).map (fun d => d.ev I n a) = some (F17 I n a) := fun I n a => by kernel_rfl
/-! spec.Round -/
noncomputable def F68 (I : Interp) (n : Nat) (a : List PV) : Option (List PV) :=
  (iff (gtI (arith BinOp.and IntKind.i64 (nth a 0).toInt (2147483647 : Int)) (1073741823 : Int))
  (some [(PV.int (IntKind.i64.wrap ((arith BinOp.and IntKind.i64 (nth a 0).toInt (2147483647 : Int)) - (2147483648 : Int))))])
  (some [(PV.int (arith BinOp.and IntKind.i64 (nth a 0).toInt (2147483647 : Int)))]))
theorem e68 : ∀ I n a, (compF Try.prog sg 68).map (fun d => d.ev I n a) = some (F68 I n a) := fun I n a => by kernel_rfl
/-! spec.l1Bit -/
noncomputable def F57 (I : Interp) (n : Nat) (a : List PV) : Option (List PV) :=
  (iff (nth a 0).toBool
  (some [(PV.int (1 : Int))])
  (some [(PV.int (0 : Int))]))
theorem e57 : ∀ I n a, (compF Try.prog sg 57).map (fun d => d.ev I n a) = some (F57 I n a) := fun I n a => by kernel_rfl
/-! spec.l11Bind -/
noncomputable def F38 (I : Interp) (n : Nat) (a : List PV) : Option (List PV) :=
  (iff (leN (([] : List PV).length + (nth a 0).toList.length) 764877654105)
  (iff (leN ((([] : List PV) ++ (nth a 0).toList).length + ((PV.agg [(nth a 1), (nth a 2)]) :: ([] : List PV)).length) 764877654105)
  (some [(PV.list ((([] : List PV) ++ (nth a 0).toList) ++ ((PV.agg [(nth a 1), (nth a 2)]) :: ([] : List PV))))])
  none)
  none)
theorem e38 : ∀ I n a, (compF Try.prog sg 38).map (fun d => d.ev I n a) = some (F38 I n a) := fun I n a => by kernel_rfl
/-! spec.l11Bind -/
noncomputable def F4134 (I : Interp) (n : Nat) (a : List PV) : Option (List PV) :=
  (iff (leN (([] : List PV).length + (nth a 0).toList.length) 764877654105)
  (iff (leN ((([] : List PV) ++ (nth a 0).toList).length + ((PV.agg [(nth a 1), (nth a 2)]) :: ([] : List PV)).length) 764877654105)
  (some [(PV.list ((([] : List PV) ++ (nth a 0).toList) ++ ((PV.agg [(nth a 1), (nth a 2)]) :: ([] : List PV))))])
  none)
  none)
theorem e4134 : ∀ I n a, (compF Try.prog sg 4134).map (fun d => d.ev I n a) = some (F4134 I n a) := fun I n a => by kernel_rfl
/-! spec.l11Stuck -/
noncomputable def F39 (I : Interp) (n : Nat) (a : List PV) : Option (List PV) :=
  (thenN (iff (eqI ((nth a 0).fld 1).toInt (0 : Int))
  (some (Ex.n, [((nth a 0).setFld 1 (PV.int (2 : Int))), (PV.agg [(PV.int (0 : Int)), (PV.int (0 : Int)), (PV.list ([] : List PV)), (PV.agg [(PV.int (0 : Int)), (PV.int (0 : Int)), (PV.str (⟨#[]⟩ : ByteArray)), (PV.str (⟨#[]⟩ : ByteArray)), (PV.list ([] : List PV))]), (PV.str (⟨#[]⟩ : ByteArray)), (PV.str (⟨#[]⟩ : ByteArray)), (PV.list ([] : List PV))])]))
  (some (Ex.n, [(nth a 0), (PV.agg [(PV.int (0 : Int)), (PV.int (0 : Int)), (PV.list ([] : List PV)), (PV.agg [(PV.int (0 : Int)), (PV.int (0 : Int)), (PV.str (⟨#[]⟩ : ByteArray)), (PV.str (⟨#[]⟩ : ByteArray)), (PV.list ([] : List PV))]), (PV.str (⟨#[]⟩ : ByteArray)), (PV.str (⟨#[]⟩ : ByteArray)), (PV.list ([] : List PV))])])))
  (fun p0 => (some [(PV.agg [(PV.int (0 : Int)), (PV.int (0 : Int)), (PV.list ([] : List PV)), (PV.agg [(PV.int (0 : Int)), (PV.int (0 : Int)), (PV.str (⟨#[]⟩ : ByteArray)), (PV.str (⟨#[]⟩ : ByteArray)), (PV.list ([] : List PV))]), (PV.str (⟨#[]⟩ : ByteArray)), (PV.str (⟨#[]⟩ : ByteArray)), (PV.list ([] : List PV))]), (nth p0 0)]))
  (retE fun q1 => [(nth q1 1), (nth q1 0)]))
theorem e39 : ∀ I n a, (compF Try.prog sg 39).map (fun d => d.ev I n a) = some (F39 I n a) := fun I n a => by kernel_rfl
/-! spec.l11Stuck -/
noncomputable def F4135 (I : Interp) (n : Nat) (a : List PV) : Option (List PV) :=
  (thenN (iff (eqI ((nth a 0).fld 1).toInt (0 : Int))
  (some (Ex.n, [((nth a 0).setFld 1 (PV.int (2 : Int))), (PV.agg [(PV.int (0 : Int)), (PV.int (0 : Int)), (PV.list ([] : List PV)), (PV.agg [(PV.int (0 : Int)), (PV.int (0 : Int)), (PV.str (⟨#[]⟩ : ByteArray)), (PV.str (⟨#[]⟩ : ByteArray)), (PV.list ([] : List PV))]), (PV.str (⟨#[]⟩ : ByteArray)), (PV.str (⟨#[]⟩ : ByteArray)), (PV.list ([] : List PV))])]))
  (some (Ex.n, [(nth a 0), (PV.agg [(PV.int (0 : Int)), (PV.int (0 : Int)), (PV.list ([] : List PV)), (PV.agg [(PV.int (0 : Int)), (PV.int (0 : Int)), (PV.str (⟨#[]⟩ : ByteArray)), (PV.str (⟨#[]⟩ : ByteArray)), (PV.list ([] : List PV))]), (PV.str (⟨#[]⟩ : ByteArray)), (PV.str (⟨#[]⟩ : ByteArray)), (PV.list ([] : List PV))])])))
  (fun p0 => (some [(PV.agg [(PV.int (0 : Int)), (PV.int (0 : Int)), (PV.list ([] : List PV)), (PV.agg [(PV.int (0 : Int)), (PV.int (0 : Int)), (PV.str (⟨#[]⟩ : ByteArray)), (PV.str (⟨#[]⟩ : ByteArray)), (PV.list ([] : List PV))]), (PV.str (⟨#[]⟩ : ByteArray)), (PV.str (⟨#[]⟩ : ByteArray)), (PV.list ([] : List PV))]), (nth p0 0)]))
  (retE fun q1 => [(nth q1 1), (nth q1 0)]))
theorem e4135 : ∀ I n a, (compF Try.prog sg 4135).map (fun d => d.ev I n a) = some (F4135 I n a) := fun I n a => by kernel_rfl
/-! spec.l11Int -/
noncomputable def F34 (I : Interp) (n : Nat) (a : List PV) : Option (List PV) :=
  (some [(PV.agg [(PV.int (1 : Int)), (nth a 0), (PV.list ([] : List PV)), (PV.agg [(PV.int (0 : Int)), (PV.int (0 : Int)), (PV.str (⟨#[]⟩ : ByteArray)), (PV.str (⟨#[]⟩ : ByteArray)), (PV.list ([] : List PV))]), (PV.str (⟨#[]⟩ : ByteArray)), (PV.str (⟨#[]⟩ : ByteArray)), (PV.list ([] : List PV))])])
theorem e34 : ∀ I n a, (compF Try.prog sg 34).map (fun d => d.ev I n a) = some (F34 I n a) := fun I n a => by kernel_rfl
/-! spec.l9Named -/
noncomputable def F53 (I : Interp) (n : Nat) (a : List PV) : Option (List PV) :=
  (some [(selB (selB (selB (eqI (nth a 0).toInt (2 : Int)) (PV.bool true) (selB ((eqI (nth a 0).toInt (2 : Int)) == false) (PV.bool (eqI (selB ((eqI (nth a 0).toInt (2 : Int)) == false) (nth a 0) PV.unit).toInt (3 : Int))) PV.unit)).toBool (PV.bool true) (selB ((selB (eqI (nth a 0).toInt (2 : Int)) (PV.bool true) (selB ((eqI (nth a 0).toInt (2 : Int)) == false) (PV.bool (eqI (selB ((eqI (nth a 0).toInt (2 : Int)) == false) (nth a 0) PV.unit).toInt (3 : Int))) PV.unit)).isB false) (PV.bool (eqI (selB ((selB (eqI (nth a 0).toInt (2 : Int)) (PV.bool true) (selB ((eqI (nth a 0).toInt (2 : Int)) == false) (PV.bool (eqI (selB ((eqI (nth a 0).toInt (2 : Int)) == false) (nth a 0) PV.unit).toInt (3 : Int))) PV.unit)).isB false) (nth a 0) PV.unit).toInt (5 : Int))) PV.unit)).toBool (PV.bool true) (selB ((selB (selB (eqI (nth a 0).toInt (2 : Int)) (PV.bool true) (selB ((eqI (nth a 0).toInt (2 : Int)) == false) (PV.bool (eqI (selB ((eqI (nth a 0).toInt (2 : Int)) == false) (nth a 0) PV.unit).toInt (3 : Int))) PV.unit)).toBool (PV.bool true) (selB ((selB (eqI (nth a 0).toInt (2 : Int)) (PV.bool true) (selB ((eqI (nth a 0).toInt (2 : Int)) == false) (PV.bool (eqI (selB ((eqI (nth a 0).toInt (2 : Int)) == false) (nth a 0) PV.unit).toInt (3 : Int))) PV.unit)).isB false) (PV.bool (eqI (selB ((selB (eqI (nth a 0).toInt (2 : Int)) (PV.bool true) (selB ((eqI (nth a 0).toInt (2 : Int)) == false) (PV.bool (eqI (selB ((eqI (nth a 0).toInt (2 : Int)) == false) (nth a 0) PV.unit).toInt (3 : Int))) PV.unit)).isB false) (nth a 0) PV.unit).toInt (5 : Int))) PV.unit)).isB false) (PV.bool (eqI (selB ((selB (selB (eqI (nth a 0).toInt (2 : Int)) (PV.bool true) (selB ((eqI (nth a 0).toInt (2 : Int)) == false) (PV.bool (eqI (selB ((eqI (nth a 0).toInt (2 : Int)) == false) (nth a 0) PV.unit).toInt (3 : Int))) PV.unit)).toBool (PV.bool true) (selB ((selB (eqI (nth a 0).toInt (2 : Int)) (PV.bool true) (selB ((eqI (nth a 0).toInt (2 : Int)) == false) (PV.bool (eqI (selB ((eqI (nth a 0).toInt (2 : Int)) == false) (nth a 0) PV.unit).toInt (3 : Int))) PV.unit)).isB false) (PV.bool (eqI (selB ((selB (eqI (nth a 0).toInt (2 : Int)) (PV.bool true) (selB ((eqI (nth a 0).toInt (2 : Int)) == false) (PV.bool (eqI (selB ((eqI (nth a 0).toInt (2 : Int)) == false) (nth a 0) PV.unit).toInt (3 : Int))) PV.unit)).isB false) (nth a 0) PV.unit).toInt (5 : Int))) PV.unit)).isB false) (nth a 0) PV.unit).toInt (6 : Int))) PV.unit))])
theorem e53 : ∀ I n a, (compF Try.prog sg 53).map (fun d => d.ev I n a) = some (F53 I n a) := fun I n a => by kernel_rfl
/-! spec.l9And -/
noncomputable def F67 (I : Interp) (n : Nat) (a : List PV) : Option (List PV) :=
  (iff (leN (([] : List PV).length + (nth a 0).toList.length) 8796093022208)
  (iff (leN ((([] : List PV) ++ (nth a 0).toList).length + ((nth a 1) :: ([] : List PV)).length) 8796093022208)
  (some [(PV.list ((([] : List PV) ++ (nth a 0).toList) ++ ((nth a 1) :: ([] : List PV))))])
  none)
  none)
theorem e67 : ∀ I n a, (compF Try.prog sg 67).map (fun d => d.ev I n a) = some (F67 I n a) := fun I n a => by kernel_rfl
/-! spec.l9In -/
noncomputable def L55_0 (I : Interp) (n : Nat) (p0 : List PV) : Option (Ex × List PV) :=
  (iff (ltI (nth p0 0).toInt ((nth p0 1).toList.length : Int))
  (iff (geI (nth p0 0).toInt (0 : Int))
  (iff (ltI (nth p0 0).toInt ((nth p0 1).toList.length : Int))
  (iff (cmpS BinOp.eql (nth (nth p0 1).toList (nth p0 0).toInt.toNat).toStr (nth p0 2).toStr)
  (some (Ex.r, [(PV.bool true)]))
  (some (Ex.n, [(PV.int (IntKind.i64.wrap ((nth p0 0).toInt + (1 : Int)))), (nth p0 1), (nth p0 2)])))
  none)
  none)
  (some (Ex.x 0, [])))
noncomputable def F55 (I : Interp) (n : Nat) (a : List PV) : Option (List PV) :=
  (thenN (thenE (loopEv (L55_0 I n) n [(PV.int (0 : Int)), (nth a 0), (nth a 1)])
  (passB 0))
  (fun p1 => (some [(PV.bool false)]))
  (retE fun q2 => [(nth q2 0)]))
theorem e55 : ∀ I n a, (compF Try.prog sg 55).map (fun d => d.ev I n a) = some (F55 I n a) := fun I n a => by kernel_rfl
/-! spec.l1In -/
noncomputable def F66 (I : Interp) (n : Nat) (a : List PV) : Option (List PV) :=
  (some [(selB (geI (nth a 0).toInt (nth a 1).toInt) (selB ((geI (nth a 0).toInt (nth a 1).toInt) == true) (PV.bool (leI (selB ((geI (nth a 0).toInt (nth a 1).toInt) == true) (nth a 0) PV.unit).toInt (selB ((geI (nth a 0).toInt (nth a 1).toInt) == true) (nth a 2) PV.unit).toInt)) PV.unit) (PV.bool false))])
theorem e66 : ∀ I n a, (compF Try.prog sg 66).map (fun d => d.ev I n a) = some (F66 I n a) := fun I n a => by kernel_rfl
/-! spec.l1Max -/
noncomputable def F51 (I : Interp) (n : Nat) (a : List PV) : Option (List PV) :=
  (iff (gtI (nth a 0).toInt (nth a 1).toInt)
  (some [(nth a 0)])
  (some [(nth a 1)]))
theorem e51 : ∀ I n a, (compF Try.prog sg 51).map (fun d => d.ev I n a) = some (F51 I n a) := fun I n a => by kernel_rfl
/-! spec.l9Kids -/
noncomputable def F52 (I : Interp) (n : Nat) (a : List PV) : Option (List PV) :=
  (thenN (iff (eqI (nth a 0).toInt (1 : Int))
  (some (Ex.n, [(PV.bool (eqI (nth a 0).toInt (1 : Int))), (nth a 0)]))
  (iff (eqI (nth a 0).toInt (2 : Int))
  (some (Ex.n, [(PV.bool (eqI (nth a 0).toInt (2 : Int))), (nth a 0)]))
  (some (Ex.n, [(PV.bool (eqI (nth a 0).toInt (13 : Int))), (nth a 0)]))))
  (fun p0 => (iff (nth p0 0).toBool
  (some [(PV.int (0 : Int))])
  (thenN (iff (eqI (nth p0 1).toInt (3 : Int))
  (some (Ex.n, [(PV.bool (eqI (nth p0 1).toInt (3 : Int))), (nth p0 1)]))
  (iff (eqI (nth p0 1).toInt (15 : Int))
  (some (Ex.n, [(PV.bool (eqI (nth p0 1).toInt (15 : Int))), (nth p0 1)]))
  (iff (eqI (nth p0 1).toInt (16 : Int))
  (some (Ex.n, [(PV.bool (eqI (nth p0 1).toInt (16 : Int))), (nth p0 1)]))
  (iff (eqI (nth p0 1).toInt (17 : Int))
  (some (Ex.n, [(PV.bool (eqI (nth p0 1).toInt (17 : Int))), (nth p0 1)]))
  (some (Ex.n, [(PV.bool (eqI (nth p0 1).toInt (18 : Int))), (nth p0 1)]))))))
  (fun p1 => (iff (nth p1 0).toBool
  (some [(PV.int (1 : Int))])
  (thenN (iff (eqI (nth p1 1).toInt (4 : Int))
  (some (Ex.n, [(PV.bool (eqI (nth p1 1).toInt (4 : Int))), (nth p1 1)]))
  (iff (eqI (nth p1 1).toInt (5 : Int))
  (some (Ex.n, [(PV.bool (eqI (nth p1 1).toInt (5 : Int))), (nth p1 1)]))
  (iff (eqI (nth p1 1).toInt (6 : Int))
  (some (Ex.n, [(PV.bool (eqI (nth p1 1).toInt (6 : Int))), (nth p1 1)]))
  (iff (eqI (nth p1 1).toInt (8 : Int))
  (some (Ex.n, [(PV.bool (eqI (nth p1 1).toInt (8 : Int))), (nth p1 1)]))
  (iff (eqI (nth p1 1).toInt (9 : Int))
  (some (Ex.n, [(PV.bool (eqI (nth p1 1).toInt (9 : Int))), (nth p1 1)]))
  (iff (eqI (nth p1 1).toInt (10 : Int))
  (some (Ex.n, [(PV.bool (eqI (nth p1 1).toInt (10 : Int))), (nth p1 1)]))
  (iff (eqI (nth p1 1).toInt (11 : Int))
  (some (Ex.n, [(PV.bool (eqI (nth p1 1).toInt (11 : Int))), (nth p1 1)]))
  (iff (eqI (nth p1 1).toInt (12 : Int))
  (some (Ex.n, [(PV.bool (eqI (nth p1 1).toInt (12 : Int))), (nth p1 1)]))
  (some (Ex.n, [(PV.bool (eqI (nth p1 1).toInt (14 : Int))), (nth p1 1)]))))))))))
  (fun p2 => (iff (nth p2 0).toBool
  (some [(PV.int (2 : Int))])
  (iff (eqI (nth p2 1).toInt (7 : Int))
  (some [(PV.int (3 : Int))])
  (some [(PV.int (-1 : Int))]))))
  (retE fun q3 => [(nth q3 0)]))))
  (retE fun q4 => [(nth q4 0)]))))
  (retE fun q5 => [(nth q5 0)]))
theorem e52 : ∀ I n a, (compF Try.prog sg 52).map (fun d => d.ev I n a) = some (F52 I n a) := fun I n a => by kernel_rfl
/-! spec.CoreSize -/
noncomputable def L31_0 (I : Interp) (n : Nat) (p0 : List PV) : Option (Ex × List PV) :=
  (iff (ltI (nth p0 0).toInt (((nth p0 2).fld 4).toList.length : Int))
  (iff (geI (nth p0 0).toInt (0 : Int))
  (iff (ltI (nth p0 0).toInt (((nth p0 2).fld 4).toList.length : Int))
  ((I 31 [(nth ((nth p0 2).fld 4).toList (nth p0 0).toInt.toNat)]).bind fun r1 =>
  (some (Ex.n, [(PV.int (IntKind.i64.wrap ((nth p0 0).toInt + (1 : Int)))), (PV.int (IntKind.i64.wrap ((nth p0 1).toInt + (nth r1 0).toInt))), (nth p0 2)])))
  none)
  none)
  (some (Ex.x 0, [(nth p0 1)])))
noncomputable def F31 (I : Interp) (n : Nat) (a : List PV) : Option (List PV) :=
  (thenN (thenE (loopEv (L31_0 I n) n [(PV.int (0 : Int)), (PV.int (1 : Int)), (nth a 0)])
  (passB 0))
  (fun p2 => (some [(nth p2 0)]))
  (retE fun q3 => [(nth q3 0)]))
theorem e31 : ∀ I n a, (compF Try.prog sg 31).map (fun d => d.ev I n a) = some (F31 I n a) := fun I n a => by kernel_rfl
/-! impl.WordOk -/
noncomputable def F60 (I : Interp) (n : Nat) (a : List PV) : Option (List PV) :=
  ((I 69 [(nth a 0), (PV.int (-1073741824 : Int)), (PV.int (1073741823 : Int))]).bind fun r0 =>
  (some [(nth r0 0)]))
theorem e60 : ∀ I n a, (compF Try.prog sg 60).map (fun d => d.ev I n a) = some (F60 I n a) := fun I n a => by kernel_rfl
/-! laws.markValue -/
noncomputable def F27 (I : Interp) (n : Nat) (a : List PV) : Option (List PV) :=
  ((I 49 [((nth a 0).fld 2), (nth a 1)]).bind fun r0 =>
  (some [(nth r0 0), ((nth a 0).setFld 2 (nth r0 1))]))
theorem e27 : ∀ I n a, (compF Try.prog sg 27).map (fun d => d.ev I n a) = some (F27 I n a) := fun I n a => by kernel_rfl
/-! laws.markValue -/
noncomputable def F4123 (I : Interp) (n : Nat) (a : List PV) : Option (List PV) :=
  ((I 49 [((nth a 0).fld 2), (nth a 1)]).bind fun r0 =>
  (some [(nth r0 0)]))
theorem e4123 : ∀ I n a, (compF Try.prog sg 4123).map (fun d => d.ev I n a) = some (F4123 I n a) := fun I n a => by kernel_rfl
/-! spec.l9Env -/
noncomputable def F56 (I : Interp) (n : Nat) (a : List PV) : Option (List PV) :=
  (thenN (iff (eqI ((nth a 0).fld 0).toInt (3 : Int))
  (some (Ex.n, [(PV.bool (eqI ((nth a 0).fld 0).toInt (3 : Int))), (nth a 2), (nth a 0)]))
  (iff (selB (eqI ((nth a 0).fld 0).toInt (5 : Int)) (selB ((eqI ((nth a 0).fld 0).toInt (5 : Int)) == true) (PV.bool (eqI (selB ((eqI ((nth a 0).fld 0).toInt (5 : Int)) == true) (nth a 1) PV.unit).toInt (1 : Int))) PV.unit) (PV.bool false)).toBool
  (some (Ex.n, [(selB (eqI ((nth a 0).fld 0).toInt (5 : Int)) (selB ((eqI ((nth a 0).fld 0).toInt (5 : Int)) == true) (PV.bool (eqI (selB ((eqI ((nth a 0).fld 0).toInt (5 : Int)) == true) (nth a 1) PV.unit).toInt (1 : Int))) PV.unit) (PV.bool false)), (nth a 2), (nth a 0)]))
  (some (Ex.n, [(selB (eqI ((nth a 0).fld 0).toInt (6 : Int)) (selB ((eqI ((nth a 0).fld 0).toInt (6 : Int)) == true) (PV.bool (eqI (selB ((eqI ((nth a 0).fld 0).toInt (6 : Int)) == true) (nth a 1) PV.unit).toInt (1 : Int))) PV.unit) (PV.bool false)), (nth a 2), (nth a 0)]))))
  (fun p0 => (iff (nth p0 0).toBool
  ((I 67 [(nth p0 1), ((nth p0 2).fld 2)]).bind fun r1 =>
  (some [(nth r1 0)]))
  (iff (eqI ((nth p0 2).fld 0).toInt (6 : Int))
  ((I 67 [(nth p0 1), ((nth p0 2).fld 2)]).bind fun r2 =>
  ((I 67 [(nth r2 0), ((nth p0 2).fld 3)]).bind fun r3 =>
  (some [(nth r3 0)])))
  (some [(nth p0 1)]))))
  (retE fun q4 => [(nth q4 0)]))
theorem e56 : ∀ I n a, (compF Try.prog sg 56).map (fun d => d.ev I n a) = some (F56 I n a) := fun I n a => by kernel_rfl
/-! spec.l9Env -/
noncomputable def F4152 (I : Interp) (n : Nat) (a : List PV) : Option (List PV) :=
  (thenN (iff (eqI ((nth a 0).fld 0).toInt (3 : Int))
  (some (Ex.n, [(PV.bool (eqI ((nth a 0).fld 0).toInt (3 : Int))), (nth a 2), (nth a 0)]))
  (iff (selB (eqI ((nth a 0).fld 0).toInt (5 : Int)) (selB ((eqI ((nth a 0).fld 0).toInt (5 : Int)) == true) (PV.bool (eqI (selB ((eqI ((nth a 0).fld 0).toInt (5 : Int)) == true) (nth a 1) PV.unit).toInt (1 : Int))) PV.unit) (PV.bool false)).toBool
  (some (Ex.n, [(selB (eqI ((nth a 0).fld 0).toInt (5 : Int)) (selB ((eqI ((nth a 0).fld 0).toInt (5 : Int)) == true) (PV.bool (eqI (selB ((eqI ((nth a 0).fld 0).toInt (5 : Int)) == true) (nth a 1) PV.unit).toInt (1 : Int))) PV.unit) (PV.bool false)), (nth a 2), (nth a 0)]))
  (some (Ex.n, [(selB (eqI ((nth a 0).fld 0).toInt (6 : Int)) (selB ((eqI ((nth a 0).fld 0).toInt (6 : Int)) == true) (PV.bool (eqI (selB ((eqI ((nth a 0).fld 0).toInt (6 : Int)) == true) (nth a 1) PV.unit).toInt (1 : Int))) PV.unit) (PV.bool false)), (nth a 2), (nth a 0)]))))
  (fun p0 => (iff (nth p0 0).toBool
  ((I 67 [(nth p0 1), ((nth p0 2).fld 2)]).bind fun r1 =>
  (some [(nth r1 0)]))
  (iff (eqI ((nth p0 2).fld 0).toInt (6 : Int))
  ((I 67 [(nth p0 1), ((nth p0 2).fld 2)]).bind fun r2 =>
  ((I 67 [(nth r2 0), ((nth p0 2).fld 3)]).bind fun r3 =>
  (some [(nth r3 0)])))
  (some [(nth p0 1)]))))
  (retE fun q4 => [(nth q4 0)]))
theorem e4152 : ∀ I n a, (compF Try.prog sg 4152).map (fun d => d.ev I n a) = some (F4152 I n a) := fun I n a => by kernel_rfl
/-! spec.l9Env -/
noncomputable def F8248 (I : Interp) (n : Nat) (a : List PV) : Option (List PV) :=
  (thenN (iff (eqI ((nth a 0).fld 0).toInt (3 : Int))
  (some (Ex.n, [(PV.bool (eqI ((nth a 0).fld 0).toInt (3 : Int))), (nth a 2), (nth a 0)]))
  (iff (selB (eqI ((nth a 0).fld 0).toInt (5 : Int)) (selB ((eqI ((nth a 0).fld 0).toInt (5 : Int)) == true) (PV.bool (eqI (selB ((eqI ((nth a 0).fld 0).toInt (5 : Int)) == true) (nth a 1) PV.unit).toInt (1 : Int))) PV.unit) (PV.bool false)).toBool
  (some (Ex.n, [(selB (eqI ((nth a 0).fld 0).toInt (5 : Int)) (selB ((eqI ((nth a 0).fld 0).toInt (5 : Int)) == true) (PV.bool (eqI (selB ((eqI ((nth a 0).fld 0).toInt (5 : Int)) == true) (nth a 1) PV.unit).toInt (1 : Int))) PV.unit) (PV.bool false)), (nth a 2), (nth a 0)]))
  (some (Ex.n, [(selB (eqI ((nth a 0).fld 0).toInt (6 : Int)) (selB ((eqI ((nth a 0).fld 0).toInt (6 : Int)) == true) (PV.bool (eqI (selB ((eqI ((nth a 0).fld 0).toInt (6 : Int)) == true) (nth a 1) PV.unit).toInt (1 : Int))) PV.unit) (PV.bool false)), (nth a 2), (nth a 0)]))))
  (fun p0 => (iff (nth p0 0).toBool
  ((I 67 [(nth p0 1), ((nth p0 2).fld 2)]).bind fun r1 =>
  (some [(nth r1 0), (nth p0 2)]))
  (iff (eqI ((nth p0 2).fld 0).toInt (6 : Int))
  ((I 67 [(nth p0 1), ((nth p0 2).fld 2)]).bind fun r2 =>
  ((I 67 [(nth r2 0), ((nth p0 2).fld 3)]).bind fun r3 =>
  (some [(nth r3 0), (nth p0 2)])))
  (some [(nth p0 1), (nth p0 2)]))))
  (retE fun q4 => [(nth q4 1), (nth q4 0)]))
theorem e8248 : ∀ I n a, (compF Try.prog sg 8248).map (fun d => d.ev I n a) = some (F8248 I n a) := fun I n a => by kernel_rfl
/-! spec.l9Env -/
noncomputable def F12344 (I : Interp) (n : Nat) (a : List PV) : Option (List PV) :=
  (thenN (iff (eqI ((nth a 0).fld 0).toInt (3 : Int))
  (some (Ex.n, [(PV.bool (eqI ((nth a 0).fld 0).toInt (3 : Int))), (nth a 2), (nth a 0)]))
  (iff (selB (eqI ((nth a 0).fld 0).toInt (5 : Int)) (selB ((eqI ((nth a 0).fld 0).toInt (5 : Int)) == true) (PV.bool (eqI (selB ((eqI ((nth a 0).fld 0).toInt (5 : Int)) == true) (nth a 1) PV.unit).toInt (1 : Int))) PV.unit) (PV.bool false)).toBool
  (some (Ex.n, [(selB (eqI ((nth a 0).fld 0).toInt (5 : Int)) (selB ((eqI ((nth a 0).fld 0).toInt (5 : Int)) == true) (PV.bool (eqI (selB ((eqI ((nth a 0).fld 0).toInt (5 : Int)) == true) (nth a 1) PV.unit).toInt (1 : Int))) PV.unit) (PV.bool false)), (nth a 2), (nth a 0)]))
  (some (Ex.n, [(selB (eqI ((nth a 0).fld 0).toInt (6 : Int)) (selB ((eqI ((nth a 0).fld 0).toInt (6 : Int)) == true) (PV.bool (eqI (selB ((eqI ((nth a 0).fld 0).toInt (6 : Int)) == true) (nth a 1) PV.unit).toInt (1 : Int))) PV.unit) (PV.bool false)), (nth a 2), (nth a 0)]))))
  (fun p0 => (iff (nth p0 0).toBool
  ((I 67 [(nth p0 1), ((nth p0 2).fld 2)]).bind fun r1 =>
  (some [(nth r1 0), (nth p0 2)]))
  (iff (eqI ((nth p0 2).fld 0).toInt (6 : Int))
  ((I 67 [(nth p0 1), ((nth p0 2).fld 2)]).bind fun r2 =>
  ((I 67 [(nth r2 0), ((nth p0 2).fld 3)]).bind fun r3 =>
  (some [(nth r3 0), (nth p0 2)])))
  (some [(nth p0 1), (nth p0 2)]))))
  (retE fun q4 => [(nth q4 1), (nth q4 0)]))
theorem e12344 : ∀ I n a, (compF Try.prog sg 12344).map (fun d => d.ev I n a) = some (F12344 I n a) := fun I n a => by kernel_rfl
/-! spec.l9Env -/
noncomputable def F16440 (I : Interp) (n : Nat) (a : List PV) : Option (List PV) :=
  (thenN (iff (eqI ((nth a 0).fld 0).toInt (3 : Int))
  (some (Ex.n, [(PV.bool (eqI ((nth a 0).fld 0).toInt (3 : Int))), (nth a 2), (nth a 0)]))
  (iff (selB (eqI ((nth a 0).fld 0).toInt (5 : Int)) (selB ((eqI ((nth a 0).fld 0).toInt (5 : Int)) == true) (PV.bool (eqI (selB ((eqI ((nth a 0).fld 0).toInt (5 : Int)) == true) (nth a 1) PV.unit).toInt (1 : Int))) PV.unit) (PV.bool false)).toBool
  (some (Ex.n, [(selB (eqI ((nth a 0).fld 0).toInt (5 : Int)) (selB ((eqI ((nth a 0).fld 0).toInt (5 : Int)) == true) (PV.bool (eqI (selB ((eqI ((nth a 0).fld 0).toInt (5 : Int)) == true) (nth a 1) PV.unit).toInt (1 : Int))) PV.unit) (PV.bool false)), (nth a 2), (nth a 0)]))
  (some (Ex.n, [(selB (eqI ((nth a 0).fld 0).toInt (6 : Int)) (selB ((eqI ((nth a 0).fld 0).toInt (6 : Int)) == true) (PV.bool (eqI (selB ((eqI ((nth a 0).fld 0).toInt (6 : Int)) == true) (nth a 1) PV.unit).toInt (1 : Int))) PV.unit) (PV.bool false)), (nth a 2), (nth a 0)]))))
  (fun p0 => (iff (nth p0 0).toBool
  ((I 67 [(nth p0 1), ((nth p0 2).fld 2)]).bind fun r1 =>
  (some [(nth r1 0)]))
  (iff (eqI ((nth p0 2).fld 0).toInt (6 : Int))
  ((I 67 [(nth p0 1), ((nth p0 2).fld 2)]).bind fun r2 =>
  ((I 67 [(nth r2 0), ((nth p0 2).fld 3)]).bind fun r3 =>
  (some [(nth r3 0)])))
  (some [(nth p0 1)]))))
  (retE fun q4 => [(nth q4 0)]))
theorem e16440 : ∀ I n a, (compF Try.prog sg 16440).map (fun d => d.ev I n a) = some (F16440 I n a) := fun I n a => by kernel_rfl
/-! spec.l9Env -/
noncomputable def F20536 (I : Interp) (n : Nat) (a : List PV) : Option (List PV) :=
  (thenN (iff (eqI ((nth a 0).fld 0).toInt (3 : Int))
  (some (Ex.n, [(PV.bool (eqI ((nth a 0).fld 0).toInt (3 : Int))), (nth a 2), (nth a 0)]))
  (iff (selB (eqI ((nth a 0).fld 0).toInt (5 : Int)) (selB ((eqI ((nth a 0).fld 0).toInt (5 : Int)) == true) (PV.bool (eqI (selB ((eqI ((nth a 0).fld 0).toInt (5 : Int)) == true) (nth a 1) PV.unit).toInt (1 : Int))) PV.unit) (PV.bool false)).toBool
  (some (Ex.n, [(selB (eqI ((nth a 0).fld 0).toInt (5 : Int)) (selB ((eqI ((nth a 0).fld 0).toInt (5 : Int)) == true) (PV.bool (eqI (selB ((eqI ((nth a 0).fld 0).toInt (5 : Int)) == true) (nth a 1) PV.unit).toInt (1 : Int))) PV.unit) (PV.bool false)), (nth a 2), (nth a 0)]))
  (some (Ex.n, [(selB (eqI ((nth a 0).fld 0).toInt (6 : Int)) (selB ((eqI ((nth a 0).fld 0).toInt (6 : Int)) == true) (PV.bool (eqI (selB ((eqI ((nth a 0).fld 0).toInt (6 : Int)) == true) (nth a 1) PV.unit).toInt (1 : Int))) PV.unit) (PV.bool false)), (nth a 2), (nth a 0)]))))
  (fun p0 => (iff (nth p0 0).toBool
  ((I 67 [(nth p0 1), ((nth p0 2).fld 2)]).bind fun r1 =>
  (some [(nth r1 0)]))
  (iff (eqI ((nth p0 2).fld 0).toInt (6 : Int))
  ((I 67 [(nth p0 1), ((nth p0 2).fld 2)]).bind fun r2 =>
  ((I 67 [(nth r2 0), ((nth p0 2).fld 3)]).bind fun r3 =>
  (some [(nth r3 0)])))
  (some [(nth p0 1)]))))
  (retE fun q4 => [(nth q4 0)]))
theorem e20536 : ∀ I n a, (compF Try.prog sg 20536).map (fun d => d.ev I n a) = some (F20536 I n a) := fun I n a => by kernel_rfl
/-! laws.eqCoreS -/
noncomputable def L25_0 (I : Interp) (n : Nat) (p0 : List PV) : Option (Ex × List PV) :=
  (iff (ltI (nth p0 0).toInt ((nth p0 1).toList.length : Int))
  (iff (geI (nth p0 0).toInt (0 : Int))
  (iff (ltI (nth p0 0).toInt ((nth p0 1).toList.length : Int))
  (iff (geI (nth p0 0).toInt (0 : Int))
  (iff (ltI (nth p0 0).toInt ((nth p0 2).toList.length : Int))
  ((I 9 [(nth (nth p0 1).toList (nth p0 0).toInt.toNat), (nth (nth p0 2).toList (nth p0 0).toInt.toNat)]).bind fun r1 =>
  (iff (!(nth r1 0).toBool)
  (some (Ex.r, [(PV.bool false)]))
  (some (Ex.n, [(PV.int (IntKind.i64.wrap ((nth p0 0).toInt + (1 : Int)))), (nth p0 1), (nth p0 2)]))))
  none)
  none)
  none)
  none)
  (some (Ex.x 0, [])))
noncomputable def F25 (I : Interp) (n : Nat) (a : List PV) : Option (List PV) :=
  (iff (neI ((nth a 0).toList.length : Int) ((nth a 1).toList.length : Int))
  (some [(PV.bool false)])
  (thenN (thenE (loopEv (L25_0 I n) n [(PV.int (0 : Int)), (nth a 0), (nth a 1)])
  (passB 0))
  (fun p2 => (some [(PV.bool true)]))
  (retE fun q3 => [(nth q3 0)])))
theorem e25 : ∀ I n a, (compF Try.prog sg 25).map (fun d => d.ev I n a) = some (F25 I n a) := fun I n a => by kernel_rfl
/-! laws.eqCore -/
noncomputable def F9 (I : Interp) (n : Nat) (a : List PV) : Option (List PV) :=
  (iff (neI ((nth a 0).fld 0).toInt ((nth a 1).fld 0).toInt)
  (some [(PV.bool false)])
  (iff (neI ((nth a 0).fld 1).toInt ((nth a 1).fld 1).toInt)
  (some [(PV.bool false)])
  (iff (cmpS BinOp.neq ((nth a 0).fld 2).toStr ((nth a 1).fld 2).toStr)
  (some [(PV.bool false)])
  (iff (cmpS BinOp.neq ((nth a 0).fld 3).toStr ((nth a 1).fld 3).toStr)
  (some [(PV.bool false)])
  ((I 25 [((nth a 0).fld 4), ((nth a 1).fld 4)]).bind fun r0 =>
  (iff (!(nth r0 0).toBool)
  (some [(PV.bool false)])
  (some [(PV.bool true)])))))))
theorem e9 : ∀ I n a, (compF Try.prog sg 9).map (fun d => d.ev I n a) = some (F9 I n a) := fun I n a => by kernel_rfl
/-! impl.flag -/
noncomputable def F64 (I : Interp) (n : Nat) (a : List PV) : Option (List PV) :=
  (iff (nth a 0).toBool
  ((I 43 [(PV.int (1 : Int))]).bind fun r0 =>
  (some [(nth r0 0)]))
  ((I 43 [(PV.int (0 : Int))]).bind fun r1 =>
  (some [(nth r1 0)])))
theorem e64 : ∀ I n a, (compF Try.prog sg 64).map (fun d => d.ev I n a) = some (F64 I n a) := fun I n a => by kernel_rfl
/-! laws.heldValue -/
noncomputable def F29 (I : Interp) (n : Nat) (a : List PV) : Option (List PV) :=
  ((I 50 [((nth a 0).fld 2), (nth a 1)]).bind fun r0 =>
  (iff (ltI (nth r0 0).toInt (0 : Int))
  (some [(PV.int (-1 : Int))])
  (some [(nth r0 0)])))
theorem e29 : ∀ I n a, (compF Try.prog sg 29).map (fun d => d.ev I n a) = some (F29 I n a) := fun I n a => by kernel_rfl
/-! spec.l11Look -/
noncomputable def L35_0 (I : Interp) (n : Nat) (p0 : List PV) : Option (Ex × List PV) :=
  (iff (geI (nth p0 0).toInt (0 : Int))
  (iff (geI (nth p0 0).toInt (0 : Int))
  (iff (ltI (nth p0 0).toInt ((nth p0 2).toList.length : Int))
  (iff (cmpS BinOp.eql ((nth (nth p0 2).toList (nth p0 0).toInt.toNat).fld 0).toStr (nth p0 1).toStr)
  (iff (geI (nth p0 0).toInt (0 : Int))
  (iff (ltI (nth p0 0).toInt ((nth p0 2).toList.length : Int))
  (some (Ex.r, [(nth p0 3), ((nth (nth p0 2).toList (nth p0 0).toInt.toNat).fld 1)]))
  none)
  none)
  (some (Ex.n, [(PV.int (IntKind.i64.wrap ((nth p0 0).toInt - (1 : Int)))), (nth p0 1), (nth p0 2), (nth p0 3), (nth p0 4)])))
  none)
  none)
  (some (Ex.x 0, [(nth p0 3), (nth p0 4)])))
noncomputable def F35 (I : Interp) (n : Nat) (a : List PV) : Option (List PV) :=
  (thenN (thenE (loopEv (L35_0 I n) n [(PV.int (IntKind.i64.wrap (((nth a 1).toList.length : Int) - (1 : Int)))), (nth a 2), (nth a 1), (nth a 0), (PV.agg [(PV.int (0 : Int)), (PV.int (0 : Int)), (PV.list ([] : List PV)), (PV.agg [(PV.int (0 : Int)), (PV.int (0 : Int)), (PV.str (⟨#[]⟩ : ByteArray)), (PV.str (⟨#[]⟩ : ByteArray)), (PV.list ([] : List PV))]), (PV.str (⟨#[]⟩ : ByteArray)), (PV.str (⟨#[]⟩ : ByteArray)), (PV.list ([] : List PV))])])
  (passB 0))
  (fun p1 => ((I 39 [(nth p1 0)]).bind fun r2 =>
  (some [(nth r2 0), (nth r2 1)])))
  (retE fun q3 => [(nth q3 1), (nth q3 0)]))
theorem e35 : ∀ I n a, (compF Try.prog sg 35).map (fun d => d.ev I n a) = some (F35 I n a) := fun I n a => by kernel_rfl
/-! spec.l11Look -/
noncomputable def L4131_0 (I : Interp) (n : Nat) (p0 : List PV) : Option (Ex × List PV) :=
  (iff (geI (nth p0 0).toInt (0 : Int))
  (iff (geI (nth p0 0).toInt (0 : Int))
  (iff (ltI (nth p0 0).toInt ((nth p0 2).toList.length : Int))
  (iff (cmpS BinOp.eql ((nth (nth p0 2).toList (nth p0 0).toInt.toNat).fld 0).toStr (nth p0 1).toStr)
  (iff (geI (nth p0 0).toInt (0 : Int))
  (iff (ltI (nth p0 0).toInt ((nth p0 2).toList.length : Int))
  (some (Ex.r, [(nth p0 3), ((nth (nth p0 2).toList (nth p0 0).toInt.toNat).fld 1)]))
  none)
  none)
  (some (Ex.n, [(PV.int (IntKind.i64.wrap ((nth p0 0).toInt - (1 : Int)))), (nth p0 1), (nth p0 2), (nth p0 3), (nth p0 4)])))
  none)
  none)
  (some (Ex.x 0, [(nth p0 3), (nth p0 4)])))
noncomputable def F4131 (I : Interp) (n : Nat) (a : List PV) : Option (List PV) :=
  (thenN (thenE (loopEv (L4131_0 I n) n [(PV.int (IntKind.i64.wrap (((nth a 1).toList.length : Int) - (1 : Int)))), (nth a 2), (nth a 1), (nth a 0), (PV.agg [(PV.int (0 : Int)), (PV.int (0 : Int)), (PV.list ([] : List PV)), (PV.agg [(PV.int (0 : Int)), (PV.int (0 : Int)), (PV.str (⟨#[]⟩ : ByteArray)), (PV.str (⟨#[]⟩ : ByteArray)), (PV.list ([] : List PV))]), (PV.str (⟨#[]⟩ : ByteArray)), (PV.str (⟨#[]⟩ : ByteArray)), (PV.list ([] : List PV))])])
  (passB 0))
  (fun p1 => ((I 39 [(nth p1 0)]).bind fun r2 =>
  (some [(nth r2 0), (nth r2 1)])))
  (retE fun q3 => [(nth q3 1), (nth q3 0)]))
theorem e4131 : ∀ I n a, (compF Try.prog sg 4131).map (fun d => d.ev I n a) = some (F4131 I n a) := fun I n a => by kernel_rfl
/-! spec.l11Look -/
noncomputable def L8227_0 (I : Interp) (n : Nat) (p0 : List PV) : Option (Ex × List PV) :=
  (iff (geI (nth p0 0).toInt (0 : Int))
  (iff (geI (nth p0 0).toInt (0 : Int))
  (iff (ltI (nth p0 0).toInt ((nth p0 2).toList.length : Int))
  (iff (cmpS BinOp.eql ((nth (nth p0 2).toList (nth p0 0).toInt.toNat).fld 0).toStr (nth p0 1).toStr)
  (iff (geI (nth p0 0).toInt (0 : Int))
  (iff (ltI (nth p0 0).toInt ((nth p0 2).toList.length : Int))
  (some (Ex.r, [(nth p0 3), ((nth (nth p0 2).toList (nth p0 0).toInt.toNat).fld 1)]))
  none)
  none)
  (some (Ex.n, [(PV.int (IntKind.i64.wrap ((nth p0 0).toInt - (1 : Int)))), (nth p0 1), (nth p0 2), (nth p0 3), (nth p0 4)])))
  none)
  none)
  (some (Ex.x 0, [(nth p0 3), (nth p0 4)])))
noncomputable def F8227 (I : Interp) (n : Nat) (a : List PV) : Option (List PV) :=
  (thenN (thenE (loopEv (L8227_0 I n) n [(PV.int (IntKind.i64.wrap (((nth a 1).toList.length : Int) - (1 : Int)))), (nth a 2), (nth a 1), (nth a 0), (PV.agg [(PV.int (0 : Int)), (PV.int (0 : Int)), (PV.list ([] : List PV)), (PV.agg [(PV.int (0 : Int)), (PV.int (0 : Int)), (PV.str (⟨#[]⟩ : ByteArray)), (PV.str (⟨#[]⟩ : ByteArray)), (PV.list ([] : List PV))]), (PV.str (⟨#[]⟩ : ByteArray)), (PV.str (⟨#[]⟩ : ByteArray)), (PV.list ([] : List PV))])])
  (passB 0))
  (fun p1 => ((I 4135 [(nth p1 0)]).bind fun r2 =>
  (some [(nth r2 0), (nth r2 1)])))
  (retE fun q3 => [(nth q3 1), (nth q3 0)]))
theorem e8227 : ∀ I n a, (compF Try.prog sg 8227).map (fun d => d.ev I n a) = some (F8227 I n a) := fun I n a => by kernel_rfl
/-! spec.l11Look -/
noncomputable def L12323_0 (I : Interp) (n : Nat) (p0 : List PV) : Option (Ex × List PV) :=
  (iff (geI (nth p0 0).toInt (0 : Int))
  (iff (geI (nth p0 0).toInt (0 : Int))
  (iff (ltI (nth p0 0).toInt ((nth p0 2).toList.length : Int))
  (iff (cmpS BinOp.eql ((nth (nth p0 2).toList (nth p0 0).toInt.toNat).fld 0).toStr (nth p0 1).toStr)
  (iff (geI (nth p0 0).toInt (0 : Int))
  (iff (ltI (nth p0 0).toInt ((nth p0 2).toList.length : Int))
  (some (Ex.r, [(nth p0 3), ((nth (nth p0 2).toList (nth p0 0).toInt.toNat).fld 1)]))
  none)
  none)
  (some (Ex.n, [(PV.int (IntKind.i64.wrap ((nth p0 0).toInt - (1 : Int)))), (nth p0 1), (nth p0 2), (nth p0 3), (nth p0 4)])))
  none)
  none)
  (some (Ex.x 0, [(nth p0 3), (nth p0 4)])))
noncomputable def F12323 (I : Interp) (n : Nat) (a : List PV) : Option (List PV) :=
  (thenN (thenE (loopEv (L12323_0 I n) n [(PV.int (IntKind.i64.wrap (((nth a 1).toList.length : Int) - (1 : Int)))), (nth a 2), (nth a 1), (nth a 0), (PV.agg [(PV.int (0 : Int)), (PV.int (0 : Int)), (PV.list ([] : List PV)), (PV.agg [(PV.int (0 : Int)), (PV.int (0 : Int)), (PV.str (⟨#[]⟩ : ByteArray)), (PV.str (⟨#[]⟩ : ByteArray)), (PV.list ([] : List PV))]), (PV.str (⟨#[]⟩ : ByteArray)), (PV.str (⟨#[]⟩ : ByteArray)), (PV.list ([] : List PV))])])
  (passB 0))
  (fun p1 => ((I 4135 [(nth p1 0)]).bind fun r2 =>
  (some [(nth r2 0), (nth r2 1)])))
  (retE fun q3 => [(nth q3 1), (nth q3 0)]))
theorem e12323 : ∀ I n a, (compF Try.prog sg 12323).map (fun d => d.ev I n a) = some (F12323 I n a) := fun I n a => by kernel_rfl
/-! laws.markCoreS -/
noncomputable def L26_0 (I : Interp) (n : Nat) (p0 : List PV) : Option (Ex × List PV) :=
  (iff (ltI (nth p0 0).toInt ((nth p0 2).toList.length : Int))
  (iff (geI (nth p0 0).toInt (0 : Int))
  (iff (ltI (nth p0 0).toInt ((nth p0 2).toList.length : Int))
  (iff (geI (nth p0 0).toInt (0 : Int))
  (iff (ltI (nth p0 0).toInt (((nth p0 2).toList.set (nth p0 0).toInt.toNat ((nth (nth p0 2).toList (nth p0 0).toInt.toNat).setFld 0 (nth p0 1))).length : Int))
  ((I 48 [(PV.int (IntKind.i64.wrap ((IntKind.i64.wrap ((nth p0 1).toInt + (1 : Int))) + (1 : Int))))]).bind fun r1 =>
  (iff (geI (nth p0 0).toInt (0 : Int))
  (iff (ltI (nth p0 0).toInt ((((nth p0 2).toList.set (nth p0 0).toInt.toNat ((nth (nth p0 2).toList (nth p0 0).toInt.toNat).setFld 0 (nth p0 1))).set (nth p0 0).toInt.toNat ((nth ((nth p0 2).toList.set (nth p0 0).toInt.toNat ((nth (nth p0 2).toList (nth p0 0).toInt.toNat).setFld 0 (nth p0 1))) (nth p0 0).toInt.toNat).setFld 1 (PV.int (IntKind.i64.wrap ((nth p0 1).toInt + (1 : Int)))))).length : Int))
  ((I 48 [(PV.int (IntKind.i64.wrap ((IntKind.i64.wrap ((IntKind.i64.wrap ((nth p0 1).toInt + (1 : Int))) + (1 : Int))) + (1 : Int))))]).bind fun r2 =>
  (iff (geI (nth p0 0).toInt (0 : Int))
  (iff (ltI (nth p0 0).toInt (((((nth p0 2).toList.set (nth p0 0).toInt.toNat ((nth (nth p0 2).toList (nth p0 0).toInt.toNat).setFld 0 (nth p0 1))).set (nth p0 0).toInt.toNat ((nth ((nth p0 2).toList.set (nth p0 0).toInt.toNat ((nth (nth p0 2).toList (nth p0 0).toInt.toNat).setFld 0 (nth p0 1))) (nth p0 0).toInt.toNat).setFld 1 (PV.int (IntKind.i64.wrap ((nth p0 1).toInt + (1 : Int)))))).set (nth p0 0).toInt.toNat ((nth (((nth p0 2).toList.set (nth p0 0).toInt.toNat ((nth (nth p0 2).toList (nth p0 0).toInt.toNat).setFld 0 (nth p0 1))).set (nth p0 0).toInt.toNat ((nth ((nth p0 2).toList.set (nth p0 0).toInt.toNat ((nth (nth p0 2).toList (nth p0 0).toInt.toNat).setFld 0 (nth p0 1))) (nth p0 0).toInt.toNat).setFld 1 (PV.int (IntKind.i64.wrap ((nth p0 1).toInt + (1 : Int)))))) (nth p0 0).toInt.toNat).setFld 2 (nth r1 0))).length : Int))
  (iff (geI (nth p0 0).toInt (0 : Int))
  (iff (ltI (nth p0 0).toInt ((((((nth p0 2).toList.set (nth p0 0).toInt.toNat ((nth (nth p0 2).toList (nth p0 0).toInt.toNat).setFld 0 (nth p0 1))).set (nth p0 0).toInt.toNat ((nth ((nth p0 2).toList.set (nth p0 0).toInt.toNat ((nth (nth p0 2).toList (nth p0 0).toInt.toNat).setFld 0 (nth p0 1))) (nth p0 0).toInt.toNat).setFld 1 (PV.int (IntKind.i64.wrap ((nth p0 1).toInt + (1 : Int)))))).set (nth p0 0).toInt.toNat ((nth (((nth p0 2).toList.set (nth p0 0).toInt.toNat ((nth (nth p0 2).toList (nth p0 0).toInt.toNat).setFld 0 (nth p0 1))).set (nth p0 0).toInt.toNat ((nth ((nth p0 2).toList.set (nth p0 0).toInt.toNat ((nth (nth p0 2).toList (nth p0 0).toInt.toNat).setFld 0 (nth p0 1))) (nth p0 0).toInt.toNat).setFld 1 (PV.int (IntKind.i64.wrap ((nth p0 1).toInt + (1 : Int)))))) (nth p0 0).toInt.toNat).setFld 2 (nth r1 0))).set (nth p0 0).toInt.toNat ((nth ((((nth p0 2).toList.set (nth p0 0).toInt.toNat ((nth (nth p0 2).toList (nth p0 0).toInt.toNat).setFld 0 (nth p0 1))).set (nth p0 0).toInt.toNat ((nth ((nth p0 2).toList.set (nth p0 0).toInt.toNat ((nth (nth p0 2).toList (nth p0 0).toInt.toNat).setFld 0 (nth p0 1))) (nth p0 0).toInt.toNat).setFld 1 (PV.int (IntKind.i64.wrap ((nth p0 1).toInt + (1 : Int)))))).set (nth p0 0).toInt.toNat ((nth (((nth p0 2).toList.set (nth p0 0).toInt.toNat ((nth (nth p0 2).toList (nth p0 0).toInt.toNat).setFld 0 (nth p0 1))).set (nth p0 0).toInt.toNat ((nth ((nth p0 2).toList.set (nth p0 0).toInt.toNat ((nth (nth p0 2).toList (nth p0 0).toInt.toNat).setFld 0 (nth p0 1))) (nth p0 0).toInt.toNat).setFld 1 (PV.int (IntKind.i64.wrap ((nth p0 1).toInt + (1 : Int)))))) (nth p0 0).toInt.toNat).setFld 2 (nth r1 0))) (nth p0 0).toInt.toNat).setFld 3 (nth r2 0))).length : Int))
  ((I 26 [((nth (((((nth p0 2).toList.set (nth p0 0).toInt.toNat ((nth (nth p0 2).toList (nth p0 0).toInt.toNat).setFld 0 (nth p0 1))).set (nth p0 0).toInt.toNat ((nth ((nth p0 2).toList.set (nth p0 0).toInt.toNat ((nth (nth p0 2).toList (nth p0 0).toInt.toNat).setFld 0 (nth p0 1))) (nth p0 0).toInt.toNat).setFld 1 (PV.int (IntKind.i64.wrap ((nth p0 1).toInt + (1 : Int)))))).set (nth p0 0).toInt.toNat ((nth (((nth p0 2).toList.set (nth p0 0).toInt.toNat ((nth (nth p0 2).toList (nth p0 0).toInt.toNat).setFld 0 (nth p0 1))).set (nth p0 0).toInt.toNat ((nth ((nth p0 2).toList.set (nth p0 0).toInt.toNat ((nth (nth p0 2).toList (nth p0 0).toInt.toNat).setFld 0 (nth p0 1))) (nth p0 0).toInt.toNat).setFld 1 (PV.int (IntKind.i64.wrap ((nth p0 1).toInt + (1 : Int)))))) (nth p0 0).toInt.toNat).setFld 2 (nth r1 0))).set (nth p0 0).toInt.toNat ((nth ((((nth p0 2).toList.set (nth p0 0).toInt.toNat ((nth (nth p0 2).toList (nth p0 0).toInt.toNat).setFld 0 (nth p0 1))).set (nth p0 0).toInt.toNat ((nth ((nth p0 2).toList.set (nth p0 0).toInt.toNat ((nth (nth p0 2).toList (nth p0 0).toInt.toNat).setFld 0 (nth p0 1))) (nth p0 0).toInt.toNat).setFld 1 (PV.int (IntKind.i64.wrap ((nth p0 1).toInt + (1 : Int)))))).set (nth p0 0).toInt.toNat ((nth (((nth p0 2).toList.set (nth p0 0).toInt.toNat ((nth (nth p0 2).toList (nth p0 0).toInt.toNat).setFld 0 (nth p0 1))).set (nth p0 0).toInt.toNat ((nth ((nth p0 2).toList.set (nth p0 0).toInt.toNat ((nth (nth p0 2).toList (nth p0 0).toInt.toNat).setFld 0 (nth p0 1))) (nth p0 0).toInt.toNat).setFld 1 (PV.int (IntKind.i64.wrap ((nth p0 1).toInt + (1 : Int)))))) (nth p0 0).toInt.toNat).setFld 2 (nth r1 0))) (nth p0 0).toInt.toNat).setFld 3 (nth r2 0))) (nth p0 0).toInt.toNat).fld 4), (PV.int (IntKind.i64.wrap ((IntKind.i64.wrap ((IntKind.i64.wrap ((IntKind.i64.wrap ((nth p0 1).toInt + (1 : Int))) + (1 : Int))) + (1 : Int))) + (1 : Int))))]).bind fun r3 =>
  (some (Ex.n, [(PV.int (IntKind.i64.wrap ((nth p0 0).toInt + (1 : Int)))), (nth r3 0), (PV.list ((((((nth p0 2).toList.set (nth p0 0).toInt.toNat ((nth (nth p0 2).toList (nth p0 0).toInt.toNat).setFld 0 (nth p0 1))).set (nth p0 0).toInt.toNat ((nth ((nth p0 2).toList.set (nth p0 0).toInt.toNat ((nth (nth p0 2).toList (nth p0 0).toInt.toNat).setFld 0 (nth p0 1))) (nth p0 0).toInt.toNat).setFld 1 (PV.int (IntKind.i64.wrap ((nth p0 1).toInt + (1 : Int)))))).set (nth p0 0).toInt.toNat ((nth (((nth p0 2).toList.set (nth p0 0).toInt.toNat ((nth (nth p0 2).toList (nth p0 0).toInt.toNat).setFld 0 (nth p0 1))).set (nth p0 0).toInt.toNat ((nth ((nth p0 2).toList.set (nth p0 0).toInt.toNat ((nth (nth p0 2).toList (nth p0 0).toInt.toNat).setFld 0 (nth p0 1))) (nth p0 0).toInt.toNat).setFld 1 (PV.int (IntKind.i64.wrap ((nth p0 1).toInt + (1 : Int)))))) (nth p0 0).toInt.toNat).setFld 2 (nth r1 0))).set (nth p0 0).toInt.toNat ((nth ((((nth p0 2).toList.set (nth p0 0).toInt.toNat ((nth (nth p0 2).toList (nth p0 0).toInt.toNat).setFld 0 (nth p0 1))).set (nth p0 0).toInt.toNat ((nth ((nth p0 2).toList.set (nth p0 0).toInt.toNat ((nth (nth p0 2).toList (nth p0 0).toInt.toNat).setFld 0 (nth p0 1))) (nth p0 0).toInt.toNat).setFld 1 (PV.int (IntKind.i64.wrap ((nth p0 1).toInt + (1 : Int)))))).set (nth p0 0).toInt.toNat ((nth (((nth p0 2).toList.set (nth p0 0).toInt.toNat ((nth (nth p0 2).toList (nth p0 0).toInt.toNat).setFld 0 (nth p0 1))).set (nth p0 0).toInt.toNat ((nth ((nth p0 2).toList.set (nth p0 0).toInt.toNat ((nth (nth p0 2).toList (nth p0 0).toInt.toNat).setFld 0 (nth p0 1))) (nth p0 0).toInt.toNat).setFld 1 (PV.int (IntKind.i64.wrap ((nth p0 1).toInt + (1 : Int)))))) (nth p0 0).toInt.toNat).setFld 2 (nth r1 0))) (nth p0 0).toInt.toNat).setFld 3 (nth r2 0))).set (nth p0 0).toInt.toNat ((nth (((((nth p0 2).toList.set (nth p0 0).toInt.toNat ((nth (nth p0 2).toList (nth p0 0).toInt.toNat).setFld 0 (nth p0 1))).set (nth p0 0).toInt.toNat ((nth ((nth p0 2).toList.set (nth p0 0).toInt.toNat ((nth (nth p0 2).toList (nth p0 0).toInt.toNat).setFld 0 (nth p0 1))) (nth p0 0).toInt.toNat).setFld 1 (PV.int (IntKind.i64.wrap ((nth p0 1).toInt + (1 : Int)))))).set (nth p0 0).toInt.toNat ((nth (((nth p0 2).toList.set (nth p0 0).toInt.toNat ((nth (nth p0 2).toList (nth p0 0).toInt.toNat).setFld 0 (nth p0 1))).set (nth p0 0).toInt.toNat ((nth ((nth p0 2).toList.set (nth p0 0).toInt.toNat ((nth (nth p0 2).toList (nth p0 0).toInt.toNat).setFld 0 (nth p0 1))) (nth p0 0).toInt.toNat).setFld 1 (PV.int (IntKind.i64.wrap ((nth p0 1).toInt + (1 : Int)))))) (nth p0 0).toInt.toNat).setFld 2 (nth r1 0))).set (nth p0 0).toInt.toNat ((nth ((((nth p0 2).toList.set (nth p0 0).toInt.toNat ((nth (nth p0 2).toList (nth p0 0).toInt.toNat).setFld 0 (nth p0 1))).set (nth p0 0).toInt.toNat ((nth ((nth p0 2).toList.set (nth p0 0).toInt.toNat ((nth (nth p0 2).toList (nth p0 0).toInt.toNat).setFld 0 (nth p0 1))) (nth p0 0).toInt.toNat).setFld 1 (PV.int (IntKind.i64.wrap ((nth p0 1).toInt + (1 : Int)))))).set (nth p0 0).toInt.toNat ((nth (((nth p0 2).toList.set (nth p0 0).toInt.toNat ((nth (nth p0 2).toList (nth p0 0).toInt.toNat).setFld 0 (nth p0 1))).set (nth p0 0).toInt.toNat ((nth ((nth p0 2).toList.set (nth p0 0).toInt.toNat ((nth (nth p0 2).toList (nth p0 0).toInt.toNat).setFld 0 (nth p0 1))) (nth p0 0).toInt.toNat).setFld 1 (PV.int (IntKind.i64.wrap ((nth p0 1).toInt + (1 : Int)))))) (nth p0 0).toInt.toNat).setFld 2 (nth r1 0))) (nth p0 0).toInt.toNat).setFld 3 (nth r2 0))) (nth p0 0).toInt.toNat).setFld 4 (nth r3 1))))])))
  none)
  none)
  none)
  none))
  none)
  none))
  none)
  none)
  none)
  none)
  (some (Ex.x 0, [(nth p0 2), (nth p0 1)])))
noncomputable def F26 (I : Interp) (n : Nat) (a : List PV) : Option (List PV) :=
  (thenN (thenE (loopEv (L26_0 I n) n [(PV.int (0 : Int)), (nth a 1), (nth a 0)])
  (passB 0))
  (fun p4 => (some [(nth p4 1), (nth p4 0)]))
  (retE fun q5 => [(nth q5 1), (nth q5 0)]))
theorem e26 : ∀ I n a, (compF Try.prog sg 26).map (fun d => d.ev I n a) = some (F26 I n a) := fun I n a => by kernel_rfl
/-! laws.markCoreS -/
noncomputable def L4122_0 (I : Interp) (n : Nat) (p0 : List PV) : Option (Ex × List PV) :=
  (iff (ltI (nth p0 0).toInt ((nth p0 1).toList.length : Int))
  (iff (geI (nth p0 0).toInt (0 : Int))
  (iff (ltI (nth p0 0).toInt ((nth p0 1).toList.length : Int))
  (iff (geI (nth p0 0).toInt (0 : Int))
  (iff (ltI (nth p0 0).toInt (((nth p0 1).toList.set (nth p0 0).toInt.toNat ((nth (nth p0 1).toList (nth p0 0).toInt.toNat).setFld 0 (nth p0 2))).length : Int))
  ((I 48 [(PV.int (IntKind.i64.wrap ((IntKind.i64.wrap ((nth p0 2).toInt + (1 : Int))) + (1 : Int))))]).bind fun r1 =>
  (iff (geI (nth p0 0).toInt (0 : Int))
  (iff (ltI (nth p0 0).toInt ((((nth p0 1).toList.set (nth p0 0).toInt.toNat ((nth (nth p0 1).toList (nth p0 0).toInt.toNat).setFld 0 (nth p0 2))).set (nth p0 0).toInt.toNat ((nth ((nth p0 1).toList.set (nth p0 0).toInt.toNat ((nth (nth p0 1).toList (nth p0 0).toInt.toNat).setFld 0 (nth p0 2))) (nth p0 0).toInt.toNat).setFld 1 (PV.int (IntKind.i64.wrap ((nth p0 2).toInt + (1 : Int)))))).length : Int))
  ((I 48 [(PV.int (IntKind.i64.wrap ((IntKind.i64.wrap ((IntKind.i64.wrap ((nth p0 2).toInt + (1 : Int))) + (1 : Int))) + (1 : Int))))]).bind fun r2 =>
  (iff (geI (nth p0 0).toInt (0 : Int))
  (iff (ltI (nth p0 0).toInt (((((nth p0 1).toList.set (nth p0 0).toInt.toNat ((nth (nth p0 1).toList (nth p0 0).toInt.toNat).setFld 0 (nth p0 2))).set (nth p0 0).toInt.toNat ((nth ((nth p0 1).toList.set (nth p0 0).toInt.toNat ((nth (nth p0 1).toList (nth p0 0).toInt.toNat).setFld 0 (nth p0 2))) (nth p0 0).toInt.toNat).setFld 1 (PV.int (IntKind.i64.wrap ((nth p0 2).toInt + (1 : Int)))))).set (nth p0 0).toInt.toNat ((nth (((nth p0 1).toList.set (nth p0 0).toInt.toNat ((nth (nth p0 1).toList (nth p0 0).toInt.toNat).setFld 0 (nth p0 2))).set (nth p0 0).toInt.toNat ((nth ((nth p0 1).toList.set (nth p0 0).toInt.toNat ((nth (nth p0 1).toList (nth p0 0).toInt.toNat).setFld 0 (nth p0 2))) (nth p0 0).toInt.toNat).setFld 1 (PV.int (IntKind.i64.wrap ((nth p0 2).toInt + (1 : Int)))))) (nth p0 0).toInt.toNat).setFld 2 (nth r1 0))).length : Int))
  (iff (geI (nth p0 0).toInt (0 : Int))
  (iff (ltI (nth p0 0).toInt ((((((nth p0 1).toList.set (nth p0 0).toInt.toNat ((nth (nth p0 1).toList (nth p0 0).toInt.toNat).setFld 0 (nth p0 2))).set (nth p0 0).toInt.toNat ((nth ((nth p0 1).toList.set (nth p0 0).toInt.toNat ((nth (nth p0 1).toList (nth p0 0).toInt.toNat).setFld 0 (nth p0 2))) (nth p0 0).toInt.toNat).setFld 1 (PV.int (IntKind.i64.wrap ((nth p0 2).toInt + (1 : Int)))))).set (nth p0 0).toInt.toNat ((nth (((nth p0 1).toList.set (nth p0 0).toInt.toNat ((nth (nth p0 1).toList (nth p0 0).toInt.toNat).setFld 0 (nth p0 2))).set (nth p0 0).toInt.toNat ((nth ((nth p0 1).toList.set (nth p0 0).toInt.toNat ((nth (nth p0 1).toList (nth p0 0).toInt.toNat).setFld 0 (nth p0 2))) (nth p0 0).toInt.toNat).setFld 1 (PV.int (IntKind.i64.wrap ((nth p0 2).toInt + (1 : Int)))))) (nth p0 0).toInt.toNat).setFld 2 (nth r1 0))).set (nth p0 0).toInt.toNat ((nth ((((nth p0 1).toList.set (nth p0 0).toInt.toNat ((nth (nth p0 1).toList (nth p0 0).toInt.toNat).setFld 0 (nth p0 2))).set (nth p0 0).toInt.toNat ((nth ((nth p0 1).toList.set (nth p0 0).toInt.toNat ((nth (nth p0 1).toList (nth p0 0).toInt.toNat).setFld 0 (nth p0 2))) (nth p0 0).toInt.toNat).setFld 1 (PV.int (IntKind.i64.wrap ((nth p0 2).toInt + (1 : Int)))))).set (nth p0 0).toInt.toNat ((nth (((nth p0 1).toList.set (nth p0 0).toInt.toNat ((nth (nth p0 1).toList (nth p0 0).toInt.toNat).setFld 0 (nth p0 2))).set (nth p0 0).toInt.toNat ((nth ((nth p0 1).toList.set (nth p0 0).toInt.toNat ((nth (nth p0 1).toList (nth p0 0).toInt.toNat).setFld 0 (nth p0 2))) (nth p0 0).toInt.toNat).setFld 1 (PV.int (IntKind.i64.wrap ((nth p0 2).toInt + (1 : Int)))))) (nth p0 0).toInt.toNat).setFld 2 (nth r1 0))) (nth p0 0).toInt.toNat).setFld 3 (nth r2 0))).length : Int))
  ((I 26 [((nth (((((nth p0 1).toList.set (nth p0 0).toInt.toNat ((nth (nth p0 1).toList (nth p0 0).toInt.toNat).setFld 0 (nth p0 2))).set (nth p0 0).toInt.toNat ((nth ((nth p0 1).toList.set (nth p0 0).toInt.toNat ((nth (nth p0 1).toList (nth p0 0).toInt.toNat).setFld 0 (nth p0 2))) (nth p0 0).toInt.toNat).setFld 1 (PV.int (IntKind.i64.wrap ((nth p0 2).toInt + (1 : Int)))))).set (nth p0 0).toInt.toNat ((nth (((nth p0 1).toList.set (nth p0 0).toInt.toNat ((nth (nth p0 1).toList (nth p0 0).toInt.toNat).setFld 0 (nth p0 2))).set (nth p0 0).toInt.toNat ((nth ((nth p0 1).toList.set (nth p0 0).toInt.toNat ((nth (nth p0 1).toList (nth p0 0).toInt.toNat).setFld 0 (nth p0 2))) (nth p0 0).toInt.toNat).setFld 1 (PV.int (IntKind.i64.wrap ((nth p0 2).toInt + (1 : Int)))))) (nth p0 0).toInt.toNat).setFld 2 (nth r1 0))).set (nth p0 0).toInt.toNat ((nth ((((nth p0 1).toList.set (nth p0 0).toInt.toNat ((nth (nth p0 1).toList (nth p0 0).toInt.toNat).setFld 0 (nth p0 2))).set (nth p0 0).toInt.toNat ((nth ((nth p0 1).toList.set (nth p0 0).toInt.toNat ((nth (nth p0 1).toList (nth p0 0).toInt.toNat).setFld 0 (nth p0 2))) (nth p0 0).toInt.toNat).setFld 1 (PV.int (IntKind.i64.wrap ((nth p0 2).toInt + (1 : Int)))))).set (nth p0 0).toInt.toNat ((nth (((nth p0 1).toList.set (nth p0 0).toInt.toNat ((nth (nth p0 1).toList (nth p0 0).toInt.toNat).setFld 0 (nth p0 2))).set (nth p0 0).toInt.toNat ((nth ((nth p0 1).toList.set (nth p0 0).toInt.toNat ((nth (nth p0 1).toList (nth p0 0).toInt.toNat).setFld 0 (nth p0 2))) (nth p0 0).toInt.toNat).setFld 1 (PV.int (IntKind.i64.wrap ((nth p0 2).toInt + (1 : Int)))))) (nth p0 0).toInt.toNat).setFld 2 (nth r1 0))) (nth p0 0).toInt.toNat).setFld 3 (nth r2 0))) (nth p0 0).toInt.toNat).fld 4), (PV.int (IntKind.i64.wrap ((IntKind.i64.wrap ((IntKind.i64.wrap ((IntKind.i64.wrap ((nth p0 2).toInt + (1 : Int))) + (1 : Int))) + (1 : Int))) + (1 : Int))))]).bind fun r3 =>
  (some (Ex.n, [(PV.int (IntKind.i64.wrap ((nth p0 0).toInt + (1 : Int)))), (PV.list ((((((nth p0 1).toList.set (nth p0 0).toInt.toNat ((nth (nth p0 1).toList (nth p0 0).toInt.toNat).setFld 0 (nth p0 2))).set (nth p0 0).toInt.toNat ((nth ((nth p0 1).toList.set (nth p0 0).toInt.toNat ((nth (nth p0 1).toList (nth p0 0).toInt.toNat).setFld 0 (nth p0 2))) (nth p0 0).toInt.toNat).setFld 1 (PV.int (IntKind.i64.wrap ((nth p0 2).toInt + (1 : Int)))))).set (nth p0 0).toInt.toNat ((nth (((nth p0 1).toList.set (nth p0 0).toInt.toNat ((nth (nth p0 1).toList (nth p0 0).toInt.toNat).setFld 0 (nth p0 2))).set (nth p0 0).toInt.toNat ((nth ((nth p0 1).toList.set (nth p0 0).toInt.toNat ((nth (nth p0 1).toList (nth p0 0).toInt.toNat).setFld 0 (nth p0 2))) (nth p0 0).toInt.toNat).setFld 1 (PV.int (IntKind.i64.wrap ((nth p0 2).toInt + (1 : Int)))))) (nth p0 0).toInt.toNat).setFld 2 (nth r1 0))).set (nth p0 0).toInt.toNat ((nth ((((nth p0 1).toList.set (nth p0 0).toInt.toNat ((nth (nth p0 1).toList (nth p0 0).toInt.toNat).setFld 0 (nth p0 2))).set (nth p0 0).toInt.toNat ((nth ((nth p0 1).toList.set (nth p0 0).toInt.toNat ((nth (nth p0 1).toList (nth p0 0).toInt.toNat).setFld 0 (nth p0 2))) (nth p0 0).toInt.toNat).setFld 1 (PV.int (IntKind.i64.wrap ((nth p0 2).toInt + (1 : Int)))))).set (nth p0 0).toInt.toNat ((nth (((nth p0 1).toList.set (nth p0 0).toInt.toNat ((nth (nth p0 1).toList (nth p0 0).toInt.toNat).setFld 0 (nth p0 2))).set (nth p0 0).toInt.toNat ((nth ((nth p0 1).toList.set (nth p0 0).toInt.toNat ((nth (nth p0 1).toList (nth p0 0).toInt.toNat).setFld 0 (nth p0 2))) (nth p0 0).toInt.toNat).setFld 1 (PV.int (IntKind.i64.wrap ((nth p0 2).toInt + (1 : Int)))))) (nth p0 0).toInt.toNat).setFld 2 (nth r1 0))) (nth p0 0).toInt.toNat).setFld 3 (nth r2 0))).set (nth p0 0).toInt.toNat ((nth (((((nth p0 1).toList.set (nth p0 0).toInt.toNat ((nth (nth p0 1).toList (nth p0 0).toInt.toNat).setFld 0 (nth p0 2))).set (nth p0 0).toInt.toNat ((nth ((nth p0 1).toList.set (nth p0 0).toInt.toNat ((nth (nth p0 1).toList (nth p0 0).toInt.toNat).setFld 0 (nth p0 2))) (nth p0 0).toInt.toNat).setFld 1 (PV.int (IntKind.i64.wrap ((nth p0 2).toInt + (1 : Int)))))).set (nth p0 0).toInt.toNat ((nth (((nth p0 1).toList.set (nth p0 0).toInt.toNat ((nth (nth p0 1).toList (nth p0 0).toInt.toNat).setFld 0 (nth p0 2))).set (nth p0 0).toInt.toNat ((nth ((nth p0 1).toList.set (nth p0 0).toInt.toNat ((nth (nth p0 1).toList (nth p0 0).toInt.toNat).setFld 0 (nth p0 2))) (nth p0 0).toInt.toNat).setFld 1 (PV.int (IntKind.i64.wrap ((nth p0 2).toInt + (1 : Int)))))) (nth p0 0).toInt.toNat).setFld 2 (nth r1 0))).set (nth p0 0).toInt.toNat ((nth ((((nth p0 1).toList.set (nth p0 0).toInt.toNat ((nth (nth p0 1).toList (nth p0 0).toInt.toNat).setFld 0 (nth p0 2))).set (nth p0 0).toInt.toNat ((nth ((nth p0 1).toList.set (nth p0 0).toInt.toNat ((nth (nth p0 1).toList (nth p0 0).toInt.toNat).setFld 0 (nth p0 2))) (nth p0 0).toInt.toNat).setFld 1 (PV.int (IntKind.i64.wrap ((nth p0 2).toInt + (1 : Int)))))).set (nth p0 0).toInt.toNat ((nth (((nth p0 1).toList.set (nth p0 0).toInt.toNat ((nth (nth p0 1).toList (nth p0 0).toInt.toNat).setFld 0 (nth p0 2))).set (nth p0 0).toInt.toNat ((nth ((nth p0 1).toList.set (nth p0 0).toInt.toNat ((nth (nth p0 1).toList (nth p0 0).toInt.toNat).setFld 0 (nth p0 2))) (nth p0 0).toInt.toNat).setFld 1 (PV.int (IntKind.i64.wrap ((nth p0 2).toInt + (1 : Int)))))) (nth p0 0).toInt.toNat).setFld 2 (nth r1 0))) (nth p0 0).toInt.toNat).setFld 3 (nth r2 0))) (nth p0 0).toInt.toNat).setFld 4 (nth r3 1)))), (nth r3 0)])))
  none)
  none)
  none)
  none))
  none)
  none))
  none)
  none)
  none)
  none)
  (some (Ex.x 0, [(nth p0 2)])))
noncomputable def F4122 (I : Interp) (n : Nat) (a : List PV) : Option (List PV) :=
  (thenN (thenE (loopEv (L4122_0 I n) n [(PV.int (0 : Int)), (nth a 0), (nth a 1)])
  (passB 0))
  (fun p4 => (some [(nth p4 0)]))
  (retE fun q5 => [(nth q5 0)]))
theorem e4122 : ∀ I n a, (compF Try.prog sg 4122).map (fun d => d.ev I n a) = some (F4122 I n a) := fun I n a => by kernel_rfl
/-! slices.Concat[[]string,string] -/
noncomputable def L62_0 (I : Interp) (n : Nat) (p0 : List PV) : Option (Ex × List PV) :=
  (iff (ltI (nth p0 0).toInt (nth p0 1).toInt)
  (thenN (iff (geI (nth p0 0).toInt (0 : Int))
  (iff (ltI (nth p0 0).toInt ((nth p0 2).toList.length : Int))
  (iff (ltI (IntKind.i64.wrap ((nth p0 3).toInt + ((nth (nth p0 2).toList (nth p0 0).toInt.toNat).toList.length : Int))) (0 : Int))
  (iff false
  (some (Ex.n, [(nth p0 0), (nth p0 1), (nth p0 2), (PV.int (IntKind.i64.wrap ((nth p0 3).toInt + ((nth (nth p0 2).toList (nth p0 0).toInt.toNat).toList.length : Int)))), (nth p0 4)]))
  none)
  (some (Ex.n, [(nth p0 0), (nth p0 1), (nth p0 2), (PV.int (IntKind.i64.wrap ((nth p0 3).toInt + ((nth (nth p0 2).toList (nth p0 0).toInt.toNat).toList.length : Int)))), (nth p0 4)])))
  none)
  none)
  (fun p1 => (some (Ex.n, [(PV.int (IntKind.i64.wrap ((nth p1 0).toInt + (1 : Int)))), (nth p1 1), (nth p1 2), (nth p1 3), (nth p1 4)])))
  passE)
  (some (Ex.x 0, [(nth p0 3), (nth p0 4)])))
noncomputable def L62_1 (I : Interp) (n : Nat) (p4 : List PV) : Option (Ex × List PV) :=
  (iff (ltI (nth p4 0).toInt (nth p4 1).toInt)
  (iff (geI (nth p4 0).toInt (0 : Int))
  (iff (ltI (nth p4 0).toInt ((nth p4 2).toList.length : Int))
  (iff (leN ((nth p4 3).toList.length + (nth (nth p4 2).toList (nth p4 0).toInt.toNat).toList.length) 8796093022208)
  (some (Ex.n, [(PV.int (IntKind.i64.wrap ((nth p4 0).toInt + (1 : Int)))), (nth p4 1), (nth p4 2), (PV.list ((nth p4 3).toList ++ (nth (nth p4 2).toList (nth p4 0).toInt.toNat).toList))]))
  none)
  none)
  none)
  (some (Ex.x 2, [(nth p4 3)])))
noncomputable def F62 (I : Interp) (n : Nat) (a : List PV) : Option (List PV) :=
  (thenN (thenE (loopEv (L62_0 I n) n [(PV.int (0 : Int)), (PV.int ((nth a 0).toList.length : Int)), (nth a 0), (PV.int (0 : Int)), (nth a 0)])
  (passB 0))
  (fun p2 => ((I 71 [(PV.list ([] : List PV)), (nth p2 0)]).bind fun r3 =>
  (thenN (thenE (loopEv (L62_1 I n) n [(PV.int (0 : Int)), (PV.int ((nth p2 1).toList.length : Int)), (nth p2 1), (nth r3 0)])
  (passB 2))
  (fun p5 => (some [(nth p5 0)]))
  (retE fun q6 => [(nth q6 0)]))))
  (retE fun q7 => [(nth q7 0)]))
theorem e62 : ∀ I n a, (compF Try.prog sg 62).map (fun d => d.ev I n a) = some (F62 I n a) := fun I n a => by kernel_rfl
/-! laws.eqValueS -/
noncomputable def L47_0 (I : Interp) (n : Nat) (p0 : List PV) : Option (Ex × List PV) :=
  (iff (ltI (nth p0 0).toInt ((nth p0 1).toList.length : Int))
  (iff (geI (nth p0 0).toInt (0 : Int))
  (iff (ltI (nth p0 0).toInt ((nth p0 1).toList.length : Int))
  (iff (geI (nth p0 0).toInt (0 : Int))
  (iff (ltI (nth p0 0).toInt ((nth p0 2).toList.length : Int))
  ((I 23 [(nth (nth p0 1).toList (nth p0 0).toInt.toNat), (nth (nth p0 2).toList (nth p0 0).toInt.toNat)]).bind fun r1 =>
  (iff (!(nth r1 0).toBool)
  (some (Ex.r, [(PV.bool false)]))
  (some (Ex.n, [(PV.int (IntKind.i64.wrap ((nth p0 0).toInt + (1 : Int)))), (nth p0 1), (nth p0 2)]))))
  none)
  none)
  none)
  none)
  (some (Ex.x 0, [])))
noncomputable def F47 (I : Interp) (n : Nat) (a : List PV) : Option (List PV) :=
  (iff (neI ((nth a 0).toList.length : Int) ((nth a 1).toList.length : Int))
  (some [(PV.bool false)])
  (thenN (thenE (loopEv (L47_0 I n) n [(PV.int (0 : Int)), (nth a 0), (nth a 1)])
  (passB 0))
  (fun p2 => (some [(PV.bool true)]))
  (retE fun q3 => [(nth q3 0)])))
theorem e47 : ∀ I n a, (compF Try.prog sg 47).map (fun d => d.ev I n a) = some (F47 I n a) := fun I n a => by kernel_rfl
/-! laws.eqValue -/
noncomputable def F23 (I : Interp) (n : Nat) (a : List PV) : Option (List PV) :=
  (iff (neI ((nth a 0).fld 0).toInt ((nth a 1).fld 0).toInt)
  (some [(PV.bool false)])
  (iff (neI ((nth a 0).fld 1).toInt ((nth a 1).fld 1).toInt)
  (some [(PV.bool false)])
  ((I 47 [((nth a 0).fld 2), ((nth a 1).fld 2)]).bind fun r0 =>
  (iff (!(nth r0 0).toBool)
  (some [(PV.bool false)])
  (some [(PV.bool true)])))))
theorem e23 : ∀ I n a, (compF Try.prog sg 23).map (fun d => d.ev I n a) = some (F23 I n a) := fun I n a => by kernel_rfl
/-! slices.Contains[[]string,string] -/
noncomputable def F61 (I : Interp) (n : Nat) (a : List PV) : Option (List PV) :=
  ((I 70 [(nth a 0), (nth a 1)]).bind fun r0 =>
  (some [(PV.bool (geI (nth r0 0).toInt (0 : Int)))]))
theorem e61 : ∀ I n a, (compF Try.prog sg 61).map (fun d => d.ev I n a) = some (F61 I n a) := fun I n a => by kernel_rfl
/-! spec.WordOk -/
noncomputable def F54 (I : Interp) (n : Nat) (a : List PV) : Option (List PV) :=
  ((I 66 [(nth a 0), (PV.int (-1073741824 : Int)), (PV.int (1073741823 : Int))]).bind fun r0 =>
  (some [(nth r0 0)]))
theorem e54 : ∀ I n a, (compF Try.prog sg 54).map (fun d => d.ev I n a) = some (F54 I n a) := fun I n a => by kernel_rfl
/-! laws.toCoreS -/
noncomputable def L19_0 (I : Interp) (n : Nat) (p0 : List PV) : Option (Ex × List PV) :=
  (iff (ltI (nth p0 0).toInt ((nth p0 1).toList.length : Int))
  (iff (geI (nth p0 0).toInt (0 : Int))
  (iff (ltI (nth p0 0).toInt ((nth p0 1).toList.length : Int))
  ((I 6 [(nth (nth p0 1).toList (nth p0 0).toInt.toNat)]).bind fun r1 =>
  (iff (geI (nth p0 0).toInt (0 : Int))
  (iff (ltI (nth p0 0).toInt ((nth p0 2).toList.length : Int))
  (some (Ex.n, [(PV.int (IntKind.i64.wrap ((nth p0 0).toInt + (1 : Int)))), (nth p0 1), (PV.list ((nth p0 2).toList.set (nth p0 0).toInt.toNat (nth r1 0)))]))
  none)
  none))
  none)
  none)
  (some (Ex.x 0, [(nth p0 2)])))
noncomputable def F19 (I : Interp) (n : Nat) (a : List PV) : Option (List PV) :=
  (iff (geI ((nth a 0).toList.length : Int) (0 : Int))
  (iff (leI ((nth a 0).toList.length : Int) ((nth a 0).toList.length : Int))
  (iff (leI ((nth a 0).toList.length : Int) (1954687338268 : Int))
  (thenN (thenE (loopEv (L19_0 I n) n [(PV.int (0 : Int)), (nth a 0), (PV.list (List.replicate ((nth a 0).toList.length : Int).toNat (PV.agg [(PV.int (0 : Int)), (PV.int (0 : Int)), (PV.str (⟨#[]⟩ : ByteArray)), (PV.str (⟨#[]⟩ : ByteArray)), (PV.list ([] : List PV))])))])
  (passB 0))
  (fun p2 => (some [(nth p2 0)]))
  (retE fun q3 => [(nth q3 0)]))
  none)
  none)
  none)
theorem e19 : ∀ I n a, (compF Try.prog sg 19).map (fun d => d.ev I n a) = some (F19 I n a) := fun I n a => by kernel_rfl
/-! laws.toCore -/
noncomputable def F6 (I : Interp) (n : Nat) (a : List PV) : Option (List PV) :=
  ((I 19 [((nth a 0).fld 4)]).bind fun r0 =>
  (some [(PV.agg [((nth a 0).fld 0), ((nth a 0).fld 1), ((nth a 0).fld 2), ((nth a 0).fld 3), (nth r0 0)])]))
theorem e6 : ∀ I n a, (compF Try.prog sg 6).map (fun d => d.ev I n a) = some (F6 I n a) := fun I n a => by kernel_rfl
/-! spec.l9Deep -/
noncomputable def L32_0 (I : Interp) (n : Nat) (p0 : List PV) : Option (Ex × List PV) :=
  (iff (ltI (nth p0 0).toInt (((nth p0 2).fld 4).toList.length : Int))
  (iff (geI (nth p0 0).toInt (0 : Int))
  (iff (ltI (nth p0 0).toInt (((nth p0 2).fld 4).toList.length : Int))
  ((I 32 [(nth ((nth p0 2).fld 4).toList (nth p0 0).toInt.toNat)]).bind fun r1 =>
  ((I 51 [(nth p0 1), (nth r1 0)]).bind fun r2 =>
  (some (Ex.n, [(PV.int (IntKind.i64.wrap ((nth p0 0).toInt + (1 : Int)))), (nth r2 0), (nth p0 2)]))))
  none)
  none)
  (some (Ex.x 0, [(nth p0 1)])))
noncomputable def F32 (I : Interp) (n : Nat) (a : List PV) : Option (List PV) :=
  (thenN (thenE (loopEv (L32_0 I n) n [(PV.int (0 : Int)), (PV.int (0 : Int)), (nth a 0)])
  (passB 0))
  (fun p3 => (some [(PV.int (IntKind.i64.wrap ((nth p3 0).toInt + (1 : Int))))]))
  (retE fun q4 => [(nth q4 0)]))
theorem e32 : ∀ I n a, (compF Try.prog sg 32).map (fun d => d.ev I n a) = some (F32 I n a) := fun I n a => by kernel_rfl
/-! laws.szCoreS -/
noncomputable def L13_0 (I : Interp) (n : Nat) (p0 : List PV) : Option (Ex × List PV) :=
  (iff (ltI (nth p0 0).toInt ((nth p0 1).toList.length : Int))
  (iff (geI (nth p0 0).toInt (0 : Int))
  (iff (ltI (nth p0 0).toInt ((nth p0 1).toList.length : Int))
  ((I 4 [(nth (nth p0 1).toList (nth p0 0).toInt.toNat), (nth p0 2)]).bind fun r1 =>
  (iff (ltI (nth r1 0).toInt (0 : Int))
  (some (Ex.r, [(PV.int (-1 : Int))]))
  (some (Ex.n, [(PV.int (IntKind.i64.wrap ((nth p0 0).toInt + (1 : Int)))), (nth p0 1), (nth r1 0)]))))
  none)
  none)
  (some (Ex.x 0, [(nth p0 2)])))
noncomputable def F13 (I : Interp) (n : Nat) (a : List PV) : Option (List PV) :=
  (iff (ltI (IntKind.i64.wrap ((nth a 1).toInt - ((nth a 0).toList.length : Int))) (0 : Int))
  (some [(PV.int (-1 : Int))])
  (thenN (thenE (loopEv (L13_0 I n) n [(PV.int (0 : Int)), (nth a 0), (PV.int (IntKind.i64.wrap ((nth a 1).toInt - ((nth a 0).toList.length : Int))))])
  (passB 0))
  (fun p2 => (some [(nth p2 0)]))
  (retE fun q3 => [(nth q3 0)])))
theorem e13 : ∀ I n a, (compF Try.prog sg 13).map (fun d => d.ev I n a) = some (F13 I n a) := fun I n a => by kernel_rfl
/-! laws.szCore -/
noncomputable def F4 (I : Interp) (n : Nat) (a : List PV) : Option (List PV) :=
  (iff (ltI (IntKind.i64.wrap ((nth a 1).toInt - (((nth a 0).fld 2).toStr.size : Int))) (0 : Int))
  (some [(PV.int (-1 : Int))])
  (iff (ltI (IntKind.i64.wrap ((IntKind.i64.wrap ((nth a 1).toInt - (((nth a 0).fld 2).toStr.size : Int))) - (((nth a 0).fld 3).toStr.size : Int))) (0 : Int))
  (some [(PV.int (-1 : Int))])
  ((I 13 [((nth a 0).fld 4), (PV.int (IntKind.i64.wrap ((IntKind.i64.wrap ((nth a 1).toInt - (((nth a 0).fld 2).toStr.size : Int))) - (((nth a 0).fld 3).toStr.size : Int))))]).bind fun r0 =>
  (iff (ltI (nth r0 0).toInt (0 : Int))
  (some [(PV.int (-1 : Int))])
  (some [(nth r0 0)])))))
theorem e4 : ∀ I n a, (compF Try.prog sg 4).map (fun d => d.ev I n a) = some (F4 I n a) := fun I n a => by kernel_rfl
/-! spec.l11Math -/
noncomputable def F58 (I : Interp) (n : Nat) (a : List PV) : Option (List PV) :=
  (iff (eqI (nth a 0).toInt (8 : Int))
  ((I 68 [(PV.int (IntKind.i64.wrap ((nth a 1).toInt + (nth a 2).toInt)))]).bind fun r0 =>
  (some [(nth r0 0)]))
  (iff (eqI (nth a 0).toInt (9 : Int))
  ((I 68 [(PV.int (IntKind.i64.wrap ((nth a 1).toInt - (nth a 2).toInt)))]).bind fun r1 =>
  (some [(nth r1 0)]))
  (iff (eqI (nth a 0).toInt (10 : Int))
  ((I 68 [(PV.int (IntKind.i64.wrap ((nth a 1).toInt * (nth a 2).toInt)))]).bind fun r2 =>
  (some [(nth r2 0)]))
  (iff (eqI (nth a 0).toInt (11 : Int))
  ((I 57 [(PV.bool (ltI (nth a 1).toInt (nth a 2).toInt))]).bind fun r3 =>
  (some [(nth r3 0)]))
  ((I 57 [(PV.bool (eqI (nth a 1).toInt (nth a 2).toInt))]).bind fun r4 =>
  (some [(nth r4 0)]))))))
theorem e58 : ∀ I n a, (compF Try.prog sg 58).map (fun d => d.ev I n a) = some (F58 I n a) := fun I n a => by kernel_rfl
/-! laws.markCore -/
noncomputable def F10 (I : Interp) (n : Nat) (a : List PV) : Option (List PV) :=
  ((I 26 [((nth a 0).fld 4), (nth a 1)]).bind fun r0 =>
  (some [(nth r0 0), ((nth a 0).setFld 4 (nth r0 1))]))
theorem e10 : ∀ I n a, (compF Try.prog sg 10).map (fun d => d.ev I n a) = some (F10 I n a) := fun I n a => by kernel_rfl
/-! laws.markCore -/
noncomputable def F4106 (I : Interp) (n : Nat) (a : List PV) : Option (List PV) :=
  ((I 26 [((nth a 0).fld 4), (nth a 1)]).bind fun r0 =>
  (some [(nth r0 0)]))
theorem e4106 : ∀ I n a, (compF Try.prog sg 4106).map (fun d => d.ev I n a) = some (F4106 I n a) := fun I n a => by kernel_rfl
/-! laws.heldResult -/
noncomputable def F12 (I : Interp) (n : Nat) (a : List PV) : Option (List PV) :=
  ((I 29 [((nth a 0).fld 1), (nth a 1)]).bind fun r0 =>
  (iff (ltI (nth r0 0).toInt (0 : Int))
  (some [(PV.int (-1 : Int))])
  ((I 30 [((nth a 0).fld 2), (nth r0 0)]).bind fun r1 =>
  (iff (ltI (nth r1 0).toInt (0 : Int))
  (some [(PV.int (-1 : Int))])
  (some [(nth r1 0)])))))
theorem e12 : ∀ I n a, (compF Try.prog sg 12).map (fun d => d.ev I n a) = some (F12 I n a) := fun I n a => by kernel_rfl
/-! impl.reckoned -/
noncomputable def F65 (I : Interp) (n : Nat) (a : List PV) : Option (List PV) :=
  (iff (eqI (nth a 0).toInt (8 : Int))
  ((I 72 [(PV.int (IntKind.i64.wrap ((nth a 1).toInt + (nth a 2).toInt)))]).bind fun r0 =>
  ((I 43 [(nth r0 0)]).bind fun r1 =>
  (some [(nth r1 0)])))
  (iff (eqI (nth a 0).toInt (9 : Int))
  ((I 72 [(PV.int (IntKind.i64.wrap ((nth a 1).toInt - (nth a 2).toInt)))]).bind fun r2 =>
  ((I 43 [(nth r2 0)]).bind fun r3 =>
  (some [(nth r3 0)])))
  (iff (eqI (nth a 0).toInt (10 : Int))
  ((I 72 [(PV.int (IntKind.i64.wrap ((nth a 1).toInt * (nth a 2).toInt)))]).bind fun r4 =>
  ((I 43 [(nth r4 0)]).bind fun r5 =>
  (some [(nth r5 0)])))
  (iff (eqI (nth a 0).toInt (11 : Int))
  ((I 64 [(PV.bool (ltI (nth a 1).toInt (nth a 2).toInt))]).bind fun r6 =>
  (some [(nth r6 0)]))
  ((I 64 [(PV.bool (eqI (nth a 1).toInt (nth a 2).toInt))]).bind fun r7 =>
  (some [(nth r7 0)]))))))
theorem e65 : ∀ I n a, (compF Try.prog sg 65).map (fun d => d.ev I n a) = some (F65 I n a) := fun I n a => by kernel_rfl
/-! laws.eqResult -/
noncomputable def F8 (I : Interp) (n : Nat) (a : List PV) : Option (List PV) :=
  (iff (neI ((nth a 0).fld 0).toInt ((nth a 1).fld 0).toInt)
  (some [(PV.bool false)])
  ((I 23 [((nth a 0).fld 1), ((nth a 1).fld 1)]).bind fun r0 =>
  (iff (!(nth r0 0).toBool)
  (some [(PV.bool false)])
  ((I 24 [((nth a 0).fld 2), ((nth a 1).fld 2)]).bind fun r1 =>
  (iff (!(nth r1 0).toBool)
  (some [(PV.bool false)])
  (some [(PV.bool true)]))))))
theorem e8 : ∀ I n a, (compF Try.prog sg 8).map (fun d => d.ev I n a) = some (F8 I n a) := fun I n a => by kernel_rfl
/-! laws.markResult -/
noncomputable def F11 (I : Interp) (n : Nat) (a : List PV) : Option (List PV) :=
  ((I 27 [((nth a 0).fld 1), (nth a 1)]).bind fun r0 =>
  ((I 28 [(((nth a 0).setFld 1 (nth r0 1)).fld 2), (nth r0 0)]).bind fun r1 =>
  (some [(nth r1 0), (((nth a 0).setFld 1 (nth r0 1)).setFld 2 (nth r1 1))])))
theorem e11 : ∀ I n a, (compF Try.prog sg 11).map (fun d => d.ev I n a) = some (F11 I n a) := fun I n a => by kernel_rfl
/-! laws.markResult -/
noncomputable def F4107 (I : Interp) (n : Nat) (a : List PV) : Option (List PV) :=
  ((I 27 [((nth a 0).fld 1), (nth a 1)]).bind fun r0 =>
  ((I 28 [(((nth a 0).setFld 1 (nth r0 1)).fld 2), (nth r0 0)]).bind fun r1 =>
  (some [(nth r1 0)])))
theorem e4107 : ∀ I n a, (compF Try.prog sg 4107).map (fun d => d.ev I n a) = some (F4107 I n a) := fun I n a => by kernel_rfl
/-! spec.l11Plain -/
noncomputable def L40_0 (I : Interp) (n : Nat) (p5 : List PV) : Option (Ex × List PV) :=
  (iff (ltI (nth p5 0).toInt ((nth p5 1).toList.length : Int))
  (iff (geI (nth p5 0).toInt (0 : Int))
  (iff (ltI (nth p5 0).toInt ((nth p5 1).toList.length : Int))
  (iff (neI ((nth (nth p5 1).toList (nth p5 0).toInt.toNat).fld 0).toInt (1 : Int))
  ((I 4135 [(nth p5 2)]).bind fun r6 =>
  (some (Ex.r, [(nth r6 1), (nth r6 0)])))
  (some (Ex.n, [(PV.int (IntKind.i64.wrap ((nth p5 0).toInt + (1 : Int)))), (nth p5 1), (nth p5 2), (nth p5 3), (nth p5 4)])))
  none)
  none)
  (some (Ex.x 1, [(nth p5 1), (nth p5 2), (nth p5 3), (nth p5 4)])))
noncomputable def F40 (I : Interp) (n : Nat) (a : List PV) : Option (List PV) :=
  (iff (neI ((nth a 0).fld 1).toInt (0 : Int))
  (some [(PV.agg [(PV.int (0 : Int)), (PV.int (0 : Int)), (PV.list ([] : List PV)), (PV.agg [(PV.int (0 : Int)), (PV.int (0 : Int)), (PV.str (⟨#[]⟩ : ByteArray)), (PV.str (⟨#[]⟩ : ByteArray)), (PV.list ([] : List PV))]), (PV.str (⟨#[]⟩ : ByteArray)), (PV.str (⟨#[]⟩ : ByteArray)), (PV.list ([] : List PV))]), (nth a 0)])
  (iff (eqI ((nth a 1).fld 0).toInt (13 : Int))
  (some [(PV.agg [(PV.int (2 : Int)), (PV.int (0 : Int)), (PV.list ([] : List PV)), (PV.agg [(PV.int (0 : Int)), (PV.int (0 : Int)), (PV.str (⟨#[]⟩ : ByteArray)), (PV.str (⟨#[]⟩ : ByteArray)), (PV.list ([] : List PV))]), (PV.str (⟨#[]⟩ : ByteArray)), (PV.str (⟨#[]⟩ : ByteArray)), (PV.list ([] : List PV))]), (nth a 0)])
  (iff (eqI ((nth a 1).fld 0).toInt (14 : Int))
  (some [(PV.agg [(PV.int (3 : Int)), (PV.int (0 : Int)), (nth a 2), (PV.agg [(PV.int (0 : Int)), (PV.int (0 : Int)), (PV.str (⟨#[]⟩ : ByteArray)), (PV.str (⟨#[]⟩ : ByteArray)), (PV.list ([] : List PV))]), (PV.str (⟨#[]⟩ : ByteArray)), (PV.str (⟨#[]⟩ : ByteArray)), (PV.list ([] : List PV))]), (nth a 0)])
  (thenN (iff (eqI ((nth a 1).fld 0).toInt (15 : Int))
  (some (Ex.n, [(PV.bool (eqI ((nth a 1).fld 0).toInt (15 : Int))), ((nth a 1).fld 0), (nth a 2), (nth a 0), (nth a 1), (PV.agg [(PV.int (0 : Int)), (PV.int (0 : Int)), (PV.list ([] : List PV)), (PV.agg [(PV.int (0 : Int)), (PV.int (0 : Int)), (PV.str (⟨#[]⟩ : ByteArray)), (PV.str (⟨#[]⟩ : ByteArray)), (PV.list ([] : List PV))]), (PV.str (⟨#[]⟩ : ByteArray)), (PV.str (⟨#[]⟩ : ByteArray)), (PV.list ([] : List PV))])]))
  (some (Ex.n, [(PV.bool (eqI ((nth a 1).fld 0).toInt (16 : Int))), ((nth a 1).fld 0), (nth a 2), (nth a 0), (nth a 1), (PV.agg [(PV.int (0 : Int)), (PV.int (0 : Int)), (PV.list ([] : List PV)), (PV.agg [(PV.int (0 : Int)), (PV.int (0 : Int)), (PV.str (⟨#[]⟩ : ByteArray)), (PV.str (⟨#[]⟩ : ByteArray)), (PV.list ([] : List PV))]), (PV.str (⟨#[]⟩ : ByteArray)), (PV.str (⟨#[]⟩ : ByteArray)), (PV.list ([] : List PV))])])))
  (fun p0 => (iff (nth p0 0).toBool
  (iff (geI (0 : Int) (0 : Int))
  (iff (ltI (0 : Int) ((nth p0 2).toList.length : Int))
  (iff (neI ((nth (nth p0 2).toList (0 : Int).toNat).fld 0).toInt (3 : Int))
  ((I 4135 [(nth p0 3)]).bind fun r1 =>
  (some [(nth r1 0), (nth r1 1)]))
  (iff (geI (0 : Int) (0 : Int))
  (iff (ltI (0 : Int) ((nth p0 2).toList.length : Int))
  ((I 57 [(PV.bool (eqI ((nth p0 4).fld 0).toInt (16 : Int)))]).bind fun r2 =>
  (iff (geI (nth r2 0).toInt (0 : Int))
  (iff (ltI (nth r2 0).toInt (((nth (nth p0 2).toList (0 : Int).toNat).fld 2).toList.length : Int))
  (some [(nth ((nth (nth p0 2).toList (0 : Int).toNat).fld 2).toList (nth r2 0).toInt.toNat), (nth p0 3)])
  none)
  none))
  none)
  none))
  none)
  none)
  (iff (eqI (nth p0 1).toInt (17 : Int))
  (iff (geI (0 : Int) (0 : Int))
  (iff (ltI (0 : Int) ((nth p0 2).toList.length : Int))
  ((I 57 [(PV.bool (eqI ((nth (nth p0 2).toList (0 : Int).toNat).fld 0).toInt (3 : Int)))]).bind fun r3 =>
  ((I 34 [(nth r3 0)]).bind fun r4 =>
  (some [(nth r4 0), (nth p0 3)])))
  none)
  none)
  (thenN (thenE (loopEv (L40_0 I n) n [(PV.int (0 : Int)), (nth p0 2), (nth p0 3), (nth p0 4), (nth p0 5)])
  (passB 1))
  (fun p7 => (iff (eqI ((nth p7 2).fld 0).toInt (18 : Int))
  (iff (geI (0 : Int) (0 : Int))
  (iff (ltI (0 : Int) ((nth p7 0).toList.length : Int))
  (iff (leN (((nth p7 1).fld 2).toList.length + (((nth (nth p7 0).toList (0 : Int).toNat).fld 1) :: ([] : List PV)).length) 17592186044416)
  (iff (geI (0 : Int) (0 : Int))
  (iff (ltI (0 : Int) ((nth p7 0).toList.length : Int))
  (some [(nth (nth p7 0).toList (0 : Int).toNat), (((nth p7 1).setFld 2 PV.unit).setFld 2 (PV.list (((nth p7 1).fld 2).toList ++ (((nth (nth p7 0).toList (0 : Int).toNat).fld 1) :: ([] : List PV)))))])
  none)
  none)
  none)
  none)
  none)
  (iff (geI (0 : Int) (0 : Int))
  (iff (ltI (0 : Int) ((nth p7 0).toList.length : Int))
  (iff (geI (1 : Int) (0 : Int))
  (iff (ltI (1 : Int) ((nth p7 0).toList.length : Int))
  ((I 58 [((nth p7 2).fld 0), ((nth (nth p7 0).toList (0 : Int).toNat).fld 1), ((nth (nth p7 0).toList (1 : Int).toNat).fld 1)]).bind fun r8 =>
  ((I 34 [(nth r8 0)]).bind fun r9 =>
  (some [(nth r9 0), (nth p7 1)])))
  none)
  none)
  none)
  none)))
  (retE fun q10 => [(nth q10 1), (nth q10 0)])))))
  (retE fun q11 => [(nth q11 1), (nth q11 0)])))))
theorem e40 : ∀ I n a, (compF Try.prog sg 40).map (fun d => d.ev I n a) = some (F40 I n a) := fun I n a => by kernel_rfl
/-! spec.l11Plain -/
noncomputable def L4136_0 (I : Interp) (n : Nat) (p5 : List PV) : Option (Ex × List PV) :=
  (iff (ltI (nth p5 0).toInt ((nth p5 1).toList.length : Int))
  (iff (geI (nth p5 0).toInt (0 : Int))
  (iff (ltI (nth p5 0).toInt ((nth p5 1).toList.length : Int))
  (iff (neI ((nth (nth p5 1).toList (nth p5 0).toInt.toNat).fld 0).toInt (1 : Int))
  ((I 4135 [(nth p5 2)]).bind fun r6 =>
  (some (Ex.r, [(nth r6 1), (nth r6 0)])))
  (some (Ex.n, [(PV.int (IntKind.i64.wrap ((nth p5 0).toInt + (1 : Int)))), (nth p5 1), (nth p5 2), (nth p5 3), (nth p5 4)])))
  none)
  none)
  (some (Ex.x 1, [(nth p5 1), (nth p5 2), (nth p5 3), (nth p5 4)])))
noncomputable def F4136 (I : Interp) (n : Nat) (a : List PV) : Option (List PV) :=
  (iff (neI ((nth a 0).fld 1).toInt (0 : Int))
  (some [(PV.agg [(PV.int (0 : Int)), (PV.int (0 : Int)), (PV.list ([] : List PV)), (PV.agg [(PV.int (0 : Int)), (PV.int (0 : Int)), (PV.str (⟨#[]⟩ : ByteArray)), (PV.str (⟨#[]⟩ : ByteArray)), (PV.list ([] : List PV))]), (PV.str (⟨#[]⟩ : ByteArray)), (PV.str (⟨#[]⟩ : ByteArray)), (PV.list ([] : List PV))]), (nth a 0)])
  (iff (eqI ((nth a 1).fld 0).toInt (13 : Int))
  (some [(PV.agg [(PV.int (2 : Int)), (PV.int (0 : Int)), (PV.list ([] : List PV)), (PV.agg [(PV.int (0 : Int)), (PV.int (0 : Int)), (PV.str (⟨#[]⟩ : ByteArray)), (PV.str (⟨#[]⟩ : ByteArray)), (PV.list ([] : List PV))]), (PV.str (⟨#[]⟩ : ByteArray)), (PV.str (⟨#[]⟩ : ByteArray)), (PV.list ([] : List PV))]), (nth a 0)])
  (iff (eqI ((nth a 1).fld 0).toInt (14 : Int))
  (some [(PV.agg [(PV.int (3 : Int)), (PV.int (0 : Int)), (nth a 2), (PV.agg [(PV.int (0 : Int)), (PV.int (0 : Int)), (PV.str (⟨#[]⟩ : ByteArray)), (PV.str (⟨#[]⟩ : ByteArray)), (PV.list ([] : List PV))]), (PV.str (⟨#[]⟩ : ByteArray)), (PV.str (⟨#[]⟩ : ByteArray)), (PV.list ([] : List PV))]), (nth a 0)])
  (thenN (iff (eqI ((nth a 1).fld 0).toInt (15 : Int))
  (some (Ex.n, [(PV.bool (eqI ((nth a 1).fld 0).toInt (15 : Int))), ((nth a 1).fld 0), (nth a 2), (nth a 0), (nth a 1), (PV.agg [(PV.int (0 : Int)), (PV.int (0 : Int)), (PV.list ([] : List PV)), (PV.agg [(PV.int (0 : Int)), (PV.int (0 : Int)), (PV.str (⟨#[]⟩ : ByteArray)), (PV.str (⟨#[]⟩ : ByteArray)), (PV.list ([] : List PV))]), (PV.str (⟨#[]⟩ : ByteArray)), (PV.str (⟨#[]⟩ : ByteArray)), (PV.list ([] : List PV))])]))
  (some (Ex.n, [(PV.bool (eqI ((nth a 1).fld 0).toInt (16 : Int))), ((nth a 1).fld 0), (nth a 2), (nth a 0), (nth a 1), (PV.agg [(PV.int (0 : Int)), (PV.int (0 : Int)), (PV.list ([] : List PV)), (PV.agg [(PV.int (0 : Int)), (PV.int (0 : Int)), (PV.str (⟨#[]⟩ : ByteArray)), (PV.str (⟨#[]⟩ : ByteArray)), (PV.list ([] : List PV))]), (PV.str (⟨#[]⟩ : ByteArray)), (PV.str (⟨#[]⟩ : ByteArray)), (PV.list ([] : List PV))])])))
  (fun p0 => (iff (nth p0 0).toBool
  (iff (geI (0 : Int) (0 : Int))
  (iff (ltI (0 : Int) ((nth p0 2).toList.length : Int))
  (iff (neI ((nth (nth p0 2).toList (0 : Int).toNat).fld 0).toInt (3 : Int))
  ((I 4135 [(nth p0 3)]).bind fun r1 =>
  (some [(nth r1 0), (nth r1 1)]))
  (iff (geI (0 : Int) (0 : Int))
  (iff (ltI (0 : Int) ((nth p0 2).toList.length : Int))
  ((I 57 [(PV.bool (eqI ((nth p0 4).fld 0).toInt (16 : Int)))]).bind fun r2 =>
  (iff (geI (nth r2 0).toInt (0 : Int))
  (iff (ltI (nth r2 0).toInt (((nth (nth p0 2).toList (0 : Int).toNat).fld 2).toList.length : Int))
  (some [(nth ((nth (nth p0 2).toList (0 : Int).toNat).fld 2).toList (nth r2 0).toInt.toNat), (nth p0 3)])
  none)
  none))
  none)
  none))
  none)
  none)
  (iff (eqI (nth p0 1).toInt (17 : Int))
  (iff (geI (0 : Int) (0 : Int))
  (iff (ltI (0 : Int) ((nth p0 2).toList.length : Int))
  ((I 57 [(PV.bool (eqI ((nth (nth p0 2).toList (0 : Int).toNat).fld 0).toInt (3 : Int)))]).bind fun r3 =>
  ((I 34 [(nth r3 0)]).bind fun r4 =>
  (some [(nth r4 0), (nth p0 3)])))
  none)
  none)
  (thenN (thenE (loopEv (L4136_0 I n) n [(PV.int (0 : Int)), (nth p0 2), (nth p0 3), (nth p0 4), (nth p0 5)])
  (passB 1))
  (fun p7 => (iff (eqI ((nth p7 2).fld 0).toInt (18 : Int))
  (iff (geI (0 : Int) (0 : Int))
  (iff (ltI (0 : Int) ((nth p7 0).toList.length : Int))
  (iff (leN (((nth p7 1).fld 2).toList.length + (((nth (nth p7 0).toList (0 : Int).toNat).fld 1) :: ([] : List PV)).length) 17592186044416)
  (iff (geI (0 : Int) (0 : Int))
  (iff (ltI (0 : Int) ((nth p7 0).toList.length : Int))
  (some [(nth (nth p7 0).toList (0 : Int).toNat), (((nth p7 1).setFld 2 PV.unit).setFld 2 (PV.list (((nth p7 1).fld 2).toList ++ (((nth (nth p7 0).toList (0 : Int).toNat).fld 1) :: ([] : List PV)))))])
  none)
  none)
  none)
  none)
  none)
  (iff (geI (0 : Int) (0 : Int))
  (iff (ltI (0 : Int) ((nth p7 0).toList.length : Int))
  (iff (geI (1 : Int) (0 : Int))
  (iff (ltI (1 : Int) ((nth p7 0).toList.length : Int))
  ((I 58 [((nth p7 2).fld 0), ((nth (nth p7 0).toList (0 : Int).toNat).fld 1), ((nth (nth p7 0).toList (1 : Int).toNat).fld 1)]).bind fun r8 =>
  ((I 34 [(nth r8 0)]).bind fun r9 =>
  (some [(nth r9 0), (nth p7 1)])))
  none)
  none)
  none)
  none)))
  (retE fun q10 => [(nth q10 1), (nth q10 0)])))))
  (retE fun q11 => [(nth q11 1), (nth q11 0)])))))
theorem e4136 : ∀ I n a, (compF Try.prog sg 4136).map (fun d => d.ev I n a) = some (F4136 I n a) := fun I n a => by kernel_rfl
/-! spec.l11Plain -/
noncomputable def L8232_0 (I : Interp) (n : Nat) (p5 : List PV) : Option (Ex × List PV) :=
  (iff (ltI (nth p5 0).toInt ((nth p5 1).toList.length : Int))
  (iff (geI (nth p5 0).toInt (0 : Int))
  (iff (ltI (nth p5 0).toInt ((nth p5 1).toList.length : Int))
  (iff (neI ((nth (nth p5 1).toList (nth p5 0).toInt.toNat).fld 0).toInt (1 : Int))
  ((I 4135 [(nth p5 2)]).bind fun r6 =>
  (some (Ex.r, [(nth r6 1), (nth p5 4), (nth r6 0)])))
  (some (Ex.n, [(PV.int (IntKind.i64.wrap ((nth p5 0).toInt + (1 : Int)))), (nth p5 1), (nth p5 2), (nth p5 3), (nth p5 4)])))
  none)
  none)
  (some (Ex.x 1, [(nth p5 1), (nth p5 2), (nth p5 3), (nth p5 4)])))
noncomputable def F8232 (I : Interp) (n : Nat) (a : List PV) : Option (List PV) :=
  (iff (neI ((nth a 0).fld 1).toInt (0 : Int))
  (some [(PV.agg [(PV.int (0 : Int)), (PV.int (0 : Int)), (PV.list ([] : List PV)), (PV.agg [(PV.int (0 : Int)), (PV.int (0 : Int)), (PV.str (⟨#[]⟩ : ByteArray)), (PV.str (⟨#[]⟩ : ByteArray)), (PV.list ([] : List PV))]), (PV.str (⟨#[]⟩ : ByteArray)), (PV.str (⟨#[]⟩ : ByteArray)), (PV.list ([] : List PV))]), (nth a 0), (nth a 1)])
  (iff (eqI ((nth a 1).fld 0).toInt (13 : Int))
  (some [(PV.agg [(PV.int (2 : Int)), (PV.int (0 : Int)), (PV.list ([] : List PV)), (PV.agg [(PV.int (0 : Int)), (PV.int (0 : Int)), (PV.str (⟨#[]⟩ : ByteArray)), (PV.str (⟨#[]⟩ : ByteArray)), (PV.list ([] : List PV))]), (PV.str (⟨#[]⟩ : ByteArray)), (PV.str (⟨#[]⟩ : ByteArray)), (PV.list ([] : List PV))]), (nth a 0), (nth a 1)])
  (iff (eqI ((nth a 1).fld 0).toInt (14 : Int))
  (some [(PV.agg [(PV.int (3 : Int)), (PV.int (0 : Int)), (nth a 2), (PV.agg [(PV.int (0 : Int)), (PV.int (0 : Int)), (PV.str (⟨#[]⟩ : ByteArray)), (PV.str (⟨#[]⟩ : ByteArray)), (PV.list ([] : List PV))]), (PV.str (⟨#[]⟩ : ByteArray)), (PV.str (⟨#[]⟩ : ByteArray)), (PV.list ([] : List PV))]), (nth a 0), (nth a 1)])
  (thenN (iff (eqI ((nth a 1).fld 0).toInt (15 : Int))
  (some (Ex.n, [(PV.bool (eqI ((nth a 1).fld 0).toInt (15 : Int))), ((nth a 1).fld 0), (nth a 2), (nth a 0), (PV.agg [(PV.int (0 : Int)), (PV.int (0 : Int)), (PV.list ([] : List PV)), (PV.agg [(PV.int (0 : Int)), (PV.int (0 : Int)), (PV.str (⟨#[]⟩ : ByteArray)), (PV.str (⟨#[]⟩ : ByteArray)), (PV.list ([] : List PV))]), (PV.str (⟨#[]⟩ : ByteArray)), (PV.str (⟨#[]⟩ : ByteArray)), (PV.list ([] : List PV))]), (nth a 1)]))
  (some (Ex.n, [(PV.bool (eqI ((nth a 1).fld 0).toInt (16 : Int))), ((nth a 1).fld 0), (nth a 2), (nth a 0), (PV.agg [(PV.int (0 : Int)), (PV.int (0 : Int)), (PV.list ([] : List PV)), (PV.agg [(PV.int (0 : Int)), (PV.int (0 : Int)), (PV.str (⟨#[]⟩ : ByteArray)), (PV.str (⟨#[]⟩ : ByteArray)), (PV.list ([] : List PV))]), (PV.str (⟨#[]⟩ : ByteArray)), (PV.str (⟨#[]⟩ : ByteArray)), (PV.list ([] : List PV))]), (nth a 1)])))
  (fun p0 => (iff (nth p0 0).toBool
  (iff (geI (0 : Int) (0 : Int))
  (iff (ltI (0 : Int) ((nth p0 2).toList.length : Int))
  (iff (neI ((nth (nth p0 2).toList (0 : Int).toNat).fld 0).toInt (3 : Int))
  ((I 4135 [(nth p0 3)]).bind fun r1 =>
  (some [(nth r1 0), (nth r1 1), (nth p0 5)]))
  (iff (geI (0 : Int) (0 : Int))
  (iff (ltI (0 : Int) ((nth p0 2).toList.length : Int))
  ((I 57 [(PV.bool (eqI ((nth p0 5).fld 0).toInt (16 : Int)))]).bind fun r2 =>
  (iff (geI (nth r2 0).toInt (0 : Int))
  (iff (ltI (nth r2 0).toInt (((nth (nth p0 2).toList (0 : Int).toNat).fld 2).toList.length : Int))
  (some [(nth ((nth (nth p0 2).toList (0 : Int).toNat).fld 2).toList (nth r2 0).toInt.toNat), (nth p0 3), (nth p0 5)])
  none)
  none))
  none)
  none))
  none)
  none)
  (iff (eqI (nth p0 1).toInt (17 : Int))
  (iff (geI (0 : Int) (0 : Int))
  (iff (ltI (0 : Int) ((nth p0 2).toList.length : Int))
  ((I 57 [(PV.bool (eqI ((nth (nth p0 2).toList (0 : Int).toNat).fld 0).toInt (3 : Int)))]).bind fun r3 =>
  ((I 34 [(nth r3 0)]).bind fun r4 =>
  (some [(nth r4 0), (nth p0 3), (nth p0 5)])))
  none)
  none)
  (thenN (thenE (loopEv (L8232_0 I n) n [(PV.int (0 : Int)), (nth p0 2), (nth p0 3), (nth p0 4), (nth p0 5)])
  (passB 1))
  (fun p7 => (iff (eqI ((nth p7 3).fld 0).toInt (18 : Int))
  (iff (geI (0 : Int) (0 : Int))
  (iff (ltI (0 : Int) ((nth p7 0).toList.length : Int))
  (iff (leN (((nth p7 1).fld 2).toList.length + (((nth (nth p7 0).toList (0 : Int).toNat).fld 1) :: ([] : List PV)).length) 17592186044416)
  (iff (geI (0 : Int) (0 : Int))
  (iff (ltI (0 : Int) ((nth p7 0).toList.length : Int))
  (some [(nth (nth p7 0).toList (0 : Int).toNat), (((nth p7 1).setFld 2 PV.unit).setFld 2 (PV.list (((nth p7 1).fld 2).toList ++ (((nth (nth p7 0).toList (0 : Int).toNat).fld 1) :: ([] : List PV))))), (nth p7 3)])
  none)
  none)
  none)
  none)
  none)
  (iff (geI (0 : Int) (0 : Int))
  (iff (ltI (0 : Int) ((nth p7 0).toList.length : Int))
  (iff (geI (1 : Int) (0 : Int))
  (iff (ltI (1 : Int) ((nth p7 0).toList.length : Int))
  ((I 58 [((nth p7 3).fld 0), ((nth (nth p7 0).toList (0 : Int).toNat).fld 1), ((nth (nth p7 0).toList (1 : Int).toNat).fld 1)]).bind fun r8 =>
  ((I 34 [(nth r8 0)]).bind fun r9 =>
  (some [(nth r9 0), (nth p7 1), (nth p7 3)])))
  none)
  none)
  none)
  none)))
  (retE fun q10 => [(nth q10 2), (nth q10 0), (nth q10 1)])))))
  (retE fun q11 => [(nth q11 2), (nth q11 0), (nth q11 1)])))))
theorem e8232 : ∀ I n a, (compF Try.prog sg 8232).map (fun d => d.ev I n a) = some (F8232 I n a) := fun I n a => by kernel_rfl
/-! spec.l11Plain -/
noncomputable def L12328_0 (I : Interp) (n : Nat) (p5 : List PV) : Option (Ex × List PV) :=
  (iff (ltI (nth p5 0).toInt ((nth p5 1).toList.length : Int))
  (iff (geI (nth p5 0).toInt (0 : Int))
  (iff (ltI (nth p5 0).toInt ((nth p5 1).toList.length : Int))
  (iff (neI ((nth (nth p5 1).toList (nth p5 0).toInt.toNat).fld 0).toInt (1 : Int))
  ((I 4135 [(nth p5 2)]).bind fun r6 =>
  (some (Ex.r, [(nth r6 1), (nth p5 4), (nth r6 0)])))
  (some (Ex.n, [(PV.int (IntKind.i64.wrap ((nth p5 0).toInt + (1 : Int)))), (nth p5 1), (nth p5 2), (nth p5 3), (nth p5 4)])))
  none)
  none)
  (some (Ex.x 1, [(nth p5 1), (nth p5 2), (nth p5 3), (nth p5 4)])))
noncomputable def F12328 (I : Interp) (n : Nat) (a : List PV) : Option (List PV) :=
  (iff (neI ((nth a 0).fld 1).toInt (0 : Int))
  (some [(PV.agg [(PV.int (0 : Int)), (PV.int (0 : Int)), (PV.list ([] : List PV)), (PV.agg [(PV.int (0 : Int)), (PV.int (0 : Int)), (PV.str (⟨#[]⟩ : ByteArray)), (PV.str (⟨#[]⟩ : ByteArray)), (PV.list ([] : List PV))]), (PV.str (⟨#[]⟩ : ByteArray)), (PV.str (⟨#[]⟩ : ByteArray)), (PV.list ([] : List PV))]), (nth a 0), (nth a 1)])
  (iff (eqI ((nth a 1).fld 0).toInt (13 : Int))
  (some [(PV.agg [(PV.int (2 : Int)), (PV.int (0 : Int)), (PV.list ([] : List PV)), (PV.agg [(PV.int (0 : Int)), (PV.int (0 : Int)), (PV.str (⟨#[]⟩ : ByteArray)), (PV.str (⟨#[]⟩ : ByteArray)), (PV.list ([] : List PV))]), (PV.str (⟨#[]⟩ : ByteArray)), (PV.str (⟨#[]⟩ : ByteArray)), (PV.list ([] : List PV))]), (nth a 0), (nth a 1)])
  (iff (eqI ((nth a 1).fld 0).toInt (14 : Int))
  (some [(PV.agg [(PV.int (3 : Int)), (PV.int (0 : Int)), (nth a 2), (PV.agg [(PV.int (0 : Int)), (PV.int (0 : Int)), (PV.str (⟨#[]⟩ : ByteArray)), (PV.str (⟨#[]⟩ : ByteArray)), (PV.list ([] : List PV))]), (PV.str (⟨#[]⟩ : ByteArray)), (PV.str (⟨#[]⟩ : ByteArray)), (PV.list ([] : List PV))]), (nth a 0), (nth a 1)])
  (thenN (iff (eqI ((nth a 1).fld 0).toInt (15 : Int))
  (some (Ex.n, [(PV.bool (eqI ((nth a 1).fld 0).toInt (15 : Int))), ((nth a 1).fld 0), (nth a 2), (nth a 0), (PV.agg [(PV.int (0 : Int)), (PV.int (0 : Int)), (PV.list ([] : List PV)), (PV.agg [(PV.int (0 : Int)), (PV.int (0 : Int)), (PV.str (⟨#[]⟩ : ByteArray)), (PV.str (⟨#[]⟩ : ByteArray)), (PV.list ([] : List PV))]), (PV.str (⟨#[]⟩ : ByteArray)), (PV.str (⟨#[]⟩ : ByteArray)), (PV.list ([] : List PV))]), (nth a 1)]))
  (some (Ex.n, [(PV.bool (eqI ((nth a 1).fld 0).toInt (16 : Int))), ((nth a 1).fld 0), (nth a 2), (nth a 0), (PV.agg [(PV.int (0 : Int)), (PV.int (0 : Int)), (PV.list ([] : List PV)), (PV.agg [(PV.int (0 : Int)), (PV.int (0 : Int)), (PV.str (⟨#[]⟩ : ByteArray)), (PV.str (⟨#[]⟩ : ByteArray)), (PV.list ([] : List PV))]), (PV.str (⟨#[]⟩ : ByteArray)), (PV.str (⟨#[]⟩ : ByteArray)), (PV.list ([] : List PV))]), (nth a 1)])))
  (fun p0 => (iff (nth p0 0).toBool
  (iff (geI (0 : Int) (0 : Int))
  (iff (ltI (0 : Int) ((nth p0 2).toList.length : Int))
  (iff (neI ((nth (nth p0 2).toList (0 : Int).toNat).fld 0).toInt (3 : Int))
  ((I 4135 [(nth p0 3)]).bind fun r1 =>
  (some [(nth r1 0), (nth r1 1), (nth p0 5)]))
  (iff (geI (0 : Int) (0 : Int))
  (iff (ltI (0 : Int) ((nth p0 2).toList.length : Int))
  ((I 57 [(PV.bool (eqI ((nth p0 5).fld 0).toInt (16 : Int)))]).bind fun r2 =>
  (iff (geI (nth r2 0).toInt (0 : Int))
  (iff (ltI (nth r2 0).toInt (((nth (nth p0 2).toList (0 : Int).toNat).fld 2).toList.length : Int))
  (some [(nth ((nth (nth p0 2).toList (0 : Int).toNat).fld 2).toList (nth r2 0).toInt.toNat), (nth p0 3), (nth p0 5)])
  none)
  none))
  none)
  none))
  none)
  none)
  (iff (eqI (nth p0 1).toInt (17 : Int))
  (iff (geI (0 : Int) (0 : Int))
  (iff (ltI (0 : Int) ((nth p0 2).toList.length : Int))
  ((I 57 [(PV.bool (eqI ((nth (nth p0 2).toList (0 : Int).toNat).fld 0).toInt (3 : Int)))]).bind fun r3 =>
  ((I 34 [(nth r3 0)]).bind fun r4 =>
  (some [(nth r4 0), (nth p0 3), (nth p0 5)])))
  none)
  none)
  (thenN (thenE (loopEv (L12328_0 I n) n [(PV.int (0 : Int)), (nth p0 2), (nth p0 3), (nth p0 4), (nth p0 5)])
  (passB 1))
  (fun p7 => (iff (eqI ((nth p7 3).fld 0).toInt (18 : Int))
  (iff (geI (0 : Int) (0 : Int))
  (iff (ltI (0 : Int) ((nth p7 0).toList.length : Int))
  (iff (leN (((nth p7 1).fld 2).toList.length + (((nth (nth p7 0).toList (0 : Int).toNat).fld 1) :: ([] : List PV)).length) 17592186044416)
  (iff (geI (0 : Int) (0 : Int))
  (iff (ltI (0 : Int) ((nth p7 0).toList.length : Int))
  (some [(nth (nth p7 0).toList (0 : Int).toNat), (((nth p7 1).setFld 2 PV.unit).setFld 2 (PV.list (((nth p7 1).fld 2).toList ++ (((nth (nth p7 0).toList (0 : Int).toNat).fld 1) :: ([] : List PV))))), (nth p7 3)])
  none)
  none)
  none)
  none)
  none)
  (iff (geI (0 : Int) (0 : Int))
  (iff (ltI (0 : Int) ((nth p7 0).toList.length : Int))
  (iff (geI (1 : Int) (0 : Int))
  (iff (ltI (1 : Int) ((nth p7 0).toList.length : Int))
  ((I 58 [((nth p7 3).fld 0), ((nth (nth p7 0).toList (0 : Int).toNat).fld 1), ((nth (nth p7 0).toList (1 : Int).toNat).fld 1)]).bind fun r8 =>
  ((I 34 [(nth r8 0)]).bind fun r9 =>
  (some [(nth r9 0), (nth p7 1), (nth p7 3)])))
  none)
  none)
  none)
  none)))
  (retE fun q10 => [(nth q10 2), (nth q10 0), (nth q10 1)])))))
  (retE fun q11 => [(nth q11 2), (nth q11 0), (nth q11 1)])))))
theorem e12328 : ∀ I n a, (compF Try.prog sg 12328).map (fun d => d.ev I n a) = some (F12328 I n a) := fun I n a => by kernel_rfl
/-! spec.l11Plain -/
noncomputable def L16424_0 (I : Interp) (n : Nat) (p5 : List PV) : Option (Ex × List PV) :=
  (iff (ltI (nth p5 0).toInt ((nth p5 1).toList.length : Int))
  (iff (geI (nth p5 0).toInt (0 : Int))
  (iff (ltI (nth p5 0).toInt ((nth p5 1).toList.length : Int))
  (iff (neI ((nth (nth p5 1).toList (nth p5 0).toInt.toNat).fld 0).toInt (1 : Int))
  ((I 4135 [(nth p5 2)]).bind fun r6 =>
  (some (Ex.r, [(nth r6 1), (nth r6 0)])))
  (some (Ex.n, [(PV.int (IntKind.i64.wrap ((nth p5 0).toInt + (1 : Int)))), (nth p5 1), (nth p5 2), (nth p5 3), (nth p5 4)])))
  none)
  none)
  (some (Ex.x 1, [(nth p5 1), (nth p5 2), (nth p5 3), (nth p5 4)])))
noncomputable def F16424 (I : Interp) (n : Nat) (a : List PV) : Option (List PV) :=
  (iff (neI ((nth a 0).fld 1).toInt (0 : Int))
  (some [(PV.agg [(PV.int (0 : Int)), (PV.int (0 : Int)), (PV.list ([] : List PV)), (PV.agg [(PV.int (0 : Int)), (PV.int (0 : Int)), (PV.str (⟨#[]⟩ : ByteArray)), (PV.str (⟨#[]⟩ : ByteArray)), (PV.list ([] : List PV))]), (PV.str (⟨#[]⟩ : ByteArray)), (PV.str (⟨#[]⟩ : ByteArray)), (PV.list ([] : List PV))]), (nth a 0)])
  (iff (eqI ((nth a 1).fld 0).toInt (13 : Int))
  (some [(PV.agg [(PV.int (2 : Int)), (PV.int (0 : Int)), (PV.list ([] : List PV)), (PV.agg [(PV.int (0 : Int)), (PV.int (0 : Int)), (PV.str (⟨#[]⟩ : ByteArray)), (PV.str (⟨#[]⟩ : ByteArray)), (PV.list ([] : List PV))]), (PV.str (⟨#[]⟩ : ByteArray)), (PV.str (⟨#[]⟩ : ByteArray)), (PV.list ([] : List PV))]), (nth a 0)])
  (iff (eqI ((nth a 1).fld 0).toInt (14 : Int))
  (some [(PV.agg [(PV.int (3 : Int)), (PV.int (0 : Int)), (nth a 2), (PV.agg [(PV.int (0 : Int)), (PV.int (0 : Int)), (PV.str (⟨#[]⟩ : ByteArray)), (PV.str (⟨#[]⟩ : ByteArray)), (PV.list ([] : List PV))]), (PV.str (⟨#[]⟩ : ByteArray)), (PV.str (⟨#[]⟩ : ByteArray)), (PV.list ([] : List PV))]), (nth a 0)])
  (thenN (iff (eqI ((nth a 1).fld 0).toInt (15 : Int))
  (some (Ex.n, [(PV.bool (eqI ((nth a 1).fld 0).toInt (15 : Int))), ((nth a 1).fld 0), (nth a 2), (nth a 0), (nth a 1), (PV.agg [(PV.int (0 : Int)), (PV.int (0 : Int)), (PV.list ([] : List PV)), (PV.agg [(PV.int (0 : Int)), (PV.int (0 : Int)), (PV.str (⟨#[]⟩ : ByteArray)), (PV.str (⟨#[]⟩ : ByteArray)), (PV.list ([] : List PV))]), (PV.str (⟨#[]⟩ : ByteArray)), (PV.str (⟨#[]⟩ : ByteArray)), (PV.list ([] : List PV))])]))
  (some (Ex.n, [(PV.bool (eqI ((nth a 1).fld 0).toInt (16 : Int))), ((nth a 1).fld 0), (nth a 2), (nth a 0), (nth a 1), (PV.agg [(PV.int (0 : Int)), (PV.int (0 : Int)), (PV.list ([] : List PV)), (PV.agg [(PV.int (0 : Int)), (PV.int (0 : Int)), (PV.str (⟨#[]⟩ : ByteArray)), (PV.str (⟨#[]⟩ : ByteArray)), (PV.list ([] : List PV))]), (PV.str (⟨#[]⟩ : ByteArray)), (PV.str (⟨#[]⟩ : ByteArray)), (PV.list ([] : List PV))])])))
  (fun p0 => (iff (nth p0 0).toBool
  (iff (geI (0 : Int) (0 : Int))
  (iff (ltI (0 : Int) ((nth p0 2).toList.length : Int))
  (iff (neI ((nth (nth p0 2).toList (0 : Int).toNat).fld 0).toInt (3 : Int))
  ((I 4135 [(nth p0 3)]).bind fun r1 =>
  (some [(nth r1 0), (nth r1 1)]))
  (iff (geI (0 : Int) (0 : Int))
  (iff (ltI (0 : Int) ((nth p0 2).toList.length : Int))
  ((I 57 [(PV.bool (eqI ((nth p0 4).fld 0).toInt (16 : Int)))]).bind fun r2 =>
  (iff (geI (nth r2 0).toInt (0 : Int))
  (iff (ltI (nth r2 0).toInt (((nth (nth p0 2).toList (0 : Int).toNat).fld 2).toList.length : Int))
  (some [(nth ((nth (nth p0 2).toList (0 : Int).toNat).fld 2).toList (nth r2 0).toInt.toNat), (nth p0 3)])
  none)
  none))
  none)
  none))
  none)
  none)
  (iff (eqI (nth p0 1).toInt (17 : Int))
  (iff (geI (0 : Int) (0 : Int))
  (iff (ltI (0 : Int) ((nth p0 2).toList.length : Int))
  ((I 57 [(PV.bool (eqI ((nth (nth p0 2).toList (0 : Int).toNat).fld 0).toInt (3 : Int)))]).bind fun r3 =>
  ((I 34 [(nth r3 0)]).bind fun r4 =>
  (some [(nth r4 0), (nth p0 3)])))
  none)
  none)
  (thenN (thenE (loopEv (L16424_0 I n) n [(PV.int (0 : Int)), (nth p0 2), (nth p0 3), (nth p0 4), (nth p0 5)])
  (passB 1))
  (fun p7 => (iff (eqI ((nth p7 2).fld 0).toInt (18 : Int))
  (iff (geI (0 : Int) (0 : Int))
  (iff (ltI (0 : Int) ((nth p7 0).toList.length : Int))
  (iff (leN (((nth p7 1).fld 2).toList.length + (((nth (nth p7 0).toList (0 : Int).toNat).fld 1) :: ([] : List PV)).length) 17592186044416)
  (iff (geI (0 : Int) (0 : Int))
  (iff (ltI (0 : Int) ((nth p7 0).toList.length : Int))
  (some [(nth (nth p7 0).toList (0 : Int).toNat), (((nth p7 1).setFld 2 PV.unit).setFld 2 (PV.list (((nth p7 1).fld 2).toList ++ (((nth (nth p7 0).toList (0 : Int).toNat).fld 1) :: ([] : List PV)))))])
  none)
  none)
  none)
  none)
  none)
  (iff (geI (0 : Int) (0 : Int))
  (iff (ltI (0 : Int) ((nth p7 0).toList.length : Int))
  (iff (geI (1 : Int) (0 : Int))
  (iff (ltI (1 : Int) ((nth p7 0).toList.length : Int))
  ((I 58 [((nth p7 2).fld 0), ((nth (nth p7 0).toList (0 : Int).toNat).fld 1), ((nth (nth p7 0).toList (1 : Int).toNat).fld 1)]).bind fun r8 =>
  ((I 34 [(nth r8 0)]).bind fun r9 =>
  (some [(nth r9 0), (nth p7 1)])))
  none)
  none)
  none)
  none)))
  (retE fun q10 => [(nth q10 1), (nth q10 0)])))))
  (retE fun q11 => [(nth q11 1), (nth q11 0)])))))
theorem e16424 : ∀ I n a, (compF Try.prog sg 16424).map (fun d => d.ev I n a) = some (F16424 I n a) := fun I n a => by kernel_rfl
/-! spec.l11Plain -/
noncomputable def L20520_0 (I : Interp) (n : Nat) (p5 : List PV) : Option (Ex × List PV) :=
  (iff (ltI (nth p5 0).toInt ((nth p5 1).toList.length : Int))
  (iff (geI (nth p5 0).toInt (0 : Int))
  (iff (ltI (nth p5 0).toInt ((nth p5 1).toList.length : Int))
  (iff (neI ((nth (nth p5 1).toList (nth p5 0).toInt.toNat).fld 0).toInt (1 : Int))
  ((I 4135 [(nth p5 2)]).bind fun r6 =>
  (some (Ex.r, [(nth r6 1), (nth r6 0)])))
  (some (Ex.n, [(PV.int (IntKind.i64.wrap ((nth p5 0).toInt + (1 : Int)))), (nth p5 1), (nth p5 2), (nth p5 3), (nth p5 4)])))
  none)
  none)
  (some (Ex.x 1, [(nth p5 1), (nth p5 2), (nth p5 3), (nth p5 4)])))
noncomputable def F20520 (I : Interp) (n : Nat) (a : List PV) : Option (List PV) :=
  (iff (neI ((nth a 0).fld 1).toInt (0 : Int))
  (some [(PV.agg [(PV.int (0 : Int)), (PV.int (0 : Int)), (PV.list ([] : List PV)), (PV.agg [(PV.int (0 : Int)), (PV.int (0 : Int)), (PV.str (⟨#[]⟩ : ByteArray)), (PV.str (⟨#[]⟩ : ByteArray)), (PV.list ([] : List PV))]), (PV.str (⟨#[]⟩ : ByteArray)), (PV.str (⟨#[]⟩ : ByteArray)), (PV.list ([] : List PV))]), (nth a 0)])
  (iff (eqI ((nth a 1).fld 0).toInt (13 : Int))
  (some [(PV.agg [(PV.int (2 : Int)), (PV.int (0 : Int)), (PV.list ([] : List PV)), (PV.agg [(PV.int (0 : Int)), (PV.int (0 : Int)), (PV.str (⟨#[]⟩ : ByteArray)), (PV.str (⟨#[]⟩ : ByteArray)), (PV.list ([] : List PV))]), (PV.str (⟨#[]⟩ : ByteArray)), (PV.str (⟨#[]⟩ : ByteArray)), (PV.list ([] : List PV))]), (nth a 0)])
  (iff (eqI ((nth a 1).fld 0).toInt (14 : Int))
  (some [(PV.agg [(PV.int (3 : Int)), (PV.int (0 : Int)), (nth a 2), (PV.agg [(PV.int (0 : Int)), (PV.int (0 : Int)), (PV.str (⟨#[]⟩ : ByteArray)), (PV.str (⟨#[]⟩ : ByteArray)), (PV.list ([] : List PV))]), (PV.str (⟨#[]⟩ : ByteArray)), (PV.str (⟨#[]⟩ : ByteArray)), (PV.list ([] : List PV))]), (nth a 0)])
  (thenN (iff (eqI ((nth a 1).fld 0).toInt (15 : Int))
  (some (Ex.n, [(PV.bool (eqI ((nth a 1).fld 0).toInt (15 : Int))), ((nth a 1).fld 0), (nth a 2), (nth a 0), (nth a 1), (PV.agg [(PV.int (0 : Int)), (PV.int (0 : Int)), (PV.list ([] : List PV)), (PV.agg [(PV.int (0 : Int)), (PV.int (0 : Int)), (PV.str (⟨#[]⟩ : ByteArray)), (PV.str (⟨#[]⟩ : ByteArray)), (PV.list ([] : List PV))]), (PV.str (⟨#[]⟩ : ByteArray)), (PV.str (⟨#[]⟩ : ByteArray)), (PV.list ([] : List PV))])]))
  (some (Ex.n, [(PV.bool (eqI ((nth a 1).fld 0).toInt (16 : Int))), ((nth a 1).fld 0), (nth a 2), (nth a 0), (nth a 1), (PV.agg [(PV.int (0 : Int)), (PV.int (0 : Int)), (PV.list ([] : List PV)), (PV.agg [(PV.int (0 : Int)), (PV.int (0 : Int)), (PV.str (⟨#[]⟩ : ByteArray)), (PV.str (⟨#[]⟩ : ByteArray)), (PV.list ([] : List PV))]), (PV.str (⟨#[]⟩ : ByteArray)), (PV.str (⟨#[]⟩ : ByteArray)), (PV.list ([] : List PV))])])))
  (fun p0 => (iff (nth p0 0).toBool
  (iff (geI (0 : Int) (0 : Int))
  (iff (ltI (0 : Int) ((nth p0 2).toList.length : Int))
  (iff (neI ((nth (nth p0 2).toList (0 : Int).toNat).fld 0).toInt (3 : Int))
  ((I 4135 [(nth p0 3)]).bind fun r1 =>
  (some [(nth r1 0), (nth r1 1)]))
  (iff (geI (0 : Int) (0 : Int))
  (iff (ltI (0 : Int) ((nth p0 2).toList.length : Int))
  ((I 57 [(PV.bool (eqI ((nth p0 4).fld 0).toInt (16 : Int)))]).bind fun r2 =>
  (iff (geI (nth r2 0).toInt (0 : Int))
  (iff (ltI (nth r2 0).toInt (((nth (nth p0 2).toList (0 : Int).toNat).fld 2).toList.length : Int))
  (some [(nth ((nth (nth p0 2).toList (0 : Int).toNat).fld 2).toList (nth r2 0).toInt.toNat), (nth p0 3)])
  none)
  none))
  none)
  none))
  none)
  none)
  (iff (eqI (nth p0 1).toInt (17 : Int))
  (iff (geI (0 : Int) (0 : Int))
  (iff (ltI (0 : Int) ((nth p0 2).toList.length : Int))
  ((I 57 [(PV.bool (eqI ((nth (nth p0 2).toList (0 : Int).toNat).fld 0).toInt (3 : Int)))]).bind fun r3 =>
  ((I 34 [(nth r3 0)]).bind fun r4 =>
  (some [(nth r4 0), (nth p0 3)])))
  none)
  none)
  (thenN (thenE (loopEv (L20520_0 I n) n [(PV.int (0 : Int)), (nth p0 2), (nth p0 3), (nth p0 4), (nth p0 5)])
  (passB 1))
  (fun p7 => (iff (eqI ((nth p7 2).fld 0).toInt (18 : Int))
  (iff (geI (0 : Int) (0 : Int))
  (iff (ltI (0 : Int) ((nth p7 0).toList.length : Int))
  (iff (leN (((nth p7 1).fld 2).toList.length + (((nth (nth p7 0).toList (0 : Int).toNat).fld 1) :: ([] : List PV)).length) 17592186044416)
  (iff (geI (0 : Int) (0 : Int))
  (iff (ltI (0 : Int) ((nth p7 0).toList.length : Int))
  (some [(nth (nth p7 0).toList (0 : Int).toNat), (((nth p7 1).setFld 2 PV.unit).setFld 2 (PV.list (((nth p7 1).fld 2).toList ++ (((nth (nth p7 0).toList (0 : Int).toNat).fld 1) :: ([] : List PV)))))])
  none)
  none)
  none)
  none)
  none)
  (iff (geI (0 : Int) (0 : Int))
  (iff (ltI (0 : Int) ((nth p7 0).toList.length : Int))
  (iff (geI (1 : Int) (0 : Int))
  (iff (ltI (1 : Int) ((nth p7 0).toList.length : Int))
  ((I 58 [((nth p7 2).fld 0), ((nth (nth p7 0).toList (0 : Int).toNat).fld 1), ((nth (nth p7 0).toList (1 : Int).toNat).fld 1)]).bind fun r8 =>
  ((I 34 [(nth r8 0)]).bind fun r9 =>
  (some [(nth r9 0), (nth p7 1)])))
  none)
  none)
  none)
  none)))
  (retE fun q10 => [(nth q10 1), (nth q10 0)])))))
  (retE fun q11 => [(nth q11 1), (nth q11 0)])))))
theorem e20520 : ∀ I n a, (compF Try.prog sg 20520).map (fun d => d.ev I n a) = some (F20520 I n a) := fun I n a => by kernel_rfl
/-! spec.l9Right -/
noncomputable def L33_0 (I : Interp) (n : Nat) (p14 : List PV) : Option (Ex × List PV) :=
  (iff (ltI (nth p14 0).toInt (((nth p14 2).fld 4).toList.length : Int))
  (iff (geI (nth p14 0).toInt (0 : Int))
  (iff (ltI (nth p14 0).toInt (((nth p14 2).fld 4).toList.length : Int))
  ((I 56 [(nth p14 2), (nth p14 0), (nth p14 1)]).bind fun r15 =>
  ((I 33 [(nth ((nth p14 2).fld 4).toList (nth p14 0).toInt.toNat), (nth r15 0)]).bind fun r16 =>
  (iff (!(nth r16 0).toBool)
  (some (Ex.r, [(PV.bool false)]))
  (some (Ex.n, [(PV.int (IntKind.i64.wrap ((nth p14 0).toInt + (1 : Int)))), (nth p14 1), (nth p14 2)])))))
  none)
  none)
  (some (Ex.x 0, [])))
noncomputable def F33 (I : Interp) (n : Nat) (a : List PV) : Option (List PV) :=
  ((I 52 [((nth a 0).fld 0)]).bind fun r0 =>
  ((iff ((neI (nth r0 0).toInt (((nth a 0).fld 4).toList.length : Int)) == false)
  ((I 53 [(selB ((neI (nth r0 0).toInt (((nth a 0).fld 4).toList.length : Int)) == false) ((nth a 0).fld 0) PV.unit)]).bind fun r1 =>
  (some [(nth r1 0), (nth r1 0)]))
  (some [PV.unit, PV.unit])).bind fun g2 =>
  (letB (selB (neI (nth r0 0).toInt (((nth a 0).fld 4).toList.length : Int)) (PV.bool true) (selB ((neI (nth r0 0).toInt (((nth a 0).fld 4).toList.length : Int)) == false) (PV.bool (((nth g2 0).toBool == (selB ((neI (nth r0 0).toInt (((nth a 0).fld 4).toList.length : Int)) == false) (PV.bool (cmpS BinOp.neq (selB ((neI (nth r0 0).toInt (((nth a 0).fld 4).toList.length : Int)) == false) ((nth a 0).fld 2) PV.unit).toStr (⟨#[]⟩ : ByteArray))) PV.unit).toBool) == false)) PV.unit)) fun v3 =>
  (letB (selB v3.toBool (PV.bool true) (selB (v3.isB false) (PV.bool (((selB (v3.isB false) (PV.bool (eqI (selB (v3.isB false) ((nth a 0).fld 0) PV.unit).toInt (6 : Int))) PV.unit).toBool == (selB (v3.isB false) (PV.bool (cmpS BinOp.neq (selB (v3.isB false) ((nth a 0).fld 3) PV.unit).toStr (⟨#[]⟩ : ByteArray))) PV.unit).toBool) == false)) PV.unit)) fun v4 =>
  (letB (selB (v4.isB false) (selB (selB (v4.isB false) (selB (v4.isB false) (PV.bool (neI (selB (v4.isB false) ((nth a 0).fld 0) PV.unit).toInt (1 : Int))) PV.unit) PV.unit).toBool (selB ((selB (v4.isB false) (selB (v4.isB false) (PV.bool (neI (selB (v4.isB false) ((nth a 0).fld 0) PV.unit).toInt (1 : Int))) PV.unit) PV.unit).isB true) (PV.bool (neI (selB ((selB (v4.isB false) (selB (v4.isB false) (PV.bool (neI (selB (v4.isB false) ((nth a 0).fld 0) PV.unit).toInt (1 : Int))) PV.unit) PV.unit).isB true) ((nth a 0).fld 1) PV.unit).toInt (0 : Int))) PV.unit) (PV.bool false)) PV.unit) fun v5 =>
  (letB (selB v4.toBool (PV.bool true) v5) fun v6 =>
  ((iff (v6.isB false)
  ((I 54 [(selB (v6.isB false) ((nth a 0).fld 1) PV.unit)]).bind fun r7 =>
  (some [(nth r7 0), (nth r7 0)]))
  (some [PV.unit, PV.unit])).bind fun g8 =>
  (letB (selB v6.toBool (PV.bool true) (selB (v6.isB false) (PV.bool (!(nth g8 0).toBool)) PV.unit)) fun v9 =>
  ((iff ((selB (v9.isB false) (selB (v9.isB false) (PV.bool (eqI (selB (v9.isB false) ((nth a 0).fld 0) PV.unit).toInt (2 : Int))) PV.unit) PV.unit).isB true)
  ((I 55 [(selB ((selB (v9.isB false) (selB (v9.isB false) (PV.bool (eqI (selB (v9.isB false) ((nth a 0).fld 0) PV.unit).toInt (2 : Int))) PV.unit) PV.unit).isB true) (nth a 1) PV.unit), (selB ((selB (v9.isB false) (selB (v9.isB false) (PV.bool (eqI (selB (v9.isB false) ((nth a 0).fld 0) PV.unit).toInt (2 : Int))) PV.unit) PV.unit).isB true) ((nth a 0).fld 2) PV.unit)]).bind fun r10 =>
  (some [(nth r10 0), (nth r10 0)]))
  (some [PV.unit, PV.unit])).bind fun g11 =>
  (letB (selB (v9.isB false) (selB (selB (v9.isB false) (selB (v9.isB false) (PV.bool (eqI (selB (v9.isB false) ((nth a 0).fld 0) PV.unit).toInt (2 : Int))) PV.unit) PV.unit).toBool (selB ((selB (v9.isB false) (selB (v9.isB false) (PV.bool (eqI (selB (v9.isB false) ((nth a 0).fld 0) PV.unit).toInt (2 : Int))) PV.unit) PV.unit).isB true) (PV.bool (!(nth g11 0).toBool)) PV.unit) (PV.bool false)) PV.unit) fun v12 =>
  (letB (selB v9.toBool (PV.bool true) v12) fun v13 =>
  (iff v13.toBool
  (some [(PV.bool false)])
  (thenN (thenE (loopEv (L33_0 I n) n [(PV.int (0 : Int)), (nth a 1), (nth a 0)])
  (passB 0))
  (fun p17 => (some [(PV.bool true)]))
  (retE fun q18 => [(nth q18 0)]))))))))))))))
theorem e33 : ∀ I n a, (compF Try.prog sg 33).map (fun d => d.ev I n a) = some (F33 I n a) := fun I n a => ew_ev (g := F33) (fun I n a => by kernel_rfl) I n a
/-! impl.coreParts -/
noncomputable def L41_0 (I : Interp) (n : Nat) (p16 : List PV) : Option (Ex × List PV) :=
  (iff (ltI (nth p16 0).toInt (nth p16 1).toInt)
  (iff (geI (nth p16 0).toInt (0 : Int))
  (iff (ltI (nth p16 0).toInt ((nth p16 2).toList.length : Int))
  ((I 63 [(nth p16 6), (nth p16 0)]).bind fun r17 =>
  ((I 62 [(PV.list ((nth p16 3) :: ((nth r17 0) :: ([] : List PV))))]).bind fun r18 =>
  ((I 41 [(nth (nth p16 2).toList (nth p16 0).toInt.toNat), (nth r18 0), (PV.int (IntKind.i64.wrap ((nth p16 4).toInt + (1 : Int))))]).bind fun r19 =>
  (iff (geI (IntKind.i64.wrap ((nth p16 5).toInt + (nth r19 0).toInt)) (3001 : Int))
  (some (Ex.r, [(PV.int (3001 : Int))]))
  (some (Ex.n, [(PV.int (IntKind.i64.wrap ((nth p16 0).toInt + (1 : Int)))), (nth p16 1), (nth p16 2), (nth p16 3), (nth p16 4), (PV.int (IntKind.i64.wrap ((nth p16 5).toInt + (nth r19 0).toInt))), (nth p16 6)]))))))
  none)
  none)
  (some (Ex.x 0, [(nth p16 5)])))
noncomputable def F41 (I : Interp) (n : Nat) (a : List PV) : Option (List PV) :=
  ((iff ((gtI (nth a 2).toInt (150 : Int)) == false)
  ((I 59 [(selB ((gtI (nth a 2).toInt (150 : Int)) == false) ((nth a 0).fld 0) PV.unit)]).bind fun r0 =>
  (some [(nth r0 0), (nth r0 0)]))
  (some [PV.unit, PV.unit])).bind fun g1 =>
  (letB (selB (gtI (nth a 2).toInt (150 : Int)) (PV.bool true) (selB ((gtI (nth a 2).toInt (150 : Int)) == false) (PV.bool (neI (selB ((gtI (nth a 2).toInt (150 : Int)) == false) (PV.int ((selB ((gtI (nth a 2).toInt (150 : Int)) == false) ((nth a 0).fld 4) PV.unit).toList.length : Int)) PV.unit).toInt (nth g1 0).toInt)) PV.unit)) fun v2 =>
  ((iff (v2.isB false)
  ((I 60 [(selB (v2.isB false) ((nth a 0).fld 1) PV.unit)]).bind fun r3 =>
  (some [(nth r3 0), (nth r3 0)]))
  (some [PV.unit, PV.unit])).bind fun g4 =>
  (letB (selB v2.toBool (PV.bool true) (selB (v2.isB false) (PV.bool (!(nth g4 0).toBool)) PV.unit)) fun v5 =>
  (letB (selB (v5.isB false) (selB (selB (v5.isB false) (selB (v5.isB false) (PV.bool (neI (selB (v5.isB false) ((nth a 0).fld 0) PV.unit).toInt (1 : Int))) PV.unit) PV.unit).toBool (selB ((selB (v5.isB false) (selB (v5.isB false) (PV.bool (neI (selB (v5.isB false) ((nth a 0).fld 0) PV.unit).toInt (1 : Int))) PV.unit) PV.unit).isB true) (PV.bool (neI (selB ((selB (v5.isB false) (selB (v5.isB false) (PV.bool (neI (selB (v5.isB false) ((nth a 0).fld 0) PV.unit).toInt (1 : Int))) PV.unit) PV.unit).isB true) ((nth a 0).fld 1) PV.unit).toInt (0 : Int))) PV.unit) (PV.bool false)) PV.unit) fun v6 =>
  (letB (selB v5.toBool (PV.bool true) v6) fun v7 =>
  (iff v7.toBool
  (some [(PV.int (3001 : Int))])
  (letB (selB (eqI ((nth a 0).fld 0).toInt (2 : Int)) (PV.bool true) (selB ((eqI ((nth a 0).fld 0).toInt (2 : Int)) == false) (PV.bool (eqI (selB ((eqI ((nth a 0).fld 0).toInt (2 : Int)) == false) ((nth a 0).fld 0) PV.unit).toInt (3 : Int))) PV.unit)) fun v8 =>
  (letB (selB v8.toBool (PV.bool true) (selB (v8.isB false) (PV.bool (eqI (selB (v8.isB false) ((nth a 0).fld 0) PV.unit).toInt (5 : Int))) PV.unit)) fun v9 =>
  (letB (selB v9.toBool (PV.bool true) (selB (v9.isB false) (PV.bool (eqI (selB (v9.isB false) ((nth a 0).fld 0) PV.unit).toInt (6 : Int))) PV.unit)) fun v10 =>
  (letB (selB ((v10.toBool == (cmpS BinOp.neq ((nth a 0).fld 2).toStr (⟨#[]⟩ : ByteArray))) == false) (PV.bool true) (selB (((v10.toBool == (cmpS BinOp.neq ((nth a 0).fld 2).toStr (⟨#[]⟩ : ByteArray))) == false) == false) (PV.bool (((selB (((v10.toBool == (cmpS BinOp.neq ((nth a 0).fld 2).toStr (⟨#[]⟩ : ByteArray))) == false) == false) (PV.bool (eqI (selB (((v10.toBool == (cmpS BinOp.neq ((nth a 0).fld 2).toStr (⟨#[]⟩ : ByteArray))) == false) == false) ((nth a 0).fld 0) PV.unit).toInt (6 : Int))) PV.unit).toBool == (selB (((v10.toBool == (cmpS BinOp.neq ((nth a 0).fld 2).toStr (⟨#[]⟩ : ByteArray))) == false) == false) (PV.bool (cmpS BinOp.neq (selB (((v10.toBool == (cmpS BinOp.neq ((nth a 0).fld 2).toStr (⟨#[]⟩ : ByteArray))) == false) == false) ((nth a 0).fld 3) PV.unit).toStr (⟨#[]⟩ : ByteArray))) PV.unit).toBool) == false)) PV.unit)) fun v11 =>
  ((iff ((selB (v11.isB false) (selB (v11.isB false) (PV.bool (eqI (selB (v11.isB false) ((nth a 0).fld 0) PV.unit).toInt (2 : Int))) PV.unit) PV.unit).isB true)
  ((I 61 [(selB ((selB (v11.isB false) (selB (v11.isB false) (PV.bool (eqI (selB (v11.isB false) ((nth a 0).fld 0) PV.unit).toInt (2 : Int))) PV.unit) PV.unit).isB true) (nth a 1) PV.unit), (selB ((selB (v11.isB false) (selB (v11.isB false) (PV.bool (eqI (selB (v11.isB false) ((nth a 0).fld 0) PV.unit).toInt (2 : Int))) PV.unit) PV.unit).isB true) ((nth a 0).fld 2) PV.unit)]).bind fun r12 =>
  (some [(nth r12 0), (nth r12 0)]))
  (some [PV.unit, PV.unit])).bind fun g13 =>
  (letB (selB (v11.isB false) (selB (selB (v11.isB false) (selB (v11.isB false) (PV.bool (eqI (selB (v11.isB false) ((nth a 0).fld 0) PV.unit).toInt (2 : Int))) PV.unit) PV.unit).toBool (selB ((selB (v11.isB false) (selB (v11.isB false) (PV.bool (eqI (selB (v11.isB false) ((nth a 0).fld 0) PV.unit).toInt (2 : Int))) PV.unit) PV.unit).isB true) (PV.bool (!(nth g13 0).toBool)) PV.unit) (PV.bool false)) PV.unit) fun v14 =>
  (letB (selB v11.toBool (PV.bool true) v14) fun v15 =>
  (iff v15.toBool
  (some [(PV.int (3001 : Int))])
  (thenN (thenE (loopEv (L41_0 I n) n [(PV.int (0 : Int)), (PV.int (((nth a 0).fld 4).toList.length : Int)), ((nth a 0).fld 4), (nth a 1), (nth a 2), (PV.int (1 : Int)), (nth a 0)])
  (passB 0))
  (fun p20 => (some [(nth p20 0)]))
  (retE fun q21 => [(nth q21 0)])))))))))))))))))
theorem e41 : ∀ I n a, (compF Try.prog sg 41).map (fun d => d.ev I n a) = some (F41 I n a) := fun I n a => ew_ev (g := F41) (fun I n a => by kernel_rfl) I n a
/-! impl.meaner).built -/
noncomputable def L46_0 (I : Interp) (n : Nat) (p5 : List PV) : Option (Ex × List PV) :=
  (iff (ltI (nth p5 0).toInt (nth p5 1).toInt)
  (iff (geI (nth p5 0).toInt (0 : Int))
  (iff (ltI (nth p5 0).toInt ((nth p5 2).toList.length : Int))
  (iff (gtI ((nth (nth p5 2).toList (nth p5 0).toInt.toNat).toList.length : Int) (0 : Int))
  (iff (gtI ((nth (nth p5 2).toList (nth p5 0).toInt.toNat).toList.length : Int) (0 : Int))
  (iff (neI ((nth (nth (nth p5 2).toList (nth p5 0).toInt.toNat).toList (0 : Int).toNat).fld 0).toInt (1 : Int))
  ((I 4138 [(nth p5 4), (PV.int (2 : Int))]).bind fun r6 =>
  (some (Ex.r, [(nth r6 1), (nth r6 0)])))
  (some (Ex.n, [(PV.int (IntKind.i64.wrap ((nth p5 0).toInt + (1 : Int)))), (nth p5 1), (nth p5 2), (nth p5 3), (nth p5 4), (nth p5 5)])))
  none)
  none)
  none)
  none)
  (some (Ex.x 1, [(nth p5 3), (nth p5 4), (nth p5 5)])))
noncomputable def F46 (I : Interp) (n : Nat) (a : List PV) : Option (List PV) :=
  (iff (eqI ((nth a 1).fld 0).toInt (4 : Int))
  (iff (geI (0 : Int) (0 : Int))
  (iff (ltI (0 : Int) ((nth a 2).toList.length : Int))
  (iff (gtI ((nth (nth a 2).toList (0 : Int).toNat).toList.length : Int) (0 : Int))
  (iff (gtI ((nth (nth a 2).toList (0 : Int).toNat).toList.length : Int) (0 : Int))
  (iff (neI ((nth (nth (nth a 2).toList (0 : Int).toNat).toList (0 : Int).toNat).fld 0).toInt (4 : Int))
  ((I 4138 [(nth a 0), (PV.int (2 : Int))]).bind fun r0 =>
  (some [(nth r0 0), (nth r0 1)]))
  (iff (geI (0 : Int) (0 : Int))
  (iff (ltI (0 : Int) ((nth a 2).toList.length : Int))
  (iff (gtI ((nth (nth a 2).toList (0 : Int).toNat).toList.length : Int) (0 : Int))
  (iff (gtI ((nth (nth a 2).toList (0 : Int).toNat).toList.length : Int) (0 : Int))
  (iff (geI (0 : Int) (0 : Int))
  (iff (ltI (0 : Int) ((nth a 2).toList.length : Int))
  (iff (gtI ((nth (nth a 2).toList (0 : Int).toNat).toList.length : Int) (0 : Int))
  (iff (gtI ((nth (nth a 2).toList (0 : Int).toNat).toList.length : Int) (0 : Int))
  (iff (geI (1 : Int) (0 : Int))
  (iff (ltI (1 : Int) ((nth a 2).toList.length : Int))
  (iff (geI (0 : Int) (0 : Int))
  (iff (ltI (0 : Int) ((nth a 2).toList.length : Int))
  (iff (gtI ((nth (nth a 2).toList (0 : Int).toNat).toList.length : Int) (0 : Int))
  (iff (gtI ((nth (nth a 2).toList (0 : Int).toNat).toList.length : Int) (0 : Int))
  ((I 21 [(nth a 0), ((nth (nth (nth a 2).toList (0 : Int).toNat).toList (0 : Int).toNat).fld 5), (PV.list ((PV.agg [((nth (nth (nth a 2).toList (0 : Int).toNat).toList (0 : Int).toNat).fld 4), (nth (nth a 2).toList (1 : Int).toNat), ((nth (nth (nth a 2).toList (0 : Int).toNat).toList (0 : Int).toNat).fld 6)]) :: ([] : List PV)))]).bind fun r1 =>
  (some [(nth r1 0), (nth r1 1)]))
  none)
  none)
  none)
  none)
  none)
  none)
  none)
  none)
  none)
  none)
  none)
  none)
  none)
  none))
  none)
  none)
  none)
  none)
  (iff (eqI ((nth a 1).fld 0).toInt (14 : Int))
  (iff (geI (0 : Int) (0 : Int))
  (iff (ltI (0 : Int) ((nth a 2).toList.length : Int))
  (iff (geI (1 : Int) (0 : Int))
  (iff (ltI (1 : Int) ((nth a 2).toList.length : Int))
  (some [(PV.list ((PV.agg [(PV.int (3 : Int)), (PV.int (0 : Int)), (nth (nth a 2).toList (0 : Int).toNat), (nth (nth a 2).toList (1 : Int).toNat), (PV.str (⟨#[]⟩ : ByteArray)), (PV.agg [(PV.int (0 : Int)), (PV.int (0 : Int)), (PV.str (⟨#[]⟩ : ByteArray)), (PV.str (⟨#[]⟩ : ByteArray)), (PV.list ([] : List PV))]), (PV.list ([] : List PV))]) :: ([] : List PV))), (nth a 0)])
  none)
  none)
  none)
  none)
  (iff (eqI ((nth a 1).fld 0).toInt (17 : Int))
  (iff (geI (0 : Int) (0 : Int))
  (iff (ltI (0 : Int) ((nth a 2).toList.length : Int))
  (iff (gtI ((nth (nth a 2).toList (0 : Int).toNat).toList.length : Int) (0 : Int))
  (iff (gtI ((nth (nth a 2).toList (0 : Int).toNat).toList.length : Int) (0 : Int))
  ((I 64 [(PV.bool (eqI ((nth (nth (nth a 2).toList (0 : Int).toNat).toList (0 : Int).toNat).fld 0).toInt (3 : Int)))]).bind fun r2 =>
  (some [(nth r2 0), (nth a 0)]))
  none)
  none)
  none)
  none)
  (thenN (iff (eqI ((nth a 1).fld 0).toInt (15 : Int))
  (some (Ex.n, [(PV.bool (eqI ((nth a 1).fld 0).toInt (15 : Int))), (nth a 2), (nth a 0), (nth a 1)]))
  (some (Ex.n, [(PV.bool (eqI ((nth a 1).fld 0).toInt (16 : Int))), (nth a 2), (nth a 0), (nth a 1)])))
  (fun p3 => (iff (nth p3 0).toBool
  (iff (geI (0 : Int) (0 : Int))
  (iff (ltI (0 : Int) ((nth p3 1).toList.length : Int))
  (iff (gtI ((nth (nth p3 1).toList (0 : Int).toNat).toList.length : Int) (0 : Int))
  (iff (gtI ((nth (nth p3 1).toList (0 : Int).toNat).toList.length : Int) (0 : Int))
  (iff (neI ((nth (nth (nth p3 1).toList (0 : Int).toNat).toList (0 : Int).toNat).fld 0).toInt (3 : Int))
  ((I 4138 [(nth p3 2), (PV.int (2 : Int))]).bind fun r4 =>
  (some [(nth r4 0), (nth r4 1)]))
  (iff (eqI ((nth p3 3).fld 0).toInt (15 : Int))
  (iff (geI (0 : Int) (0 : Int))
  (iff (ltI (0 : Int) ((nth p3 1).toList.length : Int))
  (iff (gtI ((nth (nth p3 1).toList (0 : Int).toNat).toList.length : Int) (0 : Int))
  (iff (gtI ((nth (nth p3 1).toList (0 : Int).toNat).toList.length : Int) (0 : Int))
  (some [((nth (nth (nth p3 1).toList (0 : Int).toNat).toList (0 : Int).toNat).fld 2), (nth p3 2)])
  none)
  none)
  none)
  none)
  (iff (geI (0 : Int) (0 : Int))
  (iff (ltI (0 : Int) ((nth p3 1).toList.length : Int))
  (iff (gtI ((nth (nth p3 1).toList (0 : Int).toNat).toList.length : Int) (0 : Int))
  (iff (gtI ((nth (nth p3 1).toList (0 : Int).toNat).toList.length : Int) (0 : Int))
  (some [((nth (nth (nth p3 1).toList (0 : Int).toNat).toList (0 : Int).toNat).fld 3), (nth p3 2)])
  none)
  none)
  none)
  none)))
  none)
  none)
  none)
  none)
  (thenN (thenE (loopEv (L46_0 I n) n [(PV.int (0 : Int)), (PV.int ((nth p3 1).toList.length : Int)), (nth p3 1), (nth p3 1), (nth p3 2), (nth p3 3)])
  (passB 1))
  (fun p7 => (iff (eqI ((nth p7 2).fld 0).toInt (18 : Int))
  (iff (geI (0 : Int) (0 : Int))
  (iff (ltI (0 : Int) ((nth p7 0).toList.length : Int))
  (iff (gtI ((nth (nth p7 0).toList (0 : Int).toNat).toList.length : Int) (0 : Int))
  (iff (gtI ((nth (nth p7 0).toList (0 : Int).toNat).toList.length : Int) (0 : Int))
  (iff (leN (((nth p7 1).fld 2).toList.length + (((nth (nth (nth p7 0).toList (0 : Int).toNat).toList (0 : Int).toNat).fld 1) :: ([] : List PV)).length) 17592186044416)
  (iff (geI (0 : Int) (0 : Int))
  (iff (ltI (0 : Int) ((nth p7 0).toList.length : Int))
  (some [(nth (nth p7 0).toList (0 : Int).toNat), (((nth p7 1).setFld 2 PV.unit).setFld 2 (PV.list (((nth p7 1).fld 2).toList ++ (((nth (nth (nth p7 0).toList (0 : Int).toNat).toList (0 : Int).toNat).fld 1) :: ([] : List PV)))))])
  none)
  none)
  none)
  none)
  none)
  none)
  none)
  (iff (geI (0 : Int) (0 : Int))
  (iff (ltI (0 : Int) ((nth p7 0).toList.length : Int))
  (iff (gtI ((nth (nth p7 0).toList (0 : Int).toNat).toList.length : Int) (0 : Int))
  (iff (gtI ((nth (nth p7 0).toList (0 : Int).toNat).toList.length : Int) (0 : Int))
  (iff (geI (1 : Int) (0 : Int))
  (iff (ltI (1 : Int) ((nth p7 0).toList.length : Int))
  (iff (gtI ((nth (nth p7 0).toList (1 : Int).toNat).toList.length : Int) (0 : Int))
  (iff (gtI ((nth (nth p7 0).toList (1 : Int).toNat).toList.length : Int) (0 : Int))
  ((I 65 [((nth p7 2).fld 0), ((nth (nth (nth p7 0).toList (0 : Int).toNat).toList (0 : Int).toNat).fld 1), ((nth (nth (nth p7 0).toList (1 : Int).toNat).toList (0 : Int).toNat).fld 1)]).bind fun r8 =>
  (some [(nth r8 0), (nth p7 1)]))
  none)
  none)
  none)
  none)
  none)
  none)
  none)
  none)))
  (retE fun q9 => [(nth q9 1), (nth q9 0)]))))
  (retE fun q10 => [(nth q10 1), (nth q10 0)])))))
theorem e46 : ∀ I n a, (compF Try.prog sg 46).map (fun d => d.ev I n a) = some (F46 I n a) := fun I n a => by kernel_rfl
/-! impl.meaner).kid -/
noncomputable def F45 (I : Interp) (n : Nat) (a : List PV) : Option (List PV) :=
  (iff (geI (nth a 2).toInt (0 : Int))
  (iff (ltI (nth a 2).toInt (((nth a 1).fld 4).toList.length : Int))
  ((I 21 [(nth a 0), (nth ((nth a 1).fld 4).toList (nth a 2).toInt.toNat), (nth a 3)]).bind fun r0 =>
  (some [(nth r0 0), (nth r0 1)]))
  none)
  none)
theorem e45 : ∀ I n a, (compF Try.prog sg 45).map (fun d => d.ev I n a) = some (F45 I n a) := fun I n a => by kernel_rfl
/-! impl.meaner).binder -/
noncomputable def F44 (I : Interp) (n : Nat) (a : List PV) : Option (List PV) :=
  (iff (eqI ((nth a 1).fld 0).toInt (3 : Int))
  (iff (geI (0 : Int) (0 : Int))
  (iff (ltI (0 : Int) (((nth a 1).fld 4).toList.length : Int))
  (some [(PV.list ((PV.agg [(PV.int (4 : Int)), (PV.int (0 : Int)), (PV.list ([] : List PV)), (PV.list ([] : List PV)), ((nth a 1).fld 2), (nth ((nth a 1).fld 4).toList (0 : Int).toNat), (nth a 2)]) :: ([] : List PV))), (nth a 0)])
  none)
  none)
  (iff (eqI ((nth a 1).fld 0).toInt (5 : Int))
  ((I 45 [(nth a 0), (nth a 1), (PV.int (0 : Int)), (nth a 2)]).bind fun r0 =>
  (iff (neI ((nth r0 1).fld 1).toInt (0 : Int))
  (some [(nth r0 0), (nth r0 1)])
  ((I 45 [(nth r0 1), (nth a 1), (PV.int (1 : Int)), (PV.list ((PV.agg [((nth a 1).fld 2), (nth r0 0), (nth a 2)]) :: ([] : List PV)))]).bind fun r1 =>
  (some [(nth r1 0), (nth r1 1)]))))
  (iff (geI (0 : Int) (0 : Int))
  (iff (ltI (0 : Int) (((nth a 1).fld 4).toList.length : Int))
  (iff (gtI (((PV.agg [(PV.int (4 : Int)), (PV.int (0 : Int)), (PV.list ([] : List PV)), (PV.list ([] : List PV)), ((nth a 1).fld 3), (nth ((nth a 1).fld 4).toList (0 : Int).toNat), (PV.list ((PV.agg [((nth a 1).fld 2), (PV.agg [(PV.agg [(PV.int (4 : Int)), (PV.int (0 : Int)), (PV.list ([] : List PV)), (PV.list ([] : List PV)), ((nth a 1).fld 3), (nth ((nth a 1).fld 4).toList (0 : Int).toNat), PV.unit])]), (nth a 2)]) :: ([] : List PV)))]) :: ([] : List PV)).length : Int) (0 : Int))
  ((I 45 [(nth a 0), (nth a 1), (PV.int (1 : Int)), ((nth ((PV.agg [(PV.int (4 : Int)), (PV.int (0 : Int)), (PV.list ([] : List PV)), (PV.list ([] : List PV)), ((nth a 1).fld 3), (nth ((nth a 1).fld 4).toList (0 : Int).toNat), (PV.list ((PV.agg [((nth a 1).fld 2), (PV.agg [(PV.agg [(PV.int (4 : Int)), (PV.int (0 : Int)), (PV.list ([] : List PV)), (PV.list ([] : List PV)), ((nth a 1).fld 3), (nth ((nth a 1).fld 4).toList (0 : Int).toNat), PV.unit])]), (nth a 2)]) :: ([] : List PV)))]) :: ([] : List PV)) (0 : Int).toNat).fld 6)]).bind fun r2 =>
  (some [(nth r2 0), (nth r2 1)]))
  none)
  none)
  none)))
theorem e44 : ∀ I n a, (compF Try.prog sg 44).map (fun d => d.ev I n a) = some (F44 I n a) := fun I n a => by kernel_rfl
/-! impl.meaner).eval -/
noncomputable def L21_0 (I : Interp) (n : Nat) (p3 : List PV) : Option (Ex × List PV) :=
  (iff (gtI ((nth p3 0).toList.length : Int) (0 : Int))
  (iff (gtI ((nth p3 0).toList.length : Int) (0 : Int))
  (iff (gtI ((nth p3 0).toList.length : Int) (0 : Int))
  (iff (cmpS BinOp.eql ((nth (nth p3 0).toList (0 : Int).toNat).fld 0).toStr ((nth p3 1).fld 2).toStr)
  (iff (gtI ((nth p3 0).toList.length : Int) (0 : Int))
  (iff (gtI ((nth p3 0).toList.length : Int) (0 : Int))
  (some (Ex.r, [(nth p3 2), (unrec (nth p3 0))]))
  none)
  none)
  (iff (gtI ((nth p3 0).toList.length : Int) (0 : Int))
  (iff (gtI ((nth p3 0).toList.length : Int) (0 : Int))
  (some (Ex.n, [((nth (nth p3 0).toList (0 : Int).toNat).fld 2), (nth p3 1), (nth p3 2)]))
  none)
  none))
  none)
  none)
  (some (Ex.x 1, [(nth p3 2)])))
noncomputable def L21_1 (I : Interp) (n : Nat) (p13 : List PV) : Option (Ex × List PV) :=
  (iff (ltI (nth p13 0).toInt (nth p13 1).toInt)
  ((I 45 [(nth p13 4), (nth p13 5), (nth p13 0), (nth p13 2)]).bind fun r14 =>
  (iff (leN ((nth p13 3).toList.length + ((nth r14 0) :: ([] : List PV)).length) 17592186044416)
  (iff (neI ((nth r14 1).fld 1).toInt (0 : Int))
  (iff (geI (nth p13 0).toInt (0 : Int))
  (iff (ltI (nth p13 0).toInt (((nth p13 3).toList ++ ((nth r14 0) :: ([] : List PV))).length : Int))
  (some (Ex.r, [(nth r14 1), (nth ((nth p13 3).toList ++ ((nth r14 0) :: ([] : List PV))) (nth p13 0).toInt.toNat)]))
  none)
  none)
  (some (Ex.n, [(PV.int (IntKind.i64.wrap ((nth p13 0).toInt + (1 : Int)))), (nth p13 1), (nth p13 2), (PV.list ((nth p13 3).toList ++ ((nth r14 0) :: ([] : List PV)))), (nth r14 1), (nth p13 5)])))
  none))
  (some (Ex.x 3, [(nth p13 3), (nth p13 4), (nth p13 5)])))
noncomputable def F21 (I : Interp) (n : Nat) (a : List PV) : Option (List PV) :=
  (iff (neI ((nth a 0).fld 1).toInt (0 : Int))
  ((I 4138 [(nth a 0), ((nth a 0).fld 1)]).bind fun r0 =>
  (some [(nth r0 0), (nth r0 1)]))
  (iff (leI ((nth a 0).fld 0).toInt (0 : Int))
  ((I 4138 [(nth a 0), (PV.int (1 : Int))]).bind fun r1 =>
  (some [(nth r1 0), (nth r1 1)]))
  (iff (eqI ((nth a 1).fld 0).toInt (1 : Int))
  ((I 43 [((nth a 1).fld 1)]).bind fun r2 =>
  (some [(nth r2 0), ((nth a 0).setFld 0 (PV.int (IntKind.i64.wrap (((nth a 0).fld 0).toInt - (1 : Int)))))]))
  (iff (eqI ((nth a 1).fld 0).toInt (13 : Int))
  (some [(PV.list ((PV.agg [(PV.int (2 : Int)), (PV.int (0 : Int)), (PV.list ([] : List PV)), (PV.list ([] : List PV)), (PV.str (⟨#[]⟩ : ByteArray)), (PV.agg [(PV.int (0 : Int)), (PV.int (0 : Int)), (PV.str (⟨#[]⟩ : ByteArray)), (PV.str (⟨#[]⟩ : ByteArray)), (PV.list ([] : List PV))]), (PV.list ([] : List PV))]) :: ([] : List PV))), ((nth a 0).setFld 0 (PV.int (IntKind.i64.wrap (((nth a 0).fld 0).toInt - (1 : Int)))))])
  (iff (eqI ((nth a 1).fld 0).toInt (2 : Int))
  (thenN (thenE (loopEv (L21_0 I n) n [(nth a 2), (nth a 1), ((nth a 0).setFld 0 (PV.int (IntKind.i64.wrap (((nth a 0).fld 0).toInt - (1 : Int)))))])
  (passB 1))
  (fun p4 => ((I 4138 [(nth p4 0), (PV.int (2 : Int))]).bind fun r5 =>
  (some [(nth r5 0), (nth r5 1)])))
  (retE fun q6 => [(nth q6 1), (nth q6 0)]))
  (thenN (iff (eqI ((nth a 1).fld 0).toInt (3 : Int))
  (some (Ex.n, [(PV.bool (eqI ((nth a 1).fld 0).toInt (3 : Int))), ((nth a 1).fld 0), (nth a 2), ((nth a 0).setFld 0 (PV.int (IntKind.i64.wrap (((nth a 0).fld 0).toInt - (1 : Int))))), (nth a 1)]))
  (iff (eqI ((nth a 1).fld 0).toInt (5 : Int))
  (some (Ex.n, [(PV.bool (eqI ((nth a 1).fld 0).toInt (5 : Int))), ((nth a 1).fld 0), (nth a 2), ((nth a 0).setFld 0 (PV.int (IntKind.i64.wrap (((nth a 0).fld 0).toInt - (1 : Int))))), (nth a 1)]))
  (some (Ex.n, [(PV.bool (eqI ((nth a 1).fld 0).toInt (6 : Int))), ((nth a 1).fld 0), (nth a 2), ((nth a 0).setFld 0 (PV.int (IntKind.i64.wrap (((nth a 0).fld 0).toInt - (1 : Int))))), (nth a 1)]))))
  (fun p7 => (iff (nth p7 0).toBool
  ((I 44 [(nth p7 3), (nth p7 4), (nth p7 2)]).bind fun r8 =>
  (some [(nth r8 0), (nth r8 1)]))
  (iff (eqI (nth p7 1).toInt (7 : Int))
  ((I 45 [(nth p7 3), (nth p7 4), (PV.int (0 : Int)), (nth p7 2)]).bind fun r9 =>
  (iff (neI ((nth r9 1).fld 1).toInt (0 : Int))
  (some [(nth r9 0), (nth r9 1)])
  (iff (gtI ((nth r9 0).toList.length : Int) (0 : Int))
  (iff (gtI ((nth r9 0).toList.length : Int) (0 : Int))
  (iff (neI ((nth (nth r9 0).toList (0 : Int).toNat).fld 0).toInt (1 : Int))
  ((I 4138 [(nth r9 1), (PV.int (2 : Int))]).bind fun r10 =>
  (some [(nth r10 0), (nth r10 1)]))
  (iff (gtI ((nth r9 0).toList.length : Int) (0 : Int))
  (iff (gtI ((nth r9 0).toList.length : Int) (0 : Int))
  (iff (eqI ((nth (nth r9 0).toList (0 : Int).toNat).fld 1).toInt (0 : Int))
  ((I 45 [(nth r9 1), (nth p7 4), (PV.int (2 : Int)), (nth p7 2)]).bind fun r11 =>
  (some [(nth r11 0), (nth r11 1)]))
  ((I 45 [(nth r9 1), (nth p7 4), (PV.int (1 : Int)), (nth p7 2)]).bind fun r12 =>
  (some [(nth r12 0), (nth r12 1)])))
  none)
  none))
  none)
  none)))
  (thenN (thenE (loopEv (L21_1 I n) n [(PV.int (0 : Int)), (PV.int (((nth p7 4).fld 4).toList.length : Int)), (nth p7 2), (PV.list ([] : List PV)), (nth p7 3), (nth p7 4)])
  (passB 3))
  (fun p15 => ((I 46 [(nth p15 1), (nth p15 2), (nth p15 0)]).bind fun r16 =>
  (some [(nth r16 0), (nth r16 1)])))
  (retE fun q17 => [(nth q17 1), (nth q17 0)])))))
  (retE fun q18 => [(nth q18 1), (nth q18 0)])))))))
theorem e21 : ∀ I n a, (compF Try.prog sg 21).map (fun d => d.ev I n a) = some (F21 I n a) := fun I n a => by kernel_rfl
/-! impl.CoreOk -/
noncomputable def F20 (I : Interp) (n : Nat) (a : List PV) : Option (List PV) :=
  ((I 41 [(nth a 0), (PV.list ([] : List PV)), (PV.int (1 : Int))]).bind fun r0 =>
  (some [(PV.bool (leI (nth r0 0).toInt (3000 : Int)))]))
theorem e20 : ∀ I n a, (compF Try.prog sg 20).map (fun d => d.ev I n a) = some (F20 I n a) := fun I n a => by kernel_rfl
/-! spec.l11Call -/
noncomputable def F37 (I : Interp) (n : Nat) (a : List PV) : Option (List PV) :=
  (iff (neI ((nth a 0).fld 1).toInt (0 : Int))
  (some [(PV.agg [(PV.int (0 : Int)), (PV.int (0 : Int)), (PV.list ([] : List PV)), (PV.agg [(PV.int (0 : Int)), (PV.int (0 : Int)), (PV.str (⟨#[]⟩ : ByteArray)), (PV.str (⟨#[]⟩ : ByteArray)), (PV.list ([] : List PV))]), (PV.str (⟨#[]⟩ : ByteArray)), (PV.str (⟨#[]⟩ : ByteArray)), (PV.list ([] : List PV))]), (nth a 0)])
  (iff (neI ((nth a 1).fld 0).toInt (4 : Int))
  ((I 4135 [(nth a 0)]).bind fun r0 =>
  (some [(nth r0 0), (nth r0 1)]))
  (thenN (iff (cmpS BinOp.neq ((nth a 1).fld 5).toStr (⟨#[]⟩ : ByteArray))
  ((I 38 [((nth a 1).fld 6), ((nth a 1).fld 5), (nth a 1)]).bind fun r1 =>
  (some (Ex.n, [(nth r1 0), (nth a 0), (nth a 1), (nth a 2), (PV.agg [(PV.int (0 : Int)), (PV.int (0 : Int)), (PV.list ([] : List PV)), (PV.agg [(PV.int (0 : Int)), (PV.int (0 : Int)), (PV.str (⟨#[]⟩ : ByteArray)), (PV.str (⟨#[]⟩ : ByteArray)), (PV.list ([] : List PV))]), (PV.str (⟨#[]⟩ : ByteArray)), (PV.str (⟨#[]⟩ : ByteArray)), (PV.list ([] : List PV))])])))
  (some (Ex.n, [((nth a 1).fld 6), (nth a 0), (nth a 1), (nth a 2), (PV.agg [(PV.int (0 : Int)), (PV.int (0 : Int)), (PV.list ([] : List PV)), (PV.agg [(PV.int (0 : Int)), (PV.int (0 : Int)), (PV.str (⟨#[]⟩ : ByteArray)), (PV.str (⟨#[]⟩ : ByteArray)), (PV.list ([] : List PV))]), (PV.str (⟨#[]⟩ : ByteArray)), (PV.str (⟨#[]⟩ : ByteArray)), (PV.list ([] : List PV))])])))
  (fun p2 => ((I 38 [(nth p2 0), ((nth p2 2).fld 4), (nth p2 3)]).bind fun r3 =>
  ((I 16 [(nth p2 1), ((nth p2 2).fld 3), (nth r3 0)]).bind fun r4 =>
  (some [(nth r4 0), (nth r4 1)]))))
  (retE fun q5 => [(nth q5 1), (nth q5 0)]))))
theorem e37 : ∀ I n a, (compF Try.prog sg 37).map (fun d => d.ev I n a) = some (F37 I n a) := fun I n a => by kernel_rfl
/-! spec.l11Kids -/
noncomputable def L36_0 (I : Interp) (n : Nat) (p0 : List PV) : Option (Ex × List PV) :=
  (iff (ltI (nth p0 0).toInt (((nth p0 4).fld 4).toList.length : Int))
  (iff (geI (nth p0 0).toInt (0 : Int))
  (iff (ltI (nth p0 0).toInt (((nth p0 4).fld 4).toList.length : Int))
  ((I 16 [(nth p0 3), (nth ((nth p0 4).fld 4).toList (nth p0 0).toInt.toNat), (nth p0 1)]).bind fun r1 =>
  (iff (leN ((nth p0 2).toList.length + ((nth r1 0) :: ([] : List PV)).length) 837723144972)
  (some (Ex.n, [(PV.int (IntKind.i64.wrap ((nth p0 0).toInt + (1 : Int)))), (nth p0 1), (PV.list ((nth p0 2).toList ++ ((nth r1 0) :: ([] : List PV)))), (nth r1 1), (nth p0 4)]))
  none))
  none)
  none)
  (some (Ex.x 0, [(nth p0 3), (nth p0 2)])))
noncomputable def F36 (I : Interp) (n : Nat) (a : List PV) : Option (List PV) :=
  (thenN (thenE (loopEv (L36_0 I n) n [(PV.int (0 : Int)), (nth a 2), (PV.list ([] : List PV)), (nth a 0), (nth a 1)])
  (passB 0))
  (fun p2 => (some [(nth p2 1), (nth p2 0)]))
  (retE fun q3 => [(nth q3 1), (nth q3 0)]))
theorem e36 : ∀ I n a, (compF Try.prog sg 36).map (fun d => d.ev I n a) = some (F36 I n a) := fun I n a => by kernel_rfl
/-! spec.l11E -/
noncomputable def F16 (I : Interp) (n : Nat) (a : List PV) : Option (List PV) :=
  (iff (neI ((nth a 0).fld 1).toInt (0 : Int))
  (some [(PV.agg [(PV.int (0 : Int)), (PV.int (0 : Int)), (PV.list ([] : List PV)), (PV.agg [(PV.int (0 : Int)), (PV.int (0 : Int)), (PV.str (⟨#[]⟩ : ByteArray)), (PV.str (⟨#[]⟩ : ByteArray)), (PV.list ([] : List PV))]), (PV.str (⟨#[]⟩ : ByteArray)), (PV.str (⟨#[]⟩ : ByteArray)), (PV.list ([] : List PV))]), (nth a 0)])
  (iff (leI ((nth a 0).fld 0).toInt (0 : Int))
  (some [(PV.agg [(PV.int (0 : Int)), (PV.int (0 : Int)), (PV.list ([] : List PV)), (PV.agg [(PV.int (0 : Int)), (PV.int (0 : Int)), (PV.str (⟨#[]⟩ : ByteArray)), (PV.str (⟨#[]⟩ : ByteArray)), (PV.list ([] : List PV))]), (PV.str (⟨#[]⟩ : ByteArray)), (PV.str (⟨#[]⟩ : ByteArray)), (PV.list ([] : List PV))]), ((nth a 0).setFld 1 (PV.int (1 : Int)))])
  (iff (eqI ((nth a 1).fld 0).toInt (1 : Int))
  ((I 34 [((nth a 1).fld 1)]).bind fun r0 =>
  (some [(nth r0 0), ((nth a 0).setFld 0 (PV.int (IntKind.i64.wrap (((nth a 0).fld 0).toInt - (1 : Int)))))]))
  (iff (eqI ((nth a 1).fld 0).toInt (2 : Int))
  ((I 8227 [((nth a 0).setFld 0 (PV.int (IntKind.i64.wrap (((nth a 0).fld 0).toInt - (1 : Int))))), (nth a 2), ((nth a 1).fld 2)]).bind fun r1 =>
  (some [(nth r1 0), (nth r1 1)]))
  (iff (eqI ((nth a 1).fld 0).toInt (3 : Int))
  (iff (geI (0 : Int) (0 : Int))
  (iff (ltI (0 : Int) (((nth a 1).fld 4).toList.length : Int))
  (some [(PV.agg [(PV.int (4 : Int)), (PV.int (0 : Int)), (PV.list ([] : List PV)), (nth ((nth a 1).fld 4).toList (0 : Int).toNat), ((nth a 1).fld 2), (PV.str (⟨#[]⟩ : ByteArray)), (nth a 2)]), ((nth a 0).setFld 0 (PV.int (IntKind.i64.wrap (((nth a 0).fld 0).toInt - (1 : Int)))))])
  none)
  none)
  (iff (eqI ((nth a 1).fld 0).toInt (4 : Int))
  ((I 36 [((nth a 0).setFld 0 (PV.int (IntKind.i64.wrap (((nth a 0).fld 0).toInt - (1 : Int))))), (nth a 1), (nth a 2)]).bind fun r2 =>
  (iff (geI (0 : Int) (0 : Int))
  (iff (ltI (0 : Int) ((nth r2 0).toList.length : Int))
  (iff (geI (1 : Int) (0 : Int))
  (iff (ltI (1 : Int) ((nth r2 0).toList.length : Int))
  ((I 37 [(nth r2 1), (nth (nth r2 0).toList (0 : Int).toNat), (nth (nth r2 0).toList (1 : Int).toNat)]).bind fun r3 =>
  (some [(nth r3 0), (nth r3 1)]))
  none)
  none)
  none)
  none))
  (iff (eqI ((nth a 1).fld 0).toInt (5 : Int))
  (iff (geI (0 : Int) (0 : Int))
  (iff (ltI (0 : Int) (((nth a 1).fld 4).toList.length : Int))
  ((I 16 [((nth a 0).setFld 0 (PV.int (IntKind.i64.wrap (((nth a 0).fld 0).toInt - (1 : Int))))), (nth ((nth a 1).fld 4).toList (0 : Int).toNat), (nth a 2)]).bind fun r4 =>
  (iff (geI (1 : Int) (0 : Int))
  (iff (ltI (1 : Int) (((nth a 1).fld 4).toList.length : Int))
  ((I 38 [(nth a 2), ((nth a 1).fld 2), (nth r4 0)]).bind fun r5 =>
  ((I 16 [(nth r4 1), (nth ((nth a 1).fld 4).toList (1 : Int).toNat), (nth r5 0)]).bind fun r6 =>
  (some [(nth r6 0), (nth r6 1)])))
  none)
  none))
  none)
  none)
  (iff (eqI ((nth a 1).fld 0).toInt (6 : Int))
  (iff (geI (0 : Int) (0 : Int))
  (iff (ltI (0 : Int) (((nth a 1).fld 4).toList.length : Int))
  (iff (geI (1 : Int) (0 : Int))
  (iff (ltI (1 : Int) (((nth a 1).fld 4).toList.length : Int))
  ((I 38 [(nth a 2), ((nth a 1).fld 2), (PV.agg [(PV.int (4 : Int)), (PV.int (0 : Int)), (PV.list ([] : List PV)), (nth ((nth a 1).fld 4).toList (0 : Int).toNat), ((nth a 1).fld 3), ((nth a 1).fld 2), (nth a 2)])]).bind fun r7 =>
  ((I 16 [((nth a 0).setFld 0 (PV.int (IntKind.i64.wrap (((nth a 0).fld 0).toInt - (1 : Int))))), (nth ((nth a 1).fld 4).toList (1 : Int).toNat), (nth r7 0)]).bind fun r8 =>
  (some [(nth r8 0), (nth r8 1)])))
  none)
  none)
  none)
  none)
  (iff (eqI ((nth a 1).fld 0).toInt (7 : Int))
  (iff (geI (0 : Int) (0 : Int))
  (iff (ltI (0 : Int) (((nth a 1).fld 4).toList.length : Int))
  ((I 16 [((nth a 0).setFld 0 (PV.int (IntKind.i64.wrap (((nth a 0).fld 0).toInt - (1 : Int))))), (nth ((nth a 1).fld 4).toList (0 : Int).toNat), (nth a 2)]).bind fun r9 =>
  (iff (selB (eqI ((nth r9 1).fld 1).toInt (0 : Int)) (selB ((eqI ((nth r9 1).fld 1).toInt (0 : Int)) == true) (PV.bool (neI (selB ((eqI ((nth r9 1).fld 1).toInt (0 : Int)) == true) ((nth r9 0).fld 0) PV.unit).toInt (1 : Int))) PV.unit) (PV.bool false)).toBool
  ((I 4135 [(nth r9 1)]).bind fun r10 =>
  (some [(nth r10 0), (nth r10 1)]))
  (iff (neI ((nth r9 0).fld 1).toInt (0 : Int))
  (iff (geI (1 : Int) (0 : Int))
  (iff (ltI (1 : Int) (((nth a 1).fld 4).toList.length : Int))
  ((I 16 [(nth r9 1), (nth ((nth a 1).fld 4).toList (1 : Int).toNat), (nth a 2)]).bind fun r11 =>
  (some [(nth r11 0), (nth r11 1)]))
  none)
  none)
  (iff (geI (2 : Int) (0 : Int))
  (iff (ltI (2 : Int) (((nth a 1).fld 4).toList.length : Int))
  ((I 16 [(nth r9 1), (nth ((nth a 1).fld 4).toList (2 : Int).toNat), (nth a 2)]).bind fun r12 =>
  (some [(nth r12 0), (nth r12 1)]))
  none)
  none))))
  none)
  none)
  ((I 36 [((nth a 0).setFld 0 (PV.int (IntKind.i64.wrap (((nth a 0).fld 0).toInt - (1 : Int))))), (nth a 1), (nth a 2)]).bind fun r13 =>
  ((I 40 [(nth r13 1), (nth a 1), (nth r13 0)]).bind fun r14 =>
  (some [(nth r14 0), (nth r14 1)]))))))))))))
theorem e16 : ∀ I n a, (compF Try.prog sg 16).map (fun d => d.ev I n a) = some (F16 I n a) := fun I n a => by kernel_rfl
/-! spec.CoreOk -/
noncomputable def F14 (I : Interp) (n : Nat) (a : List PV) : Option (List PV) :=
  ((I 31 [(nth a 0)]).bind fun r0 =>
  ((iff ((leI (nth r0 0).toInt (3000 : Int)) == true)
  ((I 32 [(selB ((leI (nth r0 0).toInt (3000 : Int)) == true) (nth a 0) PV.unit)]).bind fun r1 =>
  (some [(nth r1 0), (nth r1 0)]))
  (some [PV.unit, PV.unit])).bind fun g2 =>
  ((iff ((selB (leI (nth r0 0).toInt (3000 : Int)) (selB ((leI (nth r0 0).toInt (3000 : Int)) == true) (PV.bool (leI (nth g2 0).toInt (150 : Int))) PV.unit) (PV.bool false)).isB true)
  ((I 33 [(selB ((selB (leI (nth r0 0).toInt (3000 : Int)) (selB ((leI (nth r0 0).toInt (3000 : Int)) == true) (PV.bool (leI (nth g2 0).toInt (150 : Int))) PV.unit) (PV.bool false)).isB true) (nth a 0) PV.unit), (selB ((selB (leI (nth r0 0).toInt (3000 : Int)) (selB ((leI (nth r0 0).toInt (3000 : Int)) == true) (PV.bool (leI (nth g2 0).toInt (150 : Int))) PV.unit) (PV.bool false)).isB true) (PV.list ([] : List PV)) PV.unit)]).bind fun r3 =>
  (some [(nth r3 0), (nth r3 0)]))
  (some [PV.unit, PV.unit])).bind fun g4 =>
  (some [(selB (selB (leI (nth r0 0).toInt (3000 : Int)) (selB ((leI (nth r0 0).toInt (3000 : Int)) == true) (PV.bool (leI (nth g2 0).toInt (150 : Int))) PV.unit) (PV.bool false)).toBool (nth g4 0) (PV.bool false))]))))
theorem e14 : ∀ I n a, (compF Try.prog sg 14).map (fun d => d.ev I n a) = some (F14 I n a) := fun I n a => by kernel_rfl
/-! impl.Eval -/
noncomputable def F7 (I : Interp) (n : Nat) (a : List PV) : Option (List PV) :=
  ((I 20 [(nth a 0)]).bind fun r0 =>
  (iff (!(nth r0 0).toBool)
  (some [(PV.agg [(PV.int (2 : Int)), (PV.agg [(PV.int (0 : Int)), (PV.int (0 : Int)), (PV.list ([] : List PV))]), (PV.list ([] : List PV))])])
  ((I 21 [(PV.agg [(selB (ltI (4000 : Int) (nth a 1).toInt) (PV.int (4000 : Int)) (nth a 1)), (PV.int (0 : Int)), (PV.list ([] : List PV))]), (nth a 0), (PV.list ([] : List PV))]).bind fun r1 =>
  (thenN (iff (eqI ((nth r1 1).fld 1).toInt (0 : Int))
  ((I 22 [(nth r1 0), (PV.int (16 : Int))]).bind fun r2 =>
  (iff (nth r2 1).toBool
  (some (Ex.r, [(PV.agg [(PV.int (0 : Int)), (nth r2 0), ((nth r1 1).fld 2)])]))
  (some (Ex.n, [((nth r1 1).setFld 1 (PV.int (1 : Int))), (PV.agg [(PV.int (0 : Int)), (PV.agg [(PV.int (0 : Int)), (PV.int (0 : Int)), (PV.list ([] : List PV))]), (PV.list ([] : List PV))])]))))
  (some (Ex.n, [(nth r1 1), (PV.agg [(PV.int (0 : Int)), (PV.agg [(PV.int (0 : Int)), (PV.int (0 : Int)), (PV.list ([] : List PV))]), (PV.list ([] : List PV))])])))
  (fun p3 => (some [(PV.agg [((nth p3 0).fld 1), (PV.agg [(PV.int (0 : Int)), (PV.int (0 : Int)), (PV.list ([] : List PV))]), ((nth p3 0).fld 2)])]))
  (retE fun q4 => [(nth q4 0)])))))
theorem e7 : ∀ I n a, (compF Try.prog sg 7).map (fun d => d.ev I n a) = some (F7 I n a) := fun I n a => by kernel_rfl
/-! spec.Eval -/
noncomputable def F5 (I : Interp) (n : Nat) (a : List PV) : Option (List PV) :=
  ((I 14 [(nth a 0)]).bind fun r0 =>
  (iff (!(nth r0 0).toBool)
  (some [(PV.agg [(PV.int (2 : Int)), (PV.agg [(PV.int (0 : Int)), (PV.int (0 : Int)), (PV.list ([] : List PV))]), (PV.list ([] : List PV))])])
  ((I 15 [(nth a 1), (PV.int (4000 : Int))]).bind fun r1 =>
  ((I 16 [(PV.agg [(nth r1 0), (PV.int (0 : Int)), (PV.list ([] : List PV))]), (nth a 0), (PV.list ([] : List PV))]).bind fun r2 =>
  (thenN ((iff ((eqI ((nth r2 1).fld 1).toInt (0 : Int)) == true)
  ((I 17 [(selB ((eqI ((nth r2 1).fld 1).toInt (0 : Int)) == true) (nth r2 0) PV.unit), (PV.int (16 : Int))]).bind fun r3 =>
  (some [(nth r3 0), (nth r3 0)]))
  (some [PV.unit, PV.unit])).bind fun g4 =>
  (iff (selB (eqI ((nth r2 1).fld 1).toInt (0 : Int)) (nth g4 0) (PV.bool false)).toBool
  (some (Ex.n, [(nth r2 0), ((nth r2 1).setFld 1 (PV.int (1 : Int))), (PV.agg [(PV.int (0 : Int)), (PV.agg [(PV.int (0 : Int)), (PV.int (0 : Int)), (PV.list ([] : List PV))]), (PV.list ([] : List PV))])]))
  (some (Ex.n, [(nth r2 0), (nth r2 1), (PV.agg [(PV.int (0 : Int)), (PV.agg [(PV.int (0 : Int)), (PV.int (0 : Int)), (PV.list ([] : List PV))]), (PV.list ([] : List PV))])]))))
  (fun p5 => (iff (neI ((nth p5 1).fld 1).toInt (0 : Int))
  (some [(PV.agg [((nth p5 1).fld 1), (PV.agg [(PV.int (0 : Int)), (PV.int (0 : Int)), (PV.list ([] : List PV))]), ((nth p5 1).fld 2)])])
  ((I 18 [(nth p5 0)]).bind fun r6 =>
  (some [(PV.agg [(PV.int (0 : Int)), (nth r6 0), ((nth p5 1).fld 2)])]))))
  (retE fun q7 => [(nth q7 0)]))))))
theorem e5 : ∀ I n a, (compF Try.prog sg 5).map (fun d => d.ev I n a) = some (F5 I n a) := fun I n a => by kernel_rfl
/-! laws.FnExactEval -/
noncomputable def F3 (I : Interp) (n : Nat) (a : List PV) : Option (List PV) :=
  ((I 4 [(nth a 0), (PV.int (1048576 : Int))]).bind fun r0 =>
  (iff (ltI (nth r0 0).toInt (0 : Int))
  (some [(PV.bool true)])
  ((I 6 [(nth a 0)]).bind fun r1 =>
  ((I 5 [(nth r1 0), (nth a 1)]).bind fun r2 =>
  ((I 6 [(nth a 0)]).bind fun r3 =>
  ((I 7 [(nth r3 0), (nth a 1)]).bind fun r4 =>
  ((I 8 [(nth r4 0), (nth r2 0)]).bind fun r5 =>
  (iff (!(nth r5 0).toBool)
  (some [(PV.bool false)])
  ((I 6 [(nth a 0)]).bind fun r6 =>
  ((I 9 [(nth r3 0), (nth r6 0)]).bind fun r7 =>
  (iff (!(nth r7 0).toBool)
  (some [(PV.bool false)])
  ((I 10 [(nth r3 0), (PV.int (1 : Int))]).bind fun r8 =>
  ((iff ((ltI (nth r8 0).toInt (0 : Int)) == false)
  ((I 8 [(nth r4 0), (nth r2 0)]).bind fun r9 =>
  (some [(nth r9 0), (nth r9 0)]))
  (some [PV.unit, PV.unit])).bind fun g10 =>
  (iff (selB (ltI (nth r8 0).toInt (0 : Int)) (PV.bool true) (selB ((ltI (nth r8 0).toInt (0 : Int)) == false) (PV.bool (!(nth g10 0).toBool)) PV.unit)).toBool
  (some [(PV.bool false)])
  ((I 11 [(nth r4 0), (PV.int (1 : Int))]).bind fun r11 =>
  ((I 12 [(nth r11 1), (PV.int (1 : Int))]).bind fun r12 =>
  (iff (ltI (nth r12 0).toInt (0 : Int))
  (some [(PV.bool false)])
  (iff (neI (nth r12 0).toInt (nth r11 0).toInt)
  (some [(PV.bool false)])
  ((I 6 [(nth a 0)]).bind fun r13 =>
  ((I 7 [(nth r13 0), (nth a 1)]).bind fun r14 =>
  ((I 8 [(nth r14 0), (nth r2 0)]).bind fun r15 =>
  (iff (!(nth r15 0).toBool)
  (some [(PV.bool false)])
  ((I 12 [(nth r11 1), (PV.int (1 : Int))]).bind fun r16 =>
  (iff (ltI (nth r16 0).toInt (0 : Int))
  (some [(PV.bool false)])
  (iff (neI (nth r16 0).toInt (nth r11 0).toInt)
  (some [(PV.bool false)])
  (some [(PV.bool true)]))))))))))))))))))))))))))
theorem e3 : ∀ I n a, (compF Try.prog sg 3).map (fun d => d.ev I n a) = some (F3 I n a) := fun I n a => by kernel_rfl
end Go.Proofs.Ytdkfgnnebaahaaa.GFnExactEval
