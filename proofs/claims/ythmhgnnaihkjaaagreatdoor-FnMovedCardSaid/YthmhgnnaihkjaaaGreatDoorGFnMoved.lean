/- The pure programs of the functions that the law FnMoved reaches, out of the compiled code. No conditions. -/
import Derived.Test.YthmhgnnaihkjaaaGreatDoorRows
import Derived.Test.YthmhgnnaihkjaaaGreatDoorRscZr
namespace Go.Proofs.YthmhgnnaihkjaaaGreatDoor.GFnMoved
open Go Go.Rsc Go.Proofs.YthmhgnnaihkjaaaGreatDoor
set_option maxRecDepth 100000
set_option linter.unusedVariables false
def sg : FuncId → Option Sig := fun f => match f with
  | 65 => some { ps := [PM.ro (SD.int (IntKind.i64))], rs := [RM.v (SD.str)], orc := some (Orc.itoa) }
  | 34 => some { ps := [PM.mut (SD.own 3 false)], rs := [], orc := some (Orc.sort) }
  | 32 => some { ps := [PM.ro (SD.sc (SD.bor 3) (SD.sc (SD.int (IntKind.i64)) (SD.sc (SD.int (IntKind.i64)) (SD.sc (SD.int (IntKind.i64)) (SD.sn)))))], rs := [RM.v (SD.sc (SD.own 3 false) (SD.sc (SD.int (IntKind.i64)) (SD.sc (SD.int (IntKind.i64)) (SD.sc (SD.int (IntKind.i64)) (SD.sn)))))], orc := none }
  | 39 => some { ps := [PM.ro (SD.int (IntKind.i64))], rs := [RM.v (SD.int (IntKind.i64))], orc := none }
  | 43 => some { ps := [PM.ro (SD.int (IntKind.i64))], rs := [RM.v (SD.str)], orc := none }
  | 9 => some { ps := [PM.ro (SD.bor 3), PM.ro (SD.bor 3)], rs := [RM.v (SD.bool)], orc := none }
  | 24 => some { ps := [PM.ro (SD.bor 3)], rs := [RM.v (SD.own 3 false)], orc := none }
  | 90 => some { ps := [PM.ro (SD.int (IntKind.i64))], rs := [RM.v (SD.bool)], orc := none }
  | 97 => some { ps := [PM.ro (SD.int (IntKind.i64))], rs := [RM.v (SD.bool)], orc := none }
  | 30 => some { ps := [PM.ro (SD.int (IntKind.i64))], rs := [RM.v (SD.int (IntKind.i64))], orc := none }
  | 28 => some { ps := [PM.ro (SD.int (IntKind.i64))], rs := [RM.v (SD.bool)], orc := none }
  | 54 => some { ps := [PM.ro (SD.int (IntKind.i64)), PM.ro (SD.int (IntKind.i64)), PM.ro (SD.int (IntKind.i64))], rs := [RM.v (SD.bool)], orc := none }
  | 105 => some { ps := [PM.ro (SD.bool)], rs := [RM.v (SD.int (IntKind.i64))], orc := none }
  | 42 => some { ps := [PM.ro (SD.int (IntKind.i64))], rs := [RM.v (SD.bool), RM.v (SD.int (IntKind.i64)), RM.v (SD.int (IntKind.i64))], orc := none }
  | 66 => some { ps := [PM.ro (SD.int (IntKind.i64))], rs := [RM.v (SD.int (IntKind.i64))], orc := none }
  | 88 => some { ps := [PM.ro (SD.bor 3), PM.ro (SD.int (IntKind.i64))], rs := [RM.v (SD.bool)], orc := none }
  | 63 => some { ps := [PM.ro (SD.int (IntKind.i64))], rs := [RM.v (SD.int (IntKind.i64))], orc := none }
  | 61 => some { ps := [PM.ro (SD.int (IntKind.i64))], rs := [RM.v (SD.bool)], orc := none }
  | 50 => some { ps := [PM.ref 61 (SD.sc (SD.bor 5) (SD.sc (SD.int (IntKind.i64)) (SD.sc (SD.int (IntKind.i64)) (SD.sn)))) (SD.sc (SD.bor 5) (SD.sc (SD.int (IntKind.i64)) (SD.sc (SD.int (IntKind.i64)) (SD.sn))))], rs := [RM.v (SD.int (IntKind.i64))], orc := none }
  | 4146 => some { ps := [PM.ref 61 (SD.sc (SD.own 5 false) (SD.sc (SD.int (IntKind.i64)) (SD.sc (SD.int (IntKind.i64)) (SD.sn)))) (SD.sc (SD.own 5 false) (SD.sc (SD.int (IntKind.i64)) (SD.sc (SD.int (IntKind.i64)) (SD.sn))))], rs := [RM.v (SD.int (IntKind.i64))], orc := none }
  | 75 => some { ps := [PM.ro (SD.int (IntKind.i64)), PM.ro (SD.int (IntKind.i64)), PM.ro (SD.int (IntKind.i64))], rs := [RM.v (SD.bool)], orc := none }
  | 19 => some { ps := [PM.ro (SD.bor 5)], rs := [RM.bx 61 (SD.sc (SD.bor 5) (SD.sc (SD.int (IntKind.i64)) (SD.sc (SD.int (IntKind.i64)) (SD.sn))))], orc := none }
  | 4 => some { ps := [PM.ro (SD.bor 5)], rs := [RM.v (SD.bool)], orc := none }
  | 73 => some { ps := [PM.ro (SD.int (IntKind.i64))], rs := [RM.v (SD.int (IntKind.i64))], orc := none }
  | 83 => some { ps := [PM.ro (SD.int (IntKind.i64)), PM.ro (SD.int (IntKind.i64))], rs := [RM.v (SD.bool)], orc := none }
  | 29 => some { ps := [PM.ro (SD.int (IntKind.i64))], rs := [RM.v (SD.int (IntKind.i64))], orc := none }
  | 62 => some { ps := [PM.ro (SD.bor 3), PM.ro (SD.int (IntKind.i64))], rs := [RM.v (SD.bool)], orc := none }
  | 68 => some { ps := [PM.ro (SD.int (IntKind.i64))], rs := [RM.v (SD.bool)], orc := none }
  | 64 => some { ps := [PM.ro (SD.bor 3), PM.ro (SD.int (IntKind.i64))], rs := [RM.v (SD.own 3 false)], orc := none }
  | 23 => some { ps := [PM.ro (SD.sc (SD.bor 3) (SD.sc (SD.int (IntKind.i64)) (SD.sc (SD.int (IntKind.i64)) (SD.sc (SD.int (IntKind.i64)) (SD.sn)))))], rs := [RM.v (SD.sc (SD.own 3 false) (SD.sc (SD.int (IntKind.i64)) (SD.sc (SD.int (IntKind.i64)) (SD.sc (SD.int (IntKind.i64)) (SD.sn)))))], orc := none }
  | 76 => some { ps := [PM.ro (SD.int (IntKind.i64))], rs := [RM.v (SD.bool)], orc := none }
  | 21 => some { ps := [PM.ref 61 (SD.sc (SD.bor 5) (SD.sc (SD.int (IntKind.i64)) (SD.sc (SD.int (IntKind.i64)) (SD.sn)))) (SD.sc (SD.bor 5) (SD.sc (SD.int (IntKind.i64)) (SD.sc (SD.int (IntKind.i64)) (SD.sn)))), PM.ro (SD.int (IntKind.i64))], rs := [RM.v (SD.int (IntKind.i64))], orc := none }
  | 4117 => some { ps := [PM.ref 61 (SD.sc (SD.own 5 false) (SD.sc (SD.int (IntKind.i64)) (SD.sc (SD.int (IntKind.i64)) (SD.sn)))) (SD.sc (SD.own 5 false) (SD.sc (SD.int (IntKind.i64)) (SD.sc (SD.int (IntKind.i64)) (SD.sn)))), PM.ro (SD.int (IntKind.i64))], rs := [RM.v (SD.int (IntKind.i64))], orc := none }
  | 69 => some { ps := [PM.ro (SD.int (IntKind.i64))], rs := [RM.v (SD.sc (SD.own 3 false) (SD.sc (SD.int (IntKind.i64)) (SD.sc (SD.int (IntKind.i64)) (SD.sc (SD.int (IntKind.i64)) (SD.sn))))), RM.v (SD.bool)], orc := none }
  | 38 => some { ps := [PM.ro (SD.int (IntKind.i64))], rs := [RM.v (SD.str)], orc := none }
  | 99 => some { ps := [PM.ro (SD.bool), PM.ro (SD.int (IntKind.i64)), PM.ro (SD.int (IntKind.i64))], rs := [RM.v (SD.int (IntKind.i64))], orc := none }
  | 8 => some { ps := [PM.ro (SD.sc (SD.bor 3) (SD.sc (SD.int (IntKind.i64)) (SD.sc (SD.int (IntKind.i64)) (SD.sc (SD.int (IntKind.i64)) (SD.sn))))), PM.ro (SD.sc (SD.bor 3) (SD.sc (SD.int (IntKind.i64)) (SD.sc (SD.int (IntKind.i64)) (SD.sc (SD.int (IntKind.i64)) (SD.sn)))))], rs := [RM.v (SD.bool)], orc := none }
  | 40 => some { ps := [PM.ro (SD.int (IntKind.i64))], rs := [RM.v (SD.bool), RM.v (SD.int (IntKind.i64)), RM.v (SD.int (IntKind.i64)), RM.v (SD.bool)], orc := none }
  | 72 => some { ps := [PM.ref 61 (SD.sc (SD.bor 5) (SD.sc (SD.int (IntKind.i64)) (SD.sc (SD.int (IntKind.i64)) (SD.sn)))) (SD.sc (SD.bor 5) (SD.sc (SD.int (IntKind.i64)) (SD.sc (SD.int (IntKind.i64)) (SD.sn)))), PM.ro (SD.int (IntKind.i64))], rs := [RM.v (SD.bool)], orc := none }
  | 4168 => some { ps := [PM.ref 61 (SD.sc (SD.own 5 false) (SD.sc (SD.int (IntKind.i64)) (SD.sc (SD.int (IntKind.i64)) (SD.sn)))) (SD.sc (SD.own 5 false) (SD.sc (SD.int (IntKind.i64)) (SD.sc (SD.int (IntKind.i64)) (SD.sn)))), PM.ro (SD.int (IntKind.i64))], rs := [RM.v (SD.bool)], orc := none }
  | 53 => some { ps := [PM.ro (SD.bor 3), PM.ref 65 (SD.mp true) (SD.mp true), PM.ref 24 (SD.own 3 false) (SD.own 3 false)], rs := [], orc := none }
  | 4149 => some { ps := [PM.mut (SD.own 3 false), PM.ref 65 (SD.mp true) (SD.mp true), PM.ref 24 (SD.own 3 false) (SD.own 3 false)], rs := [], orc := none }
  | 8245 => some { ps := [PM.mv (SD.own 3 false), PM.ref 65 (SD.mp true) (SD.mp true), PM.ref 24 (SD.own 3 false) (SD.own 3 false)], rs := [], orc := none }
  | 91 => some { ps := [PM.mv (SD.sc (SD.own 3 false) (SD.sc (SD.int (IntKind.i64)) (SD.sc (SD.int (IntKind.i64)) (SD.sc (SD.int (IntKind.i64)) (SD.sn))))), PM.ro (SD.bool), PM.ro (SD.int (IntKind.i64)), PM.ro (SD.bor 3)], rs := [RM.v (SD.sc (SD.own 3 false) (SD.sc (SD.int (IntKind.i64)) (SD.sc (SD.int (IntKind.i64)) (SD.sc (SD.int (IntKind.i64)) (SD.sn))))), RM.v (SD.int (IntKind.i64)), RM.v (SD.bool)], orc := none }
  | 4187 => some { ps := [PM.mv (SD.sc (SD.own 3 false) (SD.sc (SD.int (IntKind.i64)) (SD.sc (SD.int (IntKind.i64)) (SD.sc (SD.int (IntKind.i64)) (SD.sn))))), PM.ro (SD.bool), PM.ro (SD.int (IntKind.i64)), PM.mut (SD.own 3 false)], rs := [RM.v (SD.sc (SD.own 3 false) (SD.sc (SD.int (IntKind.i64)) (SD.sc (SD.int (IntKind.i64)) (SD.sc (SD.int (IntKind.i64)) (SD.sn))))), RM.v (SD.int (IntKind.i64)), RM.v (SD.bool)], orc := none }
  | 8283 => some { ps := [PM.mv (SD.sc (SD.own 3 false) (SD.sc (SD.int (IntKind.i64)) (SD.sc (SD.int (IntKind.i64)) (SD.sc (SD.int (IntKind.i64)) (SD.sn))))), PM.ro (SD.bool), PM.ro (SD.int (IntKind.i64)), PM.mv (SD.own 3 false)], rs := [RM.v (SD.sc (SD.own 3 false) (SD.sc (SD.int (IntKind.i64)) (SD.sc (SD.int (IntKind.i64)) (SD.sc (SD.int (IntKind.i64)) (SD.sn))))), RM.v (SD.int (IntKind.i64)), RM.v (SD.bool)], orc := none }
  | 70 => some { ps := [PM.ro (SD.int (IntKind.i64))], rs := [RM.v (SD.int (IntKind.i64))], orc := none }
  | 49 => some { ps := [PM.ref 61 (SD.sc (SD.bor 5) (SD.sc (SD.int (IntKind.i64)) (SD.sc (SD.int (IntKind.i64)) (SD.sn)))) (SD.sc (SD.bor 5) (SD.sc (SD.int (IntKind.i64)) (SD.sc (SD.int (IntKind.i64)) (SD.sn)))), PM.ro (SD.bor 3)], rs := [RM.v (SD.int (IntKind.i64))], orc := none }
  | 4145 => some { ps := [PM.ref 61 (SD.sc (SD.bor 5) (SD.sc (SD.int (IntKind.i64)) (SD.sc (SD.int (IntKind.i64)) (SD.sn)))) (SD.sc (SD.bor 5) (SD.sc (SD.int (IntKind.i64)) (SD.sc (SD.int (IntKind.i64)) (SD.sn)))), PM.mut (SD.own 3 false)], rs := [RM.v (SD.int (IntKind.i64))], orc := none }
  | 8241 => some { ps := [PM.ref 61 (SD.sc (SD.bor 5) (SD.sc (SD.int (IntKind.i64)) (SD.sc (SD.int (IntKind.i64)) (SD.sn)))) (SD.sc (SD.bor 5) (SD.sc (SD.int (IntKind.i64)) (SD.sc (SD.int (IntKind.i64)) (SD.sn)))), PM.mv (SD.own 3 false)], rs := [RM.v (SD.int (IntKind.i64))], orc := none }
  | 12337 => some { ps := [PM.ref 61 (SD.sc (SD.own 5 false) (SD.sc (SD.int (IntKind.i64)) (SD.sc (SD.int (IntKind.i64)) (SD.sn)))) (SD.sc (SD.own 5 false) (SD.sc (SD.int (IntKind.i64)) (SD.sc (SD.int (IntKind.i64)) (SD.sn)))), PM.ro (SD.bor 3)], rs := [RM.v (SD.int (IntKind.i64))], orc := none }
  | 16433 => some { ps := [PM.ref 61 (SD.sc (SD.own 5 false) (SD.sc (SD.int (IntKind.i64)) (SD.sc (SD.int (IntKind.i64)) (SD.sn)))) (SD.sc (SD.own 5 false) (SD.sc (SD.int (IntKind.i64)) (SD.sc (SD.int (IntKind.i64)) (SD.sn)))), PM.mut (SD.own 3 false)], rs := [RM.v (SD.int (IntKind.i64))], orc := none }
  | 20529 => some { ps := [PM.ref 61 (SD.sc (SD.own 5 false) (SD.sc (SD.int (IntKind.i64)) (SD.sc (SD.int (IntKind.i64)) (SD.sn)))) (SD.sc (SD.own 5 false) (SD.sc (SD.int (IntKind.i64)) (SD.sc (SD.int (IntKind.i64)) (SD.sn)))), PM.mv (SD.own 3 false)], rs := [RM.v (SD.int (IntKind.i64))], orc := none }
  | 56 => some { ps := [PM.ro (SD.sc (SD.bor 3) (SD.sc (SD.int (IntKind.i64)) (SD.sc (SD.int (IntKind.i64)) (SD.sc (SD.int (IntKind.i64)) (SD.sn)))))], rs := [RM.v (SD.own 3 false), RM.v (SD.bool)], orc := none }
  | 36 => some { ps := [PM.ro (SD.bor 3), PM.ro (SD.int (IntKind.i64))], rs := [RM.v (SD.own 3 false)], orc := none }
  | 26 => some { ps := [PM.ro (SD.sc (SD.bor 3) (SD.sc (SD.int (IntKind.i64)) (SD.sc (SD.int (IntKind.i64)) (SD.sc (SD.int (IntKind.i64)) (SD.sn))))), PM.ro (SD.int (IntKind.i64))], rs := [RM.v (SD.bor 3)], orc := none }
  | 67 => some { ps := [PM.ro (SD.bor 3), PM.ro (SD.int (IntKind.i64))], rs := [RM.v (SD.int (IntKind.i64)), RM.v (SD.bool)], orc := none }
  | 27 => some { ps := [PM.ro (SD.int (IntKind.i64)), PM.ref 45 (SD.mp false) (SD.mp false)], rs := [RM.v (SD.int (IntKind.i64))], orc := none }
  | 46 => some { ps := [PM.ro (SD.int (IntKind.i64))], rs := [RM.v (SD.bool)], orc := none }
  | 41 => some { ps := [PM.ro (SD.int (IntKind.i64)), PM.ro (SD.bor 3)], rs := [RM.v (SD.str)], orc := none }
  | 45 => some { ps := [PM.ro (SD.sc (SD.bor 3) (SD.sc (SD.int (IntKind.i64)) (SD.sc (SD.int (IntKind.i64)) (SD.sc (SD.int (IntKind.i64)) (SD.sn)))))], rs := [RM.v (SD.own 3 false), RM.v (SD.bool)], orc := none }
  | 58 => some { ps := [PM.ref 70 (SD.sc (SD.sc (SD.own 3 false) (SD.sc (SD.int (IntKind.i64)) (SD.sc (SD.int (IntKind.i64)) (SD.sc (SD.int (IntKind.i64)) (SD.sn))))) (SD.sc (SD.sc (SD.own 3 false) (SD.sc (SD.int (IntKind.i64)) (SD.sc (SD.int (IntKind.i64)) (SD.sc (SD.int (IntKind.i64)) (SD.sn))))) (SD.sc (SD.own 3 false) (SD.sc (SD.own 3 false) (SD.sn))))) (SD.sc (SD.sc (SD.own 3 false) (SD.sc (SD.int (IntKind.i64)) (SD.sc (SD.int (IntKind.i64)) (SD.sc (SD.int (IntKind.i64)) (SD.sn))))) (SD.sc (SD.sc (SD.own 3 false) (SD.sc (SD.int (IntKind.i64)) (SD.sc (SD.int (IntKind.i64)) (SD.sc (SD.int (IntKind.i64)) (SD.sn))))) (SD.sc (SD.own 3 false) (SD.sc (SD.own 3 false) (SD.sn))))), PM.ro (SD.int (IntKind.i64))], rs := [RM.v (SD.int (IntKind.i64))], orc := none }
  | 4154 => some { ps := [PM.ref 70 (SD.sc (SD.sc (SD.bor 3) (SD.sc (SD.int (IntKind.i64)) (SD.sc (SD.int (IntKind.i64)) (SD.sc (SD.int (IntKind.i64)) (SD.sn))))) (SD.sc (SD.sc (SD.own 3 false) (SD.sc (SD.int (IntKind.i64)) (SD.sc (SD.int (IntKind.i64)) (SD.sc (SD.int (IntKind.i64)) (SD.sn))))) (SD.sc (SD.own 3 false) (SD.sc (SD.own 3 false) (SD.sn))))) (SD.sc (SD.sc (SD.bor 3) (SD.sc (SD.int (IntKind.i64)) (SD.sc (SD.int (IntKind.i64)) (SD.sc (SD.int (IntKind.i64)) (SD.sn))))) (SD.sc (SD.sc (SD.own 3 false) (SD.sc (SD.int (IntKind.i64)) (SD.sc (SD.int (IntKind.i64)) (SD.sc (SD.int (IntKind.i64)) (SD.sn))))) (SD.sc (SD.own 3 false) (SD.sc (SD.own 3 false) (SD.sn))))), PM.ro (SD.int (IntKind.i64))], rs := [RM.v (SD.int (IntKind.i64))], orc := none }
  | 35 => some { ps := [PM.ro (SD.sc (SD.bor 3) (SD.sc (SD.int (IntKind.i64)) (SD.sc (SD.int (IntKind.i64)) (SD.sc (SD.int (IntKind.i64)) (SD.sn))))), PM.ro (SD.bor 3)], rs := [RM.v (SD.own 3 false)], orc := none }
  | 37 => some { ps := [PM.ro (SD.bor 3), PM.ref 22 (SD.own 5 false) (SD.own 5 false), PM.ref 45 (SD.mp false) (SD.mp false)], rs := [], orc := none }
  | 4133 => some { ps := [PM.mut (SD.own 3 false), PM.ref 22 (SD.own 5 false) (SD.own 5 false), PM.ref 45 (SD.mp false) (SD.mp false)], rs := [], orc := none }
  | 8229 => some { ps := [PM.mv (SD.own 3 false), PM.ref 22 (SD.own 5 false) (SD.own 5 false), PM.ref 45 (SD.mp false) (SD.mp false)], rs := [], orc := none }
  | 47 => some { ps := [PM.ro (SD.bor 3), PM.ro (SD.int (IntKind.i64))], rs := [RM.v (SD.bool)], orc := none }
  | 25 => some { ps := [PM.ro (SD.sc (SD.bor 3) (SD.sc (SD.int (IntKind.i64)) (SD.sc (SD.int (IntKind.i64)) (SD.sc (SD.int (IntKind.i64)) (SD.sn))))), PM.ro (SD.bor 3)], rs := [RM.v (SD.own 3 false)], orc := none }
  | 33 => some { ps := [PM.ro (SD.sc (SD.bor 3) (SD.sc (SD.int (IntKind.i64)) (SD.sc (SD.int (IntKind.i64)) (SD.sc (SD.int (IntKind.i64)) (SD.sn))))), PM.ro (SD.bor 3)], rs := [RM.v (SD.sc (SD.own 3 false) (SD.sc (SD.int (IntKind.i64)) (SD.sc (SD.int (IntKind.i64)) (SD.sc (SD.int (IntKind.i64)) (SD.sn))))), RM.v (SD.own 3 false)], orc := none }
  | 57 => some { ps := [PM.ro (SD.bor 3), PM.ro (SD.int (IntKind.i64))], rs := [RM.v (SD.bool)], orc := none }
  | 55 => some { ps := [PM.ro (SD.sc (SD.bor 3) (SD.sc (SD.int (IntKind.i64)) (SD.sc (SD.int (IntKind.i64)) (SD.sc (SD.int (IntKind.i64)) (SD.sn)))))], rs := [RM.v (SD.bool)], orc := none }
  | 44 => some { ps := [PM.ro (SD.sc (SD.bor 3) (SD.sc (SD.int (IntKind.i64)) (SD.sc (SD.int (IntKind.i64)) (SD.sc (SD.int (IntKind.i64)) (SD.sn))))), PM.ro (SD.int (IntKind.i64))], rs := [RM.v (SD.bool), RM.v (SD.int (IntKind.i64)), RM.v (SD.own 3 false), RM.v (SD.bool)], orc := none }
  | 52 => some { ps := [PM.ro (SD.int (IntKind.i64)), PM.rp (SD.bor 3)], rs := [RM.v (SD.bool)], orc := none }
  | 31 => some { ps := [PM.ro (SD.sc (SD.bor 3) (SD.sc (SD.int (IntKind.i64)) (SD.sc (SD.int (IntKind.i64)) (SD.sc (SD.int (IntKind.i64)) (SD.sn))))), PM.ro (SD.bor 3)], rs := [RM.v (SD.bool)], orc := none }
  | 74 => some { ps := [PM.ro (SD.bor 3), PM.clo 52 [CM.rp (SD.bor 3)]], rs := [RM.v (SD.int (IntKind.i64))], orc := none }
  | 4170 => some { ps := [PM.mv (SD.own 3 false), PM.clo 52 [CM.rp (SD.bor 3)]], rs := [RM.v (SD.int (IntKind.i64))], orc := none }
  | 51 => some { ps := [PM.ro (SD.bor 3), PM.clo 52 [CM.rp (SD.bor 3)]], rs := [RM.v (SD.bool)], orc := none }
  | 4147 => some { ps := [PM.mv (SD.own 3 false), PM.clo 52 [CM.rp (SD.bor 3)]], rs := [RM.v (SD.bool)], orc := none }
  | 17 => some { ps := [PM.ro (SD.sc (SD.bor 3) (SD.sc (SD.int (IntKind.i64)) (SD.sc (SD.int (IntKind.i64)) (SD.sc (SD.int (IntKind.i64)) (SD.sn)))))], rs := [RM.v (SD.bool)], orc := none }
  | 18 => some { ps := [PM.ro (SD.sc (SD.bor 3) (SD.sc (SD.int (IntKind.i64)) (SD.sc (SD.int (IntKind.i64)) (SD.sc (SD.int (IntKind.i64)) (SD.sn)))))], rs := [RM.v (SD.int (IntKind.i64))], orc := none }
  | 15 => some { ps := [PM.ro (SD.sc (SD.bor 3) (SD.sc (SD.int (IntKind.i64)) (SD.sc (SD.int (IntKind.i64)) (SD.sc (SD.int (IntKind.i64)) (SD.sn))))), PM.ro (SD.bor 3)], rs := [RM.v (SD.str)], orc := none }
  | 13 => some { ps := [PM.ro (SD.sc (SD.bor 3) (SD.sc (SD.int (IntKind.i64)) (SD.sc (SD.int (IntKind.i64)) (SD.sc (SD.int (IntKind.i64)) (SD.sn))))), PM.ro (SD.bor 3)], rs := [RM.v (SD.own 3 false)], orc := none }
  | 71 => some { ps := [PM.ro (SD.sc (SD.bor 3) (SD.sc (SD.int (IntKind.i64)) (SD.sc (SD.int (IntKind.i64)) (SD.sc (SD.int (IntKind.i64)) (SD.sn))))), PM.ro (SD.bool), PM.ro (SD.int (IntKind.i64)), PM.ro (SD.bor 3)], rs := [RM.v (SD.sc (SD.own 3 false) (SD.sc (SD.int (IntKind.i64)) (SD.sc (SD.int (IntKind.i64)) (SD.sc (SD.int (IntKind.i64)) (SD.sn))))), RM.v (SD.int (IntKind.i64)), RM.v (SD.bool)], orc := none }
  | 7 => some { ps := [PM.ro (SD.sc (SD.bor 3) (SD.sc (SD.int (IntKind.i64)) (SD.sc (SD.int (IntKind.i64)) (SD.sc (SD.int (IntKind.i64)) (SD.sn))))), PM.ro (SD.bor 3)], rs := [RM.v (SD.sc (SD.own 3 false) (SD.sc (SD.int (IntKind.i64)) (SD.sc (SD.int (IntKind.i64)) (SD.sc (SD.int (IntKind.i64)) (SD.sn))))), RM.v (SD.own 3 false)], orc := none }
  | 16 => some { ps := [PM.ro (SD.sc (SD.bor 3) (SD.sc (SD.int (IntKind.i64)) (SD.sc (SD.int (IntKind.i64)) (SD.sc (SD.int (IntKind.i64)) (SD.sn))))), PM.ro (SD.int (IntKind.i64))], rs := [RM.v (SD.bool), RM.v (SD.int (IntKind.i64)), RM.v (SD.own 3 false), RM.v (SD.bool)], orc := none }
  | 22 => some { ps := [PM.ro (SD.sc (SD.bor 3) (SD.sc (SD.int (IntKind.i64)) (SD.sc (SD.int (IntKind.i64)) (SD.sc (SD.int (IntKind.i64)) (SD.sn))))), PM.ro (SD.bor 3)], rs := [RM.v (SD.bool)], orc := none }
  | 12 => some { ps := [PM.ro (SD.sc (SD.bor 3) (SD.sc (SD.int (IntKind.i64)) (SD.sc (SD.int (IntKind.i64)) (SD.sc (SD.int (IntKind.i64)) (SD.sn))))), PM.ro (SD.bor 3)], rs := [RM.v (SD.own 3 false)], orc := none }
  | 14 => some { ps := [PM.ro (SD.sc (SD.bor 3) (SD.sc (SD.int (IntKind.i64)) (SD.sc (SD.int (IntKind.i64)) (SD.sc (SD.int (IntKind.i64)) (SD.sn))))), PM.ro (SD.bor 3)], rs := [RM.v (SD.str)], orc := none }
  | 6 => some { ps := [PM.ro (SD.sc (SD.bor 3) (SD.sc (SD.int (IntKind.i64)) (SD.sc (SD.int (IntKind.i64)) (SD.sc (SD.int (IntKind.i64)) (SD.sn))))), PM.ro (SD.bor 3)], rs := [RM.v (SD.sc (SD.own 3 false) (SD.sc (SD.int (IntKind.i64)) (SD.sc (SD.int (IntKind.i64)) (SD.sc (SD.int (IntKind.i64)) (SD.sn))))), RM.v (SD.own 3 false)], orc := none }
  | 48 => some { ps := [PM.ref 61 (SD.sc (SD.bor 5) (SD.sc (SD.int (IntKind.i64)) (SD.sc (SD.int (IntKind.i64)) (SD.sn)))) (SD.sc (SD.bor 5) (SD.sc (SD.int (IntKind.i64)) (SD.sc (SD.int (IntKind.i64)) (SD.sn))))], rs := [RM.v (SD.sc (SD.own 3 false) (SD.sc (SD.int (IntKind.i64)) (SD.sc (SD.int (IntKind.i64)) (SD.sc (SD.int (IntKind.i64)) (SD.sn))))), RM.v (SD.own 3 false)], orc := none }
  | 4144 => some { ps := [PM.ref 61 (SD.sc (SD.own 5 false) (SD.sc (SD.int (IntKind.i64)) (SD.sc (SD.int (IntKind.i64)) (SD.sn)))) (SD.sc (SD.own 5 false) (SD.sc (SD.int (IntKind.i64)) (SD.sc (SD.int (IntKind.i64)) (SD.sn))))], rs := [RM.v (SD.sc (SD.own 3 false) (SD.sc (SD.int (IntKind.i64)) (SD.sc (SD.int (IntKind.i64)) (SD.sc (SD.int (IntKind.i64)) (SD.sn))))), RM.v (SD.own 3 false)], orc := none }
  | 20 => some { ps := [PM.ref 61 (SD.sc (SD.bor 5) (SD.sc (SD.int (IntKind.i64)) (SD.sc (SD.int (IntKind.i64)) (SD.sn)))) (SD.sc (SD.bor 5) (SD.sc (SD.int (IntKind.i64)) (SD.sc (SD.int (IntKind.i64)) (SD.sn))))], rs := [RM.v (SD.sc (SD.own 3 false) (SD.sc (SD.int (IntKind.i64)) (SD.sc (SD.int (IntKind.i64)) (SD.sc (SD.int (IntKind.i64)) (SD.sn))))), RM.v (SD.own 3 false)], orc := none }
  | 4116 => some { ps := [PM.ref 61 (SD.sc (SD.own 5 false) (SD.sc (SD.int (IntKind.i64)) (SD.sc (SD.int (IntKind.i64)) (SD.sn)))) (SD.sc (SD.own 5 false) (SD.sc (SD.int (IntKind.i64)) (SD.sc (SD.int (IntKind.i64)) (SD.sn))))], rs := [RM.v (SD.sc (SD.own 3 false) (SD.sc (SD.int (IntKind.i64)) (SD.sc (SD.int (IntKind.i64)) (SD.sc (SD.int (IntKind.i64)) (SD.sn))))), RM.v (SD.own 3 false)], orc := none }
  | 10 => some { ps := [PM.ro (SD.bor 5)], rs := [RM.v (SD.sc (SD.own 3 false) (SD.sc (SD.int (IntKind.i64)) (SD.sc (SD.int (IntKind.i64)) (SD.sc (SD.int (IntKind.i64)) (SD.sn))))), RM.v (SD.own 3 false)], orc := none }
  | 5 => some { ps := [PM.ro (SD.bor 5)], rs := [RM.v (SD.sc (SD.own 3 false) (SD.sc (SD.int (IntKind.i64)) (SD.sc (SD.int (IntKind.i64)) (SD.sc (SD.int (IntKind.i64)) (SD.sn))))), RM.v (SD.own 3 false)], orc := none }
  | 11 => some { ps := [PM.ro (SD.bor 5)], rs := [RM.v (SD.sc (SD.own 3 false) (SD.sc (SD.int (IntKind.i64)) (SD.sc (SD.int (IntKind.i64)) (SD.sc (SD.int (IntKind.i64)) (SD.sn))))), RM.v (SD.own 3 false)], orc := none }
  | 3 => some { ps := [PM.ro (SD.bor 5)], rs := [RM.v (SD.bool)], orc := none }
  | _ => none
/-! spec.l17Copy -/
noncomputable def F32 (I : Interp) (n : Nat) (a : List PV) : Option (List PV) :=
  (iff (leN (([] : List PV).length + ((nth a 0).fld 0).toList.length) 17592186044416)
  (some [(PV.agg [(PV.list (([] : List PV) ++ ((nth a 0).fld 0).toList)), ((nth a 0).fld 1), ((nth a 0).fld 2), ((nth a 0).fld 3)])])
  none)
theorem e32 : ∀ I n a, (compF Tryz.prog sg 32).map (fun d => d.ev I n a) = some (F32 I n a) := fun I n a => by kernel_rfl
/-! impl.WordInt -/
noncomputable def F39 (I : Interp) (n : Nat) (a : List PV) : Option (List PV) :=
  (iff (geI (1 : Int) (0 : Int))
  (some [(PV.int (arith BinOp.shr IntKind.i64 (nth a 0).toInt (1 : Int)))])
  none)
theorem e39 : ∀ I n a, (compF Tryz.prog sg 39).map (fun d => d.ev I n a) = some (F39 I n a) := fun I n a => by kernel_rfl
/-! spec.Digits -/
noncomputable def L43_0 (I : Interp) (n : Nat) (p0 : List PV) : Option (Ex × List PV) :=
  (iff (neI (nth p0 0).toInt (0 : Int))
  (iff (neI (10 : Int) (0 : Int))
  (thenN (iff (ltI (arith BinOp.rem IntKind.i64 (nth p0 0).toInt (10 : Int)) (0 : Int))
  (some (Ex.n, [(PV.int (IntKind.i64.wrap ((0 : Int) - (arith BinOp.rem IntKind.i64 (nth p0 0).toInt (10 : Int))))), (nth p0 2), (nth p0 0), (nth p0 1)]))
  (some (Ex.n, [(PV.int (arith BinOp.rem IntKind.i64 (nth p0 0).toInt (10 : Int))), (nth p0 2), (nth p0 0), (nth p0 1)])))
  (fun p1 => (iff (leI ((catB (b2sL ((PV.int (IntKind.u8.wrap (IntKind.i64.wrap ((48 : Int) + (nth p1 0).toInt)))) :: ([] : List PV))) (nth p1 1).toStr).size : Int) (9223372036854775807 : Int))
  (iff (neI (10 : Int) (0 : Int))
  (some (Ex.n, [(PV.int (arith BinOp.quo IntKind.i64 (nth p1 2).toInt (10 : Int))), (nth p1 3), (PV.str (catB (b2sL ((PV.int (IntKind.u8.wrap (IntKind.i64.wrap ((48 : Int) + (nth p1 0).toInt)))) :: ([] : List PV))) (nth p1 1).toStr))]))
  none)
  none))
  passE)
  none)
  (some (Ex.x 0, [(nth p0 1), (nth p0 2)])))
noncomputable def F43 (I : Interp) (n : Nat) (a : List PV) : Option (List PV) :=
  (iff (eqI (nth a 0).toInt (0 : Int))
  (some [(PV.str (⟨#[48]⟩ : ByteArray))])
  (thenN (thenE (loopEv (L43_0 I n) n [(nth a 0), (PV.bool (ltI (nth a 0).toInt (0 : Int))), (PV.str (⟨#[]⟩ : ByteArray))])
  (passB 0))
  (fun p2 => (iff (nth p2 0).toBool
  (iff (leI ((catB (⟨#[45]⟩ : ByteArray) (nth p2 1).toStr).size : Int) (9223372036854775807 : Int))
  (some [(PV.str (catB (⟨#[45]⟩ : ByteArray) (nth p2 1).toStr))])
  none)
  (some [(nth p2 1)])))
  (retE fun q3 => [(nth q3 0)])))
theorem e43 : ∀ I n a, (compF Tryz.prog sg 43).map (fun d => d.ev I n a) = some (F43 I n a) := fun I n a => by kernel_rfl
/-! laws.sameInts -/
noncomputable def L9_0 (I : Interp) (n : Nat) (p0 : List PV) : Option (Ex × List PV) :=
  (iff (ltI (nth p0 0).toInt ((nth p0 1).toList.length : Int))
  (iff (geI (nth p0 0).toInt (0 : Int))
  (iff (ltI (nth p0 0).toInt ((nth p0 1).toList.length : Int))
  (iff (geI (nth p0 0).toInt (0 : Int))
  (iff (ltI (nth p0 0).toInt ((nth p0 2).toList.length : Int))
  (iff (neI (nth (nth p0 1).toList (nth p0 0).toInt.toNat).toInt (nth (nth p0 2).toList (nth p0 0).toInt.toNat).toInt)
  (some (Ex.r, [(PV.bool false)]))
  (some (Ex.n, [(PV.int (IntKind.i64.wrap ((nth p0 0).toInt + (1 : Int)))), (nth p0 1), (nth p0 2)])))
  none)
  none)
  none)
  none)
  (some (Ex.x 0, [])))
noncomputable def F9 (I : Interp) (n : Nat) (a : List PV) : Option (List PV) :=
  (iff (neI ((nth a 0).toList.length : Int) ((nth a 1).toList.length : Int))
  (some [(PV.bool false)])
  (thenN (thenE (loopEv (L9_0 I n) n [(PV.int (0 : Int)), (nth a 0), (nth a 1)])
  (passB 0))
  (fun p1 => (some [(PV.bool true)]))
  (retE fun q2 => [(nth q2 0)])))
theorem e9 : ∀ I n a, (compF Tryz.prog sg 9).map (fun d => d.ev I n a) = some (F9 I n a) := fun I n a => by kernel_rfl
/-! impl.copyInts -/
noncomputable def F24 (I : Interp) (n : Nat) (a : List PV) : Option (List PV) :=
  (iff (leN (([] : List PV).length + (nth a 0).toList.length) 17592186044416)
  (some [(PV.list (([] : List PV) ++ (nth a 0).toList))])
  none)
theorem e24 : ∀ I n a, (compF Tryz.prog sg 24).map (fun d => d.ev I n a) = some (F24 I n a) := fun I n a => by kernel_rfl
/-! slices.isNaN[int] -/
noncomputable def F90 (I : Interp) (n : Nat) (a : List PV) : Option (List PV) :=
  (some [(PV.bool (neI (nth a 0).toInt (nth a 0).toInt))])
theorem e90 : ∀ I n a, (compF Tryz.prog sg 90).map (fun d => d.ev I n a) = some (F90 I n a) := fun I n a => by kernel_rfl
/-! cmp.isNaN[int] -/
noncomputable def F97 (I : Interp) (n : Nat) (a : List PV) : Option (List PV) :=
  (some [(PV.bool (neI (nth a 0).toInt (nth a 0).toInt))])
theorem e97 : ∀ I n a, (compF Tryz.prog sg 97).map (fun d => d.ev I n a) = some (F97 I n a) := fun I n a => by kernel_rfl
/-! impl.WordRef -/
noncomputable def F30 (I : Interp) (n : Nat) (a : List PV) : Option (List PV) :=
  (iff (geI (1 : Int) (0 : Int))
  (some [(PV.int (arith BinOp.shr IntKind.i64 (nth a 0).toInt (1 : Int)))])
  none)
theorem e30 : ∀ I n a, (compF Tryz.prog sg 30).map (fun d => d.ev I n a) = some (F30 I n a) := fun I n a => by kernel_rfl
/-! impl.IsRef -/
noncomputable def F28 (I : Interp) (n : Nat) (a : List PV) : Option (List PV) :=
  (some [(PV.bool (eqI (arith BinOp.and IntKind.i64 (nth a 0).toInt (1 : Int)) (0 : Int)))])
theorem e28 : ∀ I n a, (compF Tryz.prog sg 28).map (fun d => d.ev I n a) = some (F28 I n a) := fun I n a => by kernel_rfl
/-! impl.within -/
noncomputable def F54 (I : Interp) (n : Nat) (a : List PV) : Option (List PV) :=
  (some [(selB (geI (nth a 0).toInt (nth a 1).toInt) (selB ((geI (nth a 0).toInt (nth a 1).toInt) == true) (PV.bool (leI (selB ((geI (nth a 0).toInt (nth a 1).toInt) == true) (nth a 0) PV.unit).toInt (selB ((geI (nth a 0).toInt (nth a 1).toInt) == true) (nth a 2) PV.unit).toInt)) PV.unit) (PV.bool false))])
theorem e54 : ∀ I n a, (compF Tryz.prog sg 54).map (fun d => d.ev I n a) = some (F54 I n a) := fun I n a => by kernel_rfl
/-! spec.l1Bit -/
noncomputable def F105 (I : Interp) (n : Nat) (a : List PV) : Option (List PV) :=
  (iff (nth a 0).toBool
  (some [(PV.int (1 : Int))])
  (some [(PV.int (0 : Int))]))
theorem e105 : ∀ I n a, (compF Tryz.prog sg 105).map (fun d => d.ev I n a) = some (F105 I n a) := fun I n a => by kernel_rfl
/-! spec.l17Of -/
noncomputable def F42 (I : Interp) (n : Nat) (a : List PV) : Option (List PV) :=
  (iff (geI (1 : Int) (0 : Int))
  (iff (geI (1 : Int) (0 : Int))
  (iff (neI (64 : Int) (0 : Int))
  (iff (geI (1 : Int) (0 : Int))
  (some [(PV.bool (eqI (arith BinOp.and IntKind.i64 (arith BinOp.shr IntKind.i64 (nth a 0).toInt (1 : Int)) (1 : Int)) (1 : Int))), (PV.int (arith BinOp.quo IntKind.i64 (arith BinOp.shr IntKind.i64 (arith BinOp.shr IntKind.i64 (nth a 0).toInt (1 : Int)) (1 : Int)) (64 : Int))), (PV.int (arith BinOp.and IntKind.i64 (arith BinOp.shr IntKind.i64 (arith BinOp.shr IntKind.i64 (nth a 0).toInt (1 : Int)) (1 : Int)) (63 : Int)))])
  none)
  none)
  none)
  none)
theorem e42 : ∀ I n a, (compF Tryz.prog sg 42).map (fun d => d.ev I n a) = some (F42 I n a) := fun I n a => by kernel_rfl
/-! spec.WordInt -/
noncomputable def F66 (I : Interp) (n : Nat) (a : List PV) : Option (List PV) :=
  (iff (geI (1 : Int) (0 : Int))
  (some [(PV.int (arith BinOp.shr IntKind.i64 (nth a 0).toInt (1 : Int)))])
  none)
theorem e66 : ∀ I n a, (compF Tryz.prog sg 66).map (fun d => d.ev I n a) = some (F66 I n a) := fun I n a => by kernel_rfl
/-! spec.l4Has -/
noncomputable def L88_0 (I : Interp) (n : Nat) (p0 : List PV) : Option (Ex × List PV) :=
  (iff (ltI (nth p0 0).toInt ((nth p0 1).toList.length : Int))
  (iff (geI (nth p0 0).toInt (0 : Int))
  (iff (ltI (nth p0 0).toInt ((nth p0 1).toList.length : Int))
  (iff (eqI (nth (nth p0 1).toList (nth p0 0).toInt.toNat).toInt (nth p0 2).toInt)
  (some (Ex.r, [(PV.bool true)]))
  (some (Ex.n, [(PV.int (IntKind.i64.wrap ((nth p0 0).toInt + (1 : Int)))), (nth p0 1), (nth p0 2)])))
  none)
  none)
  (some (Ex.x 0, [])))
noncomputable def F88 (I : Interp) (n : Nat) (a : List PV) : Option (List PV) :=
  (thenN (thenE (loopEv (L88_0 I n) n [(PV.int (0 : Int)), (nth a 0), (nth a 1)])
  (passB 0))
  (fun p1 => (some [(PV.bool false)]))
  (retE fun q2 => [(nth q2 0)]))
theorem e88 : ∀ I n a, (compF Tryz.prog sg 88).map (fun d => d.ev I n a) = some (F88 I n a) := fun I n a => by kernel_rfl
/-! spec.WordRef -/
noncomputable def F63 (I : Interp) (n : Nat) (a : List PV) : Option (List PV) :=
  (iff (geI (1 : Int) (0 : Int))
  (some [(PV.int (arith BinOp.shr IntKind.i64 (nth a 0).toInt (1 : Int)))])
  none)
theorem e63 : ∀ I n a, (compF Tryz.prog sg 63).map (fun d => d.ev I n a) = some (F63 I n a) := fun I n a => by kernel_rfl
/-! spec.IsRef -/
noncomputable def F61 (I : Interp) (n : Nat) (a : List PV) : Option (List PV) :=
  (some [(PV.bool (eqI (arith BinOp.and IntKind.i64 (nth a 0).toInt (1 : Int)) (0 : Int)))])
theorem e61 : ∀ I n a, (compF Tryz.prog sg 61).map (fun d => d.ev I n a) = some (F61 I n a) := fun I n a => by kernel_rfl
/-! spec.l1Byte -/
noncomputable def F50 (I : Interp) (n : Nat) (a : List PV) : Option (List PV) :=
  (iff (geI (33 : Int) (0 : Int))
  (iff (geI (45 : Int) (0 : Int))
  (thenN (iff (ltI (((nth a 0).setFld 2 (PV.int (IntKind.i64.wrap ((IntKind.i64.wrap (((nth a 0).fld 2).toInt * (6364136223846793005 : Int))) + (1442695040888963407 : Int))))).fld 1).toInt ((((nth a 0).setFld 2 (PV.int (IntKind.i64.wrap ((IntKind.i64.wrap (((nth a 0).fld 2).toInt * (6364136223846793005 : Int))) + (1442695040888963407 : Int))))).fld 0).toList.length : Int))
  (iff (geI (((nth a 0).setFld 2 (PV.int (IntKind.i64.wrap ((IntKind.i64.wrap (((nth a 0).fld 2).toInt * (6364136223846793005 : Int))) + (1442695040888963407 : Int))))).fld 1).toInt (0 : Int))
  (iff (ltI (((nth a 0).setFld 2 (PV.int (IntKind.i64.wrap ((IntKind.i64.wrap (((nth a 0).fld 2).toInt * (6364136223846793005 : Int))) + (1442695040888963407 : Int))))).fld 1).toInt ((((nth a 0).setFld 2 (PV.int (IntKind.i64.wrap ((IntKind.i64.wrap (((nth a 0).fld 2).toInt * (6364136223846793005 : Int))) + (1442695040888963407 : Int))))).fld 0).toList.length : Int))
  (some (Ex.n, [(((nth a 0).setFld 2 (PV.int (IntKind.i64.wrap ((IntKind.i64.wrap (((nth a 0).fld 2).toInt * (6364136223846793005 : Int))) + (1442695040888963407 : Int))))).setFld 1 (PV.int (IntKind.i64.wrap ((((nth a 0).setFld 2 (PV.int (IntKind.i64.wrap ((IntKind.i64.wrap (((nth a 0).fld 2).toInt * (6364136223846793005 : Int))) + (1442695040888963407 : Int))))).fld 1).toInt + (1 : Int))))), (PV.int (arith BinOp.and IntKind.i64 (IntKind.i64.wrap ((arith BinOp.and IntKind.i64 (arith BinOp.xor IntKind.i64 (arith BinOp.shr IntKind.i64 (((nth a 0).setFld 2 (PV.int (IntKind.i64.wrap ((IntKind.i64.wrap (((nth a 0).fld 2).toInt * (6364136223846793005 : Int))) + (1442695040888963407 : Int))))).fld 2).toInt (33 : Int)) (arith BinOp.shr IntKind.i64 (((nth a 0).setFld 2 (PV.int (IntKind.i64.wrap ((IntKind.i64.wrap (((nth a 0).fld 2).toInt * (6364136223846793005 : Int))) + (1442695040888963407 : Int))))).fld 2).toInt (45 : Int))) (255 : Int)) + (IntKind.i64.wrap (nth (((nth a 0).setFld 2 (PV.int (IntKind.i64.wrap ((IntKind.i64.wrap (((nth a 0).fld 2).toInt * (6364136223846793005 : Int))) + (1442695040888963407 : Int))))).fld 0).toList (((nth a 0).setFld 2 (PV.int (IntKind.i64.wrap ((IntKind.i64.wrap (((nth a 0).fld 2).toInt * (6364136223846793005 : Int))) + (1442695040888963407 : Int))))).fld 1).toInt.toNat).toInt))) (255 : Int)))]))
  none)
  none)
  (some (Ex.n, [((nth a 0).setFld 2 (PV.int (IntKind.i64.wrap ((IntKind.i64.wrap (((nth a 0).fld 2).toInt * (6364136223846793005 : Int))) + (1442695040888963407 : Int))))), (PV.int (arith BinOp.and IntKind.i64 (arith BinOp.xor IntKind.i64 (arith BinOp.shr IntKind.i64 (((nth a 0).setFld 2 (PV.int (IntKind.i64.wrap ((IntKind.i64.wrap (((nth a 0).fld 2).toInt * (6364136223846793005 : Int))) + (1442695040888963407 : Int))))).fld 2).toInt (33 : Int)) (arith BinOp.shr IntKind.i64 (((nth a 0).setFld 2 (PV.int (IntKind.i64.wrap ((IntKind.i64.wrap (((nth a 0).fld 2).toInt * (6364136223846793005 : Int))) + (1442695040888963407 : Int))))).fld 2).toInt (45 : Int))) (255 : Int)))])))
  (fun p0 => (some [(nth p0 1), (nth p0 0)]))
  (retE fun q1 => [(nth q1 1), (nth q1 0)]))
  none)
  none)
theorem e50 : ∀ I n a, (compF Tryz.prog sg 50).map (fun d => d.ev I n a) = some (F50 I n a) := fun I n a => by kernel_rfl
/-! spec.l1Byte -/
noncomputable def F4146 (I : Interp) (n : Nat) (a : List PV) : Option (List PV) :=
  (iff (geI (33 : Int) (0 : Int))
  (iff (geI (45 : Int) (0 : Int))
  (thenN (iff (ltI (((nth a 0).setFld 2 (PV.int (IntKind.i64.wrap ((IntKind.i64.wrap (((nth a 0).fld 2).toInt * (6364136223846793005 : Int))) + (1442695040888963407 : Int))))).fld 1).toInt ((((nth a 0).setFld 2 (PV.int (IntKind.i64.wrap ((IntKind.i64.wrap (((nth a 0).fld 2).toInt * (6364136223846793005 : Int))) + (1442695040888963407 : Int))))).fld 0).toList.length : Int))
  (iff (geI (((nth a 0).setFld 2 (PV.int (IntKind.i64.wrap ((IntKind.i64.wrap (((nth a 0).fld 2).toInt * (6364136223846793005 : Int))) + (1442695040888963407 : Int))))).fld 1).toInt (0 : Int))
  (iff (ltI (((nth a 0).setFld 2 (PV.int (IntKind.i64.wrap ((IntKind.i64.wrap (((nth a 0).fld 2).toInt * (6364136223846793005 : Int))) + (1442695040888963407 : Int))))).fld 1).toInt ((((nth a 0).setFld 2 (PV.int (IntKind.i64.wrap ((IntKind.i64.wrap (((nth a 0).fld 2).toInt * (6364136223846793005 : Int))) + (1442695040888963407 : Int))))).fld 0).toList.length : Int))
  (some (Ex.n, [(((nth a 0).setFld 2 (PV.int (IntKind.i64.wrap ((IntKind.i64.wrap (((nth a 0).fld 2).toInt * (6364136223846793005 : Int))) + (1442695040888963407 : Int))))).setFld 1 (PV.int (IntKind.i64.wrap ((((nth a 0).setFld 2 (PV.int (IntKind.i64.wrap ((IntKind.i64.wrap (((nth a 0).fld 2).toInt * (6364136223846793005 : Int))) + (1442695040888963407 : Int))))).fld 1).toInt + (1 : Int))))), (PV.int (arith BinOp.and IntKind.i64 (IntKind.i64.wrap ((arith BinOp.and IntKind.i64 (arith BinOp.xor IntKind.i64 (arith BinOp.shr IntKind.i64 (((nth a 0).setFld 2 (PV.int (IntKind.i64.wrap ((IntKind.i64.wrap (((nth a 0).fld 2).toInt * (6364136223846793005 : Int))) + (1442695040888963407 : Int))))).fld 2).toInt (33 : Int)) (arith BinOp.shr IntKind.i64 (((nth a 0).setFld 2 (PV.int (IntKind.i64.wrap ((IntKind.i64.wrap (((nth a 0).fld 2).toInt * (6364136223846793005 : Int))) + (1442695040888963407 : Int))))).fld 2).toInt (45 : Int))) (255 : Int)) + (IntKind.i64.wrap (nth (((nth a 0).setFld 2 (PV.int (IntKind.i64.wrap ((IntKind.i64.wrap (((nth a 0).fld 2).toInt * (6364136223846793005 : Int))) + (1442695040888963407 : Int))))).fld 0).toList (((nth a 0).setFld 2 (PV.int (IntKind.i64.wrap ((IntKind.i64.wrap (((nth a 0).fld 2).toInt * (6364136223846793005 : Int))) + (1442695040888963407 : Int))))).fld 1).toInt.toNat).toInt))) (255 : Int)))]))
  none)
  none)
  (some (Ex.n, [((nth a 0).setFld 2 (PV.int (IntKind.i64.wrap ((IntKind.i64.wrap (((nth a 0).fld 2).toInt * (6364136223846793005 : Int))) + (1442695040888963407 : Int))))), (PV.int (arith BinOp.and IntKind.i64 (arith BinOp.xor IntKind.i64 (arith BinOp.shr IntKind.i64 (((nth a 0).setFld 2 (PV.int (IntKind.i64.wrap ((IntKind.i64.wrap (((nth a 0).fld 2).toInt * (6364136223846793005 : Int))) + (1442695040888963407 : Int))))).fld 2).toInt (33 : Int)) (arith BinOp.shr IntKind.i64 (((nth a 0).setFld 2 (PV.int (IntKind.i64.wrap ((IntKind.i64.wrap (((nth a 0).fld 2).toInt * (6364136223846793005 : Int))) + (1442695040888963407 : Int))))).fld 2).toInt (45 : Int))) (255 : Int)))])))
  (fun p0 => (some [(nth p0 1), (nth p0 0)]))
  (retE fun q1 => [(nth q1 1), (nth q1 0)]))
  none)
  none)
theorem e4146 : ∀ I n a, (compF Tryz.prog sg 4146).map (fun d => d.ev I n a) = some (F4146 I n a) := fun I n a => by kernel_rfl
/-! spec.l1In -/
noncomputable def F75 (I : Interp) (n : Nat) (a : List PV) : Option (List PV) :=
  (some [(selB (geI (nth a 0).toInt (nth a 1).toInt) (selB ((geI (nth a 0).toInt (nth a 1).toInt) == true) (PV.bool (leI (selB ((geI (nth a 0).toInt (nth a 1).toInt) == true) (nth a 0) PV.unit).toInt (selB ((geI (nth a 0).toInt (nth a 1).toInt) == true) (nth a 2) PV.unit).toInt)) PV.unit) (PV.bool false))])
theorem e75 : ∀ I n a, (compF Tryz.prog sg 75).map (fun d => d.ev I n a) = some (F75 I n a) := fun I n a => by kernel_rfl
/-! spec.l1New -/
noncomputable def L19_0 (I : Interp) (n : Nat) (p0 : List PV) : Option (Ex × List PV) :=
  (iff (selB (ltI (nth p0 0).toInt ((nth p0 1).toList.length : Int)) (selB ((ltI (nth p0 0).toInt ((nth p0 1).toList.length : Int)) == true) (PV.bool (ltI (selB ((ltI (nth p0 0).toInt ((nth p0 1).toList.length : Int)) == true) (nth p0 0) PV.unit).toInt (4000 : Int))) PV.unit) (PV.bool false)).toBool
  (iff (geI (nth p0 0).toInt (0 : Int))
  (iff (ltI (nth p0 0).toInt ((nth p0 1).toList.length : Int))
  (some (Ex.n, [(PV.int (IntKind.i64.wrap ((nth p0 0).toInt + (1 : Int)))), (nth p0 1), (PV.int (arith BinOp.and IntKind.i64 (IntKind.i64.wrap ((IntKind.i64.wrap ((IntKind.i64.wrap ((nth p0 2).toInt * (131 : Int))) + (IntKind.i64.wrap (nth (nth p0 1).toList (nth p0 0).toInt.toNat).toInt))) + (7 : Int))) (1073741823 : Int)))]))
  none)
  none)
  (some (Ex.x 0, [(nth p0 1), (nth p0 2)])))
noncomputable def F19 (I : Interp) (n : Nat) (a : List PV) : Option (List PV) :=
  (thenN (thenE (loopEv (L19_0 I n) n [(PV.int (0 : Int)), (nth a 0), (PV.int (IntKind.i64.wrap ((24659 : Int) + ((nth a 0).toList.length : Int))))])
  (passB 0))
  (fun p1 => (some [(PV.agg [(nth p1 0), (PV.int (0 : Int)), (nth p1 1)])]))
  (retE fun q2 => [(nth q2 0)]))
theorem e19 : ∀ I n a, (compF Tryz.prog sg 19).map (fun d => d.ev I n a) = some (F19 I n a) := fun I n a => by kernel_rfl
/-! laws.big -/
noncomputable def F4 (I : Interp) (n : Nat) (a : List PV) : Option (List PV) :=
  (some [(PV.bool (gtI ((nth a 0).toList.length : Int) (1048576 : Int)))])
theorem e4 : ∀ I n a, (compF Tryz.prog sg 4).map (fun d => d.ev I n a) = some (F4 I n a) := fun I n a => by kernel_rfl
/-! spec.RefWord -/
noncomputable def F73 (I : Interp) (n : Nat) (a : List PV) : Option (List PV) :=
  ((I 75 [(nth a 0), (PV.int (0 : Int)), (PV.int (6000 : Int))]).bind fun r0 =>
  (iff (!(nth r0 0).toBool)
  (some [(PV.int (0 : Int))])
  (some [(PV.int (IntKind.i64.wrap ((2 : Int) * (nth a 0).toInt)))])))
theorem e73 : ∀ I n a, (compF Tryz.prog sg 73).map (fun d => d.ev I n a) = some (F73 I n a) := fun I n a => by kernel_rfl
/-! cmp.Less[int] -/
noncomputable def F83 (I : Interp) (n : Nat) (a : List PV) : Option (List PV) :=
  ((I 97 [(nth a 0)]).bind fun r0 =>
  ((iff ((nth r0 0).isB true)
  ((I 97 [(selB ((nth r0 0).isB true) (nth a 1) PV.unit)]).bind fun r1 =>
  (some [(nth r1 0), (nth r1 0)]))
  (some [PV.unit, PV.unit])).bind fun g2 =>
  (some [(selB (selB (nth r0 0).toBool (selB ((nth r0 0).isB true) (PV.bool (!(nth g2 0).toBool)) PV.unit) (PV.bool false)).toBool (PV.bool true) (selB ((selB (nth r0 0).toBool (selB ((nth r0 0).isB true) (PV.bool (!(nth g2 0).toBool)) PV.unit) (PV.bool false)).isB false) (PV.bool (ltI (selB ((selB (nth r0 0).toBool (selB ((nth r0 0).isB true) (PV.bool (!(nth g2 0).toBool)) PV.unit) (PV.bool false)).isB false) (nth a 0) PV.unit).toInt (selB ((selB (nth r0 0).toBool (selB ((nth r0 0).isB true) (PV.bool (!(nth g2 0).toBool)) PV.unit) (PV.bool false)).isB false) (nth a 1) PV.unit).toInt)) PV.unit))])))
theorem e83 : ∀ I n a, (compF Tryz.prog sg 83).map (fun d => d.ev I n a) = some (F83 I n a) := fun I n a => by kernel_rfl
/-! impl.RefWord -/
noncomputable def F29 (I : Interp) (n : Nat) (a : List PV) : Option (List PV) :=
  ((I 54 [(nth a 0), (PV.int (0 : Int)), (PV.int (6000 : Int))]).bind fun r0 =>
  (iff (!(nth r0 0).toBool)
  (some [(PV.int (0 : Int))])
  (some [(PV.int (IntKind.i64.wrap ((2 : Int) * (nth a 0).toInt)))])))
theorem e29 : ∀ I n a, (compF Tryz.prog sg 29).map (fun d => d.ev I n a) = some (F29 I n a) := fun I n a => by kernel_rfl
/-! spec.l7In -/
noncomputable def F62 (I : Interp) (n : Nat) (a : List PV) : Option (List PV) :=
  ((I 88 [(nth a 0), (nth a 1)]).bind fun r0 =>
  (some [(nth r0 0)]))
theorem e62 : ∀ I n a, (compF Tryz.prog sg 62).map (fun d => d.ev I n a) = some (F62 I n a) := fun I n a => by kernel_rfl
/-! impl.WordOk -/
noncomputable def F68 (I : Interp) (n : Nat) (a : List PV) : Option (List PV) :=
  ((I 54 [(nth a 0), (PV.int (-1073741824 : Int)), (PV.int (1073741823 : Int))]).bind fun r0 =>
  (some [(nth r0 0)]))
theorem e68 : ∀ I n a, (compF Tryz.prog sg 68).map (fun d => d.ev I n a) = some (F68 I n a) := fun I n a => by kernel_rfl
/-! spec.With -/
noncomputable def L64_0 (I : Interp) (n : Nat) (p1 : List PV) : Option (Ex × List PV) :=
  ((iff ((ltI (nth p1 2).toInt ((nth p1 1).toList.length : Int)) == true)
  (iff (geI (selB ((ltI (nth p1 2).toInt ((nth p1 1).toList.length : Int)) == true) (nth p1 2) PV.unit).toInt (0 : Int))
  (iff (ltI (selB ((ltI (nth p1 2).toInt ((nth p1 1).toList.length : Int)) == true) (nth p1 2) PV.unit).toInt ((selB ((ltI (nth p1 2).toInt ((nth p1 1).toList.length : Int)) == true) (nth p1 1) PV.unit).toList.length : Int))
  (some [(nth (selB ((ltI (nth p1 2).toInt ((nth p1 1).toList.length : Int)) == true) (nth p1 1) PV.unit).toList (selB ((ltI (nth p1 2).toInt ((nth p1 1).toList.length : Int)) == true) (nth p1 2) PV.unit).toInt.toNat), (nth (selB ((ltI (nth p1 2).toInt ((nth p1 1).toList.length : Int)) == true) (nth p1 1) PV.unit).toList (selB ((ltI (nth p1 2).toInt ((nth p1 1).toList.length : Int)) == true) (nth p1 2) PV.unit).toInt.toNat)])
  none)
  none)
  (some [PV.unit, PV.unit])).bind fun g2 =>
  (iff (selB (ltI (nth p1 2).toInt ((nth p1 1).toList.length : Int)) (selB ((ltI (nth p1 2).toInt ((nth p1 1).toList.length : Int)) == true) (PV.bool (ltI (selB ((ltI (nth p1 2).toInt ((nth p1 1).toList.length : Int)) == true) (nth g2 0) PV.unit).toInt (selB ((ltI (nth p1 2).toInt ((nth p1 1).toList.length : Int)) == true) (nth p1 0) PV.unit).toInt)) PV.unit) (PV.bool false)).toBool
  (some (Ex.n, [(nth p1 0), (nth p1 1), (PV.int (IntKind.i64.wrap ((nth p1 2).toInt + (1 : Int))))]))
  (some (Ex.x 0, [(nth p1 0), (nth p1 1), (nth p1 2)]))))
noncomputable def F64 (I : Interp) (n : Nat) (a : List PV) : Option (List PV) :=
  ((I 88 [(nth a 0), (nth a 1)]).bind fun r0 =>
  (iff (nth r0 0).toBool
  (iff (leN (([] : List PV).length + (nth a 0).toList.length) 17592186044416)
  (some [(PV.list (([] : List PV) ++ (nth a 0).toList))])
  none)
  (thenN (thenE (loopEv (L64_0 I n) n [(nth a 1), (nth a 0), (PV.int (0 : Int))])
  (passB 0))
  (fun p3 => (iff (geI (0 : Int) (0 : Int))
  (iff (leI (0 : Int) (nth p3 2).toInt)
  (iff (leI (nth p3 2).toInt ((nth p3 1).toList.length : Int))
  (iff (leN (([] : List PV).length + (((nth p3 1).toList.drop (0 : Int).toNat).take ((nth p3 2).toInt.toNat - (0 : Int).toNat)).length) 17592186044416)
  (iff (leN ((([] : List PV) ++ (((nth p3 1).toList.drop (0 : Int).toNat).take ((nth p3 2).toInt.toNat - (0 : Int).toNat))).length + ((nth p3 0) :: ([] : List PV)).length) 17592186044416)
  (iff (geI (nth p3 2).toInt (0 : Int))
  (iff (leI (nth p3 2).toInt ((nth p3 1).toList.length : Int))
  (iff (leI ((nth p3 1).toList.length : Int) ((nth p3 1).toList.length : Int))
  (iff (leN (((([] : List PV) ++ (((nth p3 1).toList.drop (0 : Int).toNat).take ((nth p3 2).toInt.toNat - (0 : Int).toNat))) ++ ((nth p3 0) :: ([] : List PV))).length + (((nth p3 1).toList.drop (nth p3 2).toInt.toNat).take (((nth p3 1).toList.length : Int).toNat - (nth p3 2).toInt.toNat)).length) 17592186044416)
  (some [(PV.list (((([] : List PV) ++ (((nth p3 1).toList.drop (0 : Int).toNat).take ((nth p3 2).toInt.toNat - (0 : Int).toNat))) ++ ((nth p3 0) :: ([] : List PV))) ++ (((nth p3 1).toList.drop (nth p3 2).toInt.toNat).take (((nth p3 1).toList.length : Int).toNat - (nth p3 2).toInt.toNat))))])
  none)
  none)
  none)
  none)
  none)
  none)
  none)
  none)
  none))
  (retE fun q4 => [(nth q4 0)]))))
theorem e64 : ∀ I n a, (compF Tryz.prog sg 64).map (fun d => d.ev I n a) = some (F64 I n a) := fun I n a => by kernel_rfl
/-! impl.copyHeap -/
noncomputable def F23 (I : Interp) (n : Nat) (a : List PV) : Option (List PV) :=
  ((I 24 [((nth a 0).fld 0)]).bind fun r0 =>
  (some [((nth a 0).setFld 0 (nth r0 0))]))
theorem e23 : ∀ I n a, (compF Tryz.prog sg 23).map (fun d => d.ev I n a) = some (F23 I n a) := fun I n a => by kernel_rfl
/-! spec.WordOk -/
noncomputable def F76 (I : Interp) (n : Nat) (a : List PV) : Option (List PV) :=
  ((I 75 [(nth a 0), (PV.int (-1073741824 : Int)), (PV.int (1073741823 : Int))]).bind fun r0 =>
  (some [(nth r0 0)]))
theorem e76 : ∀ I n a, (compF Tryz.prog sg 76).map (fun d => d.ev I n a) = some (F76 I n a) := fun I n a => by kernel_rfl
/-! spec.l1Below -/
noncomputable def F21 (I : Interp) (n : Nat) (a : List PV) : Option (List PV) :=
  (iff (leI (nth a 1).toInt (0 : Int))
  (some [(PV.int (0 : Int)), (nth a 0)])
  (iff (leI (nth a 1).toInt (256 : Int))
  ((I 50 [(nth a 0)]).bind fun r0 =>
  (iff (neI (nth a 1).toInt (0 : Int))
  (some [(PV.int (arith BinOp.rem IntKind.i64 (nth r0 0).toInt (nth a 1).toInt)), (nth r0 1)])
  none))
  ((I 50 [(nth a 0)]).bind fun r1 =>
  ((I 50 [(nth r1 1)]).bind fun r2 =>
  ((I 50 [(nth r2 1)]).bind fun r3 =>
  ((I 50 [(nth r3 1)]).bind fun r4 =>
  (iff (neI (nth a 1).toInt (0 : Int))
  (some [(PV.int (arith BinOp.rem IntKind.i64 (IntKind.i64.wrap ((IntKind.i64.wrap ((IntKind.i64.wrap ((IntKind.i64.wrap ((nth r1 0).toInt * (16777216 : Int))) + (IntKind.i64.wrap ((nth r2 0).toInt * (65536 : Int))))) + (IntKind.i64.wrap ((nth r3 0).toInt * (256 : Int))))) + (nth r4 0).toInt)) (nth a 1).toInt)), (nth r4 1)])
  none)))))))
theorem e21 : ∀ I n a, (compF Tryz.prog sg 21).map (fun d => d.ev I n a) = some (F21 I n a) := fun I n a => by kernel_rfl
/-! spec.l1Below -/
noncomputable def F4117 (I : Interp) (n : Nat) (a : List PV) : Option (List PV) :=
  (iff (leI (nth a 1).toInt (0 : Int))
  (some [(PV.int (0 : Int)), (nth a 0)])
  (iff (leI (nth a 1).toInt (256 : Int))
  ((I 4146 [(nth a 0)]).bind fun r0 =>
  (iff (neI (nth a 1).toInt (0 : Int))
  (some [(PV.int (arith BinOp.rem IntKind.i64 (nth r0 0).toInt (nth a 1).toInt)), (nth r0 1)])
  none))
  ((I 4146 [(nth a 0)]).bind fun r1 =>
  ((I 4146 [(nth r1 1)]).bind fun r2 =>
  ((I 4146 [(nth r2 1)]).bind fun r3 =>
  ((I 4146 [(nth r3 1)]).bind fun r4 =>
  (iff (neI (nth a 1).toInt (0 : Int))
  (some [(PV.int (arith BinOp.rem IntKind.i64 (IntKind.i64.wrap ((IntKind.i64.wrap ((IntKind.i64.wrap ((IntKind.i64.wrap ((nth r1 0).toInt * (16777216 : Int))) + (IntKind.i64.wrap ((nth r2 0).toInt * (65536 : Int))))) + (IntKind.i64.wrap ((nth r3 0).toInt * (256 : Int))))) + (nth r4 0).toInt)) (nth a 1).toInt)), (nth r4 1)])
  none)))))))
theorem e4117 : ∀ I n a, (compF Tryz.prog sg 4117).map (fun d => d.ev I n a) = some (F4117 I n a) := fun I n a => by kernel_rfl
/-! spec.HeapNew -/
noncomputable def F69 (I : Interp) (n : Nat) (a : List PV) : Option (List PV) :=
  ((I 75 [(nth a 0), (PV.int (1 : Int)), (PV.int (3000 : Int))]).bind fun r0 =>
  (iff (!(nth r0 0).toBool)
  (some [(PV.agg [(PV.list ([] : List PV)), (PV.int (0 : Int)), (PV.int (0 : Int)), (PV.int (0 : Int))]), (PV.bool false)])
  (iff (geI (IntKind.i64.wrap ((2 : Int) * (nth a 0).toInt)) (0 : Int))
  (iff (leI (IntKind.i64.wrap ((2 : Int) * (nth a 0).toInt)) (IntKind.i64.wrap ((2 : Int) * (nth a 0).toInt)))
  (iff (leI (IntKind.i64.wrap ((2 : Int) * (nth a 0).toInt)) (17592186044416 : Int))
  (some [(PV.agg [(PV.list (List.replicate (IntKind.i64.wrap ((2 : Int) * (nth a 0).toInt)).toNat (PV.int (0 : Int)))), (nth a 0), (PV.int (0 : Int)), (PV.int (0 : Int))]), (PV.bool true)])
  none)
  none)
  none)))
theorem e69 : ∀ I n a, (compF Tryz.prog sg 69).map (fun d => d.ev I n a) = some (F69 I n a) := fun I n a => by kernel_rfl
/-! impl.Digits -/
noncomputable def F38 (I : Interp) (n : Nat) (a : List PV) : Option (List PV) :=
  ((I 65 [(nth a 0)]).bind fun r0 =>
  (some [(nth r0 0)]))
theorem e38 : ∀ I n a, (compF Tryz.prog sg 38).map (fun d => d.ev I n a) = some (F38 I n a) := fun I n a => by kernel_rfl
/-! spec.l17Head -/
noncomputable def F99 (I : Interp) (n : Nat) (a : List PV) : Option (List PV) :=
  ((I 105 [(nth a 0)]).bind fun r0 =>
  (some [(PV.int (IntKind.i64.wrap ((IntKind.i64.wrap ((2 : Int) * (IntKind.i64.wrap ((IntKind.i64.wrap ((2 : Int) * (IntKind.i64.wrap ((IntKind.i64.wrap ((64 : Int) * (nth a 1).toInt)) + (nth a 2).toInt)))) + (nth r0 0).toInt)))) + (1 : Int))))]))
theorem e99 : ∀ I n a, (compF Tryz.prog sg 99).map (fun d => d.ev I n a) = some (F99 I n a) := fun I n a => by kernel_rfl
/-! laws.sameHeap -/
noncomputable def F8 (I : Interp) (n : Nat) (a : List PV) : Option (List PV) :=
  ((iff ((selB (selB (eqI ((nth a 0).fld 1).toInt ((nth a 1).fld 1).toInt) (selB ((eqI ((nth a 0).fld 1).toInt ((nth a 1).fld 1).toInt) == true) (PV.bool (eqI (selB ((eqI ((nth a 0).fld 1).toInt ((nth a 1).fld 1).toInt) == true) ((nth a 0).fld 2) PV.unit).toInt (selB ((eqI ((nth a 0).fld 1).toInt ((nth a 1).fld 1).toInt) == true) ((nth a 1).fld 2) PV.unit).toInt)) PV.unit) (PV.bool false)).toBool (selB ((selB (eqI ((nth a 0).fld 1).toInt ((nth a 1).fld 1).toInt) (selB ((eqI ((nth a 0).fld 1).toInt ((nth a 1).fld 1).toInt) == true) (PV.bool (eqI (selB ((eqI ((nth a 0).fld 1).toInt ((nth a 1).fld 1).toInt) == true) ((nth a 0).fld 2) PV.unit).toInt (selB ((eqI ((nth a 0).fld 1).toInt ((nth a 1).fld 1).toInt) == true) ((nth a 1).fld 2) PV.unit).toInt)) PV.unit) (PV.bool false)).isB true) (PV.bool (eqI (selB ((selB (eqI ((nth a 0).fld 1).toInt ((nth a 1).fld 1).toInt) (selB ((eqI ((nth a 0).fld 1).toInt ((nth a 1).fld 1).toInt) == true) (PV.bool (eqI (selB ((eqI ((nth a 0).fld 1).toInt ((nth a 1).fld 1).toInt) == true) ((nth a 0).fld 2) PV.unit).toInt (selB ((eqI ((nth a 0).fld 1).toInt ((nth a 1).fld 1).toInt) == true) ((nth a 1).fld 2) PV.unit).toInt)) PV.unit) (PV.bool false)).isB true) ((nth a 0).fld 3) PV.unit).toInt (selB ((selB (eqI ((nth a 0).fld 1).toInt ((nth a 1).fld 1).toInt) (selB ((eqI ((nth a 0).fld 1).toInt ((nth a 1).fld 1).toInt) == true) (PV.bool (eqI (selB ((eqI ((nth a 0).fld 1).toInt ((nth a 1).fld 1).toInt) == true) ((nth a 0).fld 2) PV.unit).toInt (selB ((eqI ((nth a 0).fld 1).toInt ((nth a 1).fld 1).toInt) == true) ((nth a 1).fld 2) PV.unit).toInt)) PV.unit) (PV.bool false)).isB true) ((nth a 1).fld 3) PV.unit).toInt)) PV.unit) (PV.bool false)).isB true)
  ((I 9 [(selB ((selB (selB (eqI ((nth a 0).fld 1).toInt ((nth a 1).fld 1).toInt) (selB ((eqI ((nth a 0).fld 1).toInt ((nth a 1).fld 1).toInt) == true) (PV.bool (eqI (selB ((eqI ((nth a 0).fld 1).toInt ((nth a 1).fld 1).toInt) == true) ((nth a 0).fld 2) PV.unit).toInt (selB ((eqI ((nth a 0).fld 1).toInt ((nth a 1).fld 1).toInt) == true) ((nth a 1).fld 2) PV.unit).toInt)) PV.unit) (PV.bool false)).toBool (selB ((selB (eqI ((nth a 0).fld 1).toInt ((nth a 1).fld 1).toInt) (selB ((eqI ((nth a 0).fld 1).toInt ((nth a 1).fld 1).toInt) == true) (PV.bool (eqI (selB ((eqI ((nth a 0).fld 1).toInt ((nth a 1).fld 1).toInt) == true) ((nth a 0).fld 2) PV.unit).toInt (selB ((eqI ((nth a 0).fld 1).toInt ((nth a 1).fld 1).toInt) == true) ((nth a 1).fld 2) PV.unit).toInt)) PV.unit) (PV.bool false)).isB true) (PV.bool (eqI (selB ((selB (eqI ((nth a 0).fld 1).toInt ((nth a 1).fld 1).toInt) (selB ((eqI ((nth a 0).fld 1).toInt ((nth a 1).fld 1).toInt) == true) (PV.bool (eqI (selB ((eqI ((nth a 0).fld 1).toInt ((nth a 1).fld 1).toInt) == true) ((nth a 0).fld 2) PV.unit).toInt (selB ((eqI ((nth a 0).fld 1).toInt ((nth a 1).fld 1).toInt) == true) ((nth a 1).fld 2) PV.unit).toInt)) PV.unit) (PV.bool false)).isB true) ((nth a 0).fld 3) PV.unit).toInt (selB ((selB (eqI ((nth a 0).fld 1).toInt ((nth a 1).fld 1).toInt) (selB ((eqI ((nth a 0).fld 1).toInt ((nth a 1).fld 1).toInt) == true) (PV.bool (eqI (selB ((eqI ((nth a 0).fld 1).toInt ((nth a 1).fld 1).toInt) == true) ((nth a 0).fld 2) PV.unit).toInt (selB ((eqI ((nth a 0).fld 1).toInt ((nth a 1).fld 1).toInt) == true) ((nth a 1).fld 2) PV.unit).toInt)) PV.unit) (PV.bool false)).isB true) ((nth a 1).fld 3) PV.unit).toInt)) PV.unit) (PV.bool false)).isB true) ((nth a 0).fld 0) PV.unit), (selB ((selB (selB (eqI ((nth a 0).fld 1).toInt ((nth a 1).fld 1).toInt) (selB ((eqI ((nth a 0).fld 1).toInt ((nth a 1).fld 1).toInt) == true) (PV.bool (eqI (selB ((eqI ((nth a 0).fld 1).toInt ((nth a 1).fld 1).toInt) == true) ((nth a 0).fld 2) PV.unit).toInt (selB ((eqI ((nth a 0).fld 1).toInt ((nth a 1).fld 1).toInt) == true) ((nth a 1).fld 2) PV.unit).toInt)) PV.unit) (PV.bool false)).toBool (selB ((selB (eqI ((nth a 0).fld 1).toInt ((nth a 1).fld 1).toInt) (selB ((eqI ((nth a 0).fld 1).toInt ((nth a 1).fld 1).toInt) == true) (PV.bool (eqI (selB ((eqI ((nth a 0).fld 1).toInt ((nth a 1).fld 1).toInt) == true) ((nth a 0).fld 2) PV.unit).toInt (selB ((eqI ((nth a 0).fld 1).toInt ((nth a 1).fld 1).toInt) == true) ((nth a 1).fld 2) PV.unit).toInt)) PV.unit) (PV.bool false)).isB true) (PV.bool (eqI (selB ((selB (eqI ((nth a 0).fld 1).toInt ((nth a 1).fld 1).toInt) (selB ((eqI ((nth a 0).fld 1).toInt ((nth a 1).fld 1).toInt) == true) (PV.bool (eqI (selB ((eqI ((nth a 0).fld 1).toInt ((nth a 1).fld 1).toInt) == true) ((nth a 0).fld 2) PV.unit).toInt (selB ((eqI ((nth a 0).fld 1).toInt ((nth a 1).fld 1).toInt) == true) ((nth a 1).fld 2) PV.unit).toInt)) PV.unit) (PV.bool false)).isB true) ((nth a 0).fld 3) PV.unit).toInt (selB ((selB (eqI ((nth a 0).fld 1).toInt ((nth a 1).fld 1).toInt) (selB ((eqI ((nth a 0).fld 1).toInt ((nth a 1).fld 1).toInt) == true) (PV.bool (eqI (selB ((eqI ((nth a 0).fld 1).toInt ((nth a 1).fld 1).toInt) == true) ((nth a 0).fld 2) PV.unit).toInt (selB ((eqI ((nth a 0).fld 1).toInt ((nth a 1).fld 1).toInt) == true) ((nth a 1).fld 2) PV.unit).toInt)) PV.unit) (PV.bool false)).isB true) ((nth a 1).fld 3) PV.unit).toInt)) PV.unit) (PV.bool false)).isB true) ((nth a 1).fld 0) PV.unit)]).bind fun r0 =>
  (some [(nth r0 0), (nth r0 0)]))
  (some [PV.unit, PV.unit])).bind fun g1 =>
  (some [(selB (selB (selB (eqI ((nth a 0).fld 1).toInt ((nth a 1).fld 1).toInt) (selB ((eqI ((nth a 0).fld 1).toInt ((nth a 1).fld 1).toInt) == true) (PV.bool (eqI (selB ((eqI ((nth a 0).fld 1).toInt ((nth a 1).fld 1).toInt) == true) ((nth a 0).fld 2) PV.unit).toInt (selB ((eqI ((nth a 0).fld 1).toInt ((nth a 1).fld 1).toInt) == true) ((nth a 1).fld 2) PV.unit).toInt)) PV.unit) (PV.bool false)).toBool (selB ((selB (eqI ((nth a 0).fld 1).toInt ((nth a 1).fld 1).toInt) (selB ((eqI ((nth a 0).fld 1).toInt ((nth a 1).fld 1).toInt) == true) (PV.bool (eqI (selB ((eqI ((nth a 0).fld 1).toInt ((nth a 1).fld 1).toInt) == true) ((nth a 0).fld 2) PV.unit).toInt (selB ((eqI ((nth a 0).fld 1).toInt ((nth a 1).fld 1).toInt) == true) ((nth a 1).fld 2) PV.unit).toInt)) PV.unit) (PV.bool false)).isB true) (PV.bool (eqI (selB ((selB (eqI ((nth a 0).fld 1).toInt ((nth a 1).fld 1).toInt) (selB ((eqI ((nth a 0).fld 1).toInt ((nth a 1).fld 1).toInt) == true) (PV.bool (eqI (selB ((eqI ((nth a 0).fld 1).toInt ((nth a 1).fld 1).toInt) == true) ((nth a 0).fld 2) PV.unit).toInt (selB ((eqI ((nth a 0).fld 1).toInt ((nth a 1).fld 1).toInt) == true) ((nth a 1).fld 2) PV.unit).toInt)) PV.unit) (PV.bool false)).isB true) ((nth a 0).fld 3) PV.unit).toInt (selB ((selB (eqI ((nth a 0).fld 1).toInt ((nth a 1).fld 1).toInt) (selB ((eqI ((nth a 0).fld 1).toInt ((nth a 1).fld 1).toInt) == true) (PV.bool (eqI (selB ((eqI ((nth a 0).fld 1).toInt ((nth a 1).fld 1).toInt) == true) ((nth a 0).fld 2) PV.unit).toInt (selB ((eqI ((nth a 0).fld 1).toInt ((nth a 1).fld 1).toInt) == true) ((nth a 1).fld 2) PV.unit).toInt)) PV.unit) (PV.bool false)).isB true) ((nth a 1).fld 3) PV.unit).toInt)) PV.unit) (PV.bool false)).toBool (nth g1 0) (PV.bool false))]))
theorem e8 : ∀ I n a, (compF Tryz.prog sg 8).map (fun d => d.ev I n a) = some (F8 I n a) := fun I n a => by kernel_rfl
/-! impl.header -/
noncomputable def F40 (I : Interp) (n : Nat) (a : List PV) : Option (List PV) :=
  ((I 39 [(nth a 0)]).bind fun r0 =>
  (iff (geI (7 : Int) (0 : Int))
  (iff (geI (1 : Int) (0 : Int))
  ((I 28 [(nth a 0)]).bind fun r1 =>
  (some [(PV.bool (eqI (arith BinOp.and IntKind.i64 (nth r0 0).toInt (1 : Int)) (1 : Int))), (PV.int (arith BinOp.shr IntKind.i64 (nth r0 0).toInt (7 : Int))), (PV.int (arith BinOp.and IntKind.i64 (arith BinOp.shr IntKind.i64 (nth r0 0).toInt (1 : Int)) (63 : Int))), (selB (selB (selB (!(nth r1 0).toBool) (selB ((!(nth r1 0).toBool) == true) (PV.bool (geI (selB ((!(nth r1 0).toBool) == true) (nth r0 0) PV.unit).toInt (0 : Int))) PV.unit) (PV.bool false)).toBool (selB ((selB (!(nth r1 0).toBool) (selB ((!(nth r1 0).toBool) == true) (PV.bool (geI (selB ((!(nth r1 0).toBool) == true) (nth r0 0) PV.unit).toInt (0 : Int))) PV.unit) (PV.bool false)).isB true) (PV.bool (leI (selB ((selB (!(nth r1 0).toBool) (selB ((!(nth r1 0).toBool) == true) (PV.bool (geI (selB ((!(nth r1 0).toBool) == true) (nth r0 0) PV.unit).toInt (0 : Int))) PV.unit) (PV.bool false)).isB true) (PV.int (arith BinOp.shr IntKind.i64 (nth r0 0).toInt (7 : Int))) PV.unit).toInt (3000 : Int))) PV.unit) (PV.bool false)).toBool (selB ((selB (selB (!(nth r1 0).toBool) (selB ((!(nth r1 0).toBool) == true) (PV.bool (geI (selB ((!(nth r1 0).toBool) == true) (nth r0 0) PV.unit).toInt (0 : Int))) PV.unit) (PV.bool false)).toBool (selB ((selB (!(nth r1 0).toBool) (selB ((!(nth r1 0).toBool) == true) (PV.bool (geI (selB ((!(nth r1 0).toBool) == true) (nth r0 0) PV.unit).toInt (0 : Int))) PV.unit) (PV.bool false)).isB true) (PV.bool (leI (selB ((selB (!(nth r1 0).toBool) (selB ((!(nth r1 0).toBool) == true) (PV.bool (geI (selB ((!(nth r1 0).toBool) == true) (nth r0 0) PV.unit).toInt (0 : Int))) PV.unit) (PV.bool false)).isB true) (PV.int (arith BinOp.shr IntKind.i64 (nth r0 0).toInt (7 : Int))) PV.unit).toInt (3000 : Int))) PV.unit) (PV.bool false)).isB true) (PV.bool (leI (selB ((selB (selB (!(nth r1 0).toBool) (selB ((!(nth r1 0).toBool) == true) (PV.bool (geI (selB ((!(nth r1 0).toBool) == true) (nth r0 0) PV.unit).toInt (0 : Int))) PV.unit) (PV.bool false)).toBool (selB ((selB (!(nth r1 0).toBool) (selB ((!(nth r1 0).toBool) == true) (PV.bool (geI (selB ((!(nth r1 0).toBool) == true) (nth r0 0) PV.unit).toInt (0 : Int))) PV.unit) (PV.bool false)).isB true) (PV.bool (leI (selB ((selB (!(nth r1 0).toBool) (selB ((!(nth r1 0).toBool) == true) (PV.bool (geI (selB ((!(nth r1 0).toBool) == true) (nth r0 0) PV.unit).toInt (0 : Int))) PV.unit) (PV.bool false)).isB true) (PV.int (arith BinOp.shr IntKind.i64 (nth r0 0).toInt (7 : Int))) PV.unit).toInt (3000 : Int))) PV.unit) (PV.bool false)).isB true) (PV.int (arith BinOp.and IntKind.i64 (arith BinOp.shr IntKind.i64 (nth r0 0).toInt (1 : Int)) (63 : Int))) PV.unit).toInt (20 : Int))) PV.unit) (PV.bool false))]))
  none)
  none))
theorem e40 : ∀ I n a, (compF Tryz.prog sg 40).map (fun d => d.ev I n a) = some (F40 I n a) := fun I n a => by kernel_rfl
/-! spec.l1Once -/
noncomputable def F72 (I : Interp) (n : Nat) (a : List PV) : Option (List PV) :=
  ((I 21 [(nth a 0), (nth a 1)]).bind fun r0 =>
  (some [(PV.bool (eqI (nth r0 0).toInt (0 : Int))), (nth r0 1)]))
theorem e72 : ∀ I n a, (compF Tryz.prog sg 72).map (fun d => d.ev I n a) = some (F72 I n a) := fun I n a => by kernel_rfl
/-! spec.l1Once -/
noncomputable def F4168 (I : Interp) (n : Nat) (a : List PV) : Option (List PV) :=
  ((I 4117 [(nth a 0), (nth a 1)]).bind fun r0 =>
  (some [(PV.bool (eqI (nth r0 0).toInt (0 : Int))), (nth r0 1)]))
theorem e4168 : ∀ I n a, (compF Tryz.prog sg 4168).map (fun d => d.ev I n a) = some (F4168 I n a) := fun I n a => by kernel_rfl
/-! impl.met$1 -/
noncomputable def L53_0 (I : Interp) (n : Nat) (p0 : List PV) : Option (Ex × List PV) :=
  (iff (ltI (nth p0 0).toInt (nth p0 1).toInt)
  (thenN (iff (geI (nth p0 0).toInt (0 : Int))
  (iff (ltI (nth p0 0).toInt ((nth p0 2).toList.length : Int))
  ((I 28 [(nth (nth p0 2).toList (nth p0 0).toInt.toNat)]).bind fun r1 =>
  (iff (selB (nth r1 0).toBool (selB ((nth r1 0).isB true) (PV.bool (!(selB ((nth r1 0).isB true) (mgetL (PV.bool false) (selB ((nth r1 0).isB true) (nth (nth p0 2).toList (nth p0 0).toInt.toNat) PV.unit).toInt (nth p0 3).toList) PV.unit).toBool)) PV.unit) (PV.bool false)).toBool
  ((I 30 [(nth (nth p0 2).toList (nth p0 0).toInt.toNat)]).bind fun r2 =>
  (iff (leN ((nth p0 4).toList.length + ((nth r2 0) :: ([] : List PV)).length) 17592186044416)
  (some (Ex.n, [(nth p0 0), (nth p0 1), (nth p0 2), (PV.list (msetL (nth (nth p0 2).toList (nth p0 0).toInt.toNat).toInt (PV.bool true) (nth p0 3).toList)), (PV.list ((nth p0 4).toList ++ ((nth r2 0) :: ([] : List PV))))]))
  none))
  (some (Ex.n, [(nth p0 0), (nth p0 1), (nth p0 2), (nth p0 3), (nth p0 4)]))))
  none)
  none)
  (fun p3 => (some (Ex.n, [(PV.int (IntKind.i64.wrap ((nth p3 0).toInt + (1 : Int)))), (nth p3 1), (nth p3 2), (nth p3 3), (nth p3 4)])))
  passE)
  (some (Ex.x 0, [(nth p0 3), (nth p0 4)])))
noncomputable def F53 (I : Interp) (n : Nat) (a : List PV) : Option (List PV) :=
  (thenN (thenE (loopEv (L53_0 I n) n [(PV.int (0 : Int)), (PV.int ((nth a 0).toList.length : Int)), (nth a 0), (nth a 1), (nth a 2)])
  (passB 0))
  (fun p4 => (some [(nth p4 0), (nth p4 1)]))
  (retE fun q5 => [(nth q5 0), (nth q5 1)]))
theorem e53 : ∀ I n a, (compF Tryz.prog sg 53).map (fun d => d.ev I n a) = some (F53 I n a) := fun I n a => by kernel_rfl
/-! impl.met$1 -/
noncomputable def L4149_0 (I : Interp) (n : Nat) (p0 : List PV) : Option (Ex × List PV) :=
  (iff (ltI (nth p0 0).toInt (nth p0 1).toInt)
  (thenN (iff (geI (nth p0 0).toInt (0 : Int))
  (iff (ltI (nth p0 0).toInt ((nth p0 2).toList.length : Int))
  ((I 28 [(nth (nth p0 2).toList (nth p0 0).toInt.toNat)]).bind fun r1 =>
  (iff (selB (nth r1 0).toBool (selB ((nth r1 0).isB true) (PV.bool (!(selB ((nth r1 0).isB true) (mgetL (PV.bool false) (selB ((nth r1 0).isB true) (nth (nth p0 2).toList (nth p0 0).toInt.toNat) PV.unit).toInt (nth p0 3).toList) PV.unit).toBool)) PV.unit) (PV.bool false)).toBool
  ((I 30 [(nth (nth p0 2).toList (nth p0 0).toInt.toNat)]).bind fun r2 =>
  (iff (leN ((nth p0 4).toList.length + ((nth r2 0) :: ([] : List PV)).length) 17592186044416)
  (some (Ex.n, [(nth p0 0), (nth p0 1), (nth p0 2), (PV.list (msetL (nth (nth p0 2).toList (nth p0 0).toInt.toNat).toInt (PV.bool true) (nth p0 3).toList)), (PV.list ((nth p0 4).toList ++ ((nth r2 0) :: ([] : List PV))))]))
  none))
  (some (Ex.n, [(nth p0 0), (nth p0 1), (nth p0 2), (nth p0 3), (nth p0 4)]))))
  none)
  none)
  (fun p3 => (some (Ex.n, [(PV.int (IntKind.i64.wrap ((nth p3 0).toInt + (1 : Int)))), (nth p3 1), (nth p3 2), (nth p3 3), (nth p3 4)])))
  passE)
  (some (Ex.x 0, [(nth p0 2), (nth p0 3), (nth p0 4)])))
noncomputable def F4149 (I : Interp) (n : Nat) (a : List PV) : Option (List PV) :=
  (thenN (thenE (loopEv (L4149_0 I n) n [(PV.int (0 : Int)), (PV.int ((nth a 0).toList.length : Int)), (nth a 0), (nth a 1), (nth a 2)])
  (passB 0))
  (fun p4 => (some [(nth p4 0), (nth p4 1), (nth p4 2)]))
  (retE fun q5 => [(nth q5 0), (nth q5 1), (nth q5 2)]))
theorem e4149 : ∀ I n a, (compF Tryz.prog sg 4149).map (fun d => d.ev I n a) = some (F4149 I n a) := fun I n a => by kernel_rfl
/-! impl.met$1 -/
noncomputable def L8245_0 (I : Interp) (n : Nat) (p0 : List PV) : Option (Ex × List PV) :=
  (iff (ltI (nth p0 0).toInt (nth p0 1).toInt)
  (thenN (iff (geI (nth p0 0).toInt (0 : Int))
  (iff (ltI (nth p0 0).toInt ((nth p0 2).toList.length : Int))
  ((I 28 [(nth (nth p0 2).toList (nth p0 0).toInt.toNat)]).bind fun r1 =>
  (iff (selB (nth r1 0).toBool (selB ((nth r1 0).isB true) (PV.bool (!(selB ((nth r1 0).isB true) (mgetL (PV.bool false) (selB ((nth r1 0).isB true) (nth (nth p0 2).toList (nth p0 0).toInt.toNat) PV.unit).toInt (nth p0 3).toList) PV.unit).toBool)) PV.unit) (PV.bool false)).toBool
  ((I 30 [(nth (nth p0 2).toList (nth p0 0).toInt.toNat)]).bind fun r2 =>
  (iff (leN ((nth p0 4).toList.length + ((nth r2 0) :: ([] : List PV)).length) 17592186044416)
  (some (Ex.n, [(nth p0 0), (nth p0 1), (nth p0 2), (PV.list (msetL (nth (nth p0 2).toList (nth p0 0).toInt.toNat).toInt (PV.bool true) (nth p0 3).toList)), (PV.list ((nth p0 4).toList ++ ((nth r2 0) :: ([] : List PV))))]))
  none))
  (some (Ex.n, [(nth p0 0), (nth p0 1), (nth p0 2), (nth p0 3), (nth p0 4)]))))
  none)
  none)
  (fun p3 => (some (Ex.n, [(PV.int (IntKind.i64.wrap ((nth p3 0).toInt + (1 : Int)))), (nth p3 1), (nth p3 2), (nth p3 3), (nth p3 4)])))
  passE)
  (some (Ex.x 0, [(nth p0 3), (nth p0 4)])))
noncomputable def F8245 (I : Interp) (n : Nat) (a : List PV) : Option (List PV) :=
  (thenN (thenE (loopEv (L8245_0 I n) n [(PV.int (0 : Int)), (PV.int ((nth a 0).toList.length : Int)), (nth a 0), (nth a 1), (nth a 2)])
  (passB 0))
  (fun p4 => (some [(nth p4 0), (nth p4 1)]))
  (retE fun q5 => [(nth q5 0), (nth q5 1)]))
theorem e8245 : ∀ I n a, (compF Tryz.prog sg 8245).map (fun d => d.ev I n a) = some (F8245 I n a) := fun I n a => by kernel_rfl
/-! spec.l17Put -/
noncomputable def L91_0 (I : Interp) (n : Nat) (p1 : List PV) : Option (Ex × List PV) :=
  (iff (ltI (nth p1 0).toInt ((nth p1 1).toList.length : Int))
  (iff (geI (nth p1 0).toInt (0 : Int))
  (iff (ltI (nth p1 0).toInt ((nth p1 1).toList.length : Int))
  (iff (geI (IntKind.i64.wrap ((IntKind.i64.wrap ((nth p1 2).toInt + (1 : Int))) + (nth p1 0).toInt)) (0 : Int))
  (iff (ltI (IntKind.i64.wrap ((IntKind.i64.wrap ((nth p1 2).toInt + (1 : Int))) + (nth p1 0).toInt)) (((nth p1 3).fld 0).toList.length : Int))
  (some (Ex.n, [(PV.int (IntKind.i64.wrap ((nth p1 0).toInt + (1 : Int)))), (nth p1 1), (nth p1 2), ((nth p1 3).setFld 0 (PV.list (((nth p1 3).fld 0).toList.set (IntKind.i64.wrap ((IntKind.i64.wrap ((nth p1 2).toInt + (1 : Int))) + (nth p1 0).toInt)).toNat (nth (nth p1 1).toList (nth p1 0).toInt.toNat)))), (nth p1 4)]))
  none)
  none)
  none)
  none)
  (some (Ex.x 0, [(nth p1 1), (nth p1 2), (nth p1 3), (nth p1 4)])))
noncomputable def F91 (I : Interp) (n : Nat) (a : List PV) : Option (List PV) :=
  (iff (geI ((nth a 3).toList.length : Int) (IntKind.i64.wrap ((IntKind.i64.wrap (((nth a 0).fld 2).toInt + ((nth a 0).fld 1).toInt)) - ((nth a 0).fld 3).toInt)))
  (some [(nth a 0), (PV.int (0 : Int)), (PV.bool false)])
  ((I 99 [(nth a 1), (nth a 2), (PV.int ((nth a 3).toList.length : Int))]).bind fun r0 =>
  (iff (geI ((nth a 0).fld 3).toInt (0 : Int))
  (iff (ltI ((nth a 0).fld 3).toInt (((nth a 0).fld 0).toList.length : Int))
  (thenN (thenE (loopEv (L91_0 I n) n [(PV.int (0 : Int)), (nth a 3), ((nth a 0).fld 3), ((nth a 0).setFld 0 (PV.list (((nth a 0).fld 0).toList.set ((nth a 0).fld 3).toInt.toNat (nth r0 0)))), (PV.agg [(PV.list ([] : List PV)), (PV.int (0 : Int)), (PV.int (0 : Int)), (PV.int (0 : Int))])])
  (passB 0))
  (fun p2 => (some [((nth p2 2).setFld 3 (PV.int (IntKind.i64.wrap ((IntKind.i64.wrap ((nth p2 1).toInt + (1 : Int))) + ((nth p2 0).toList.length : Int))))), (nth p2 1), (PV.bool true)]))
  (retE fun q3 => [(nth q3 2), (nth q3 0), (nth q3 1)]))
  none)
  none)))
theorem e91 : ∀ I n a, (compF Tryz.prog sg 91).map (fun d => d.ev I n a) = some (F91 I n a) := fun I n a => by kernel_rfl
/-! spec.l17Put -/
noncomputable def L4187_0 (I : Interp) (n : Nat) (p1 : List PV) : Option (Ex × List PV) :=
  (iff (ltI (nth p1 0).toInt ((nth p1 2).toList.length : Int))
  (iff (geI (nth p1 0).toInt (0 : Int))
  (iff (ltI (nth p1 0).toInt ((nth p1 2).toList.length : Int))
  (iff (geI (IntKind.i64.wrap ((IntKind.i64.wrap ((nth p1 1).toInt + (1 : Int))) + (nth p1 0).toInt)) (0 : Int))
  (iff (ltI (IntKind.i64.wrap ((IntKind.i64.wrap ((nth p1 1).toInt + (1 : Int))) + (nth p1 0).toInt)) (((nth p1 3).fld 0).toList.length : Int))
  (some (Ex.n, [(PV.int (IntKind.i64.wrap ((nth p1 0).toInt + (1 : Int)))), (nth p1 1), (nth p1 2), ((nth p1 3).setFld 0 (PV.list (((nth p1 3).fld 0).toList.set (IntKind.i64.wrap ((IntKind.i64.wrap ((nth p1 1).toInt + (1 : Int))) + (nth p1 0).toInt)).toNat (nth (nth p1 2).toList (nth p1 0).toInt.toNat)))), (nth p1 4)]))
  none)
  none)
  none)
  none)
  (some (Ex.x 0, [(nth p1 1), (nth p1 2), (nth p1 3), (nth p1 4)])))
noncomputable def F4187 (I : Interp) (n : Nat) (a : List PV) : Option (List PV) :=
  (iff (geI ((nth a 3).toList.length : Int) (IntKind.i64.wrap ((IntKind.i64.wrap (((nth a 0).fld 2).toInt + ((nth a 0).fld 1).toInt)) - ((nth a 0).fld 3).toInt)))
  (some [(nth a 0), (PV.int (0 : Int)), (PV.bool false), (nth a 3)])
  ((I 99 [(nth a 1), (nth a 2), (PV.int ((nth a 3).toList.length : Int))]).bind fun r0 =>
  (iff (geI ((nth a 0).fld 3).toInt (0 : Int))
  (iff (ltI ((nth a 0).fld 3).toInt (((nth a 0).fld 0).toList.length : Int))
  (thenN (thenE (loopEv (L4187_0 I n) n [(PV.int (0 : Int)), ((nth a 0).fld 3), (nth a 3), ((nth a 0).setFld 0 (PV.list (((nth a 0).fld 0).toList.set ((nth a 0).fld 3).toInt.toNat (nth r0 0)))), (PV.agg [(PV.list ([] : List PV)), (PV.int (0 : Int)), (PV.int (0 : Int)), (PV.int (0 : Int))])])
  (passB 0))
  (fun p2 => (some [((nth p2 2).setFld 3 (PV.int (IntKind.i64.wrap ((IntKind.i64.wrap ((nth p2 0).toInt + (1 : Int))) + ((nth p2 1).toList.length : Int))))), (nth p2 0), (PV.bool true), (nth p2 1)]))
  (retE fun q3 => [(nth q3 3), (nth q3 1), (nth q3 2), (nth q3 0)]))
  none)
  none)))
theorem e4187 : ∀ I n a, (compF Tryz.prog sg 4187).map (fun d => d.ev I n a) = some (F4187 I n a) := fun I n a => by kernel_rfl
/-! spec.l17Put -/
noncomputable def L8283_0 (I : Interp) (n : Nat) (p1 : List PV) : Option (Ex × List PV) :=
  (iff (ltI (nth p1 0).toInt ((nth p1 1).toList.length : Int))
  (iff (geI (nth p1 0).toInt (0 : Int))
  (iff (ltI (nth p1 0).toInt ((nth p1 1).toList.length : Int))
  (iff (geI (IntKind.i64.wrap ((IntKind.i64.wrap ((nth p1 2).toInt + (1 : Int))) + (nth p1 0).toInt)) (0 : Int))
  (iff (ltI (IntKind.i64.wrap ((IntKind.i64.wrap ((nth p1 2).toInt + (1 : Int))) + (nth p1 0).toInt)) (((nth p1 3).fld 0).toList.length : Int))
  (some (Ex.n, [(PV.int (IntKind.i64.wrap ((nth p1 0).toInt + (1 : Int)))), (nth p1 1), (nth p1 2), ((nth p1 3).setFld 0 (PV.list (((nth p1 3).fld 0).toList.set (IntKind.i64.wrap ((IntKind.i64.wrap ((nth p1 2).toInt + (1 : Int))) + (nth p1 0).toInt)).toNat (nth (nth p1 1).toList (nth p1 0).toInt.toNat)))), (nth p1 4)]))
  none)
  none)
  none)
  none)
  (some (Ex.x 0, [(nth p1 1), (nth p1 2), (nth p1 3), (nth p1 4)])))
noncomputable def F8283 (I : Interp) (n : Nat) (a : List PV) : Option (List PV) :=
  (iff (geI ((nth a 3).toList.length : Int) (IntKind.i64.wrap ((IntKind.i64.wrap (((nth a 0).fld 2).toInt + ((nth a 0).fld 1).toInt)) - ((nth a 0).fld 3).toInt)))
  (some [(nth a 0), (PV.int (0 : Int)), (PV.bool false)])
  ((I 99 [(nth a 1), (nth a 2), (PV.int ((nth a 3).toList.length : Int))]).bind fun r0 =>
  (iff (geI ((nth a 0).fld 3).toInt (0 : Int))
  (iff (ltI ((nth a 0).fld 3).toInt (((nth a 0).fld 0).toList.length : Int))
  (thenN (thenE (loopEv (L8283_0 I n) n [(PV.int (0 : Int)), (nth a 3), ((nth a 0).fld 3), ((nth a 0).setFld 0 (PV.list (((nth a 0).fld 0).toList.set ((nth a 0).fld 3).toInt.toNat (nth r0 0)))), (PV.agg [(PV.list ([] : List PV)), (PV.int (0 : Int)), (PV.int (0 : Int)), (PV.int (0 : Int))])])
  (passB 0))
  (fun p2 => (some [((nth p2 2).setFld 3 (PV.int (IntKind.i64.wrap ((IntKind.i64.wrap ((nth p2 1).toInt + (1 : Int))) + ((nth p2 0).toList.length : Int))))), (nth p2 1), (PV.bool true)]))
  (retE fun q3 => [(nth q3 2), (nth q3 0), (nth q3 1)]))
  none)
  none)))
theorem e8283 : ∀ I n a, (compF Tryz.prog sg 8283).map (fun d => d.ev I n a) = some (F8283 I n a) := fun I n a => by kernel_rfl
/-! spec.IntWord -/
noncomputable def F70 (I : Interp) (n : Nat) (a : List PV) : Option (List PV) :=
  ((I 76 [(nth a 0)]).bind fun r0 =>
  (iff (!(nth r0 0).toBool)
  (some [(PV.int (1 : Int))])
  (some [(PV.int (IntKind.i64.wrap ((IntKind.i64.wrap ((2 : Int) * (nth a 0).toInt)) + (1 : Int))))])))
theorem e70 : ∀ I n a, (compF Tryz.prog sg 70).map (fun d => d.ev I n a) = some (F70 I n a) := fun I n a => by kernel_rfl
/-! spec.l1PickInt -/
noncomputable def F49 (I : Interp) (n : Nat) (a : List PV) : Option (List PV) :=
  ((I 21 [(nth a 0), (PV.int ((nth a 1).toList.length : Int))]).bind fun r0 =>
  (iff (geI (nth r0 0).toInt (0 : Int))
  (iff (ltI (nth r0 0).toInt ((nth a 1).toList.length : Int))
  (some [(nth (nth a 1).toList (nth r0 0).toInt.toNat), (nth r0 1)])
  none)
  none))
theorem e49 : ∀ I n a, (compF Tryz.prog sg 49).map (fun d => d.ev I n a) = some (F49 I n a) := fun I n a => by kernel_rfl
/-! spec.l1PickInt -/
noncomputable def F4145 (I : Interp) (n : Nat) (a : List PV) : Option (List PV) :=
  ((I 21 [(nth a 0), (PV.int ((nth a 1).toList.length : Int))]).bind fun r0 =>
  (iff (geI (nth r0 0).toInt (0 : Int))
  (iff (ltI (nth r0 0).toInt ((nth a 1).toList.length : Int))
  (some [(nth (nth a 1).toList (nth r0 0).toInt.toNat), (nth r0 1), (nth a 1)])
  none)
  none))
theorem e4145 : ∀ I n a, (compF Tryz.prog sg 4145).map (fun d => d.ev I n a) = some (F4145 I n a) := fun I n a => by kernel_rfl
/-! spec.l1PickInt -/
noncomputable def F8241 (I : Interp) (n : Nat) (a : List PV) : Option (List PV) :=
  ((I 21 [(nth a 0), (PV.int ((nth a 1).toList.length : Int))]).bind fun r0 =>
  (iff (geI (nth r0 0).toInt (0 : Int))
  (iff (ltI (nth r0 0).toInt ((nth a 1).toList.length : Int))
  (some [(nth (nth a 1).toList (nth r0 0).toInt.toNat), (nth r0 1)])
  none)
  none))
theorem e8241 : ∀ I n a, (compF Tryz.prog sg 8241).map (fun d => d.ev I n a) = some (F8241 I n a) := fun I n a => by kernel_rfl
/-! spec.l1PickInt -/
noncomputable def F12337 (I : Interp) (n : Nat) (a : List PV) : Option (List PV) :=
  ((I 4117 [(nth a 0), (PV.int ((nth a 1).toList.length : Int))]).bind fun r0 =>
  (iff (geI (nth r0 0).toInt (0 : Int))
  (iff (ltI (nth r0 0).toInt ((nth a 1).toList.length : Int))
  (some [(nth (nth a 1).toList (nth r0 0).toInt.toNat), (nth r0 1)])
  none)
  none))
theorem e12337 : ∀ I n a, (compF Tryz.prog sg 12337).map (fun d => d.ev I n a) = some (F12337 I n a) := fun I n a => by kernel_rfl
/-! spec.l1PickInt -/
noncomputable def F16433 (I : Interp) (n : Nat) (a : List PV) : Option (List PV) :=
  ((I 4117 [(nth a 0), (PV.int ((nth a 1).toList.length : Int))]).bind fun r0 =>
  (iff (geI (nth r0 0).toInt (0 : Int))
  (iff (ltI (nth r0 0).toInt ((nth a 1).toList.length : Int))
  (some [(nth (nth a 1).toList (nth r0 0).toInt.toNat), (nth r0 1), (nth a 1)])
  none)
  none))
theorem e16433 : ∀ I n a, (compF Tryz.prog sg 16433).map (fun d => d.ev I n a) = some (F16433 I n a) := fun I n a => by kernel_rfl
/-! spec.l1PickInt -/
noncomputable def F20529 (I : Interp) (n : Nat) (a : List PV) : Option (List PV) :=
  ((I 4117 [(nth a 0), (PV.int ((nth a 1).toList.length : Int))]).bind fun r0 =>
  (iff (geI (nth r0 0).toInt (0 : Int))
  (iff (ltI (nth r0 0).toInt ((nth a 1).toList.length : Int))
  (some [(nth (nth a 1).toList (nth r0 0).toInt.toNat), (nth r0 1)])
  none)
  none))
theorem e20529 : ∀ I n a, (compF Tryz.prog sg 20529).map (fun d => d.ev I n a) = some (F20529 I n a) := fun I n a => by kernel_rfl
/-! spec.l17Places -/
noncomputable def L56_0 (I : Interp) (n : Nat) (p0 : List PV) : Option (Ex × List PV) :=
  (iff (ltI (nth p0 0).toInt ((nth p0 2).fld 3).toInt)
  (iff (geI (nth p0 0).toInt (0 : Int))
  (iff (ltI (nth p0 0).toInt (((nth p0 2).fld 0).toList.length : Int))
  ((I 42 [(nth ((nth p0 2).fld 0).toList (nth p0 0).toInt.toNat)]).bind fun r1 =>
  ((iff ((ltI (nth ((nth p0 2).fld 0).toList (nth p0 0).toInt.toNat).toInt (0 : Int)) == false)
  ((I 61 [(selB ((ltI (nth ((nth p0 2).fld 0).toList (nth p0 0).toInt.toNat).toInt (0 : Int)) == false) (nth ((nth p0 2).fld 0).toList (nth p0 0).toInt.toNat) PV.unit)]).bind fun r2 =>
  (some [(nth r2 0), (nth r2 0)]))
  (some [PV.unit, PV.unit])).bind fun g3 =>
  (iff (selB (selB (selB (selB (ltI (nth ((nth p0 2).fld 0).toList (nth p0 0).toInt.toNat).toInt (0 : Int)) (PV.bool true) (nth g3 0)).toBool (PV.bool true) (selB ((selB (ltI (nth ((nth p0 2).fld 0).toList (nth p0 0).toInt.toNat).toInt (0 : Int)) (PV.bool true) (nth g3 0)).isB false) (PV.bool (gtI (selB ((selB (ltI (nth ((nth p0 2).fld 0).toList (nth p0 0).toInt.toNat).toInt (0 : Int)) (PV.bool true) (nth g3 0)).isB false) (nth r1 1) PV.unit).toInt (3000 : Int))) PV.unit)).toBool (PV.bool true) (selB ((selB (selB (ltI (nth ((nth p0 2).fld 0).toList (nth p0 0).toInt.toNat).toInt (0 : Int)) (PV.bool true) (nth g3 0)).toBool (PV.bool true) (selB ((selB (ltI (nth ((nth p0 2).fld 0).toList (nth p0 0).toInt.toNat).toInt (0 : Int)) (PV.bool true) (nth g3 0)).isB false) (PV.bool (gtI (selB ((selB (ltI (nth ((nth p0 2).fld 0).toList (nth p0 0).toInt.toNat).toInt (0 : Int)) (PV.bool true) (nth g3 0)).isB false) (nth r1 1) PV.unit).toInt (3000 : Int))) PV.unit)).isB false) (PV.bool (gtI (selB ((selB (selB (ltI (nth ((nth p0 2).fld 0).toList (nth p0 0).toInt.toNat).toInt (0 : Int)) (PV.bool true) (nth g3 0)).toBool (PV.bool true) (selB ((selB (ltI (nth ((nth p0 2).fld 0).toList (nth p0 0).toInt.toNat).toInt (0 : Int)) (PV.bool true) (nth g3 0)).isB false) (PV.bool (gtI (selB ((selB (ltI (nth ((nth p0 2).fld 0).toList (nth p0 0).toInt.toNat).toInt (0 : Int)) (PV.bool true) (nth g3 0)).isB false) (nth r1 1) PV.unit).toInt (3000 : Int))) PV.unit)).isB false) (nth r1 2) PV.unit).toInt (20 : Int))) PV.unit)).toBool (PV.bool true) (selB ((selB (selB (selB (ltI (nth ((nth p0 2).fld 0).toList (nth p0 0).toInt.toNat).toInt (0 : Int)) (PV.bool true) (nth g3 0)).toBool (PV.bool true) (selB ((selB (ltI (nth ((nth p0 2).fld 0).toList (nth p0 0).toInt.toNat).toInt (0 : Int)) (PV.bool true) (nth g3 0)).isB false) (PV.bool (gtI (selB ((selB (ltI (nth ((nth p0 2).fld 0).toList (nth p0 0).toInt.toNat).toInt (0 : Int)) (PV.bool true) (nth g3 0)).isB false) (nth r1 1) PV.unit).toInt (3000 : Int))) PV.unit)).toBool (PV.bool true) (selB ((selB (selB (ltI (nth ((nth p0 2).fld 0).toList (nth p0 0).toInt.toNat).toInt (0 : Int)) (PV.bool true) (nth g3 0)).toBool (PV.bool true) (selB ((selB (ltI (nth ((nth p0 2).fld 0).toList (nth p0 0).toInt.toNat).toInt (0 : Int)) (PV.bool true) (nth g3 0)).isB false) (PV.bool (gtI (selB ((selB (ltI (nth ((nth p0 2).fld 0).toList (nth p0 0).toInt.toNat).toInt (0 : Int)) (PV.bool true) (nth g3 0)).isB false) (nth r1 1) PV.unit).toInt (3000 : Int))) PV.unit)).isB false) (PV.bool (gtI (selB ((selB (selB (ltI (nth ((nth p0 2).fld 0).toList (nth p0 0).toInt.toNat).toInt (0 : Int)) (PV.bool true) (nth g3 0)).toBool (PV.bool true) (selB ((selB (ltI (nth ((nth p0 2).fld 0).toList (nth p0 0).toInt.toNat).toInt (0 : Int)) (PV.bool true) (nth g3 0)).isB false) (PV.bool (gtI (selB ((selB (ltI (nth ((nth p0 2).fld 0).toList (nth p0 0).toInt.toNat).toInt (0 : Int)) (PV.bool true) (nth g3 0)).isB false) (nth r1 1) PV.unit).toInt (3000 : Int))) PV.unit)).isB false) (nth r1 2) PV.unit).toInt (20 : Int))) PV.unit)).isB false) (PV.bool (geI (selB ((selB (selB (selB (ltI (nth ((nth p0 2).fld 0).toList (nth p0 0).toInt.toNat).toInt (0 : Int)) (PV.bool true) (nth g3 0)).toBool (PV.bool true) (selB ((selB (ltI (nth ((nth p0 2).fld 0).toList (nth p0 0).toInt.toNat).toInt (0 : Int)) (PV.bool true) (nth g3 0)).isB false) (PV.bool (gtI (selB ((selB (ltI (nth ((nth p0 2).fld 0).toList (nth p0 0).toInt.toNat).toInt (0 : Int)) (PV.bool true) (nth g3 0)).isB false) (nth r1 1) PV.unit).toInt (3000 : Int))) PV.unit)).toBool (PV.bool true) (selB ((selB (selB (ltI (nth ((nth p0 2).fld 0).toList (nth p0 0).toInt.toNat).toInt (0 : Int)) (PV.bool true) (nth g3 0)).toBool (PV.bool true) (selB ((selB (ltI (nth ((nth p0 2).fld 0).toList (nth p0 0).toInt.toNat).toInt (0 : Int)) (PV.bool true) (nth g3 0)).isB false) (PV.bool (gtI (selB ((selB (ltI (nth ((nth p0 2).fld 0).toList (nth p0 0).toInt.toNat).toInt (0 : Int)) (PV.bool true) (nth g3 0)).isB false) (nth r1 1) PV.unit).toInt (3000 : Int))) PV.unit)).isB false) (PV.bool (gtI (selB ((selB (selB (ltI (nth ((nth p0 2).fld 0).toList (nth p0 0).toInt.toNat).toInt (0 : Int)) (PV.bool true) (nth g3 0)).toBool (PV.bool true) (selB ((selB (ltI (nth ((nth p0 2).fld 0).toList (nth p0 0).toInt.toNat).toInt (0 : Int)) (PV.bool true) (nth g3 0)).isB false) (PV.bool (gtI (selB ((selB (ltI (nth ((nth p0 2).fld 0).toList (nth p0 0).toInt.toNat).toInt (0 : Int)) (PV.bool true) (nth g3 0)).isB false) (nth r1 1) PV.unit).toInt (3000 : Int))) PV.unit)).isB false) (nth r1 2) PV.unit).toInt (20 : Int))) PV.unit)).isB false) (nth r1 2) PV.unit).toInt (selB ((selB (selB (selB (ltI (nth ((nth p0 2).fld 0).toList (nth p0 0).toInt.toNat).toInt (0 : Int)) (PV.bool true) (nth g3 0)).toBool (PV.bool true) (selB ((selB (ltI (nth ((nth p0 2).fld 0).toList (nth p0 0).toInt.toNat).toInt (0 : Int)) (PV.bool true) (nth g3 0)).isB false) (PV.bool (gtI (selB ((selB (ltI (nth ((nth p0 2).fld 0).toList (nth p0 0).toInt.toNat).toInt (0 : Int)) (PV.bool true) (nth g3 0)).isB false) (nth r1 1) PV.unit).toInt (3000 : Int))) PV.unit)).toBool (PV.bool true) (selB ((selB (selB (ltI (nth ((nth p0 2).fld 0).toList (nth p0 0).toInt.toNat).toInt (0 : Int)) (PV.bool true) (nth g3 0)).toBool (PV.bool true) (selB ((selB (ltI (nth ((nth p0 2).fld 0).toList (nth p0 0).toInt.toNat).toInt (0 : Int)) (PV.bool true) (nth g3 0)).isB false) (PV.bool (gtI (selB ((selB (ltI (nth ((nth p0 2).fld 0).toList (nth p0 0).toInt.toNat).toInt (0 : Int)) (PV.bool true) (nth g3 0)).isB false) (nth r1 1) PV.unit).toInt (3000 : Int))) PV.unit)).isB false) (PV.bool (gtI (selB ((selB (selB (ltI (nth ((nth p0 2).fld 0).toList (nth p0 0).toInt.toNat).toInt (0 : Int)) (PV.bool true) (nth g3 0)).toBool (PV.bool true) (selB ((selB (ltI (nth ((nth p0 2).fld 0).toList (nth p0 0).toInt.toNat).toInt (0 : Int)) (PV.bool true) (nth g3 0)).isB false) (PV.bool (gtI (selB ((selB (ltI (nth ((nth p0 2).fld 0).toList (nth p0 0).toInt.toNat).toInt (0 : Int)) (PV.bool true) (nth g3 0)).isB false) (nth r1 1) PV.unit).toInt (3000 : Int))) PV.unit)).isB false) (nth r1 2) PV.unit).toInt (20 : Int))) PV.unit)).isB false) (PV.int (IntKind.i64.wrap ((selB ((selB (selB (selB (ltI (nth ((nth p0 2).fld 0).toList (nth p0 0).toInt.toNat).toInt (0 : Int)) (PV.bool true) (nth g3 0)).toBool (PV.bool true) (selB ((selB (ltI (nth ((nth p0 2).fld 0).toList (nth p0 0).toInt.toNat).toInt (0 : Int)) (PV.bool true) (nth g3 0)).isB false) (PV.bool (gtI (selB ((selB (ltI (nth ((nth p0 2).fld 0).toList (nth p0 0).toInt.toNat).toInt (0 : Int)) (PV.bool true) (nth g3 0)).isB false) (nth r1 1) PV.unit).toInt (3000 : Int))) PV.unit)).toBool (PV.bool true) (selB ((selB (selB (ltI (nth ((nth p0 2).fld 0).toList (nth p0 0).toInt.toNat).toInt (0 : Int)) (PV.bool true) (nth g3 0)).toBool (PV.bool true) (selB ((selB (ltI (nth ((nth p0 2).fld 0).toList (nth p0 0).toInt.toNat).toInt (0 : Int)) (PV.bool true) (nth g3 0)).isB false) (PV.bool (gtI (selB ((selB (ltI (nth ((nth p0 2).fld 0).toList (nth p0 0).toInt.toNat).toInt (0 : Int)) (PV.bool true) (nth g3 0)).isB false) (nth r1 1) PV.unit).toInt (3000 : Int))) PV.unit)).isB false) (PV.bool (gtI (selB ((selB (selB (ltI (nth ((nth p0 2).fld 0).toList (nth p0 0).toInt.toNat).toInt (0 : Int)) (PV.bool true) (nth g3 0)).toBool (PV.bool true) (selB ((selB (ltI (nth ((nth p0 2).fld 0).toList (nth p0 0).toInt.toNat).toInt (0 : Int)) (PV.bool true) (nth g3 0)).isB false) (PV.bool (gtI (selB ((selB (ltI (nth ((nth p0 2).fld 0).toList (nth p0 0).toInt.toNat).toInt (0 : Int)) (PV.bool true) (nth g3 0)).isB false) (nth r1 1) PV.unit).toInt (3000 : Int))) PV.unit)).isB false) (nth r1 2) PV.unit).toInt (20 : Int))) PV.unit)).isB false) ((nth p0 2).fld 3) PV.unit).toInt - (selB ((selB (selB (selB (ltI (nth ((nth p0 2).fld 0).toList (nth p0 0).toInt.toNat).toInt (0 : Int)) (PV.bool true) (nth g3 0)).toBool (PV.bool true) (selB ((selB (ltI (nth ((nth p0 2).fld 0).toList (nth p0 0).toInt.toNat).toInt (0 : Int)) (PV.bool true) (nth g3 0)).isB false) (PV.bool (gtI (selB ((selB (ltI (nth ((nth p0 2).fld 0).toList (nth p0 0).toInt.toNat).toInt (0 : Int)) (PV.bool true) (nth g3 0)).isB false) (nth r1 1) PV.unit).toInt (3000 : Int))) PV.unit)).toBool (PV.bool true) (selB ((selB (selB (ltI (nth ((nth p0 2).fld 0).toList (nth p0 0).toInt.toNat).toInt (0 : Int)) (PV.bool true) (nth g3 0)).toBool (PV.bool true) (selB ((selB (ltI (nth ((nth p0 2).fld 0).toList (nth p0 0).toInt.toNat).toInt (0 : Int)) (PV.bool true) (nth g3 0)).isB false) (PV.bool (gtI (selB ((selB (ltI (nth ((nth p0 2).fld 0).toList (nth p0 0).toInt.toNat).toInt (0 : Int)) (PV.bool true) (nth g3 0)).isB false) (nth r1 1) PV.unit).toInt (3000 : Int))) PV.unit)).isB false) (PV.bool (gtI (selB ((selB (selB (ltI (nth ((nth p0 2).fld 0).toList (nth p0 0).toInt.toNat).toInt (0 : Int)) (PV.bool true) (nth g3 0)).toBool (PV.bool true) (selB ((selB (ltI (nth ((nth p0 2).fld 0).toList (nth p0 0).toInt.toNat).toInt (0 : Int)) (PV.bool true) (nth g3 0)).isB false) (PV.bool (gtI (selB ((selB (ltI (nth ((nth p0 2).fld 0).toList (nth p0 0).toInt.toNat).toInt (0 : Int)) (PV.bool true) (nth g3 0)).isB false) (nth r1 1) PV.unit).toInt (3000 : Int))) PV.unit)).isB false) (nth r1 2) PV.unit).toInt (20 : Int))) PV.unit)).isB false) (nth p0 0) PV.unit).toInt))) PV.unit).toInt)) PV.unit)).toBool
  (some (Ex.r, [(nth p0 1), (PV.bool false)]))
  (iff (leN ((nth p0 1).toList.length + ((nth p0 0) :: ([] : List PV)).length) 17592186044416)
  (some (Ex.n, [(PV.int (IntKind.i64.wrap ((IntKind.i64.wrap ((nth p0 0).toInt + (1 : Int))) + (nth r1 2).toInt))), (PV.list ((nth p0 1).toList ++ ((nth p0 0) :: ([] : List PV)))), (nth p0 2)]))
  none))))
  none)
  none)
  (some (Ex.x 0, [(nth p0 1)])))
noncomputable def F56 (I : Interp) (n : Nat) (a : List PV) : Option (List PV) :=
  (thenN (thenE (loopEv (L56_0 I n) n [((nth a 0).fld 2), (PV.list ([] : List PV)), (nth a 0)])
  (passB 0))
  (fun p4 => (some [(nth p4 0), (PV.bool true)]))
  (retE fun q5 => [(nth q5 0), (nth q5 1)]))
theorem e56 : ∀ I n a, (compF Tryz.prog sg 56).map (fun d => d.ev I n a) = some (F56 I n a) := fun I n a => by kernel_rfl
/-! spec.l5Insert -/
noncomputable def F36 (I : Interp) (n : Nat) (a : List PV) : Option (List PV) :=
  ((I 64 [(nth a 0), (nth a 1)]).bind fun r0 =>
  (some [(nth r0 0)]))
theorem e36 : ∀ I n a, (compF Tryz.prog sg 36).map (fun d => d.ev I n a) = some (F36 I n a) := fun I n a => by kernel_rfl
/-! impl.kidsAt -/
noncomputable def F26 (I : Interp) (n : Nat) (a : List PV) : Option (List PV) :=
  (iff (geI (nth a 1).toInt (0 : Int))
  (iff (ltI (nth a 1).toInt (((nth a 0).fld 0).toList.length : Int))
  ((I 40 [(nth ((nth a 0).fld 0).toList (nth a 1).toInt.toNat)]).bind fun r0 =>
  (iff (geI (IntKind.i64.wrap ((nth a 1).toInt + (1 : Int))) (0 : Int))
  (iff (leI (IntKind.i64.wrap ((nth a 1).toInt + (1 : Int))) (IntKind.i64.wrap ((IntKind.i64.wrap ((nth a 1).toInt + (1 : Int))) + (nth r0 2).toInt)))
  (iff (leI (IntKind.i64.wrap ((IntKind.i64.wrap ((nth a 1).toInt + (1 : Int))) + (nth r0 2).toInt)) (((nth a 0).fld 0).toList.length : Int))
  (some [(PV.list ((((nth a 0).fld 0).toList.drop (IntKind.i64.wrap ((nth a 1).toInt + (1 : Int))).toNat).take ((IntKind.i64.wrap ((IntKind.i64.wrap ((nth a 1).toInt + (1 : Int))) + (nth r0 2).toInt)).toNat - (IntKind.i64.wrap ((nth a 1).toInt + (1 : Int))).toNat)))])
  none)
  none)
  none))
  none)
  none)
theorem e26 : ∀ I n a, (compF Tryz.prog sg 26).map (fun d => d.ev I n a) = some (F26 I n a) := fun I n a => by kernel_rfl
/-! slices.BinarySearch[[]int,int] -/
noncomputable def L67_0 (I : Interp) (n : Nat) (p0 : List PV) : Option (Ex × List PV) :=
  (iff (ltI (nth p0 3).toInt (nth p0 0).toInt)
  (iff (geI (1 : Int) (0 : Int))
  (iff (geI (IntKind.i64.wrap (arith BinOp.shr IntKind.u64 (IntKind.u64.wrap (IntKind.i64.wrap ((nth p0 3).toInt + (nth p0 0).toInt))) (1 : Int))) (0 : Int))
  (iff (ltI (IntKind.i64.wrap (arith BinOp.shr IntKind.u64 (IntKind.u64.wrap (IntKind.i64.wrap ((nth p0 3).toInt + (nth p0 0).toInt))) (1 : Int))) ((nth p0 2).toList.length : Int))
  ((I 83 [(nth (nth p0 2).toList (IntKind.i64.wrap (arith BinOp.shr IntKind.u64 (IntKind.u64.wrap (IntKind.i64.wrap ((nth p0 3).toInt + (nth p0 0).toInt))) (1 : Int))).toNat), (nth p0 4)]).bind fun r1 =>
  (iff (nth r1 0).toBool
  (some (Ex.n, [(nth p0 0), (nth p0 1), (nth p0 2), (PV.int (IntKind.i64.wrap ((IntKind.i64.wrap (arith BinOp.shr IntKind.u64 (IntKind.u64.wrap (IntKind.i64.wrap ((nth p0 3).toInt + (nth p0 0).toInt))) (1 : Int))) + (1 : Int)))), (nth p0 4)]))
  (some (Ex.n, [(PV.int (IntKind.i64.wrap (arith BinOp.shr IntKind.u64 (IntKind.u64.wrap (IntKind.i64.wrap ((nth p0 3).toInt + (nth p0 0).toInt))) (1 : Int)))), (nth p0 1), (nth p0 2), (nth p0 3), (nth p0 4)]))))
  none)
  none)
  none)
  (some (Ex.x 0, [(nth p0 1), (nth p0 2), (nth p0 3), (nth p0 4)])))
noncomputable def F67 (I : Interp) (n : Nat) (a : List PV) : Option (List PV) :=
  (thenN (thenE (loopEv (L67_0 I n) n [(PV.int ((nth a 0).toList.length : Int)), (PV.int ((nth a 0).toList.length : Int)), (nth a 0), (PV.int (0 : Int)), (nth a 1)])
  (passB 0))
  (fun p2 => ((iff ((ltI (nth p2 2).toInt (nth p2 0).toInt) == true)
  (iff (geI (selB ((ltI (nth p2 2).toInt (nth p2 0).toInt) == true) (nth p2 2) PV.unit).toInt (0 : Int))
  (iff (ltI (selB ((ltI (nth p2 2).toInt (nth p2 0).toInt) == true) (nth p2 2) PV.unit).toInt ((selB ((ltI (nth p2 2).toInt (nth p2 0).toInt) == true) (nth p2 1) PV.unit).toList.length : Int))
  (some [(nth (selB ((ltI (nth p2 2).toInt (nth p2 0).toInt) == true) (nth p2 1) PV.unit).toList (selB ((ltI (nth p2 2).toInt (nth p2 0).toInt) == true) (nth p2 2) PV.unit).toInt.toNat), (nth (selB ((ltI (nth p2 2).toInt (nth p2 0).toInt) == true) (nth p2 1) PV.unit).toList (selB ((ltI (nth p2 2).toInt (nth p2 0).toInt) == true) (nth p2 2) PV.unit).toInt.toNat)])
  none)
  none)
  (some [PV.unit, PV.unit])).bind fun g3 =>
  ((iff ((selB ((ltI (nth p2 2).toInt (nth p2 0).toInt) == true) (selB ((ltI (nth p2 2).toInt (nth p2 0).toInt) == true) (PV.bool (eqI (selB ((ltI (nth p2 2).toInt (nth p2 0).toInt) == true) (nth g3 0) PV.unit).toInt (selB ((ltI (nth p2 2).toInt (nth p2 0).toInt) == true) (nth p2 3) PV.unit).toInt)) PV.unit) PV.unit).isB false)
  (iff (geI (selB ((selB ((ltI (nth p2 2).toInt (nth p2 0).toInt) == true) (selB ((ltI (nth p2 2).toInt (nth p2 0).toInt) == true) (PV.bool (eqI (selB ((ltI (nth p2 2).toInt (nth p2 0).toInt) == true) (nth g3 0) PV.unit).toInt (selB ((ltI (nth p2 2).toInt (nth p2 0).toInt) == true) (nth p2 3) PV.unit).toInt)) PV.unit) PV.unit).isB false) (nth p2 2) PV.unit).toInt (0 : Int))
  (iff (ltI (selB ((selB ((ltI (nth p2 2).toInt (nth p2 0).toInt) == true) (selB ((ltI (nth p2 2).toInt (nth p2 0).toInt) == true) (PV.bool (eqI (selB ((ltI (nth p2 2).toInt (nth p2 0).toInt) == true) (nth g3 0) PV.unit).toInt (selB ((ltI (nth p2 2).toInt (nth p2 0).toInt) == true) (nth p2 3) PV.unit).toInt)) PV.unit) PV.unit).isB false) (nth p2 2) PV.unit).toInt ((selB ((selB ((ltI (nth p2 2).toInt (nth p2 0).toInt) == true) (selB ((ltI (nth p2 2).toInt (nth p2 0).toInt) == true) (PV.bool (eqI (selB ((ltI (nth p2 2).toInt (nth p2 0).toInt) == true) (nth g3 0) PV.unit).toInt (selB ((ltI (nth p2 2).toInt (nth p2 0).toInt) == true) (nth p2 3) PV.unit).toInt)) PV.unit) PV.unit).isB false) (nth p2 1) PV.unit).toList.length : Int))
  (some [(nth (selB ((selB ((ltI (nth p2 2).toInt (nth p2 0).toInt) == true) (selB ((ltI (nth p2 2).toInt (nth p2 0).toInt) == true) (PV.bool (eqI (selB ((ltI (nth p2 2).toInt (nth p2 0).toInt) == true) (nth g3 0) PV.unit).toInt (selB ((ltI (nth p2 2).toInt (nth p2 0).toInt) == true) (nth p2 3) PV.unit).toInt)) PV.unit) PV.unit).isB false) (nth p2 1) PV.unit).toList (selB ((selB ((ltI (nth p2 2).toInt (nth p2 0).toInt) == true) (selB ((ltI (nth p2 2).toInt (nth p2 0).toInt) == true) (PV.bool (eqI (selB ((ltI (nth p2 2).toInt (nth p2 0).toInt) == true) (nth g3 0) PV.unit).toInt (selB ((ltI (nth p2 2).toInt (nth p2 0).toInt) == true) (nth p2 3) PV.unit).toInt)) PV.unit) PV.unit).isB false) (nth p2 2) PV.unit).toInt.toNat), (nth (selB ((selB ((ltI (nth p2 2).toInt (nth p2 0).toInt) == true) (selB ((ltI (nth p2 2).toInt (nth p2 0).toInt) == true) (PV.bool (eqI (selB ((ltI (nth p2 2).toInt (nth p2 0).toInt) == true) (nth g3 0) PV.unit).toInt (selB ((ltI (nth p2 2).toInt (nth p2 0).toInt) == true) (nth p2 3) PV.unit).toInt)) PV.unit) PV.unit).isB false) (nth p2 1) PV.unit).toList (selB ((selB ((ltI (nth p2 2).toInt (nth p2 0).toInt) == true) (selB ((ltI (nth p2 2).toInt (nth p2 0).toInt) == true) (PV.bool (eqI (selB ((ltI (nth p2 2).toInt (nth p2 0).toInt) == true) (nth g3 0) PV.unit).toInt (selB ((ltI (nth p2 2).toInt (nth p2 0).toInt) == true) (nth p2 3) PV.unit).toInt)) PV.unit) PV.unit).isB false) (nth p2 2) PV.unit).toInt.toNat)])
  none)
  none)
  (some [PV.unit, PV.unit])).bind fun g4 =>
  ((iff ((selB ((ltI (nth p2 2).toInt (nth p2 0).toInt) == true) (selB ((ltI (nth p2 2).toInt (nth p2 0).toInt) == true) (PV.bool (eqI (selB ((ltI (nth p2 2).toInt (nth p2 0).toInt) == true) (nth g3 0) PV.unit).toInt (selB ((ltI (nth p2 2).toInt (nth p2 0).toInt) == true) (nth p2 3) PV.unit).toInt)) PV.unit) PV.unit).isB false)
  ((I 90 [(selB ((selB ((ltI (nth p2 2).toInt (nth p2 0).toInt) == true) (selB ((ltI (nth p2 2).toInt (nth p2 0).toInt) == true) (PV.bool (eqI (selB ((ltI (nth p2 2).toInt (nth p2 0).toInt) == true) (nth g3 0) PV.unit).toInt (selB ((ltI (nth p2 2).toInt (nth p2 0).toInt) == true) (nth p2 3) PV.unit).toInt)) PV.unit) PV.unit).isB false) (nth g4 0) PV.unit)]).bind fun r5 =>
  (some [(nth r5 0), (nth r5 0)]))
  (some [PV.unit, PV.unit])).bind fun g6 =>
  ((iff ((selB ((selB ((ltI (nth p2 2).toInt (nth p2 0).toInt) == true) (selB ((ltI (nth p2 2).toInt (nth p2 0).toInt) == true) (PV.bool (eqI (selB ((ltI (nth p2 2).toInt (nth p2 0).toInt) == true) (nth g3 0) PV.unit).toInt (selB ((ltI (nth p2 2).toInt (nth p2 0).toInt) == true) (nth p2 3) PV.unit).toInt)) PV.unit) PV.unit).isB false) (nth g6 0) PV.unit).isB true)
  ((I 90 [(selB ((selB ((selB ((ltI (nth p2 2).toInt (nth p2 0).toInt) == true) (selB ((ltI (nth p2 2).toInt (nth p2 0).toInt) == true) (PV.bool (eqI (selB ((ltI (nth p2 2).toInt (nth p2 0).toInt) == true) (nth g3 0) PV.unit).toInt (selB ((ltI (nth p2 2).toInt (nth p2 0).toInt) == true) (nth p2 3) PV.unit).toInt)) PV.unit) PV.unit).isB false) (nth g6 0) PV.unit).isB true) (nth p2 3) PV.unit)]).bind fun r7 =>
  (some [(nth r7 0), (nth r7 0)]))
  (some [PV.unit, PV.unit])).bind fun g8 =>
  (some [(nth p2 2), (selB (ltI (nth p2 2).toInt (nth p2 0).toInt) (selB ((ltI (nth p2 2).toInt (nth p2 0).toInt) == true) (selB (selB ((ltI (nth p2 2).toInt (nth p2 0).toInt) == true) (selB ((ltI (nth p2 2).toInt (nth p2 0).toInt) == true) (PV.bool (eqI (selB ((ltI (nth p2 2).toInt (nth p2 0).toInt) == true) (nth g3 0) PV.unit).toInt (selB ((ltI (nth p2 2).toInt (nth p2 0).toInt) == true) (nth p2 3) PV.unit).toInt)) PV.unit) PV.unit).toBool (PV.bool true) (selB ((selB ((ltI (nth p2 2).toInt (nth p2 0).toInt) == true) (selB ((ltI (nth p2 2).toInt (nth p2 0).toInt) == true) (PV.bool (eqI (selB ((ltI (nth p2 2).toInt (nth p2 0).toInt) == true) (nth g3 0) PV.unit).toInt (selB ((ltI (nth p2 2).toInt (nth p2 0).toInt) == true) (nth p2 3) PV.unit).toInt)) PV.unit) PV.unit).isB false) (selB (selB ((selB ((ltI (nth p2 2).toInt (nth p2 0).toInt) == true) (selB ((ltI (nth p2 2).toInt (nth p2 0).toInt) == true) (PV.bool (eqI (selB ((ltI (nth p2 2).toInt (nth p2 0).toInt) == true) (nth g3 0) PV.unit).toInt (selB ((ltI (nth p2 2).toInt (nth p2 0).toInt) == true) (nth p2 3) PV.unit).toInt)) PV.unit) PV.unit).isB false) (nth g6 0) PV.unit).toBool (nth g8 0) (PV.bool false)) PV.unit)) PV.unit) (PV.bool false))]))))))
  (retE fun q9 => [(nth q9 0), (nth q9 1)]))
theorem e67 : ∀ I n a, (compF Tryz.prog sg 67).map (fun d => d.ev I n a) = some (F67 I n a) := fun I n a => by kernel_rfl
/-! impl.Collect$1 -/
noncomputable def F27 (I : Interp) (n : Nat) (a : List PV) : Option (List PV) :=
  ((I 28 [(nth a 0)]).bind fun r0 =>
  (iff (nth r0 0).toBool
  ((I 30 [(nth a 0)]).bind fun r1 =>
  ((I 29 [(mgetL (PV.int (0 : Int)) (nth r1 0).toInt (nth a 1).toList)]).bind fun r2 =>
  (some [(nth r2 0), (nth a 1)])))
  (some [(nth a 0), (nth a 1)])))
theorem e27 : ∀ I n a, (compF Tryz.prog sg 27).map (fun d => d.ev I n a) = some (F27 I n a) := fun I n a => by kernel_rfl
/-! impl.isInt -/
noncomputable def F46 (I : Interp) (n : Nat) (a : List PV) : Option (List PV) :=
  ((I 28 [(nth a 0)]).bind fun r0 =>
  ((iff ((!(nth r0 0).toBool) == true)
  ((I 39 [(selB ((!(nth r0 0).toBool) == true) (nth a 0) PV.unit)]).bind fun r1 =>
  (some [(nth r1 0), (nth r1 0)]))
  (some [PV.unit, PV.unit])).bind fun g2 =>
  ((iff ((!(nth r0 0).toBool) == true)
  ((I 68 [(nth g2 0)]).bind fun r3 =>
  (some [(nth r3 0), (nth r3 0)]))
  (some [PV.unit, PV.unit])).bind fun g4 =>
  (some [(selB (!(nth r0 0).toBool) (nth g4 0) (PV.bool false))]))))
theorem e46 : ∀ I n a, (compF Tryz.prog sg 46).map (fun d => d.ev I n a) = some (F46 I n a) := fun I n a => by kernel_rfl
/-! spec.l18Word -/
noncomputable def L41_0 (I : Interp) (n : Nat) (p3 : List PV) : Option (Ex × List PV) :=
  (iff (ltI (nth p3 0).toInt ((nth p3 1).toList.length : Int))
  (iff (geI (nth p3 0).toInt (0 : Int))
  (iff (ltI (nth p3 0).toInt ((nth p3 1).toList.length : Int))
  ((I 63 [(nth p3 2)]).bind fun r4 =>
  (iff (eqI (nth (nth p3 1).toList (nth p3 0).toInt.toNat).toInt (nth r4 0).toInt)
  ((I 43 [(nth p3 0)]).bind fun r5 =>
  (iff (leI ((catB (⟨#[32, 64]⟩ : ByteArray) (nth r5 0).toStr).size : Int) (9223372036854775807 : Int))
  (some (Ex.r, [(PV.str (catB (⟨#[32, 64]⟩ : ByteArray) (nth r5 0).toStr))]))
  none))
  (some (Ex.n, [(PV.int (IntKind.i64.wrap ((nth p3 0).toInt + (1 : Int)))), (nth p3 1), (nth p3 2)]))))
  none)
  none)
  (some (Ex.x 0, [])))
noncomputable def F41 (I : Interp) (n : Nat) (a : List PV) : Option (List PV) :=
  ((I 61 [(nth a 0)]).bind fun r0 =>
  (iff (!(nth r0 0).toBool)
  ((I 66 [(nth a 0)]).bind fun r1 =>
  ((I 43 [(nth r1 0)]).bind fun r2 =>
  (iff (leI ((catB (⟨#[32]⟩ : ByteArray) (nth r2 0).toStr).size : Int) (9223372036854775807 : Int))
  (some [(PV.str (catB (⟨#[32]⟩ : ByteArray) (nth r2 0).toStr))])
  none)))
  (thenN (thenE (loopEv (L41_0 I n) n [(PV.int (0 : Int)), (nth a 1), (nth a 0)])
  (passB 0))
  (fun p6 => (some [(PV.str (⟨#[32, 64]⟩ : ByteArray))]))
  (retE fun q7 => [(nth q7 0)]))))
theorem e41 : ∀ I n a, (compF Tryz.prog sg 41).map (fun d => d.ev I n a) = some (F41 I n a) := fun I n a => by kernel_rfl
/-! impl.blocksOf -/
noncomputable def L45_0 (I : Interp) (n : Nat) (p7 : List PV) : Option (Ex × List PV) :=
  (iff (ltI (nth p7 0).toInt ((nth p7 2).fld 3).toInt)
  (iff (geI (nth p7 0).toInt (0 : Int))
  (iff (ltI (nth p7 0).toInt (((nth p7 2).fld 0).toList.length : Int))
  ((I 40 [(nth ((nth p7 2).fld 0).toList (nth p7 0).toInt.toNat)]).bind fun r8 =>
  (letB (selB (!(nth r8 3).toBool) (PV.bool true) (selB ((!(nth r8 3).toBool) == false) (PV.bool (gtI (selB ((!(nth r8 3).toBool) == false) (PV.int (IntKind.i64.wrap ((selB ((!(nth r8 3).toBool) == false) (PV.int (IntKind.i64.wrap ((selB ((!(nth r8 3).toBool) == false) (nth p7 0) PV.unit).toInt + (1 : Int)))) PV.unit).toInt + (selB ((!(nth r8 3).toBool) == false) (nth r8 2) PV.unit).toInt))) PV.unit).toInt (selB ((!(nth r8 3).toBool) == false) ((nth p7 2).fld 3) PV.unit).toInt)) PV.unit)) fun v9 =>
  (iff v9.toBool
  (some (Ex.r, [(PV.list ([] : List PV)), (PV.bool false)]))
  (iff (leN ((nth p7 1).toList.length + ((nth p7 0) :: ([] : List PV)).length) 17592186044416)
  (some (Ex.n, [(PV.int (IntKind.i64.wrap ((nth p7 0).toInt + (IntKind.i64.wrap ((1 : Int) + (nth r8 2).toInt))))), (PV.list ((nth p7 1).toList ++ ((nth p7 0) :: ([] : List PV)))), (nth p7 2)]))
  none))))
  none)
  none)
  (some (Ex.x 0, [(nth p7 1)])))
noncomputable def F45 (I : Interp) (n : Nat) (a : List PV) : Option (List PV) :=
  ((I 54 [((nth a 0).fld 1), (PV.int (1 : Int)), (PV.int (3000 : Int))]).bind fun r0 =>
  (letB (selB (!(nth r0 0).toBool) (PV.bool true) (selB ((!(nth r0 0).toBool) == false) (PV.bool (neI (selB ((!(nth r0 0).toBool) == false) (PV.int ((selB ((!(nth r0 0).toBool) == false) ((nth a 0).fld 0) PV.unit).toList.length : Int)) PV.unit).toInt (selB ((!(nth r0 0).toBool) == false) (PV.int (IntKind.i64.wrap ((2 : Int) * (selB ((!(nth r0 0).toBool) == false) ((nth a 0).fld 1) PV.unit).toInt))) PV.unit).toInt)) PV.unit)) fun v1 =>
  (letB (selB (v1.isB false) (selB (selB (v1.isB false) (selB (v1.isB false) (PV.bool (neI (selB (v1.isB false) ((nth a 0).fld 2) PV.unit).toInt (0 : Int))) PV.unit) PV.unit).toBool (selB ((selB (v1.isB false) (selB (v1.isB false) (PV.bool (neI (selB (v1.isB false) ((nth a 0).fld 2) PV.unit).toInt (0 : Int))) PV.unit) PV.unit).isB true) (PV.bool (neI (selB ((selB (v1.isB false) (selB (v1.isB false) (PV.bool (neI (selB (v1.isB false) ((nth a 0).fld 2) PV.unit).toInt (0 : Int))) PV.unit) PV.unit).isB true) ((nth a 0).fld 2) PV.unit).toInt (selB ((selB (v1.isB false) (selB (v1.isB false) (PV.bool (neI (selB (v1.isB false) ((nth a 0).fld 2) PV.unit).toInt (0 : Int))) PV.unit) PV.unit).isB true) ((nth a 0).fld 1) PV.unit).toInt)) PV.unit) (PV.bool false)) PV.unit) fun v2 =>
  (letB (selB v1.toBool (PV.bool true) v2) fun v3 =>
  ((iff (v3.isB false)
  ((I 54 [(selB (v3.isB false) ((nth a 0).fld 3) PV.unit), (selB (v3.isB false) ((nth a 0).fld 2) PV.unit), (selB (v3.isB false) (PV.int (IntKind.i64.wrap ((selB (v3.isB false) ((nth a 0).fld 2) PV.unit).toInt + (selB (v3.isB false) ((nth a 0).fld 1) PV.unit).toInt))) PV.unit)]).bind fun r4 =>
  (some [(nth r4 0), (nth r4 0)]))
  (some [PV.unit, PV.unit])).bind fun g5 =>
  (letB (selB v3.toBool (PV.bool true) (selB (v3.isB false) (PV.bool (!(nth g5 0).toBool)) PV.unit)) fun v6 =>
  (iff v6.toBool
  (some [(PV.list ([] : List PV)), (PV.bool false)])
  (thenN (thenE (loopEv (L45_0 I n) n [((nth a 0).fld 2), (PV.list ([] : List PV)), (nth a 0)])
  (passB 0))
  (fun p10 => (some [(nth p10 0), (PV.bool true)]))
  (retE fun q11 => [(nth q11 0), (nth q11 1)])))))))))
theorem e45 : ∀ I n a, (compF Tryz.prog sg 45).map (fun d => d.ev I n a) = some (F45 I n a) := fun I n a => ew_ev (g := F45) (fun I n a => by kernel_rfl) I n a
/-! spec.l18Move -/
noncomputable def L58_0 (I : Interp) (n : Nat) (p2 : List PV) : Option (Ex × List PV) :=
  (iff (ltI (nth p2 0).toInt (((nth p2 2).fld 2).toList.length : Int))
  (iff (geI (nth p2 0).toInt (0 : Int))
  (iff (ltI (nth p2 0).toInt (((nth p2 2).fld 2).toList.length : Int))
  (iff (eqI (nth ((nth p2 2).fld 2).toList (nth p2 0).toInt.toNat).toInt (nth p2 1).toInt)
  (iff (geI (nth p2 0).toInt (0 : Int))
  (iff (ltI (nth p2 0).toInt (((nth p2 2).fld 3).toList.length : Int))
  ((I 73 [(nth ((nth p2 2).fld 3).toList (nth p2 0).toInt.toNat)]).bind fun r3 =>
  (some (Ex.r, [(nth p2 2), (nth r3 0)])))
  none)
  none)
  (some (Ex.n, [(PV.int (IntKind.i64.wrap ((nth p2 0).toInt + (1 : Int)))), (nth p2 1), (nth p2 2)])))
  none)
  none)
  (some (Ex.x 0, [(nth p2 1), (nth p2 2)])))
noncomputable def L58_1 (I : Interp) (n : Nat) (p6 : List PV) : Option (Ex × List PV) :=
  (iff (leI (nth p6 0).toInt (nth p6 1).toInt)
  (iff (geI (IntKind.i64.wrap ((nth p6 2).toInt + (nth p6 0).toInt)) (0 : Int))
  (iff (ltI (IntKind.i64.wrap ((nth p6 2).toInt + (nth p6 0).toInt)) ((((nth p6 4).fld 0).fld 0).toList.length : Int))
  (iff (geI (IntKind.i64.wrap ((nth p6 3).toInt + (nth p6 0).toInt)) (0 : Int))
  (iff (ltI (IntKind.i64.wrap ((nth p6 3).toInt + (nth p6 0).toInt)) ((((nth p6 4).fld 1).fld 0).toList.length : Int))
  (some (Ex.n, [(PV.int (IntKind.i64.wrap ((nth p6 0).toInt + (1 : Int)))), (nth p6 1), (nth p6 2), (nth p6 3), ((nth p6 4).setFld 1 (((nth p6 4).fld 1).setFld 0 (PV.list ((((nth p6 4).fld 1).fld 0).toList.set (IntKind.i64.wrap ((nth p6 3).toInt + (nth p6 0).toInt)).toNat (nth (((nth p6 4).fld 0).fld 0).toList (IntKind.i64.wrap ((nth p6 2).toInt + (nth p6 0).toInt)).toNat)))))]))
  none)
  none)
  none)
  none)
  (some (Ex.x 2, [(nth p6 1), (nth p6 2), (nth p6 3), (nth p6 4)])))
noncomputable def F58 (I : Interp) (n : Nat) (a : List PV) : Option (List PV) :=
  ((I 61 [(nth a 1)]).bind fun r0 =>
  (iff (!(nth r0 0).toBool)
  (some [(nth a 1), (nth a 0)])
  ((I 63 [(nth a 1)]).bind fun r1 =>
  (thenN (thenE (loopEv (L58_0 I n) n [(PV.int (0 : Int)), (nth r1 0), (nth a 0)])
  (passB 0))
  (fun p4 => (iff (geI (nth p4 0).toInt (0 : Int))
  (iff (ltI (nth p4 0).toInt ((((nth p4 1).fld 0).fld 0).toList.length : Int))
  ((I 42 [(nth (((nth p4 1).fld 0).fld 0).toList (nth p4 0).toInt.toNat)]).bind fun r5 =>
  (thenN (thenE (loopEv (L58_1 I n) n [(PV.int (0 : Int)), (nth r5 2), (nth p4 0), (((nth p4 1).fld 1).fld 3), (nth p4 1)])
  (passB 2))
  (fun p7 => (iff (leN ((((nth p7 3).setFld 1 (((nth p7 3).fld 1).setFld 3 (PV.int (IntKind.i64.wrap ((IntKind.i64.wrap ((nth p7 2).toInt + (1 : Int))) + (nth p7 0).toInt))))).fld 2).toList.length + ((nth p7 1) :: ([] : List PV)).length) 17592186044416)
  (iff (leN ((((((nth p7 3).setFld 1 (((nth p7 3).fld 1).setFld 3 (PV.int (IntKind.i64.wrap ((IntKind.i64.wrap ((nth p7 2).toInt + (1 : Int))) + (nth p7 0).toInt))))).setFld 2 PV.unit).setFld 2 (PV.list ((((nth p7 3).setFld 1 (((nth p7 3).fld 1).setFld 3 (PV.int (IntKind.i64.wrap ((IntKind.i64.wrap ((nth p7 2).toInt + (1 : Int))) + (nth p7 0).toInt))))).fld 2).toList ++ ((nth p7 1) :: ([] : List PV))))).fld 3).toList.length + ((nth p7 2) :: ([] : List PV)).length) 17592186044416)
  ((I 73 [(nth p7 2)]).bind fun r8 =>
  (some [(nth r8 0), ((((((nth p7 3).setFld 1 (((nth p7 3).fld 1).setFld 3 (PV.int (IntKind.i64.wrap ((IntKind.i64.wrap ((nth p7 2).toInt + (1 : Int))) + (nth p7 0).toInt))))).setFld 2 PV.unit).setFld 2 (PV.list ((((nth p7 3).setFld 1 (((nth p7 3).fld 1).setFld 3 (PV.int (IntKind.i64.wrap ((IntKind.i64.wrap ((nth p7 2).toInt + (1 : Int))) + (nth p7 0).toInt))))).fld 2).toList ++ ((nth p7 1) :: ([] : List PV))))).setFld 3 PV.unit).setFld 3 (PV.list ((((((nth p7 3).setFld 1 (((nth p7 3).fld 1).setFld 3 (PV.int (IntKind.i64.wrap ((IntKind.i64.wrap ((nth p7 2).toInt + (1 : Int))) + (nth p7 0).toInt))))).setFld 2 PV.unit).setFld 2 (PV.list ((((nth p7 3).setFld 1 (((nth p7 3).fld 1).setFld 3 (PV.int (IntKind.i64.wrap ((IntKind.i64.wrap ((nth p7 2).toInt + (1 : Int))) + (nth p7 0).toInt))))).fld 2).toList ++ ((nth p7 1) :: ([] : List PV))))).fld 3).toList ++ ((nth p7 2) :: ([] : List PV)))))]))
  none)
  none))
  (retE fun q9 => [(nth q9 1), (nth q9 0)])))
  none)
  none))
  (retE fun q10 => [(nth q10 1), (nth q10 0)])))))
theorem e58 : ∀ I n a, (compF Tryz.prog sg 58).map (fun d => d.ev I n a) = some (F58 I n a) := fun I n a => by kernel_rfl
/-! spec.l18Move -/
noncomputable def L4154_0 (I : Interp) (n : Nat) (p2 : List PV) : Option (Ex × List PV) :=
  (iff (ltI (nth p2 0).toInt (((nth p2 2).fld 2).toList.length : Int))
  (iff (geI (nth p2 0).toInt (0 : Int))
  (iff (ltI (nth p2 0).toInt (((nth p2 2).fld 2).toList.length : Int))
  (iff (eqI (nth ((nth p2 2).fld 2).toList (nth p2 0).toInt.toNat).toInt (nth p2 1).toInt)
  (iff (geI (nth p2 0).toInt (0 : Int))
  (iff (ltI (nth p2 0).toInt (((nth p2 2).fld 3).toList.length : Int))
  ((I 73 [(nth ((nth p2 2).fld 3).toList (nth p2 0).toInt.toNat)]).bind fun r3 =>
  (some (Ex.r, [(nth p2 2), (nth r3 0)])))
  none)
  none)
  (some (Ex.n, [(PV.int (IntKind.i64.wrap ((nth p2 0).toInt + (1 : Int)))), (nth p2 1), (nth p2 2)])))
  none)
  none)
  (some (Ex.x 0, [(nth p2 1), (nth p2 2)])))
noncomputable def L4154_1 (I : Interp) (n : Nat) (p6 : List PV) : Option (Ex × List PV) :=
  (iff (leI (nth p6 0).toInt (nth p6 1).toInt)
  (iff (geI (IntKind.i64.wrap ((nth p6 2).toInt + (nth p6 0).toInt)) (0 : Int))
  (iff (ltI (IntKind.i64.wrap ((nth p6 2).toInt + (nth p6 0).toInt)) ((((nth p6 4).fld 0).fld 0).toList.length : Int))
  (iff (geI (IntKind.i64.wrap ((nth p6 3).toInt + (nth p6 0).toInt)) (0 : Int))
  (iff (ltI (IntKind.i64.wrap ((nth p6 3).toInt + (nth p6 0).toInt)) ((((nth p6 4).fld 1).fld 0).toList.length : Int))
  (some (Ex.n, [(PV.int (IntKind.i64.wrap ((nth p6 0).toInt + (1 : Int)))), (nth p6 1), (nth p6 2), (nth p6 3), ((nth p6 4).setFld 1 (((nth p6 4).fld 1).setFld 0 (PV.list ((((nth p6 4).fld 1).fld 0).toList.set (IntKind.i64.wrap ((nth p6 3).toInt + (nth p6 0).toInt)).toNat (nth (((nth p6 4).fld 0).fld 0).toList (IntKind.i64.wrap ((nth p6 2).toInt + (nth p6 0).toInt)).toNat)))))]))
  none)
  none)
  none)
  none)
  (some (Ex.x 2, [(nth p6 1), (nth p6 2), (nth p6 3), (nth p6 4)])))
noncomputable def F4154 (I : Interp) (n : Nat) (a : List PV) : Option (List PV) :=
  ((I 61 [(nth a 1)]).bind fun r0 =>
  (iff (!(nth r0 0).toBool)
  (some [(nth a 1), (nth a 0)])
  ((I 63 [(nth a 1)]).bind fun r1 =>
  (thenN (thenE (loopEv (L4154_0 I n) n [(PV.int (0 : Int)), (nth r1 0), (nth a 0)])
  (passB 0))
  (fun p4 => (iff (geI (nth p4 0).toInt (0 : Int))
  (iff (ltI (nth p4 0).toInt ((((nth p4 1).fld 0).fld 0).toList.length : Int))
  ((I 42 [(nth (((nth p4 1).fld 0).fld 0).toList (nth p4 0).toInt.toNat)]).bind fun r5 =>
  (thenN (thenE (loopEv (L4154_1 I n) n [(PV.int (0 : Int)), (nth r5 2), (nth p4 0), (((nth p4 1).fld 1).fld 3), (nth p4 1)])
  (passB 2))
  (fun p7 => (iff (leN ((((nth p7 3).setFld 1 (((nth p7 3).fld 1).setFld 3 (PV.int (IntKind.i64.wrap ((IntKind.i64.wrap ((nth p7 2).toInt + (1 : Int))) + (nth p7 0).toInt))))).fld 2).toList.length + ((nth p7 1) :: ([] : List PV)).length) 17592186044416)
  (iff (leN ((((((nth p7 3).setFld 1 (((nth p7 3).fld 1).setFld 3 (PV.int (IntKind.i64.wrap ((IntKind.i64.wrap ((nth p7 2).toInt + (1 : Int))) + (nth p7 0).toInt))))).setFld 2 PV.unit).setFld 2 (PV.list ((((nth p7 3).setFld 1 (((nth p7 3).fld 1).setFld 3 (PV.int (IntKind.i64.wrap ((IntKind.i64.wrap ((nth p7 2).toInt + (1 : Int))) + (nth p7 0).toInt))))).fld 2).toList ++ ((nth p7 1) :: ([] : List PV))))).fld 3).toList.length + ((nth p7 2) :: ([] : List PV)).length) 17592186044416)
  ((I 73 [(nth p7 2)]).bind fun r8 =>
  (some [(nth r8 0), ((((((nth p7 3).setFld 1 (((nth p7 3).fld 1).setFld 3 (PV.int (IntKind.i64.wrap ((IntKind.i64.wrap ((nth p7 2).toInt + (1 : Int))) + (nth p7 0).toInt))))).setFld 2 PV.unit).setFld 2 (PV.list ((((nth p7 3).setFld 1 (((nth p7 3).fld 1).setFld 3 (PV.int (IntKind.i64.wrap ((IntKind.i64.wrap ((nth p7 2).toInt + (1 : Int))) + (nth p7 0).toInt))))).fld 2).toList ++ ((nth p7 1) :: ([] : List PV))))).setFld 3 PV.unit).setFld 3 (PV.list ((((((nth p7 3).setFld 1 (((nth p7 3).fld 1).setFld 3 (PV.int (IntKind.i64.wrap ((IntKind.i64.wrap ((nth p7 2).toInt + (1 : Int))) + (nth p7 0).toInt))))).setFld 2 PV.unit).setFld 2 (PV.list ((((nth p7 3).setFld 1 (((nth p7 3).fld 1).setFld 3 (PV.int (IntKind.i64.wrap ((IntKind.i64.wrap ((nth p7 2).toInt + (1 : Int))) + (nth p7 0).toInt))))).fld 2).toList ++ ((nth p7 1) :: ([] : List PV))))).fld 3).toList ++ ((nth p7 2) :: ([] : List PV)))))]))
  none)
  none))
  (retE fun q9 => [(nth q9 1), (nth q9 0)])))
  none)
  none))
  (retE fun q10 => [(nth q10 1), (nth q10 0)])))))
theorem e4154 : ∀ I n a, (compF Tryz.prog sg 4154).map (fun d => d.ev I n a) = some (F4154 I n a) := fun I n a => by kernel_rfl
/-! spec.l18Order -/
noncomputable def L35_0 (I : Interp) (n : Nat) (p0 : List PV) : Option (Ex × List PV) :=
  (iff (ltI (nth p0 0).toInt ((nth p0 1).toList.length : Int))
  (thenN (iff (geI (nth p0 0).toInt (0 : Int))
  (iff (ltI (nth p0 0).toInt ((nth p0 1).toList.length : Int))
  ((I 61 [(nth (nth p0 1).toList (nth p0 0).toInt.toNat)]).bind fun r1 =>
  ((iff ((nth r1 0).isB true)
  (iff (geI (selB ((nth r1 0).isB true) (nth p0 0) PV.unit).toInt (0 : Int))
  (iff (ltI (selB ((nth r1 0).isB true) (nth p0 0) PV.unit).toInt ((selB ((nth r1 0).isB true) (nth p0 1) PV.unit).toList.length : Int))
  (some [(nth (selB ((nth r1 0).isB true) (nth p0 1) PV.unit).toList (selB ((nth r1 0).isB true) (nth p0 0) PV.unit).toInt.toNat), (nth (selB ((nth r1 0).isB true) (nth p0 1) PV.unit).toList (selB ((nth r1 0).isB true) (nth p0 0) PV.unit).toInt.toNat)])
  none)
  none)
  (some [PV.unit, PV.unit])).bind fun g2 =>
  ((iff ((nth r1 0).isB true)
  ((I 63 [(selB ((nth r1 0).isB true) (nth g2 0) PV.unit)]).bind fun r3 =>
  (some [(nth r3 0), (nth r3 0)]))
  (some [PV.unit, PV.unit])).bind fun g4 =>
  ((iff ((nth r1 0).isB true)
  ((I 62 [(nth p0 2), (nth g4 0)]).bind fun r5 =>
  (some [(nth r5 0), (nth r5 0)]))
  (some [PV.unit, PV.unit])).bind fun g6 =>
  (iff (selB (nth r1 0).toBool (selB ((nth r1 0).isB true) (PV.bool (!(nth g6 0).toBool)) PV.unit) (PV.bool false)).toBool
  (iff (geI (nth p0 0).toInt (0 : Int))
  (iff (ltI (nth p0 0).toInt ((nth p0 1).toList.length : Int))
  ((I 63 [(nth (nth p0 1).toList (nth p0 0).toInt.toNat)]).bind fun r7 =>
  (iff (leN ((nth p0 2).toList.length + ((nth r7 0) :: ([] : List PV)).length) 17592186044416)
  (some (Ex.n, [(nth p0 0), (nth p0 1), (PV.list ((nth p0 2).toList ++ ((nth r7 0) :: ([] : List PV)))), (nth p0 3)]))
  none))
  none)
  none)
  (some (Ex.n, [(nth p0 0), (nth p0 1), (nth p0 2), (nth p0 3)])))))))
  none)
  none)
  (fun p8 => (some (Ex.n, [(PV.int (IntKind.i64.wrap ((nth p8 0).toInt + (1 : Int)))), (nth p8 1), (nth p8 2), (nth p8 3)])))
  passE)
  (some (Ex.x 0, [(nth p0 2), (nth p0 3)])))
noncomputable def L35_1 (I : Interp) (n : Nat) (p12 : List PV) : Option (Ex × List PV) :=
  (iff (leI (nth p12 0).toInt (nth p12 1).toInt)
  (thenN (iff (geI (nth p12 2).toInt (0 : Int))
  (iff (ltI (nth p12 2).toInt ((nth p12 3).toList.length : Int))
  (iff (geI (IntKind.i64.wrap ((nth (nth p12 3).toList (nth p12 2).toInt.toNat).toInt + (nth p12 0).toInt)) (0 : Int))
  (iff (ltI (IntKind.i64.wrap ((nth (nth p12 3).toList (nth p12 2).toInt.toNat).toInt + (nth p12 0).toInt)) (((nth p12 4).fld 0).toList.length : Int))
  ((I 61 [(nth ((nth p12 4).fld 0).toList (IntKind.i64.wrap ((nth (nth p12 3).toList (nth p12 2).toInt.toNat).toInt + (nth p12 0).toInt)).toNat)]).bind fun r13 =>
  ((iff ((nth r13 0).isB true)
  ((I 63 [(selB ((nth r13 0).isB true) (nth ((nth p12 4).fld 0).toList (IntKind.i64.wrap ((nth (nth p12 3).toList (nth p12 2).toInt.toNat).toInt + (nth p12 0).toInt)).toNat) PV.unit)]).bind fun r14 =>
  (some [(nth r14 0), (nth r14 0)]))
  (some [PV.unit, PV.unit])).bind fun g15 =>
  ((iff ((nth r13 0).isB true)
  ((I 62 [(nth p12 3), (nth g15 0)]).bind fun r16 =>
  (some [(nth r16 0), (nth r16 0)]))
  (some [PV.unit, PV.unit])).bind fun g17 =>
  (iff (selB (nth r13 0).toBool (selB ((nth r13 0).isB true) (PV.bool (!(nth g17 0).toBool)) PV.unit) (PV.bool false)).toBool
  ((I 63 [(nth ((nth p12 4).fld 0).toList (IntKind.i64.wrap ((nth (nth p12 3).toList (nth p12 2).toInt.toNat).toInt + (nth p12 0).toInt)).toNat)]).bind fun r18 =>
  (iff (leN ((nth p12 3).toList.length + ((nth r18 0) :: ([] : List PV)).length) 17592186044416)
  (some (Ex.n, [(nth p12 0), (nth p12 1), (nth p12 2), (PV.list ((nth p12 3).toList ++ ((nth r18 0) :: ([] : List PV)))), (nth p12 4)]))
  none))
  (some (Ex.n, [(nth p12 0), (nth p12 1), (nth p12 2), (nth p12 3), (nth p12 4)]))))))
  none)
  none)
  none)
  none)
  (fun p19 => (some (Ex.n, [(PV.int (IntKind.i64.wrap ((nth p19 0).toInt + (1 : Int)))), (nth p19 1), (nth p19 2), (nth p19 3), (nth p19 4)])))
  passE)
  (some (Ex.x 4, [(nth p12 2), (nth p12 3), (nth p12 4)])))
noncomputable def L35_2 (I : Interp) (n : Nat) (p10 : List PV) : Option (Ex × List PV) :=
  (iff (ltI (nth p10 0).toInt ((nth p10 1).toList.length : Int))
  (iff (geI (nth p10 0).toInt (0 : Int))
  (iff (ltI (nth p10 0).toInt ((nth p10 1).toList.length : Int))
  (iff (geI (nth (nth p10 1).toList (nth p10 0).toInt.toNat).toInt (0 : Int))
  (iff (ltI (nth (nth p10 1).toList (nth p10 0).toInt.toNat).toInt (((nth p10 2).fld 0).toList.length : Int))
  ((I 42 [(nth ((nth p10 2).fld 0).toList (nth (nth p10 1).toList (nth p10 0).toInt.toNat).toInt.toNat)]).bind fun r11 =>
  (thenN (thenE (loopEv (L35_1 I n) n [(PV.int (1 : Int)), (nth r11 2), (nth p10 0), (nth p10 1), (nth p10 2)])
  (passB 4))
  (fun p20 => (some (Ex.n, [(PV.int (IntKind.i64.wrap ((nth p20 0).toInt + (1 : Int)))), (nth p20 1), (nth p20 2)])))
  passE))
  none)
  none)
  none)
  none)
  (some (Ex.x 2, [(nth p10 1)])))
noncomputable def F35 (I : Interp) (n : Nat) (a : List PV) : Option (List PV) :=
  (thenN (thenE (loopEv (L35_0 I n) n [(PV.int (0 : Int)), (nth a 1), (PV.list ([] : List PV)), (nth a 0)])
  (passB 0))
  (fun p9 => (thenN (thenE (loopEv (L35_2 I n) n [(PV.int (0 : Int)), (nth p9 0), (nth p9 1)])
  (passB 2))
  (fun p21 => (some [(nth p21 0)]))
  (retE fun q22 => [(nth q22 0)])))
  (retE fun q23 => [(nth q23 0)]))
theorem e35 : ∀ I n a, (compF Tryz.prog sg 35).map (fun d => d.ev I n a) = some (F35 I n a) := fun I n a => by kernel_rfl
/-! impl.Shape$1 -/
noncomputable def L37_0 (I : Interp) (n : Nat) (p0 : List PV) : Option (Ex × List PV) :=
  (iff (ltI (nth p0 0).toInt (nth p0 1).toInt)
  (thenN (iff (geI (nth p0 0).toInt (0 : Int))
  (iff (ltI (nth p0 0).toInt ((nth p0 2).toList.length : Int))
  ((I 28 [(nth (nth p0 2).toList (nth p0 0).toInt.toNat)]).bind fun r1 =>
  (iff (nth r1 0).toBool
  ((I 30 [(nth (nth p0 2).toList (nth p0 0).toInt.toNat)]).bind fun r2 =>
  ((I 38 [(mgetL (PV.int (0 : Int)) (nth r2 0).toInt (nth p0 3).toList)]).bind fun r3 =>
  (iff (leI ((catB (⟨#[32, 64]⟩ : ByteArray) (nth r3 0).toStr).size : Int) (9223372036854775807 : Int))
  (iff (leN ((nth p0 4).toList.length + (s2bL (catB (⟨#[32, 64]⟩ : ByteArray) (nth r3 0).toStr)).length) 140737488355328)
  (some (Ex.n, [(nth p0 0), (nth p0 1), (nth p0 2), (nth p0 3), (PV.list ((nth p0 4).toList ++ (s2bL (catB (⟨#[32, 64]⟩ : ByteArray) (nth r3 0).toStr))))]))
  none)
  none)))
  ((I 39 [(nth (nth p0 2).toList (nth p0 0).toInt.toNat)]).bind fun r4 =>
  ((I 38 [(nth r4 0)]).bind fun r5 =>
  (iff (leI ((catB (⟨#[32]⟩ : ByteArray) (nth r5 0).toStr).size : Int) (9223372036854775807 : Int))
  (iff (leN ((nth p0 4).toList.length + (s2bL (catB (⟨#[32]⟩ : ByteArray) (nth r5 0).toStr)).length) 140737488355328)
  (some (Ex.n, [(nth p0 0), (nth p0 1), (nth p0 2), (nth p0 3), (PV.list ((nth p0 4).toList ++ (s2bL (catB (⟨#[32]⟩ : ByteArray) (nth r5 0).toStr))))]))
  none)
  none)))))
  none)
  none)
  (fun p6 => (some (Ex.n, [(PV.int (IntKind.i64.wrap ((nth p6 0).toInt + (1 : Int)))), (nth p6 1), (nth p6 2), (nth p6 3), (nth p6 4)])))
  passE)
  (some (Ex.x 0, [(nth p0 3), (nth p0 4)])))
noncomputable def F37 (I : Interp) (n : Nat) (a : List PV) : Option (List PV) :=
  (thenN (thenE (loopEv (L37_0 I n) n [(PV.int (0 : Int)), (PV.int ((nth a 0).toList.length : Int)), (nth a 0), (nth a 2), (nth a 1)])
  (passB 0))
  (fun p7 => (iff (leN ((nth p7 1).toList.length + ((PV.int (10 : Int)) :: ([] : List PV)).length) 140737488355328)
  (some [(PV.list ((nth p7 1).toList ++ ((PV.int (10 : Int)) :: ([] : List PV)))), (nth p7 0)])
  none))
  (retE fun q8 => [(nth q8 1), (nth q8 0)]))
theorem e37 : ∀ I n a, (compF Tryz.prog sg 37).map (fun d => d.ev I n a) = some (F37 I n a) := fun I n a => by kernel_rfl
/-! impl.Shape$1 -/
noncomputable def L4133_0 (I : Interp) (n : Nat) (p0 : List PV) : Option (Ex × List PV) :=
  (iff (ltI (nth p0 0).toInt (nth p0 1).toInt)
  (thenN (iff (geI (nth p0 0).toInt (0 : Int))
  (iff (ltI (nth p0 0).toInt ((nth p0 2).toList.length : Int))
  ((I 28 [(nth (nth p0 2).toList (nth p0 0).toInt.toNat)]).bind fun r1 =>
  (iff (nth r1 0).toBool
  ((I 30 [(nth (nth p0 2).toList (nth p0 0).toInt.toNat)]).bind fun r2 =>
  ((I 38 [(mgetL (PV.int (0 : Int)) (nth r2 0).toInt (nth p0 3).toList)]).bind fun r3 =>
  (iff (leI ((catB (⟨#[32, 64]⟩ : ByteArray) (nth r3 0).toStr).size : Int) (9223372036854775807 : Int))
  (iff (leN ((nth p0 4).toList.length + (s2bL (catB (⟨#[32, 64]⟩ : ByteArray) (nth r3 0).toStr)).length) 140737488355328)
  (some (Ex.n, [(nth p0 0), (nth p0 1), (nth p0 2), (nth p0 3), (PV.list ((nth p0 4).toList ++ (s2bL (catB (⟨#[32, 64]⟩ : ByteArray) (nth r3 0).toStr))))]))
  none)
  none)))
  ((I 39 [(nth (nth p0 2).toList (nth p0 0).toInt.toNat)]).bind fun r4 =>
  ((I 38 [(nth r4 0)]).bind fun r5 =>
  (iff (leI ((catB (⟨#[32]⟩ : ByteArray) (nth r5 0).toStr).size : Int) (9223372036854775807 : Int))
  (iff (leN ((nth p0 4).toList.length + (s2bL (catB (⟨#[32]⟩ : ByteArray) (nth r5 0).toStr)).length) 140737488355328)
  (some (Ex.n, [(nth p0 0), (nth p0 1), (nth p0 2), (nth p0 3), (PV.list ((nth p0 4).toList ++ (s2bL (catB (⟨#[32]⟩ : ByteArray) (nth r5 0).toStr))))]))
  none)
  none)))))
  none)
  none)
  (fun p6 => (some (Ex.n, [(PV.int (IntKind.i64.wrap ((nth p6 0).toInt + (1 : Int)))), (nth p6 1), (nth p6 2), (nth p6 3), (nth p6 4)])))
  passE)
  (some (Ex.x 0, [(nth p0 2), (nth p0 3), (nth p0 4)])))
noncomputable def F4133 (I : Interp) (n : Nat) (a : List PV) : Option (List PV) :=
  (thenN (thenE (loopEv (L4133_0 I n) n [(PV.int (0 : Int)), (PV.int ((nth a 0).toList.length : Int)), (nth a 0), (nth a 2), (nth a 1)])
  (passB 0))
  (fun p7 => (iff (leN ((nth p7 2).toList.length + ((PV.int (10 : Int)) :: ([] : List PV)).length) 140737488355328)
  (some [(nth p7 0), (PV.list ((nth p7 2).toList ++ ((PV.int (10 : Int)) :: ([] : List PV)))), (nth p7 1)])
  none))
  (retE fun q8 => [(nth q8 0), (nth q8 2), (nth q8 1)]))
theorem e4133 : ∀ I n a, (compF Tryz.prog sg 4133).map (fun d => d.ev I n a) = some (F4133 I n a) := fun I n a => by kernel_rfl
/-! impl.Shape$1 -/
noncomputable def L8229_0 (I : Interp) (n : Nat) (p0 : List PV) : Option (Ex × List PV) :=
  (iff (ltI (nth p0 0).toInt (nth p0 1).toInt)
  (thenN (iff (geI (nth p0 0).toInt (0 : Int))
  (iff (ltI (nth p0 0).toInt ((nth p0 2).toList.length : Int))
  ((I 28 [(nth (nth p0 2).toList (nth p0 0).toInt.toNat)]).bind fun r1 =>
  (iff (nth r1 0).toBool
  ((I 30 [(nth (nth p0 2).toList (nth p0 0).toInt.toNat)]).bind fun r2 =>
  ((I 38 [(mgetL (PV.int (0 : Int)) (nth r2 0).toInt (nth p0 3).toList)]).bind fun r3 =>
  (iff (leI ((catB (⟨#[32, 64]⟩ : ByteArray) (nth r3 0).toStr).size : Int) (9223372036854775807 : Int))
  (iff (leN ((nth p0 4).toList.length + (s2bL (catB (⟨#[32, 64]⟩ : ByteArray) (nth r3 0).toStr)).length) 140737488355328)
  (some (Ex.n, [(nth p0 0), (nth p0 1), (nth p0 2), (nth p0 3), (PV.list ((nth p0 4).toList ++ (s2bL (catB (⟨#[32, 64]⟩ : ByteArray) (nth r3 0).toStr))))]))
  none)
  none)))
  ((I 39 [(nth (nth p0 2).toList (nth p0 0).toInt.toNat)]).bind fun r4 =>
  ((I 38 [(nth r4 0)]).bind fun r5 =>
  (iff (leI ((catB (⟨#[32]⟩ : ByteArray) (nth r5 0).toStr).size : Int) (9223372036854775807 : Int))
  (iff (leN ((nth p0 4).toList.length + (s2bL (catB (⟨#[32]⟩ : ByteArray) (nth r5 0).toStr)).length) 140737488355328)
  (some (Ex.n, [(nth p0 0), (nth p0 1), (nth p0 2), (nth p0 3), (PV.list ((nth p0 4).toList ++ (s2bL (catB (⟨#[32]⟩ : ByteArray) (nth r5 0).toStr))))]))
  none)
  none)))))
  none)
  none)
  (fun p6 => (some (Ex.n, [(PV.int (IntKind.i64.wrap ((nth p6 0).toInt + (1 : Int)))), (nth p6 1), (nth p6 2), (nth p6 3), (nth p6 4)])))
  passE)
  (some (Ex.x 0, [(nth p0 3), (nth p0 4)])))
noncomputable def F8229 (I : Interp) (n : Nat) (a : List PV) : Option (List PV) :=
  (thenN (thenE (loopEv (L8229_0 I n) n [(PV.int (0 : Int)), (PV.int ((nth a 0).toList.length : Int)), (nth a 0), (nth a 2), (nth a 1)])
  (passB 0))
  (fun p7 => (iff (leN ((nth p7 1).toList.length + ((PV.int (10 : Int)) :: ([] : List PV)).length) 140737488355328)
  (some [(PV.list ((nth p7 1).toList ++ ((PV.int (10 : Int)) :: ([] : List PV)))), (nth p7 0)])
  none))
  (retE fun q8 => [(nth q8 1), (nth q8 0)]))
theorem e8229 : ∀ I n a, (compF Tryz.prog sg 8229).map (fun d => d.ev I n a) = some (F8229 I n a) := fun I n a => by kernel_rfl
/-! impl.isBlock -/
noncomputable def F47 (I : Interp) (n : Nat) (a : List PV) : Option (List PV) :=
  ((I 30 [(nth a 1)]).bind fun r0 =>
  ((I 67 [(nth a 0), (nth r0 0)]).bind fun r1 =>
  ((I 28 [(nth a 1)]).bind fun r2 =>
  (some [(selB (nth r2 0).toBool (selB ((nth r2 0).isB true) (nth r1 1) PV.unit) (PV.bool false))]))))
theorem e47 : ∀ I n a, (compF Tryz.prog sg 47).map (fun d => d.ev I n a) = some (F47 I n a) := fun I n a => by kernel_rfl
/-! impl.met -/
noncomputable def L25_0 (I : Interp) (n : Nat) (p1 : List PV) : Option (Ex × List PV) :=
  (iff (ltI (nth p1 0).toInt ((nth p1 3).toList.length : Int))
  (iff (geI (nth p1 0).toInt (0 : Int))
  (iff (ltI (nth p1 0).toInt ((nth p1 3).toList.length : Int))
  ((I 26 [(nth p1 1), (nth (nth p1 3).toList (nth p1 0).toInt.toNat)]).bind fun r2 =>
  ((I 53 [(nth r2 0), (nth p1 2), (nth p1 3)]).bind fun r3 =>
  (some (Ex.n, [(PV.int (IntKind.i64.wrap ((nth p1 0).toInt + (1 : Int)))), (nth p1 1), (nth r3 0), (nth r3 1)]))))
  none)
  none)
  (some (Ex.x 0, [(nth p1 3)])))
noncomputable def F25 (I : Interp) (n : Nat) (a : List PV) : Option (List PV) :=
  ((I 53 [(nth a 1), (PV.list ([] : List PV)), (PV.list ([] : List PV))]).bind fun r0 =>
  (thenN (thenE (loopEv (L25_0 I n) n [(PV.int (0 : Int)), (nth a 0), (nth r0 0), (nth r0 1)])
  (passB 0))
  (fun p4 => (some [(nth p4 0)]))
  (retE fun q5 => [(nth q5 0)])))
theorem e25 : ∀ I n a, (compF Tryz.prog sg 25).map (fun d => d.ev I n a) = some (F25 I n a) := fun I n a => by kernel_rfl
/-! spec.l18Collect -/
noncomputable def L33_0 (I : Interp) (n : Nat) (p0 : List PV) : Option (Ex × List PV) :=
  (iff (ltI (nth p0 0).toInt ((nth p0 1).toList.length : Int))
  (iff (geI (nth p0 0).toInt (0 : Int))
  (iff (ltI (nth p0 0).toInt ((nth p0 1).toList.length : Int))
  ((I 4154 [(nth p0 3), (nth (nth p0 1).toList (nth p0 0).toInt.toNat)]).bind fun r1 =>
  (iff (leN ((nth p0 2).toList.length + ((nth r1 0) :: ([] : List PV)).length) 17592186044416)
  (some (Ex.n, [(PV.int (IntKind.i64.wrap ((nth p0 0).toInt + (1 : Int)))), (nth p0 1), (PV.list ((nth p0 2).toList ++ ((nth r1 0) :: ([] : List PV)))), (nth r1 1), (nth p0 4)]))
  none))
  none)
  none)
  (some (Ex.x 0, [(nth p0 2), (nth p0 3), (nth p0 4)])))
noncomputable def L33_1 (I : Interp) (n : Nat) (p5 : List PV) : Option (Ex × List PV) :=
  (iff (leI (nth p5 0).toInt (nth p5 2).toInt)
  (iff (geI (IntKind.i64.wrap ((nth p5 1).toInt + (nth p5 0).toInt)) (0 : Int))
  (iff (ltI (IntKind.i64.wrap ((nth p5 1).toInt + (nth p5 0).toInt)) ((((nth p5 4).fld 1).fld 0).toList.length : Int))
  ((I 4154 [(nth p5 4), (nth (((nth p5 4).fld 1).fld 0).toList (IntKind.i64.wrap ((nth p5 1).toInt + (nth p5 0).toInt)).toNat)]).bind fun r6 =>
  (iff (geI (IntKind.i64.wrap ((nth p5 1).toInt + (nth p5 0).toInt)) (0 : Int))
  (iff (ltI (IntKind.i64.wrap ((nth p5 1).toInt + (nth p5 0).toInt)) ((((nth r6 1).fld 1).fld 0).toList.length : Int))
  (some (Ex.n, [(PV.int (IntKind.i64.wrap ((nth p5 0).toInt + (1 : Int)))), (nth p5 1), (nth p5 2), (nth p5 3), ((nth r6 1).setFld 1 (((nth r6 1).fld 1).setFld 0 (PV.list ((((nth r6 1).fld 1).fld 0).toList.set (IntKind.i64.wrap ((nth p5 1).toInt + (nth p5 0).toInt)).toNat (nth r6 0))))), (nth p5 5)]))
  none)
  none))
  none)
  none)
  (some (Ex.x 4, [(nth p5 1), (nth p5 2), (nth p5 3), (nth p5 4), (nth p5 5)])))
noncomputable def L33_2 (I : Interp) (n : Nat) (p3 : List PV) : Option (Ex × List PV) :=
  (iff (ltI (nth p3 0).toInt (((nth p3 2).fld 1).fld 3).toInt)
  (iff (geI (nth p3 0).toInt (0 : Int))
  (iff (ltI (nth p3 0).toInt ((((nth p3 2).fld 1).fld 0).toList.length : Int))
  ((I 42 [(nth (((nth p3 2).fld 1).fld 0).toList (nth p3 0).toInt.toNat)]).bind fun r4 =>
  (thenN (thenE (loopEv (L33_1 I n) n [(PV.int (1 : Int)), (nth p3 0), (nth r4 2), (nth p3 1), (nth p3 2), (nth p3 3)])
  (passB 4))
  (fun p7 => (some (Ex.n, [(PV.int (IntKind.i64.wrap ((IntKind.i64.wrap ((nth p7 0).toInt + (1 : Int))) + (nth p7 1).toInt))), (nth p7 2), (nth p7 3), (nth p7 4)])))
  passE))
  none)
  none)
  (some (Ex.x 2, [(nth p3 1), (nth p3 2), (nth p3 3)])))
noncomputable def F33 (I : Interp) (n : Nat) (a : List PV) : Option (List PV) :=
  (iff (geI (IntKind.i64.wrap ((2 : Int) * ((nth a 0).fld 1).toInt)) (0 : Int))
  (iff (leI (IntKind.i64.wrap ((2 : Int) * ((nth a 0).fld 1).toInt)) (IntKind.i64.wrap ((2 : Int) * ((nth a 0).fld 1).toInt)))
  (iff (leI (IntKind.i64.wrap ((2 : Int) * ((nth a 0).fld 1).toInt)) (17592186044416 : Int))
  (thenN (thenE (loopEv (L33_0 I n) n [(PV.int (0 : Int)), (nth a 1), (PV.list ([] : List PV)), (PV.agg [(nth a 0), (PV.agg [(PV.list (List.replicate (IntKind.i64.wrap ((2 : Int) * ((nth a 0).fld 1).toInt)).toNat (PV.int (0 : Int)))), ((nth a 0).fld 1), (PV.int (IntKind.i64.wrap (((nth a 0).fld 1).toInt - ((nth a 0).fld 2).toInt))), (PV.int (IntKind.i64.wrap (((nth a 0).fld 1).toInt - ((nth a 0).fld 2).toInt)))]), (PV.list ([] : List PV)), (PV.list ([] : List PV))]), (PV.agg [(PV.list ([] : List PV)), (PV.int (0 : Int)), (PV.int (0 : Int)), (PV.int (0 : Int))])])
  (passB 0))
  (fun p2 => (thenN (thenE (loopEv (L33_2 I n) n [(((nth p2 1).fld 1).fld 2), (nth p2 0), (nth p2 1), (nth p2 2)])
  (passB 2))
  (fun p8 => (some [((nth p8 1).fld 1), (nth p8 0)]))
  (retE fun q9 => [(nth q9 1), (nth q9 0)])))
  (retE fun q10 => [(nth q10 1), (nth q10 0)]))
  none)
  none)
  none)
theorem e33 : ∀ I n a, (compF Tryz.prog sg 33).map (fun d => d.ev I n a) = some (F33 I n a) := fun I n a => by kernel_rfl
/-! spec.l17There -/
noncomputable def F57 (I : Interp) (n : Nat) (a : List PV) : Option (List PV) :=
  ((I 61 [(nth a 1)]).bind fun r0 =>
  (iff (nth r0 0).toBool
  ((I 63 [(nth a 1)]).bind fun r1 =>
  ((I 62 [(nth a 0), (nth r1 0)]).bind fun r2 =>
  (some [(nth r2 0)])))
  ((I 66 [(nth a 1)]).bind fun r3 =>
  ((I 76 [(nth r3 0)]).bind fun r4 =>
  (some [(nth r4 0)])))))
theorem e57 : ∀ I n a, (compF Tryz.prog sg 57).map (fun d => d.ev I n a) = some (F57 I n a) := fun I n a => by kernel_rfl
/-! spec.HeapOk -/
noncomputable def L55_0 (I : Interp) (n : Nat) (p10 : List PV) : Option (Ex × List PV) :=
  (iff (leI (nth p10 0).toInt (nth p10 1).toInt)
  (iff (geI (nth p10 2).toInt (0 : Int))
  (iff (ltI (nth p10 2).toInt ((nth p10 3).toList.length : Int))
  (iff (geI (IntKind.i64.wrap ((nth (nth p10 3).toList (nth p10 2).toInt.toNat).toInt + (nth p10 0).toInt)) (0 : Int))
  (iff (ltI (IntKind.i64.wrap ((nth (nth p10 3).toList (nth p10 2).toInt.toNat).toInt + (nth p10 0).toInt)) (((nth p10 4).fld 0).toList.length : Int))
  ((I 57 [(nth p10 3), (nth ((nth p10 4).fld 0).toList (IntKind.i64.wrap ((nth (nth p10 3).toList (nth p10 2).toInt.toNat).toInt + (nth p10 0).toInt)).toNat)]).bind fun r11 =>
  (iff (!(nth r11 0).toBool)
  (some (Ex.r, [(PV.bool false)]))
  (some (Ex.n, [(PV.int (IntKind.i64.wrap ((nth p10 0).toInt + (1 : Int)))), (nth p10 1), (nth p10 2), (nth p10 3), (nth p10 4)]))))
  none)
  none)
  none)
  none)
  (some (Ex.x 2, [(nth p10 2), (nth p10 3), (nth p10 4)])))
noncomputable def L55_1 (I : Interp) (n : Nat) (p8 : List PV) : Option (Ex × List PV) :=
  (iff (ltI (nth p8 0).toInt ((nth p8 1).toList.length : Int))
  (iff (geI (nth p8 0).toInt (0 : Int))
  (iff (ltI (nth p8 0).toInt ((nth p8 1).toList.length : Int))
  (iff (geI (nth (nth p8 1).toList (nth p8 0).toInt.toNat).toInt (0 : Int))
  (iff (ltI (nth (nth p8 1).toList (nth p8 0).toInt.toNat).toInt (((nth p8 2).fld 0).toList.length : Int))
  ((I 42 [(nth ((nth p8 2).fld 0).toList (nth (nth p8 1).toList (nth p8 0).toInt.toNat).toInt.toNat)]).bind fun r9 =>
  (thenN (thenE (loopEv (L55_0 I n) n [(PV.int (1 : Int)), (nth r9 2), (nth p8 0), (nth p8 1), (nth p8 2)])
  (passB 2))
  (fun p12 => (some (Ex.n, [(PV.int (IntKind.i64.wrap ((nth p12 0).toInt + (1 : Int)))), (nth p12 1), (nth p12 2)])))
  passE))
  none)
  none)
  none)
  none)
  (some (Ex.x 0, [])))
noncomputable def F55 (I : Interp) (n : Nat) (a : List PV) : Option (List PV) :=
  ((I 75 [((nth a 0).fld 1), (PV.int (1 : Int)), (PV.int (3000 : Int))]).bind fun r0 =>
  (letB (selB (!(nth r0 0).toBool) (PV.bool true) (selB ((!(nth r0 0).toBool) == false) (PV.bool (neI (selB ((!(nth r0 0).toBool) == false) (PV.int ((selB ((!(nth r0 0).toBool) == false) ((nth a 0).fld 0) PV.unit).toList.length : Int)) PV.unit).toInt (selB ((!(nth r0 0).toBool) == false) (PV.int (IntKind.i64.wrap ((2 : Int) * (selB ((!(nth r0 0).toBool) == false) ((nth a 0).fld 1) PV.unit).toInt))) PV.unit).toInt)) PV.unit)) fun v1 =>
  (letB (selB (v1.isB false) (selB (selB (v1.isB false) (selB (v1.isB false) (PV.bool (neI (selB (v1.isB false) ((nth a 0).fld 2) PV.unit).toInt (0 : Int))) PV.unit) PV.unit).toBool (selB ((selB (v1.isB false) (selB (v1.isB false) (PV.bool (neI (selB (v1.isB false) ((nth a 0).fld 2) PV.unit).toInt (0 : Int))) PV.unit) PV.unit).isB true) (PV.bool (neI (selB ((selB (v1.isB false) (selB (v1.isB false) (PV.bool (neI (selB (v1.isB false) ((nth a 0).fld 2) PV.unit).toInt (0 : Int))) PV.unit) PV.unit).isB true) ((nth a 0).fld 2) PV.unit).toInt (selB ((selB (v1.isB false) (selB (v1.isB false) (PV.bool (neI (selB (v1.isB false) ((nth a 0).fld 2) PV.unit).toInt (0 : Int))) PV.unit) PV.unit).isB true) ((nth a 0).fld 1) PV.unit).toInt)) PV.unit) (PV.bool false)) PV.unit) fun v2 =>
  (letB (selB v1.toBool (PV.bool true) v2) fun v3 =>
  ((iff (v3.isB false)
  ((I 75 [(selB (v3.isB false) ((nth a 0).fld 3) PV.unit), (selB (v3.isB false) ((nth a 0).fld 2) PV.unit), (selB (v3.isB false) (PV.int (IntKind.i64.wrap ((selB (v3.isB false) ((nth a 0).fld 2) PV.unit).toInt + (selB (v3.isB false) ((nth a 0).fld 1) PV.unit).toInt))) PV.unit)]).bind fun r4 =>
  (some [(nth r4 0), (nth r4 0)]))
  (some [PV.unit, PV.unit])).bind fun g5 =>
  (letB (selB v3.toBool (PV.bool true) (selB (v3.isB false) (PV.bool (!(nth g5 0).toBool)) PV.unit)) fun v6 =>
  (iff v6.toBool
  (some [(PV.bool false)])
  ((I 56 [(nth a 0)]).bind fun r7 =>
  (iff (!(nth r7 1).toBool)
  (some [(PV.bool false)])
  (thenN (thenE (loopEv (L55_1 I n) n [(PV.int (0 : Int)), (nth r7 0), (nth a 0)])
  (passB 0))
  (fun p13 => (some [(PV.bool true)]))
  (retE fun q14 => [(nth q14 0)])))))))))))
theorem e55 : ∀ I n a, (compF Tryz.prog sg 55).map (fun d => d.ev I n a) = some (F55 I n a) := fun I n a => ew_ev (g := F55) (fun I n a => by kernel_rfl) I n a
/-! impl.blockAt -/
noncomputable def F44 (I : Interp) (n : Nat) (a : List PV) : Option (List PV) :=
  ((I 45 [(nth a 0)]).bind fun r0 =>
  ((I 67 [(nth r0 0), (nth a 1)]).bind fun r1 =>
  (iff (!(nth r1 1).toBool)
  (some [(PV.bool false), (PV.int (0 : Int)), (PV.list ([] : List PV)), (PV.bool false)])
  (iff (geI (nth a 1).toInt (0 : Int))
  (iff (ltI (nth a 1).toInt (((nth a 0).fld 0).toList.length : Int))
  ((I 40 [(nth ((nth a 0).fld 0).toList (nth a 1).toInt.toNat)]).bind fun r2 =>
  ((I 26 [(nth a 0), (nth a 1)]).bind fun r3 =>
  ((I 24 [(nth r3 0)]).bind fun r4 =>
  (some [(nth r2 0), (nth r2 1), (nth r4 0), (PV.bool true)]))))
  none)
  none))))
theorem e44 : ∀ I n a, (compF Tryz.prog sg 44).map (fun d => d.ev I n a) = some (F44 I n a) := fun I n a => by kernel_rfl
/-! impl.rootsOk$1 -/
noncomputable def F52 (I : Interp) (n : Nat) (a : List PV) : Option (List PV) :=
  ((I 46 [(nth a 0)]).bind fun r0 =>
  ((iff ((!(nth r0 0).toBool) == true)
  ((I 47 [(selB ((!(nth r0 0).toBool) == true) (nth a 1) PV.unit), (selB ((!(nth r0 0).toBool) == true) (nth a 0) PV.unit)]).bind fun r1 =>
  (some [(nth r1 0), (nth r1 0)]))
  (some [PV.unit, PV.unit])).bind fun g2 =>
  (some [(selB (!(nth r0 0).toBool) (selB ((!(nth r0 0).toBool) == true) (PV.bool (!(nth g2 0).toBool)) PV.unit) (PV.bool false))])))
theorem e52 : ∀ I n a, (compF Tryz.prog sg 52).map (fun d => d.ev I n a) = some (F52 I n a) := fun I n a => by kernel_rfl
/-! spec.l18Right -/
noncomputable def L31_0 (I : Interp) (n : Nat) (p2 : List PV) : Option (Ex × List PV) :=
  (iff (ltI (nth p2 0).toInt ((nth p2 2).toList.length : Int))
  (iff (geI (nth p2 0).toInt (0 : Int))
  (iff (ltI (nth p2 0).toInt ((nth p2 2).toList.length : Int))
  ((I 57 [(nth p2 1), (nth (nth p2 2).toList (nth p2 0).toInt.toNat)]).bind fun r3 =>
  (iff (!(nth r3 0).toBool)
  (some (Ex.r, [(PV.bool false)]))
  (some (Ex.n, [(PV.int (IntKind.i64.wrap ((nth p2 0).toInt + (1 : Int)))), (nth p2 1), (nth p2 2)]))))
  none)
  none)
  (some (Ex.x 0, [])))
noncomputable def F31 (I : Interp) (n : Nat) (a : List PV) : Option (List PV) :=
  ((I 55 [(nth a 0)]).bind fun r0 =>
  (iff (!(nth r0 0).toBool)
  (some [(PV.bool false)])
  ((I 56 [(nth a 0)]).bind fun r1 =>
  (thenN (thenE (loopEv (L31_0 I n) n [(PV.int (0 : Int)), (nth r1 0), (nth a 1)])
  (passB 0))
  (fun p4 => (some [(PV.bool true)]))
  (retE fun q5 => [(nth q5 0)])))))
theorem e31 : ∀ I n a, (compF Tryz.prog sg 31).map (fun d => d.ev I n a) = some (F31 I n a) := fun I n a => by kernel_rfl
/-! slices.IndexFunc[[]int,int] -/
noncomputable def L74_0 (I : Interp) (n : Nat) (p0 : List PV) : Option (Ex × List PV) :=
  (iff (ltI (nth p0 0).toInt (nth p0 1).toInt)
  (iff (geI (nth p0 0).toInt (0 : Int))
  (iff (ltI (nth p0 0).toInt ((nth p0 2).toList.length : Int))
  ((I 52 [(nth (nth p0 2).toList (nth p0 0).toInt.toNat), (nth p0 3)]).bind fun r1 =>
  (iff (nth r1 0).toBool
  (some (Ex.r, [(nth p0 0)]))
  (some (Ex.n, [(PV.int (IntKind.i64.wrap ((nth p0 0).toInt + (1 : Int)))), (nth p0 1), (nth p0 2), (nth p0 3)]))))
  none)
  none)
  (some (Ex.x 0, [])))
noncomputable def F74 (I : Interp) (n : Nat) (a : List PV) : Option (List PV) :=
  (thenN (thenE (loopEv (L74_0 I n) n [(PV.int (0 : Int)), (PV.int ((nth a 0).toList.length : Int)), (nth a 0), (nth a 1)])
  (passB 0))
  (fun p2 => (some [(PV.int (-1 : Int))]))
  (retE fun q3 => [(nth q3 0)]))
theorem e74 : ∀ I n a, (compF Tryz.prog sg 74).map (fun d => d.ev I n a) = some (F74 I n a) := fun I n a => by kernel_rfl
/-! slices.IndexFunc[[]int,int] -/
noncomputable def L4170_0 (I : Interp) (n : Nat) (p0 : List PV) : Option (Ex × List PV) :=
  (iff (ltI (nth p0 0).toInt (nth p0 1).toInt)
  (iff (geI (nth p0 0).toInt (0 : Int))
  (iff (ltI (nth p0 0).toInt ((nth p0 2).toList.length : Int))
  ((I 52 [(nth (nth p0 2).toList (nth p0 0).toInt.toNat), (nth p0 3)]).bind fun r1 =>
  (iff (nth r1 0).toBool
  (some (Ex.r, [(nth p0 0)]))
  (some (Ex.n, [(PV.int (IntKind.i64.wrap ((nth p0 0).toInt + (1 : Int)))), (nth p0 1), (nth p0 2), (nth p0 3)]))))
  none)
  none)
  (some (Ex.x 0, [])))
noncomputable def F4170 (I : Interp) (n : Nat) (a : List PV) : Option (List PV) :=
  (thenN (thenE (loopEv (L4170_0 I n) n [(PV.int (0 : Int)), (PV.int ((nth a 0).toList.length : Int)), (nth a 0), (nth a 1)])
  (passB 0))
  (fun p2 => (some [(PV.int (-1 : Int))]))
  (retE fun q3 => [(nth q3 0)]))
theorem e4170 : ∀ I n a, (compF Tryz.prog sg 4170).map (fun d => d.ev I n a) = some (F4170 I n a) := fun I n a => by kernel_rfl
/-! slices.ContainsFunc[[]int,int] -/
noncomputable def F51 (I : Interp) (n : Nat) (a : List PV) : Option (List PV) :=
  ((I 74 [(nth a 0), (nth a 1)]).bind fun r0 =>
  (some [(PV.bool (geI (nth r0 0).toInt (0 : Int)))]))
theorem e51 : ∀ I n a, (compF Tryz.prog sg 51).map (fun d => d.ev I n a) = some (F51 I n a) := fun I n a => by kernel_rfl
/-! slices.ContainsFunc[[]int,int] -/
noncomputable def F4147 (I : Interp) (n : Nat) (a : List PV) : Option (List PV) :=
  ((I 74 [(nth a 0), (nth a 1)]).bind fun r0 =>
  (some [(PV.bool (geI (nth r0 0).toInt (0 : Int)))]))
theorem e4147 : ∀ I n a, (compF Tryz.prog sg 4147).map (fun d => d.ev I n a) = some (F4147 I n a) := fun I n a => by kernel_rfl
/-! impl.HeapOk -/
noncomputable def L17_0 (I : Interp) (n : Nat) (p3 : List PV) : Option (Ex × List PV) :=
  (iff (ltI (nth p3 0).toInt (nth p3 1).toInt)
  (iff (geI (nth p3 0).toInt (0 : Int))
  (iff (ltI (nth p3 0).toInt ((nth p3 2).toList.length : Int))
  ((I 46 [(nth (nth p3 2).toList (nth p3 0).toInt.toNat)]).bind fun r4 =>
  ((iff ((!(nth r4 0).toBool) == true)
  ((I 47 [(nth p3 5), (selB ((!(nth r4 0).toBool) == true) (nth (nth p3 2).toList (nth p3 0).toInt.toNat) PV.unit)]).bind fun r5 =>
  (some [(nth r5 0), (nth r5 0)]))
  (some [PV.unit, PV.unit])).bind fun g6 =>
  (iff (selB (!(nth r4 0).toBool) (selB ((!(nth r4 0).toBool) == true) (PV.bool (!(nth g6 0).toBool)) PV.unit) (PV.bool false)).toBool
  (some (Ex.r, [(PV.bool false)]))
  (some (Ex.n, [(PV.int (IntKind.i64.wrap ((nth p3 0).toInt + (1 : Int)))), (nth p3 1), (nth p3 2), (nth p3 3), (nth p3 4), (nth p3 5), (nth p3 6)])))))
  none)
  none)
  (some (Ex.x 2, [(nth p3 3), (nth p3 4), (nth p3 5), (nth p3 6)])))
noncomputable def L17_1 (I : Interp) (n : Nat) (p1 : List PV) : Option (Ex × List PV) :=
  (iff (ltI (nth p1 0).toInt (nth p1 1).toInt)
  (iff (geI (nth p1 0).toInt (0 : Int))
  (iff (ltI (nth p1 0).toInt ((nth p1 2).toList.length : Int))
  ((I 26 [(nth p1 3), (nth (nth p1 2).toList (nth p1 0).toInt.toNat)]).bind fun r2 =>
  (thenN (thenE (loopEv (L17_0 I n) n [(PV.int (0 : Int)), (PV.int ((nth r2 0).toList.length : Int)), (nth r2 0), (nth p1 0), (nth p1 1), (nth p1 2), (nth p1 3)])
  (passB 2))
  (fun p7 => (some (Ex.n, [(PV.int (IntKind.i64.wrap ((nth p7 0).toInt + (1 : Int)))), (nth p7 1), (nth p7 2), (nth p7 3)])))
  passE))
  none)
  none)
  (some (Ex.x 0, [])))
noncomputable def F17 (I : Interp) (n : Nat) (a : List PV) : Option (List PV) :=
  ((I 45 [(nth a 0)]).bind fun r0 =>
  (iff (!(nth r0 1).toBool)
  (some [(PV.bool false)])
  (thenN (thenE (loopEv (L17_1 I n) n [(PV.int (0 : Int)), (PV.int ((nth r0 0).toList.length : Int)), (nth r0 0), (nth a 0)])
  (passB 0))
  (fun p8 => (some [(PV.bool true)]))
  (retE fun q9 => [(nth q9 0)]))))
theorem e17 : ∀ I n a, (compF Tryz.prog sg 17).map (fun d => d.ev I n a) = some (F17 I n a) := fun I n a => by kernel_rfl
/-! impl.Room -/
noncomputable def F18 (I : Interp) (n : Nat) (a : List PV) : Option (List PV) :=
  ((I 17 [(nth a 0)]).bind fun r0 =>
  (iff (!(nth r0 0).toBool)
  (some [(PV.int (0 : Int))])
  (some [(PV.int (IntKind.i64.wrap ((IntKind.i64.wrap (((nth a 0).fld 2).toInt + ((nth a 0).fld 1).toInt)) - ((nth a 0).fld 3).toInt)))])))
theorem e18 : ∀ I n a, (compF Tryz.prog sg 18).map (fun d => d.ev I n a) = some (F18 I n a) := fun I n a => by kernel_rfl
/-! spec.Shape -/
noncomputable def L15_0 (I : Interp) (n : Nat) (p2 : List PV) : Option (Ex × List PV) :=
  (iff (ltI (nth p2 0).toInt ((nth p2 1).toList.length : Int))
  (iff (geI (nth p2 0).toInt (0 : Int))
  (iff (ltI (nth p2 0).toInt ((nth p2 1).toList.length : Int))
  ((I 41 [(nth (nth p2 1).toList (nth p2 0).toInt.toNat), (nth p2 3)]).bind fun r3 =>
  (iff (leI ((catB (nth p2 2).toStr (nth r3 0).toStr).size : Int) (9223372036854775807 : Int))
  (some (Ex.n, [(PV.int (IntKind.i64.wrap ((nth p2 0).toInt + (1 : Int)))), (nth p2 1), (PV.str (catB (nth p2 2).toStr (nth r3 0).toStr)), (nth p2 3), (nth p2 4)]))
  none))
  none)
  none)
  (some (Ex.x 0, [(nth p2 2), (nth p2 3), (nth p2 4)])))
noncomputable def L15_1 (I : Interp) (n : Nat) (p9 : List PV) : Option (Ex × List PV) :=
  (iff (leI (nth p9 0).toInt (nth p9 1).toInt)
  (iff (geI (nth p9 3).toInt (0 : Int))
  (iff (ltI (nth p9 3).toInt ((nth p9 4).toList.length : Int))
  (iff (geI (IntKind.i64.wrap ((nth (nth p9 4).toList (nth p9 3).toInt.toNat).toInt + (nth p9 0).toInt)) (0 : Int))
  (iff (ltI (IntKind.i64.wrap ((nth (nth p9 4).toList (nth p9 3).toInt.toNat).toInt + (nth p9 0).toInt)) (((nth p9 5).fld 0).toList.length : Int))
  ((I 41 [(nth ((nth p9 5).fld 0).toList (IntKind.i64.wrap ((nth (nth p9 4).toList (nth p9 3).toInt.toNat).toInt + (nth p9 0).toInt)).toNat), (nth p9 4)]).bind fun r10 =>
  (iff (leI ((catB (nth p9 2).toStr (nth r10 0).toStr).size : Int) (9223372036854775807 : Int))
  (some (Ex.n, [(PV.int (IntKind.i64.wrap ((nth p9 0).toInt + (1 : Int)))), (nth p9 1), (PV.str (catB (nth p9 2).toStr (nth r10 0).toStr)), (nth p9 3), (nth p9 4), (nth p9 5)]))
  none))
  none)
  none)
  none)
  none)
  (some (Ex.x 4, [(nth p9 2), (nth p9 3), (nth p9 4), (nth p9 5)])))
noncomputable def L15_2 (I : Interp) (n : Nat) (p5 : List PV) : Option (Ex × List PV) :=
  (iff (ltI (nth p5 0).toInt ((nth p5 1).toList.length : Int))
  (iff (geI (nth p5 0).toInt (0 : Int))
  (iff (ltI (nth p5 0).toInt ((nth p5 1).toList.length : Int))
  (iff (geI (nth (nth p5 1).toList (nth p5 0).toInt.toNat).toInt (0 : Int))
  (iff (ltI (nth (nth p5 1).toList (nth p5 0).toInt.toNat).toInt (((nth p5 3).fld 0).toList.length : Int))
  ((I 42 [(nth ((nth p5 3).fld 0).toList (nth (nth p5 1).toList (nth p5 0).toInt.toNat).toInt.toNat)]).bind fun r6 =>
  (thenN (iff (nth r6 0).toBool
  (iff (leI ((catB (nth p5 2).toStr (⟨#[102, 117, 110]⟩ : ByteArray)).size : Int) (9223372036854775807 : Int))
  (some (Ex.n, [(PV.str (catB (nth p5 2).toStr (⟨#[102, 117, 110]⟩ : ByteArray))), (nth r6 1), (nth r6 2), (nth p5 0), (nth p5 1), (nth p5 3)]))
  none)
  (iff (leI ((catB (nth p5 2).toStr (⟨#[99, 111, 110]⟩ : ByteArray)).size : Int) (9223372036854775807 : Int))
  (some (Ex.n, [(PV.str (catB (nth p5 2).toStr (⟨#[99, 111, 110]⟩ : ByteArray))), (nth r6 1), (nth r6 2), (nth p5 0), (nth p5 1), (nth p5 3)]))
  none))
  (fun p7 => (iff (leI ((catB (nth p7 0).toStr (⟨#[32]⟩ : ByteArray)).size : Int) (9223372036854775807 : Int))
  ((I 43 [(nth p7 1)]).bind fun r8 =>
  (iff (leI ((catB (catB (nth p7 0).toStr (⟨#[32]⟩ : ByteArray)) (nth r8 0).toStr).size : Int) (9223372036854775807 : Int))
  (thenN (thenE (loopEv (L15_1 I n) n [(PV.int (1 : Int)), (nth p7 2), (PV.str (catB (catB (nth p7 0).toStr (⟨#[32]⟩ : ByteArray)) (nth r8 0).toStr)), (nth p7 3), (nth p7 4), (nth p7 5)])
  (passB 4))
  (fun p11 => (iff (leI ((catB (nth p11 0).toStr (⟨#[10]⟩ : ByteArray)).size : Int) (9223372036854775807 : Int))
  (some (Ex.n, [(PV.int (IntKind.i64.wrap ((nth p11 1).toInt + (1 : Int)))), (nth p11 2), (PV.str (catB (nth p11 0).toStr (⟨#[10]⟩ : ByteArray))), (nth p11 3)]))
  none))
  passE)
  none))
  none))
  passE))
  none)
  none)
  none)
  none)
  (some (Ex.x 2, [(nth p5 2)])))
noncomputable def F15 (I : Interp) (n : Nat) (a : List PV) : Option (List PV) :=
  ((I 31 [(nth a 0), (nth a 1)]).bind fun r0 =>
  (iff (!(nth r0 0).toBool)
  (some [(PV.str (⟨#[]⟩ : ByteArray))])
  ((I 35 [(nth a 0), (nth a 1)]).bind fun r1 =>
  (thenN (thenE (loopEv (L15_0 I n) n [(PV.int (0 : Int)), (nth a 1), (PV.str (⟨#[]⟩ : ByteArray)), (nth r1 0), (nth a 0)])
  (passB 0))
  (fun p4 => (iff (leI ((catB (nth p4 0).toStr (⟨#[10]⟩ : ByteArray)).size : Int) (9223372036854775807 : Int))
  (thenN (thenE (loopEv (L15_2 I n) n [(PV.int (0 : Int)), (nth p4 1), (PV.str (catB (nth p4 0).toStr (⟨#[10]⟩ : ByteArray))), (nth p4 2)])
  (passB 2))
  (fun p12 => (some [(nth p12 0)]))
  (retE fun q13 => [(nth q13 0)]))
  none))
  (retE fun q14 => [(nth q14 0)])))))
theorem e15 : ∀ I n a, (compF Tryz.prog sg 15).map (fun d => d.ev I n a) = some (F15 I n a) := fun I n a => by kernel_rfl
/-! spec.Reach -/
noncomputable def L13_0 (I : Interp) (n : Nat) (p2 : List PV) : Option (Ex × List PV) :=
  (iff (ltI (nth p2 0).toInt ((nth p2 1).toList.length : Int))
  (iff (geI (nth p2 0).toInt (0 : Int))
  (iff (ltI (nth p2 0).toInt ((nth p2 1).toList.length : Int))
  ((I 36 [(nth p2 2), (nth (nth p2 1).toList (nth p2 0).toInt.toNat)]).bind fun r3 =>
  (some (Ex.n, [(PV.int (IntKind.i64.wrap ((nth p2 0).toInt + (1 : Int)))), (nth p2 1), (nth r3 0)])))
  none)
  none)
  (some (Ex.x 0, [(nth p2 2)])))
noncomputable def F13 (I : Interp) (n : Nat) (a : List PV) : Option (List PV) :=
  ((I 31 [(nth a 0), (nth a 1)]).bind fun r0 =>
  (iff (!(nth r0 0).toBool)
  (some [(PV.list ([] : List PV))])
  ((I 35 [(nth a 0), (nth a 1)]).bind fun r1 =>
  (thenN (thenE (loopEv (L13_0 I n) n [(PV.int (0 : Int)), (nth r1 0), (PV.list ([] : List PV))])
  (passB 0))
  (fun p4 => (some [(nth p4 0)]))
  (retE fun q5 => [(nth q5 0)])))))
theorem e13 : ∀ I n a, (compF Tryz.prog sg 13).map (fun d => d.ev I n a) = some (F13 I n a) := fun I n a => by kernel_rfl
/-! spec.Alloc -/
noncomputable def F71 (I : Interp) (n : Nat) (a : List PV) : Option (List PV) :=
  ((I 55 [(nth a 0)]).bind fun r0 =>
  ((iff ((!(nth r0 0).toBool) == false)
  ((I 75 [(selB ((!(nth r0 0).toBool) == false) (nth a 2) PV.unit), (PV.int (0 : Int)), (PV.int (3000 : Int))]).bind fun r1 =>
  (some [(nth r1 0), (nth r1 0)]))
  (some [PV.unit, PV.unit])).bind fun g2 =>
  (iff (selB (selB (!(nth r0 0).toBool) (PV.bool true) (selB ((!(nth r0 0).toBool) == false) (PV.bool (!(nth g2 0).toBool)) PV.unit)).toBool (PV.bool true) (selB ((selB (!(nth r0 0).toBool) (PV.bool true) (selB ((!(nth r0 0).toBool) == false) (PV.bool (!(nth g2 0).toBool)) PV.unit)).isB false) (PV.bool (gtI (selB ((selB (!(nth r0 0).toBool) (PV.bool true) (selB ((!(nth r0 0).toBool) == false) (PV.bool (!(nth g2 0).toBool)) PV.unit)).isB false) (PV.int ((selB ((selB (!(nth r0 0).toBool) (PV.bool true) (selB ((!(nth r0 0).toBool) == false) (PV.bool (!(nth g2 0).toBool)) PV.unit)).isB false) (nth a 3) PV.unit).toList.length : Int)) PV.unit).toInt (20 : Int))) PV.unit)).toBool
  ((I 32 [(nth a 0)]).bind fun r3 =>
  (some [(nth r3 0), (PV.int (0 : Int)), (PV.bool false)]))
  ((I 32 [(nth a 0)]).bind fun r4 =>
  ((I 91 [(nth r4 0), (nth a 1), (nth a 2), (nth a 3)]).bind fun r5 =>
  ((iff ((!(nth r5 2).toBool) == false)
  ((I 55 [(nth r5 0)]).bind fun r6 =>
  (some [(nth r6 0), (nth r6 0)]))
  (some [PV.unit, PV.unit])).bind fun g7 =>
  (iff (selB (!(nth r5 2).toBool) (PV.bool true) (selB ((!(nth r5 2).toBool) == false) (PV.bool (!(nth g7 0).toBool)) PV.unit)).toBool
  ((I 32 [(nth a 0)]).bind fun r8 =>
  (some [(nth r8 0), (PV.int (0 : Int)), (PV.bool false)]))
  (some [(nth r5 0), (nth r5 1), (PV.bool true)]))))))))
theorem e71 : ∀ I n a, (compF Tryz.prog sg 71).map (fun d => d.ev I n a) = some (F71 I n a) := fun I n a => by kernel_rfl
/-! spec.Collect -/
noncomputable def F7 (I : Interp) (n : Nat) (a : List PV) : Option (List PV) :=
  ((I 31 [(nth a 0), (nth a 1)]).bind fun r0 =>
  (iff (!(nth r0 0).toBool)
  ((I 32 [(nth a 0)]).bind fun r1 =>
  (iff (leN (([] : List PV).length + (nth a 1).toList.length) 17592186044416)
  (some [(nth r1 0), (PV.list (([] : List PV) ++ (nth a 1).toList))])
  none))
  ((I 33 [(nth a 0), (nth a 1)]).bind fun r2 =>
  (some [(nth r2 0), (nth r2 1)]))))
theorem e7 : ∀ I n a, (compF Tryz.prog sg 7).map (fun d => d.ev I n a) = some (F7 I n a) := fun I n a => by kernel_rfl
/-! impl.BlockAt -/
noncomputable def F16 (I : Interp) (n : Nat) (a : List PV) : Option (List PV) :=
  ((I 17 [(nth a 0)]).bind fun r0 =>
  (iff (!(nth r0 0).toBool)
  (some [(PV.bool false), (PV.int (0 : Int)), (PV.list ([] : List PV)), (PV.bool false)])
  ((I 44 [(nth a 0), (nth a 1)]).bind fun r1 =>
  (some [(nth r1 0), (nth r1 1), (nth r1 2), (nth r1 3)]))))
theorem e16 : ∀ I n a, (compF Tryz.prog sg 16).map (fun d => d.ev I n a) = some (F16 I n a) := fun I n a => by kernel_rfl
/-! impl.rootsOk -/
noncomputable def F22 (I : Interp) (n : Nat) (a : List PV) : Option (List PV) :=
  ((I 17 [(nth a 0)]).bind fun r0 =>
  (iff (!(nth r0 0).toBool)
  (some [(PV.bool false)])
  ((I 45 [(nth a 0)]).bind fun r1 =>
  ((I 51 [(nth a 1), (nth r1 0)]).bind fun r2 =>
  (some [(PV.bool (!(nth r2 0).toBool))])))))
theorem e22 : ∀ I n a, (compF Tryz.prog sg 22).map (fun d => d.ev I n a) = some (F22 I n a) := fun I n a => by kernel_rfl
/-! impl.Reach -/
noncomputable def F12 (I : Interp) (n : Nat) (a : List PV) : Option (List PV) :=
  ((I 22 [(nth a 0), (nth a 1)]).bind fun r0 =>
  (iff (!(nth r0 0).toBool)
  (some [(PV.list ([] : List PV))])
  ((I 25 [(nth a 0), (nth a 1)]).bind fun r1 =>
  ((I 34 [(nth r1 0)]).bind fun r2 =>
  (some [(nth r2 0)])))))
theorem e12 : ∀ I n a, (compF Tryz.prog sg 12).map (fun d => d.ev I n a) = some (F12 I n a) := fun I n a => by kernel_rfl
/-! impl.Shape -/
noncomputable def L14_0 (I : Interp) (n : Nat) (p2 : List PV) : Option (Ex × List PV) :=
  (iff (ltI (nth p2 0).toInt (nth p2 1).toInt)
  (iff (geI (nth p2 0).toInt (0 : Int))
  (iff (ltI (nth p2 0).toInt ((nth p2 3).toList.length : Int))
  (some (Ex.n, [(PV.int (IntKind.i64.wrap ((nth p2 0).toInt + (1 : Int)))), (nth p2 1), (nth p2 2), (nth p2 3), (PV.list (msetL (nth (nth p2 3).toList (nth p2 0).toInt.toNat).toInt (nth p2 0) (nth p2 4).toList)), (nth p2 5)]))
  none)
  none)
  (some (Ex.x 0, [(nth p2 2), (nth p2 3), (nth p2 4), (nth p2 5)])))
noncomputable def L14_1 (I : Interp) (n : Nat) (p5 : List PV) : Option (Ex × List PV) :=
  (iff (ltI (nth p5 0).toInt (nth p5 1).toInt)
  (iff (geI (nth p5 0).toInt (0 : Int))
  (iff (ltI (nth p5 0).toInt ((nth p5 2).toList.length : Int))
  (iff (geI (nth (nth p5 2).toList (nth p5 0).toInt.toNat).toInt (0 : Int))
  (iff (ltI (nth (nth p5 2).toList (nth p5 0).toInt.toNat).toInt (((nth p5 3).fld 0).toList.length : Int))
  ((I 40 [(nth ((nth p5 3).fld 0).toList (nth (nth p5 2).toList (nth p5 0).toInt.toNat).toInt.toNat)]).bind fun r6 =>
  (thenN (iff (nth r6 0).toBool
  (some (Ex.n, [(PV.str (⟨#[102, 117, 110, 32]⟩ : ByteArray)), (nth r6 1), (nth (nth p5 2).toList (nth p5 0).toInt.toNat), (nth p5 0), (nth p5 1), (nth p5 2), (nth p5 3), (nth p5 4), (nth p5 5)]))
  (some (Ex.n, [(PV.str (⟨#[99, 111, 110, 32]⟩ : ByteArray)), (nth r6 1), (nth (nth p5 2).toList (nth p5 0).toInt.toNat), (nth p5 0), (nth p5 1), (nth p5 2), (nth p5 3), (nth p5 4), (nth p5 5)])))
  (fun p7 => ((I 38 [(nth p7 1)]).bind fun r8 =>
  (iff (leI ((catB (nth p7 0).toStr (nth r8 0).toStr).size : Int) (9223372036854775807 : Int))
  (iff (leN ((nth p7 7).toList.length + (s2bL (catB (nth p7 0).toStr (nth r8 0).toStr)).length) 140737488355328)
  ((I 26 [(nth p7 6), (nth p7 2)]).bind fun r9 =>
  ((I 37 [(nth r9 0), (PV.list ((nth p7 7).toList ++ (s2bL (catB (nth p7 0).toStr (nth r8 0).toStr)))), (nth p7 8)]).bind fun r10 =>
  (some (Ex.n, [(PV.int (IntKind.i64.wrap ((nth p7 3).toInt + (1 : Int)))), (nth p7 4), (nth p7 5), (nth p7 6), (nth r10 0), (nth r10 1)]))))
  none)
  none)))
  passE))
  none)
  none)
  none)
  none)
  (some (Ex.x 2, [(nth p5 4)])))
noncomputable def F14 (I : Interp) (n : Nat) (a : List PV) : Option (List PV) :=
  ((I 22 [(nth a 0), (nth a 1)]).bind fun r0 =>
  (iff (!(nth r0 0).toBool)
  (some [(PV.str (⟨#[]⟩ : ByteArray))])
  ((I 25 [(nth a 0), (nth a 1)]).bind fun r1 =>
  (thenN (thenE (loopEv (L14_0 I n) n [(PV.int (0 : Int)), (PV.int ((nth r1 0).toList.length : Int)), (nth a 1), (nth r1 0), (PV.list ([] : List PV)), (nth a 0)])
  (passB 0))
  (fun p3 => ((I 37 [(nth p3 0), (PV.list ([] : List PV)), (nth p3 2)]).bind fun r4 =>
  (thenN (thenE (loopEv (L14_1 I n) n [(PV.int (0 : Int)), (PV.int ((nth p3 1).toList.length : Int)), (nth p3 1), (nth p3 3), (nth r4 0), (nth r4 1)])
  (passB 2))
  (fun p11 => (some [(PV.str (b2sL (nth p11 0).toList))]))
  (retE fun q12 => [(nth q12 0)]))))
  (retE fun q13 => [(nth q13 0)])))))
theorem e14 : ∀ I n a, (compF Tryz.prog sg 14).map (fun d => d.ev I n a) = some (F14 I n a) := fun I n a => by kernel_rfl
/-! impl.Collect -/
noncomputable def L6_0 (I : Interp) (n : Nat) (p4 : List PV) : Option (Ex × List PV) :=
  (iff (ltI (nth p4 0).toInt (nth p4 1).toInt)
  (iff (geI (nth p4 0).toInt (0 : Int))
  (iff (ltI (nth p4 0).toInt ((nth p4 4).toList.length : Int))
  ((I 26 [(nth p4 6), (nth (nth p4 4).toList (nth p4 0).toInt.toNat)]).bind fun r5 =>
  (some (Ex.n, [(PV.int (IntKind.i64.wrap ((nth p4 0).toInt + (1 : Int)))), (nth p4 1), (PV.int (IntKind.i64.wrap ((nth p4 2).toInt + (IntKind.i64.wrap ((1 : Int) + ((nth r5 0).toList.length : Int)))))), (nth p4 3), (nth p4 4), (PV.list (msetL (nth (nth p4 4).toList (nth p4 0).toInt.toNat).toInt (nth p4 2) (nth p4 5).toList)), (nth p4 6), (nth p4 7), (nth p4 8)])))
  none)
  none)
  (some (Ex.x 0, [(nth p4 2), (nth p4 4), (nth p4 3), (nth p4 5), (nth p4 6), (nth p4 7), (nth p4 8)])))
noncomputable def L6_1 (I : Interp) (n : Nat) (p9 : List PV) : Option (Ex × List PV) :=
  (iff (ltI (nth p9 0).toInt (nth p9 1).toInt)
  (iff (geI (nth p9 0).toInt (0 : Int))
  (iff (ltI (nth p9 0).toInt ((nth p9 2).toList.length : Int))
  ((I 27 [(nth (nth p9 2).toList (nth p9 0).toInt.toNat), (nth p9 11)]).bind fun r10 =>
  (iff (geI (IntKind.i64.wrap ((IntKind.i64.wrap ((nth p9 3).toInt + (1 : Int))) + (nth p9 0).toInt)) (0 : Int))
  (iff (ltI (IntKind.i64.wrap ((IntKind.i64.wrap ((nth p9 3).toInt + (1 : Int))) + (nth p9 0).toInt)) (((nth p9 9).fld 0).toList.length : Int))
  (some (Ex.n, [(PV.int (IntKind.i64.wrap ((nth p9 0).toInt + (1 : Int)))), (nth p9 1), (nth p9 2), (nth p9 3), (nth p9 4), (nth p9 5), (nth p9 6), (nth p9 7), (nth p9 8), ((nth p9 9).setFld 0 (PV.list (((nth p9 9).fld 0).toList.set (IntKind.i64.wrap ((IntKind.i64.wrap ((nth p9 3).toInt + (1 : Int))) + (nth p9 0).toInt)).toNat (nth r10 0)))), (nth p9 10), (nth r10 1)]))
  none)
  none))
  none)
  none)
  (some (Ex.x 4, [(nth p9 4), (nth p9 5), (nth p9 6), (nth p9 7), (nth p9 8), (nth p9 9), (nth p9 10), (nth p9 11)])))
noncomputable def L6_2 (I : Interp) (n : Nat) (p7 : List PV) : Option (Ex × List PV) :=
  (iff (ltI (nth p7 0).toInt (nth p7 1).toInt)
  (iff (geI (nth p7 0).toInt (0 : Int))
  (iff (ltI (nth p7 0).toInt ((nth p7 3).toList.length : Int))
  (iff (geI (nth (nth p7 3).toList (nth p7 0).toInt.toNat).toInt (0 : Int))
  (iff (ltI (nth (nth p7 3).toList (nth p7 0).toInt.toNat).toInt (((nth p7 4).fld 0).toList.length : Int))
  (iff (geI (mgetL (PV.int (0 : Int)) (nth (nth p7 3).toList (nth p7 0).toInt.toNat).toInt (nth p7 7).toList).toInt (0 : Int))
  (iff (ltI (mgetL (PV.int (0 : Int)) (nth (nth p7 3).toList (nth p7 0).toInt.toNat).toInt (nth p7 7).toList).toInt (((nth p7 5).fld 0).toList.length : Int))
  ((I 26 [(nth p7 4), (nth (nth p7 3).toList (nth p7 0).toInt.toNat)]).bind fun r8 =>
  (thenN (thenE (loopEv (L6_1 I n) n [(PV.int (0 : Int)), (PV.int ((nth r8 0).toList.length : Int)), (nth r8 0), (mgetL (PV.int (0 : Int)) (nth (nth p7 3).toList (nth p7 0).toInt.toNat).toInt (nth p7 7).toList), (nth p7 0), (nth p7 1), (nth p7 2), (nth p7 3), (nth p7 4), ((nth p7 5).setFld 0 (PV.list (((nth p7 5).fld 0).toList.set (mgetL (PV.int (0 : Int)) (nth (nth p7 3).toList (nth p7 0).toInt.toNat).toInt (nth p7 7).toList).toInt.toNat (nth ((nth p7 4).fld 0).toList (nth (nth p7 3).toList (nth p7 0).toInt.toNat).toInt.toNat)))), (nth p7 6), (nth p7 7)])
  (passB 4))
  (fun p11 => (some (Ex.n, [(PV.int (IntKind.i64.wrap ((nth p11 0).toInt + (1 : Int)))), (nth p11 1), (nth p11 2), (nth p11 3), (nth p11 4), (nth p11 5), (nth p11 6), (nth p11 7)])))
  passE))
  none)
  none)
  none)
  none)
  none)
  none)
  (some (Ex.x 2, [(nth p7 2), (nth p7 5), (nth p7 6), (nth p7 7)])))
noncomputable def L6_3 (I : Interp) (n : Nat) (p13 : List PV) : Option (Ex × List PV) :=
  (iff (ltI (nth p13 0).toInt (nth p13 1).toInt)
  (iff (geI (nth p13 0).toInt (0 : Int))
  (iff (ltI (nth p13 0).toInt ((nth p13 2).toList.length : Int))
  ((I 27 [(nth (nth p13 2).toList (nth p13 0).toInt.toNat), (nth p13 6)]).bind fun r14 =>
  (iff (leN ((nth p13 3).toList.length + ((nth r14 0) :: ([] : List PV)).length) 17592186044416)
  (some (Ex.n, [(PV.int (IntKind.i64.wrap ((nth p13 0).toInt + (1 : Int)))), (nth p13 1), (nth p13 2), (PV.list ((nth p13 3).toList ++ ((nth r14 0) :: ([] : List PV)))), (nth p13 4), (nth p13 5), (nth r14 1)]))
  none))
  none)
  none)
  (some (Ex.x 6, [(nth p13 3), (nth p13 4), (nth p13 5)])))
noncomputable def F6 (I : Interp) (n : Nat) (a : List PV) : Option (List PV) :=
  ((I 22 [(nth a 0), (nth a 1)]).bind fun r0 =>
  (iff (!(nth r0 0).toBool)
  ((I 23 [(nth a 0)]).bind fun r1 =>
  ((I 24 [(nth a 1)]).bind fun r2 =>
  (some [(nth r1 0), (nth r2 0)])))
  (iff (geI (((nth a 0).fld 0).toList.length : Int) (0 : Int))
  (iff (leI (((nth a 0).fld 0).toList.length : Int) (((nth a 0).fld 0).toList.length : Int))
  (iff (leI (((nth a 0).fld 0).toList.length : Int) (17592186044416 : Int))
  ((I 25 [(nth a 0), (nth a 1)]).bind fun r3 =>
  (thenN (thenE (loopEv (L6_0 I n) n [(PV.int (0 : Int)), (PV.int ((nth r3 0).toList.length : Int)), (PV.int (IntKind.i64.wrap (((nth a 0).fld 1).toInt - ((nth a 0).fld 2).toInt))), (nth a 1), (nth r3 0), (PV.list ([] : List PV)), (nth a 0), (PV.agg [(PV.list (List.replicate (((nth a 0).fld 0).toList.length : Int).toNat (PV.int (0 : Int)))), ((nth a 0).fld 1), (PV.int (IntKind.i64.wrap (((nth a 0).fld 1).toInt - ((nth a 0).fld 2).toInt))), (PV.int (0 : Int))]), (PV.agg [(PV.list ([] : List PV)), (PV.int (0 : Int)), (PV.int (0 : Int)), (PV.int (0 : Int))])])
  (passB 0))
  (fun p6 => (thenN (thenE (loopEv (L6_2 I n) n [(PV.int (0 : Int)), (PV.int ((nth p6 1).toList.length : Int)), (nth p6 2), (nth p6 1), (nth p6 4), ((nth p6 5).setFld 3 (nth p6 0)), (nth p6 6), (nth p6 3)])
  (passB 2))
  (fun p12 => (thenN (thenE (loopEv (L6_3 I n) n [(PV.int (0 : Int)), (PV.int ((nth p12 0).toList.length : Int)), (nth p12 0), (PV.list ([] : List PV)), (nth p12 1), (nth p12 2), (nth p12 3)])
  (passB 6))
  (fun p15 => (some [(nth p15 1), (nth p15 0)]))
  (retE fun q16 => [(nth q16 1), (nth q16 0)])))
  (retE fun q17 => [(nth q17 1), (nth q17 0)])))
  (retE fun q18 => [(nth q18 1), (nth q18 0)])))
  none)
  none)
  none)))
theorem e6 : ∀ I n a, (compF Tryz.prog sg 6).map (fun d => d.ev I n a) = some (F6 I n a) := fun I n a => by kernel_rfl
/-! spec.l17DrawRight -/
noncomputable def L48_0 (I : Interp) (n : Nat) (p5 : List PV) : Option (Ex × List PV) :=
  ((I 21 [(nth p5 4), (PV.int (4 : Int))]).bind fun r6 =>
  (iff (ltI (nth p5 0).toInt (nth r6 0).toInt)
  ((I 21 [(nth r6 1), (PV.int ((nth p5 3).toList.length : Int))]).bind fun r7 =>
  (iff (geI (nth r7 0).toInt (0 : Int))
  (iff (ltI (nth r7 0).toInt ((nth p5 3).toList.length : Int))
  (iff (leN ((nth p5 1).toList.length + ((nth (nth p5 3).toList (nth r7 0).toInt.toNat) :: ([] : List PV)).length) 17592186044416)
  (some (Ex.n, [(PV.int (IntKind.i64.wrap ((nth p5 0).toInt + (1 : Int)))), (PV.list ((nth p5 1).toList ++ ((nth (nth p5 3).toList (nth r7 0).toInt.toNat) :: ([] : List PV)))), (nth p5 2), (nth p5 3), (nth r7 1), (nth p5 5), (nth p5 6)]))
  none)
  none)
  none))
  (some (Ex.x 2, [(nth p5 1), (nth p5 2), (nth p5 3), (nth r6 1), (nth p5 5), (nth p5 6)]))))
noncomputable def L48_1 (I : Interp) (n : Nat) (p3 : List PV) : Option (Ex × List PV) :=
  ((I 21 [(nth p3 2), (PV.int (14 : Int))]).bind fun r4 =>
  (iff (ltI (nth p3 0).toInt (nth r4 0).toInt)
  (thenN (thenN (thenE (loopEv (L48_0 I n) n [(PV.int (0 : Int)), (PV.list ([] : List PV)), (nth p3 0), (nth p3 1), (nth r4 1), (nth p3 3), (nth p3 4)])
  (passB 2))
  (fun p8 => ((I 72 [(nth p8 3), (PV.int (4 : Int))]).bind fun r9 =>
  ((I 21 [(nth r9 1), (PV.int (5 : Int))]).bind fun r10 =>
  ((I 71 [(nth p8 4), (nth r9 0), (nth r10 0), (nth p8 0)]).bind fun r11 =>
  (thenN (iff (nth r11 2).toBool
  ((I 73 [(nth r11 1)]).bind fun r12 =>
  (iff (leN ((nth p8 2).toList.length + ((nth r12 0) :: ([] : List PV)).length) 17592186044416)
  (some (Ex.n, [(nth p8 1), (PV.list ((nth p8 2).toList ++ ((nth r12 0) :: ([] : List PV)))), (nth r10 1), (nth r11 0), (nth p8 5)]))
  none))
  (some (Ex.n, [(nth p8 1), (nth p8 2), (nth r10 1), (nth p8 4), (nth p8 5)])))
  (fun p13 => ((I 72 [(nth p13 2), (PV.int (9 : Int))]).bind fun r14 =>
  (iff (nth r14 0).toBool
  ((I 7 [(nth p13 3), (nth p13 1)]).bind fun r15 =>
  (some (Ex.n, [(nth p13 0), (nth r15 1), (nth r14 1), (nth r15 0), (nth p13 4)])))
  (some (Ex.n, [(nth p13 0), (nth p13 1), (nth r14 1), (nth p13 3), (nth p13 4)])))))
  passE)))))
  passE)
  (fun p16 => (some (Ex.n, [(PV.int (IntKind.i64.wrap ((nth p16 0).toInt + (1 : Int)))), (nth p16 1), (nth p16 2), (nth p16 3), (nth p16 4)])))
  passE)
  (some (Ex.x 0, [(nth r4 1), (nth p3 1), (nth p3 3), (nth p3 4)]))))
noncomputable def F48 (I : Interp) (n : Nat) (a : List PV) : Option (List PV) :=
  ((I 4145 [(nth a 0), (PV.list ((PV.int (1 : Int)) :: ((PV.int (6 : Int)) :: ((PV.int (20 : Int)) :: ((PV.int (60 : Int)) :: ([] : List PV))))))]).bind fun r0 =>
  ((I 69 [(nth r0 0)]).bind fun r1 =>
  ((I 70 [(PV.int (5 : Int))]).bind fun r2 =>
  (thenN (thenE (loopEv (L48_1 I n) n [(PV.int (0 : Int)), (PV.list ((PV.int (1 : Int)) :: ((nth r2 0) :: ([] : List PV)))), (nth r0 1), (nth r1 0), (PV.agg [(PV.list ([] : List PV)), (PV.int (0 : Int)), (PV.int (0 : Int)), (PV.int (0 : Int))])])
  (passB 0))
  (fun p17 => (some [(nth p17 2), (nth p17 1), (nth p17 0)]))
  (retE fun q18 => [(nth q18 2), (nth q18 1), (nth q18 0)])))))
theorem e48 : ∀ I n a, (compF Tryz.prog sg 48).map (fun d => d.ev I n a) = some (F48 I n a) := fun I n a => by kernel_rfl
/-! spec.l17DrawRight -/
noncomputable def L4144_0 (I : Interp) (n : Nat) (p5 : List PV) : Option (Ex × List PV) :=
  ((I 4117 [(nth p5 4), (PV.int (4 : Int))]).bind fun r6 =>
  (iff (ltI (nth p5 0).toInt (nth r6 0).toInt)
  ((I 4117 [(nth r6 1), (PV.int ((nth p5 3).toList.length : Int))]).bind fun r7 =>
  (iff (geI (nth r7 0).toInt (0 : Int))
  (iff (ltI (nth r7 0).toInt ((nth p5 3).toList.length : Int))
  (iff (leN ((nth p5 1).toList.length + ((nth (nth p5 3).toList (nth r7 0).toInt.toNat) :: ([] : List PV)).length) 17592186044416)
  (some (Ex.n, [(PV.int (IntKind.i64.wrap ((nth p5 0).toInt + (1 : Int)))), (PV.list ((nth p5 1).toList ++ ((nth (nth p5 3).toList (nth r7 0).toInt.toNat) :: ([] : List PV)))), (nth p5 2), (nth p5 3), (nth r7 1), (nth p5 5), (nth p5 6)]))
  none)
  none)
  none))
  (some (Ex.x 2, [(nth p5 1), (nth p5 2), (nth p5 3), (nth r6 1), (nth p5 5), (nth p5 6)]))))
noncomputable def L4144_1 (I : Interp) (n : Nat) (p3 : List PV) : Option (Ex × List PV) :=
  ((I 4117 [(nth p3 2), (PV.int (14 : Int))]).bind fun r4 =>
  (iff (ltI (nth p3 0).toInt (nth r4 0).toInt)
  (thenN (thenN (thenE (loopEv (L4144_0 I n) n [(PV.int (0 : Int)), (PV.list ([] : List PV)), (nth p3 0), (nth p3 1), (nth r4 1), (nth p3 3), (nth p3 4)])
  (passB 2))
  (fun p8 => ((I 4168 [(nth p8 3), (PV.int (4 : Int))]).bind fun r9 =>
  ((I 4117 [(nth r9 1), (PV.int (5 : Int))]).bind fun r10 =>
  ((I 71 [(nth p8 4), (nth r9 0), (nth r10 0), (nth p8 0)]).bind fun r11 =>
  (thenN (iff (nth r11 2).toBool
  ((I 73 [(nth r11 1)]).bind fun r12 =>
  (iff (leN ((nth p8 2).toList.length + ((nth r12 0) :: ([] : List PV)).length) 17592186044416)
  (some (Ex.n, [(nth p8 1), (PV.list ((nth p8 2).toList ++ ((nth r12 0) :: ([] : List PV)))), (nth r10 1), (nth r11 0), (nth p8 5)]))
  none))
  (some (Ex.n, [(nth p8 1), (nth p8 2), (nth r10 1), (nth p8 4), (nth p8 5)])))
  (fun p13 => ((I 4168 [(nth p13 2), (PV.int (9 : Int))]).bind fun r14 =>
  (iff (nth r14 0).toBool
  ((I 7 [(nth p13 3), (nth p13 1)]).bind fun r15 =>
  (some (Ex.n, [(nth p13 0), (nth r15 1), (nth r14 1), (nth r15 0), (nth p13 4)])))
  (some (Ex.n, [(nth p13 0), (nth p13 1), (nth r14 1), (nth p13 3), (nth p13 4)])))))
  passE)))))
  passE)
  (fun p16 => (some (Ex.n, [(PV.int (IntKind.i64.wrap ((nth p16 0).toInt + (1 : Int)))), (nth p16 1), (nth p16 2), (nth p16 3), (nth p16 4)])))
  passE)
  (some (Ex.x 0, [(nth r4 1), (nth p3 1), (nth p3 3), (nth p3 4)]))))
noncomputable def F4144 (I : Interp) (n : Nat) (a : List PV) : Option (List PV) :=
  ((I 12337 [(nth a 0), (PV.list ((PV.int (1 : Int)) :: ((PV.int (6 : Int)) :: ((PV.int (20 : Int)) :: ((PV.int (60 : Int)) :: ([] : List PV))))))]).bind fun r0 =>
  ((I 69 [(nth r0 0)]).bind fun r1 =>
  ((I 70 [(PV.int (5 : Int))]).bind fun r2 =>
  (thenN (thenE (loopEv (L4144_1 I n) n [(PV.int (0 : Int)), (PV.list ((PV.int (1 : Int)) :: ((nth r2 0) :: ([] : List PV)))), (nth r0 1), (nth r1 0), (PV.agg [(PV.list ([] : List PV)), (PV.int (0 : Int)), (PV.int (0 : Int)), (PV.int (0 : Int))])])
  (passB 0))
  (fun p17 => (some [(nth p17 2), (nth p17 1), (nth p17 0)]))
  (retE fun q18 => [(nth q18 2), (nth q18 1), (nth q18 0)])))))
theorem e4144 : ∀ I n a, (compF Tryz.prog sg 4144).map (fun d => d.ev I n a) = some (F4144 I n a) := fun I n a => by kernel_rfl
/-! spec.l17Draw -/
noncomputable def F20 (I : Interp) (n : Nat) (a : List PV) : Option (List PV) :=
  ((I 48 [(nth a 0)]).bind fun r0 =>
  (thenN ((I 21 [(nth r0 2), (PV.int (14 : Int))]).bind fun r1 =>
  (iff (eqI (nth r1 0).toInt (0 : Int))
  ((I 21 [(nth r1 1), (PV.int (((nth r0 0).fld 0).toList.length : Int))]).bind fun r2 =>
  ((I 4145 [(nth r2 1), (PV.list ((PV.int (0 : Int)) :: ((PV.int (1 : Int)) :: ((PV.int (2 : Int)) :: ((PV.int (3 : Int)) :: ((PV.int (200 : Int)) :: ((PV.int (99999 : Int)) :: ((PV.int (-1 : Int)) :: ((PV.int (9223372036854775807 : Int)) :: ([] : List PV))))))))))]).bind fun r3 =>
  (iff (geI (nth r2 0).toInt (0 : Int))
  (iff (ltI (nth r2 0).toInt (((nth r0 0).fld 0).toList.length : Int))
  (some (Ex.n, [(nth r3 1), (nth r0 1), ((nth r0 0).setFld 0 (PV.list (((nth r0 0).fld 0).toList.set (nth r2 0).toInt.toNat (nth r3 0)))), (PV.agg [(PV.list ([] : List PV)), (PV.int (0 : Int)), (PV.int (0 : Int)), (PV.int (0 : Int))])]))
  none)
  none)))
  (iff (eqI (nth r1 0).toInt (1 : Int))
  ((I 4145 [(nth r1 1), (PV.list ((PV.int (-1 : Int)) :: ((PV.int (0 : Int)) :: ((PV.int (1 : Int)) :: ((PV.int (3 : Int)) :: ((PV.int (60 : Int)) :: ((PV.int (121 : Int)) :: ([] : List PV))))))))]).bind fun r4 =>
  (some (Ex.n, [(nth r4 1), (nth r0 1), ((nth r0 0).setFld 3 (nth r4 0)), (PV.agg [(PV.list ([] : List PV)), (PV.int (0 : Int)), (PV.int (0 : Int)), (PV.int (0 : Int))])])))
  (iff (eqI (nth r1 0).toInt (2 : Int))
  ((I 4145 [(nth r1 1), (PV.list ((PV.int (0 : Int)) :: ((PV.int (1 : Int)) :: ((PV.int (6 : Int)) :: ((PV.int (20 : Int)) :: ([] : List PV))))))]).bind fun r5 =>
  (some (Ex.n, [(nth r5 1), (nth r0 1), ((nth r0 0).setFld 2 (nth r5 0)), (PV.agg [(PV.list ([] : List PV)), (PV.int (0 : Int)), (PV.int (0 : Int)), (PV.int (0 : Int))])])))
  (iff (eqI (nth r1 0).toInt (3 : Int))
  ((I 4145 [(nth r1 1), (PV.list ((PV.int (0 : Int)) :: ((PV.int (6 : Int)) :: ((PV.int (3001 : Int)) :: ([] : List PV)))))]).bind fun r6 =>
  (some (Ex.n, [(nth r6 1), (nth r0 1), ((nth r0 0).setFld 1 (nth r6 0)), (PV.agg [(PV.list ([] : List PV)), (PV.int (0 : Int)), (PV.int (0 : Int)), (PV.int (0 : Int))])])))
  (iff (eqI (nth r1 0).toInt (4 : Int))
  ((I 4145 [(nth r1 1), (PV.list ((PV.int (0 : Int)) :: ((PV.int (2 : Int)) :: ((PV.int (4 : Int)) :: ((PV.int (98 : Int)) :: ((PV.int (-2 : Int)) :: ([] : List PV)))))))]).bind fun r7 =>
  (iff (leN ((nth r0 1).toList.length + ((nth r7 0) :: ([] : List PV)).length) 17592186044416)
  (some (Ex.n, [(nth r7 1), (PV.list ((nth r0 1).toList ++ ((nth r7 0) :: ([] : List PV)))), (nth r0 0), (PV.agg [(PV.list ([] : List PV)), (PV.int (0 : Int)), (PV.int (0 : Int)), (PV.int (0 : Int))])]))
  none))
  (some (Ex.n, [(nth r1 1), (nth r0 1), (nth r0 0), (PV.agg [(PV.list ([] : List PV)), (PV.int (0 : Int)), (PV.int (0 : Int)), (PV.int (0 : Int))])]))))))))
  (fun p8 => (some [(nth p8 2), (nth p8 1), (nth p8 0)]))
  (retE fun q9 => [(nth q9 2), (nth q9 1), (nth q9 0)])))
theorem e20 : ∀ I n a, (compF Tryz.prog sg 20).map (fun d => d.ev I n a) = some (F20 I n a) := fun I n a => by kernel_rfl
/-! spec.l17Draw -/
noncomputable def F4116 (I : Interp) (n : Nat) (a : List PV) : Option (List PV) :=
  ((I 4144 [(nth a 0)]).bind fun r0 =>
  (thenN ((I 4117 [(nth r0 2), (PV.int (14 : Int))]).bind fun r1 =>
  (iff (eqI (nth r1 0).toInt (0 : Int))
  ((I 4117 [(nth r1 1), (PV.int (((nth r0 0).fld 0).toList.length : Int))]).bind fun r2 =>
  ((I 12337 [(nth r2 1), (PV.list ((PV.int (0 : Int)) :: ((PV.int (1 : Int)) :: ((PV.int (2 : Int)) :: ((PV.int (3 : Int)) :: ((PV.int (200 : Int)) :: ((PV.int (99999 : Int)) :: ((PV.int (-1 : Int)) :: ((PV.int (9223372036854775807 : Int)) :: ([] : List PV))))))))))]).bind fun r3 =>
  (iff (geI (nth r2 0).toInt (0 : Int))
  (iff (ltI (nth r2 0).toInt (((nth r0 0).fld 0).toList.length : Int))
  (some (Ex.n, [(nth r3 1), (nth r0 1), ((nth r0 0).setFld 0 (PV.list (((nth r0 0).fld 0).toList.set (nth r2 0).toInt.toNat (nth r3 0)))), (PV.agg [(PV.list ([] : List PV)), (PV.int (0 : Int)), (PV.int (0 : Int)), (PV.int (0 : Int))])]))
  none)
  none)))
  (iff (eqI (nth r1 0).toInt (1 : Int))
  ((I 12337 [(nth r1 1), (PV.list ((PV.int (-1 : Int)) :: ((PV.int (0 : Int)) :: ((PV.int (1 : Int)) :: ((PV.int (3 : Int)) :: ((PV.int (60 : Int)) :: ((PV.int (121 : Int)) :: ([] : List PV))))))))]).bind fun r4 =>
  (some (Ex.n, [(nth r4 1), (nth r0 1), ((nth r0 0).setFld 3 (nth r4 0)), (PV.agg [(PV.list ([] : List PV)), (PV.int (0 : Int)), (PV.int (0 : Int)), (PV.int (0 : Int))])])))
  (iff (eqI (nth r1 0).toInt (2 : Int))
  ((I 12337 [(nth r1 1), (PV.list ((PV.int (0 : Int)) :: ((PV.int (1 : Int)) :: ((PV.int (6 : Int)) :: ((PV.int (20 : Int)) :: ([] : List PV))))))]).bind fun r5 =>
  (some (Ex.n, [(nth r5 1), (nth r0 1), ((nth r0 0).setFld 2 (nth r5 0)), (PV.agg [(PV.list ([] : List PV)), (PV.int (0 : Int)), (PV.int (0 : Int)), (PV.int (0 : Int))])])))
  (iff (eqI (nth r1 0).toInt (3 : Int))
  ((I 12337 [(nth r1 1), (PV.list ((PV.int (0 : Int)) :: ((PV.int (6 : Int)) :: ((PV.int (3001 : Int)) :: ([] : List PV)))))]).bind fun r6 =>
  (some (Ex.n, [(nth r6 1), (nth r0 1), ((nth r0 0).setFld 1 (nth r6 0)), (PV.agg [(PV.list ([] : List PV)), (PV.int (0 : Int)), (PV.int (0 : Int)), (PV.int (0 : Int))])])))
  (iff (eqI (nth r1 0).toInt (4 : Int))
  ((I 12337 [(nth r1 1), (PV.list ((PV.int (0 : Int)) :: ((PV.int (2 : Int)) :: ((PV.int (4 : Int)) :: ((PV.int (98 : Int)) :: ((PV.int (-2 : Int)) :: ([] : List PV)))))))]).bind fun r7 =>
  (iff (leN ((nth r0 1).toList.length + ((nth r7 0) :: ([] : List PV)).length) 17592186044416)
  (some (Ex.n, [(nth r7 1), (PV.list ((nth r0 1).toList ++ ((nth r7 0) :: ([] : List PV)))), (nth r0 0), (PV.agg [(PV.list ([] : List PV)), (PV.int (0 : Int)), (PV.int (0 : Int)), (PV.int (0 : Int))])]))
  none))
  (some (Ex.n, [(nth r1 1), (nth r0 1), (nth r0 0), (PV.agg [(PV.list ([] : List PV)), (PV.int (0 : Int)), (PV.int (0 : Int)), (PV.int (0 : Int))])]))))))))
  (fun p8 => (some [(nth p8 2), (nth p8 1), (nth p8 0)]))
  (retE fun q9 => [(nth q9 2), (nth q9 1), (nth q9 0)])))
theorem e4116 : ∀ I n a, (compF Tryz.prog sg 4116).map (fun d => d.ev I n a) = some (F4116 I n a) := fun I n a => by kernel_rfl
/-! spec.DrawReach -/
noncomputable def F10 (I : Interp) (n : Nat) (a : List PV) : Option (List PV) :=
  ((I 19 [(nth a 0)]).bind fun r0 =>
  ((I 20 [(nth r0 0)]).bind fun r1 =>
  (some [(nth r1 0), (nth r1 1)])))
theorem e10 : ∀ I n a, (compF Tryz.prog sg 10).map (fun d => d.ev I n a) = some (F10 I n a) := fun I n a => by kernel_rfl
/-! spec.DrawCollect -/
noncomputable def L5_0 (I : Interp) (n : Nat) (p2 : List PV) : Option (Ex × List PV) :=
  ((I 21 [(nth p2 3), (PV.int (4 : Int))]).bind fun r3 =>
  (iff (ltI (nth p2 0).toInt (nth r3 0).toInt)
  ((I 21 [(nth r3 1), (PV.int ((nth p2 1).toList.length : Int))]).bind fun r4 =>
  (iff (geI (nth r4 0).toInt (0 : Int))
  (iff (ltI (nth r4 0).toInt ((nth p2 1).toList.length : Int))
  (iff (leN ((nth p2 2).toList.length + ((nth (nth p2 1).toList (nth r4 0).toInt.toNat) :: ([] : List PV)).length) 17592186044416)
  (some (Ex.n, [(PV.int (IntKind.i64.wrap ((nth p2 0).toInt + (1 : Int)))), (nth p2 1), (PV.list ((nth p2 2).toList ++ ((nth (nth p2 1).toList (nth r4 0).toInt.toNat) :: ([] : List PV)))), (nth r4 1), (nth p2 4), (nth p2 5)]))
  none)
  none)
  none))
  (some (Ex.x 0, [(nth p2 2), (nth p2 4), (nth p2 5)]))))
noncomputable def F5 (I : Interp) (n : Nat) (a : List PV) : Option (List PV) :=
  ((I 19 [(nth a 0)]).bind fun r0 =>
  ((I 20 [(nth r0 0)]).bind fun r1 =>
  (thenN (thenE (loopEv (L5_0 I n) n [(PV.int (0 : Int)), (nth r1 1), (PV.list ([] : List PV)), (nth r1 2), (nth r1 0), (PV.agg [(PV.list ([] : List PV)), (PV.int (0 : Int)), (PV.int (0 : Int)), (PV.int (0 : Int))])])
  (passB 0))
  (fun p5 => (some [(nth p5 1), (nth p5 0)]))
  (retE fun q6 => [(nth q6 1), (nth q6 0)]))))
theorem e5 : ∀ I n a, (compF Tryz.prog sg 5).map (fun d => d.ev I n a) = some (F5 I n a) := fun I n a => by kernel_rfl
/-! spec.DrawShape -/
noncomputable def F11 (I : Interp) (n : Nat) (a : List PV) : Option (List PV) :=
  ((I 5 [(nth a 0)]).bind fun r0 =>
  (some [(nth r0 0), (nth r0 1)]))
theorem e11 : ∀ I n a, (compF Tryz.prog sg 11).map (fun d => d.ev I n a) = some (F11 I n a) := fun I n a => by kernel_rfl
/-! laws.FnMoved -/
noncomputable def L3_0 (I : Interp) (n : Nat) (p24 : List PV) : Option (Ex × List PV) :=
  (iff (ltI (nth p24 0).toInt ((nth p24 1).toList.length : Int))
  (iff (geI (nth p24 0).toInt (0 : Int))
  (iff (ltI (nth p24 0).toInt ((nth p24 1).toList.length : Int))
  ((I 16 [(nth p24 6), (nth (nth p24 1).toList (nth p24 0).toInt.toNat)]).bind fun r25 =>
  (some (Ex.n, [(PV.int (IntKind.i64.wrap ((nth p24 0).toInt + (1 : Int)))), (nth p24 1), (nth p24 2), (nth p24 3), (PV.int (IntKind.i64.wrap ((IntKind.i64.wrap ((nth p24 4).toInt + (1 : Int))) + ((nth r25 2).toList.length : Int)))), (nth p24 5), (nth p24 6)])))
  none)
  none)
  (some (Ex.x 0, [(nth p24 2), (nth p24 3), (nth p24 4), (nth p24 5), (nth p24 6)])))
noncomputable def F3 (I : Interp) (n : Nat) (a : List PV) : Option (List PV) :=
  ((I 4 [(nth a 0)]).bind fun r0 =>
  (iff (nth r0 0).toBool
  (some [(PV.bool true)])
  ((I 5 [(nth a 0)]).bind fun r1 =>
  ((I 6 [(nth r1 0), (nth r1 1)]).bind fun r2 =>
  ((I 7 [(nth r1 0), (nth r1 1)]).bind fun r3 =>
  ((I 8 [(nth r2 0), (nth r3 0)]).bind fun r4 =>
  ((iff ((!(nth r4 0).toBool) == false)
  ((I 9 [(nth r2 1), (nth r3 1)]).bind fun r5 =>
  (some [(nth r5 0), (nth r5 0)]))
  (some [PV.unit, PV.unit])).bind fun g6 =>
  (letB (selB (!(nth r4 0).toBool) (PV.bool true) (selB ((!(nth r4 0).toBool) == false) (PV.bool (!(nth g6 0).toBool)) PV.unit)) fun v7 =>
  (iff v7.toBool
  (some [(PV.bool false)])
  ((I 10 [(nth a 0)]).bind fun r8 =>
  ((I 11 [(nth a 0)]).bind fun r9 =>
  ((I 12 [(nth r8 0), (nth r8 1)]).bind fun r10 =>
  ((I 13 [(nth r8 0), (nth r8 1)]).bind fun r11 =>
  ((I 9 [(nth r10 0), (nth r11 0)]).bind fun r12 =>
  ((iff ((!(nth r12 0).toBool) == false)
  ((I 14 [(nth r9 0), (nth r9 1)]).bind fun r13 =>
  (some [(nth r13 0), (nth r13 0)]))
  (some [PV.unit, PV.unit])).bind fun g14 =>
  ((iff ((!(nth r12 0).toBool) == false)
  ((I 15 [(nth r9 0), (nth r9 1)]).bind fun r15 =>
  (some [(nth r15 0), (nth r15 0)]))
  (some [PV.unit, PV.unit])).bind fun g16 =>
  (letB (selB (!(nth r12 0).toBool) (PV.bool true) (selB ((!(nth r12 0).toBool) == false) (PV.bool (cmpS BinOp.neq (nth g14 0).toStr (nth g16 0).toStr)) PV.unit)) fun v17 =>
  (iff v17.toBool
  (some [(PV.bool false)])
  ((I 14 [(nth r1 0), (nth r1 1)]).bind fun r18 =>
  (iff (cmpS BinOp.eql (nth r18 0).toStr (⟨#[]⟩ : ByteArray))
  ((I 8 [(nth r2 0), (nth r1 0)]).bind fun r19 =>
  ((iff ((nth r19 0).isB true)
  ((I 9 [(nth r2 1), (nth r1 1)]).bind fun r20 =>
  (some [(nth r20 0), (nth r20 0)]))
  (some [PV.unit, PV.unit])).bind fun g21 =>
  (letB (selB (nth r19 0).toBool (nth g21 0) (PV.bool false)) fun v22 =>
  (some [v22]))))
  ((I 12 [(nth r1 0), (nth r1 1)]).bind fun r23 =>
  (thenN (thenE (loopEv (L3_0 I n) n [(PV.int (0 : Int)), (nth r23 0), (nth r2 1), (nth r18 0), (PV.int (0 : Int)), (nth r2 0), (nth r1 0)])
  (passB 0))
  (fun p26 => ((I 6 [(nth p26 3), (nth p26 0)]).bind fun r27 =>
  ((I 17 [(nth p26 3)]).bind fun r28 =>
  ((iff ((nth r28 0).isB true)
  ((I 14 [(nth p26 3), (nth p26 0)]).bind fun r29 =>
  (some [(nth r29 0), (nth r29 0)]))
  (some [PV.unit, PV.unit])).bind fun g30 =>
  (letB (selB (nth r28 0).toBool (selB ((nth r28 0).isB true) (PV.bool (cmpS BinOp.eql (nth g30 0).toStr (selB ((nth r28 0).isB true) (nth p26 1) PV.unit).toStr)) PV.unit) (PV.bool false)) fun v31 =>
  (letB (selB v31.toBool (selB (v31.isB true) (PV.bool (eqI (selB (v31.isB true) (PV.int (IntKind.i64.wrap ((selB (v31.isB true) ((nth p26 3).fld 3) PV.unit).toInt - (selB (v31.isB true) ((nth p26 3).fld 2) PV.unit).toInt))) PV.unit).toInt (selB (v31.isB true) (nth p26 2) PV.unit).toInt)) PV.unit) (PV.bool false)) fun v32 =>
  ((iff (v32.isB true)
  ((I 14 [(nth r27 0), (nth r27 1)]).bind fun r33 =>
  (some [(nth r33 0), (nth r33 0)]))
  (some [PV.unit, PV.unit])).bind fun g34 =>
  (letB (selB v32.toBool (selB (v32.isB true) (PV.bool (cmpS BinOp.eql (nth g34 0).toStr (selB (v32.isB true) (nth p26 1) PV.unit).toStr)) PV.unit) (PV.bool false)) fun v35 =>
  (letB (selB v35.toBool (selB (v35.isB true) (PV.bool (eqI (selB (v35.isB true) ((nth r27 0).fld 2) PV.unit).toInt (selB (v35.isB true) ((nth p26 4).fld 2) PV.unit).toInt)) PV.unit) (PV.bool false)) fun v36 =>
  (letB (selB v36.toBool (selB (v36.isB true) (PV.bool (eqI (selB (v36.isB true) (PV.int (IntKind.i64.wrap ((selB (v36.isB true) ((nth r27 0).fld 3) PV.unit).toInt - (selB (v36.isB true) ((nth r27 0).fld 2) PV.unit).toInt))) PV.unit).toInt (selB (v36.isB true) (nth p26 2) PV.unit).toInt)) PV.unit) (PV.bool false)) fun v37 =>
  ((iff (v37.isB true)
  ((I 18 [(nth p26 3)]).bind fun r38 =>
  (some [(nth r38 0), (nth r38 0)]))
  (some [PV.unit, PV.unit])).bind fun g39 =>
  ((iff (v37.isB true)
  ((I 18 [(nth p26 4)]).bind fun r40 =>
  (some [(nth r40 0), (nth r40 0)]))
  (some [PV.unit, PV.unit])).bind fun g41 =>
  (letB (selB v37.toBool (selB (v37.isB true) (PV.bool (geI (nth g39 0).toInt (nth g41 0).toInt)) PV.unit) (PV.bool false)) fun v42 =>
  (some [v42]))))))))))))))
  (retE fun q43 => [(nth q43 0)])))))))))))))))))))))))
theorem e3 : ∀ I n a, (compF Tryz.prog sg 3).map (fun d => d.ev I n a) = some (F3 I n a) := fun I n a => ew_ev (g := F3) (fun I n a => by kernel_rfl) I n a
end Go.Proofs.YthmhgnnaihkjaaaGreatDoor.GFnMoved
