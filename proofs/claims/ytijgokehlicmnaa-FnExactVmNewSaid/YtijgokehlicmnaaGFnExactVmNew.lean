/- The pure programs of the functions that the law FnExactVmNew reaches, out of the compiled code. No conditions. -/
import Derived.Test.YtijgokehlicmnaaRows
import Derived.Test.YtijgokehlicmnaaRscZq
namespace Go.Proofs.Ytijgokehlicmnaa.GFnExactVmNew
open Go Go.Rsc Go.Proofs.Ytijgokehlicmnaa
set_option maxRecDepth 100000
set_option linter.unusedVariables false
def sg : FuncId → Option Sig := fun f => match f with
  | 219 => some { ps := [PM.ro (SD.sc (SD.int (IntKind.i64)) (SD.sc (SD.int (IntKind.i64)) (SD.sc (SD.int (IntKind.i64)) (SD.sn)))), PM.ro (SD.int (IntKind.i64))], rs := [RM.v (SD.own 3 false)] }
  | 155 => some { ps := [PM.ro (SD.bor 128), PM.ro (SD.int (IntKind.i64))], rs := [RM.v (SD.int (IntKind.i64))] }
  | 154 => some { ps := [PM.ro (SD.bor 131)], rs := [RM.v (SD.own 131 true)] }
  | 27 => some { ps := [PM.ro (SD.bor 3), PM.ro (SD.int (IntKind.i64))], rs := [RM.v (SD.int (IntKind.i64))] }
  | 146 => some { ps := [PM.ro (SD.bor 196), PM.ro (SD.int (IntKind.i64))], rs := [RM.v (SD.int (IntKind.i64))] }
  | 133 => some { ps := [PM.mut (SD.own 128 false), PM.ro (SD.int (IntKind.i64))], rs := [RM.v (SD.int (IntKind.i64))] }
  | 4229 => some { ps := [PM.mv (SD.own 128 false), PM.ro (SD.int (IntKind.i64))], rs := [RM.v (SD.int (IntKind.i64))] }
  | 25 => some { ps := [PM.mut (SD.own 3 false), PM.ro (SD.int (IntKind.i64))], rs := [RM.v (SD.int (IntKind.i64))] }
  | 4121 => some { ps := [PM.mv (SD.own 3 false), PM.ro (SD.int (IntKind.i64))], rs := [RM.v (SD.int (IntKind.i64))] }
  | 145 => some { ps := [PM.mut (SD.own 196 false), PM.ro (SD.int (IntKind.i64))], rs := [RM.v (SD.int (IntKind.i64))] }
  | 4241 => some { ps := [PM.mv (SD.own 196 false), PM.ro (SD.int (IntKind.i64))], rs := [RM.v (SD.int (IntKind.i64))] }
  | 172 => some { ps := [PM.ro (SD.sc (SD.int (IntKind.i64)) (SD.sc (SD.int (IntKind.i64)) (SD.sc (SD.int (IntKind.i64)) (SD.sn)))), PM.ro (SD.sc (SD.int (IntKind.i64)) (SD.sc (SD.int (IntKind.i64)) (SD.sc (SD.int (IntKind.i64)) (SD.sn))))], rs := [RM.v (SD.bool)] }
  | 24 => some { ps := [PM.ro (SD.bor 3), PM.ro (SD.bor 3)], rs := [RM.v (SD.bool)] }
  | 213 => some { ps := [PM.ro (SD.sc (SD.int (IntKind.i64)) (SD.sc (SD.int (IntKind.i64)) (SD.sc (SD.int (IntKind.i64)) (SD.sn)))), PM.ro (SD.sc (SD.int (IntKind.i64)) (SD.sc (SD.int (IntKind.i64)) (SD.sc (SD.int (IntKind.i64)) (SD.sn))))], rs := [RM.v (SD.bool)] }
  | 195 => some { ps := [PM.ro (SD.int (IntKind.i64))], rs := [RM.v (SD.bool)] }
  | 220 => some { ps := [PM.ro (SD.int (IntKind.i64))], rs := [RM.v (SD.bool)] }
  | 96 => some { ps := [PM.ro (SD.int (IntKind.i64))], rs := [RM.v (SD.int (IntKind.i64))] }
  | 94 => some { ps := [PM.ro (SD.int (IntKind.i64))], rs := [RM.v (SD.bool)] }
  | 158 => some { ps := [PM.ro (SD.int (IntKind.i64))], rs := [RM.v (SD.int (IntKind.i64))] }
  | 109 => some { ps := [PM.ro (SD.int (IntKind.i64))], rs := [RM.v (SD.bool), RM.v (SD.int (IntKind.i64)), RM.v (SD.int (IntKind.i64))] }
  | 102 => some { ps := [PM.ro (SD.int (IntKind.i64)), PM.ro (SD.int (IntKind.i64)), PM.ro (SD.int (IntKind.i64))], rs := [RM.v (SD.bool)] }
  | 157 => some { ps := [PM.ro (SD.int (IntKind.i64))], rs := [RM.v (SD.int (IntKind.i64))] }
  | 168 => some { ps := [PM.ro (SD.bor 3), PM.ro (SD.int (IntKind.i64))], rs := [RM.v (SD.bool)] }
  | 111 => some { ps := [PM.ro (SD.int (IntKind.i64))], rs := [RM.v (SD.int (IntKind.i64))] }
  | 156 => some { ps := [PM.ro (SD.int (IntKind.i64))], rs := [RM.v (SD.bool)] }
  | 215 => some { ps := [PM.ref 239 (SD.sc (SD.own 3 false) (SD.sc (SD.own 3 false) (SD.sc (SD.bool) (SD.sn)))) (SD.sc (SD.own 3 false) (SD.sc (SD.own 3 false) (SD.sc (SD.bool) (SD.sn)))), PM.ro (SD.int (IntKind.i64)), PM.ro (SD.int (IntKind.i64))], rs := [] }
  | 151 => some { ps := [PM.ro (SD.bor 131)], rs := [RM.v (SD.own 131 true)] }
  | 226 => some { ps := [PM.ro (SD.sc (SD.int (IntKind.i64)) (SD.sc (SD.int (IntKind.i64)) (SD.sc (SD.int (IntKind.i64)) (SD.sn))))], rs := [RM.v (SD.int (IntKind.i64)), RM.v (SD.int (IntKind.i64))] }
  | 217 => some { ps := [PM.ro (SD.sc (SD.int (IntKind.i64)) (SD.sc (SD.int (IntKind.i64)) (SD.sc (SD.int (IntKind.i64)) (SD.sn))))], rs := [RM.v (SD.sc (SD.int (IntKind.i64)) (SD.sc (SD.int (IntKind.i64)) (SD.sc (SD.int (IntKind.i64)) (SD.sn))))] }
  | 104 => some { ps := [PM.ro (SD.int (IntKind.i64)), PM.ro (SD.int (IntKind.i64)), PM.ro (SD.int (IntKind.i64))], rs := [RM.v (SD.bool)] }
  | 187 => some { ps := [PM.ro (SD.bor 243), PM.ro (SD.int (IntKind.i64))], rs := [RM.v (SD.int (IntKind.i64))] }
  | 26 => some { ps := [PM.ro (SD.sc (SD.bor 3) (SD.sc (SD.int (IntKind.i64)) (SD.sc (SD.int (IntKind.i64)) (SD.sc (SD.int (IntKind.i64)) (SD.sn))))), PM.ro (SD.int (IntKind.i64))], rs := [RM.v (SD.int (IntKind.i64))] }
  | 185 => some { ps := [PM.ro (SD.bor 196), PM.ro (SD.bor 196)], rs := [RM.v (SD.bool)] }
  | 113 => some { ps := [PM.ro (SD.bor 3), PM.ro (SD.int (IntKind.i64))], rs := [RM.v (SD.bool)] }
  | 121 => some { ps := [PM.ro (SD.bor 128), PM.ro (SD.bor 128)], rs := [RM.v (SD.bool)] }
  | 18 => some { ps := [PM.mut (SD.sc (SD.own 3 false) (SD.sc (SD.int (IntKind.i64)) (SD.sc (SD.int (IntKind.i64)) (SD.sc (SD.int (IntKind.i64)) (SD.sn))))), PM.ro (SD.int (IntKind.i64))], rs := [RM.v (SD.int (IntKind.i64))] }
  | 4114 => some { ps := [PM.mv (SD.sc (SD.own 3 false) (SD.sc (SD.int (IntKind.i64)) (SD.sc (SD.int (IntKind.i64)) (SD.sc (SD.int (IntKind.i64)) (SD.sn))))), PM.ro (SD.int (IntKind.i64))], rs := [RM.v (SD.int (IntKind.i64))] }
  | 17 => some { ps := [PM.ro (SD.sc (SD.bor 3) (SD.sc (SD.int (IntKind.i64)) (SD.sc (SD.int (IntKind.i64)) (SD.sc (SD.int (IntKind.i64)) (SD.sn))))), PM.ro (SD.sc (SD.bor 3) (SD.sc (SD.int (IntKind.i64)) (SD.sc (SD.int (IntKind.i64)) (SD.sc (SD.int (IntKind.i64)) (SD.sn)))))], rs := [RM.v (SD.bool)] }
  | 218 => some { ps := [PM.ro (SD.sc (SD.int (IntKind.i64)) (SD.sc (SD.int (IntKind.i64)) (SD.sc (SD.int (IntKind.i64)) (SD.sn))))], rs := [RM.v (SD.int (IntKind.i64)), RM.v (SD.int (IntKind.i64))] }
  | 120 => some { ps := [PM.ro (SD.int (IntKind.i64))], rs := [RM.v (SD.bool)] }
  | 197 => some { ps := [PM.ro (SD.int (IntKind.i64)), PM.rp (SD.sc (SD.int (IntKind.i64)) (SD.sc (SD.bor 196) (SD.sn)))], rs := [RM.v (SD.bool)] }
  | 40 => some { ps := [PM.ro (SD.int (IntKind.i64))], rs := [RM.v (SD.sc (SD.own 3 false) (SD.sc (SD.int (IntKind.i64)) (SD.sc (SD.int (IntKind.i64)) (SD.sc (SD.int (IntKind.i64)) (SD.sn))))), RM.v (SD.bool)] }
  | 69 => some { ps := [PM.mut (SD.own 131 true), PM.ro (SD.int (IntKind.i64))], rs := [RM.v (SD.int (IntKind.i64))] }
  | 4165 => some { ps := [PM.mv (SD.own 131 true), PM.ro (SD.int (IntKind.i64))], rs := [RM.v (SD.int (IntKind.i64))] }
  | 70 => some { ps := [PM.ro (SD.bor 131), PM.ro (SD.int (IntKind.i64))], rs := [RM.v (SD.int (IntKind.i64))] }
  | 196 => some { ps := [PM.ro (SD.int (IntKind.i64))], rs := [RM.v (SD.bool)] }
  | 117 => some { ps := [PM.ro (SD.int (IntKind.i64))], rs := [RM.v (SD.bool)] }
  | 194 => some { ps := [PM.ro (SD.int (IntKind.i64)), PM.ro (SD.int (IntKind.i64))], rs := [RM.v (SD.bool)] }
  | 41 => some { ps := [PM.ro (SD.int (IntKind.i64))], rs := [RM.v (SD.sc (SD.own 3 false) (SD.sc (SD.int (IntKind.i64)) (SD.sc (SD.int (IntKind.i64)) (SD.sc (SD.int (IntKind.i64)) (SD.sn))))), RM.v (SD.bool)] }
  | 189 => some { ps := [PM.ro (SD.bor 243)], rs := [RM.v (SD.own 196 false)] }
  | 149 => some { ps := [PM.ro (SD.sc (SD.int (IntKind.i64)) (SD.sc (SD.bor 243) (SD.sn))), PM.ro (SD.int (IntKind.i64))], rs := [RM.v (SD.int (IntKind.i64))] }
  | 79 => some { ps := [PM.ro (SD.sc (SD.bor 3) (SD.sc (SD.int (IntKind.i64)) (SD.sc (SD.int (IntKind.i64)) (SD.sc (SD.int (IntKind.i64)) (SD.sn)))))], rs := [RM.v (SD.own 3 false), RM.v (SD.bool)] }
  | 152 => some { ps := [PM.ro (SD.sc (SD.int (IntKind.i64)) (SD.sc (SD.bor 243) (SD.sn)))], rs := [RM.v (SD.sc (SD.int (IntKind.i64)) (SD.sc (SD.own 196 false) (SD.sn)))] }
  | 216 => some { ps := [PM.ref 239 (SD.sc (SD.own 3 false) (SD.sc (SD.own 3 false) (SD.sc (SD.bool) (SD.sn)))) (SD.sc (SD.own 3 false) (SD.sc (SD.own 3 false) (SD.sc (SD.bool) (SD.sn)))), PM.ro (SD.bor 196), PM.ro (SD.int (IntKind.i64))], rs := [] }
  | 4312 => some { ps := [PM.ref 239 (SD.sc (SD.own 3 false) (SD.sc (SD.own 3 false) (SD.sc (SD.bool) (SD.sn)))) (SD.sc (SD.own 3 false) (SD.sc (SD.own 3 false) (SD.sc (SD.bool) (SD.sn)))), PM.mut (SD.own 196 false), PM.ro (SD.int (IntKind.i64))], rs := [] }
  | 8408 => some { ps := [PM.ref 239 (SD.sc (SD.own 3 false) (SD.sc (SD.own 3 false) (SD.sc (SD.bool) (SD.sn)))) (SD.sc (SD.own 3 false) (SD.sc (SD.own 3 false) (SD.sc (SD.bool) (SD.sn)))), PM.mv (SD.own 196 false), PM.ro (SD.int (IntKind.i64))], rs := [] }
  | 163 => some { ps := [PM.ro (SD.int (IntKind.i64))], rs := [RM.v (SD.bool), RM.v (SD.int (IntKind.i64)), RM.v (SD.int (IntKind.i64)), RM.v (SD.bool)] }
  | 103 => some { ps := [PM.ro (SD.int (IntKind.i64))], rs := [RM.v (SD.int (IntKind.i64))] }
  | 142 => some { ps := [PM.ro (SD.sc (SD.int (IntKind.i64)) (SD.sc (SD.bor 196) (SD.sn))), PM.ro (SD.sc (SD.int (IntKind.i64)) (SD.sc (SD.bor 196) (SD.sn)))], rs := [RM.v (SD.bool)] }
  | 73 => some { ps := [PM.ro (SD.bor 176), PM.ro (SD.int (IntKind.i64))], rs := [RM.v (SD.int (IntKind.i64))] }
  | 66 => some { ps := [PM.ro (SD.bor 131), PM.ro (SD.bor 131)], rs := [RM.v (SD.bool)] }
  | 75 => some { ps := [PM.ro (SD.bor 176)], rs := [RM.v (SD.own 131 true)] }
  | 92 => some { ps := [PM.ro (SD.sc (SD.bor 3) (SD.sc (SD.int (IntKind.i64)) (SD.sc (SD.int (IntKind.i64)) (SD.sc (SD.int (IntKind.i64)) (SD.sn))))), PM.ro (SD.int (IntKind.i64))], rs := [RM.v (SD.bor 3)] }
  | 171 => some { ps := [PM.ro (SD.bor 131), PM.ro (SD.sc (SD.int (IntKind.i64)) (SD.sc (SD.bor 196) (SD.sn))), PM.ro (SD.int (IntKind.i64)), PM.ro (SD.sc (SD.int (IntKind.i64)) (SD.sc (SD.int (IntKind.i64)) (SD.sc (SD.int (IntKind.i64)) (SD.sn))))], rs := [RM.v (SD.bool)] }
  | 167 => some { ps := [PM.ro (SD.bor 3), PM.ro (SD.int (IntKind.i64))], rs := [RM.v (SD.int (IntKind.i64)), RM.v (SD.bool)] }
  | 169 => some { ps := [PM.ro (SD.bor 131), PM.ro (SD.int (IntKind.i64)), PM.ro (SD.sc (SD.int (IntKind.i64)) (SD.sc (SD.int (IntKind.i64)) (SD.sc (SD.int (IntKind.i64)) (SD.sn))))], rs := [RM.v (SD.bool)] }
  | 116 => some { ps := [PM.ro (SD.bor 131)], rs := [RM.v (SD.bool)] }
  | 119 => some { ps := [PM.ro (SD.bor 131)], rs := [RM.v (SD.bool)] }
  | 106 => some { ps := [PM.ro (SD.sc (SD.bor 3) (SD.sc (SD.int (IntKind.i64)) (SD.sc (SD.int (IntKind.i64)) (SD.sc (SD.int (IntKind.i64)) (SD.sn)))))], rs := [RM.v (SD.own 3 false), RM.v (SD.bool)] }
  | 107 => some { ps := [PM.ro (SD.int (IntKind.i64))], rs := [RM.v (SD.bool)] }
  | 77 => some { ps := [PM.ro (SD.sc (SD.bor 131) (SD.sc (SD.sc (SD.bor 3) (SD.sc (SD.int (IntKind.i64)) (SD.sc (SD.int (IntKind.i64)) (SD.sc (SD.int (IntKind.i64)) (SD.sn))))) (SD.sc (SD.bor 3) (SD.sc (SD.bor 128) (SD.sc (SD.bor 3) (SD.sc (SD.int (IntKind.i64)) (SD.sc (SD.bool) (SD.sn)))))))), PM.ro (SD.int (IntKind.i64))], rs := [RM.v (SD.int (IntKind.i64))] }
  | 61 => some { ps := [PM.mut (SD.sc (SD.own 131 true) (SD.sc (SD.sc (SD.own 3 false) (SD.sc (SD.int (IntKind.i64)) (SD.sc (SD.int (IntKind.i64)) (SD.sc (SD.int (IntKind.i64)) (SD.sn))))) (SD.sc (SD.own 3 false) (SD.sc (SD.own 128 false) (SD.sc (SD.own 3 false) (SD.sc (SD.int (IntKind.i64)) (SD.sc (SD.bool) (SD.sn)))))))), PM.ro (SD.int (IntKind.i64))], rs := [RM.v (SD.int (IntKind.i64))] }
  | 4157 => some { ps := [PM.mv (SD.sc (SD.own 131 true) (SD.sc (SD.sc (SD.own 3 false) (SD.sc (SD.int (IntKind.i64)) (SD.sc (SD.int (IntKind.i64)) (SD.sc (SD.int (IntKind.i64)) (SD.sn))))) (SD.sc (SD.own 3 false) (SD.sc (SD.own 128 false) (SD.sc (SD.own 3 false) (SD.sc (SD.int (IntKind.i64)) (SD.sc (SD.bool) (SD.sn)))))))), PM.ro (SD.int (IntKind.i64))], rs := [RM.v (SD.int (IntKind.i64))] }
  | 108 => some { ps := [PM.ro (SD.bor 3), PM.ro (SD.int (IntKind.i64))], rs := [RM.v (SD.bool)] }
  | 110 => some { ps := [PM.ro (SD.bor 3), PM.ro (SD.int (IntKind.i64))], rs := [RM.v (SD.bool)] }
  | 190 => some { ps := [PM.ro (SD.bor 131), PM.ro (SD.int (IntKind.i64))], rs := [RM.v (SD.own 3 false), RM.v (SD.bool)] }
  | 153 => some { ps := [PM.ro (SD.bor 131)], rs := [RM.v (SD.bool)] }
  | 188 => some { ps := [PM.ro (SD.bor 131), PM.ro (SD.int (IntKind.i64))], rs := [RM.v (SD.own 3 false), RM.v (SD.bool)] }
  | 49 => some { ps := [PM.ro (SD.sc (SD.bor 131) (SD.sc (SD.sc (SD.bor 3) (SD.sc (SD.int (IntKind.i64)) (SD.sc (SD.int (IntKind.i64)) (SD.sc (SD.int (IntKind.i64)) (SD.sn))))) (SD.sc (SD.bor 3) (SD.sc (SD.bor 128) (SD.sc (SD.bor 3) (SD.sc (SD.int (IntKind.i64)) (SD.sc (SD.bool) (SD.sn)))))))), PM.ro (SD.sc (SD.bor 131) (SD.sc (SD.sc (SD.bor 3) (SD.sc (SD.int (IntKind.i64)) (SD.sc (SD.int (IntKind.i64)) (SD.sc (SD.int (IntKind.i64)) (SD.sn))))) (SD.sc (SD.bor 3) (SD.sc (SD.bor 128) (SD.sc (SD.bor 3) (SD.sc (SD.int (IntKind.i64)) (SD.sc (SD.bool) (SD.sn))))))))], rs := [RM.v (SD.bool)] }
  | 150 => some { ps := [PM.ro (SD.bor 131)], rs := [RM.v (SD.bool)] }
  | 34 => some { ps := [PM.ro (SD.sc (SD.bor 3) (SD.sc (SD.int (IntKind.i64)) (SD.sc (SD.int (IntKind.i64)) (SD.sc (SD.int (IntKind.i64)) (SD.sn)))))], rs := [RM.v (SD.bool)] }
  | 161 => some { ps := [PM.ro (SD.int (IntKind.i64)), PM.rp (SD.bor 3)], rs := [RM.v (SD.bool)] }
  | 173 => some { ps := [PM.ro (SD.bor 3), PM.clo 161 [CM.rp (SD.bor 3)]], rs := [RM.v (SD.int (IntKind.i64))] }
  | 4269 => some { ps := [PM.ro (SD.bor 3), PM.clo 197 [CM.rp (SD.sc (SD.int (IntKind.i64)) (SD.sc (SD.bor 196) (SD.sn)))]], rs := [RM.v (SD.int (IntKind.i64))] }
  | 8365 => some { ps := [PM.mv (SD.own 3 false), PM.clo 161 [CM.rp (SD.bor 3)]], rs := [RM.v (SD.int (IntKind.i64))] }
  | 12461 => some { ps := [PM.mv (SD.own 3 false), PM.clo 197 [CM.rp (SD.sc (SD.int (IntKind.i64)) (SD.sc (SD.bor 196) (SD.sn)))]], rs := [RM.v (SD.int (IntKind.i64))] }
  | 33 => some { ps := [PM.ro (SD.sc (SD.bor 3) (SD.sc (SD.int (IntKind.i64)) (SD.sc (SD.int (IntKind.i64)) (SD.sc (SD.int (IntKind.i64)) (SD.sn)))))], rs := [RM.v (SD.bool)] }
  | 160 => some { ps := [PM.ro (SD.bor 3), PM.clo 161 [CM.rp (SD.bor 3)]], rs := [RM.v (SD.bool)] }
  | 4256 => some { ps := [PM.ro (SD.bor 3), PM.clo 197 [CM.rp (SD.sc (SD.int (IntKind.i64)) (SD.sc (SD.bor 196) (SD.sn)))]], rs := [RM.v (SD.bool)] }
  | 8352 => some { ps := [PM.mv (SD.own 3 false), PM.clo 161 [CM.rp (SD.bor 3)]], rs := [RM.v (SD.bool)] }
  | 12448 => some { ps := [PM.mv (SD.own 3 false), PM.clo 197 [CM.rp (SD.sc (SD.int (IntKind.i64)) (SD.sc (SD.bor 196) (SD.sn)))]], rs := [RM.v (SD.bool)] }
  | 46 => some { ps := [PM.ro (SD.sc (SD.bor 131) (SD.sc (SD.sc (SD.bor 3) (SD.sc (SD.int (IntKind.i64)) (SD.sc (SD.int (IntKind.i64)) (SD.sc (SD.int (IntKind.i64)) (SD.sn))))) (SD.sc (SD.bor 3) (SD.sc (SD.bor 128) (SD.sc (SD.bor 3) (SD.sc (SD.int (IntKind.i64)) (SD.sc (SD.bool) (SD.sn))))))))], rs := [RM.v (SD.bool)] }
  | 88 => some { ps := [PM.ro (SD.sc (SD.bor 3) (SD.sc (SD.int (IntKind.i64)) (SD.sc (SD.int (IntKind.i64)) (SD.sc (SD.int (IntKind.i64)) (SD.sn))))), PM.ro (SD.bor 3)], rs := [RM.v (SD.bool)] }
  | 74 => some { ps := [PM.ro (SD.bor 131), PM.ro (SD.int (IntKind.i64)), PM.ro (SD.bool)], rs := [RM.v (SD.sc (SD.own 131 true) (SD.sc (SD.sc (SD.own 3 false) (SD.sc (SD.int (IntKind.i64)) (SD.sc (SD.int (IntKind.i64)) (SD.sc (SD.int (IntKind.i64)) (SD.sn))))) (SD.sc (SD.own 3 false) (SD.sc (SD.own 128 false) (SD.sc (SD.own 3 false) (SD.sc (SD.int (IntKind.i64)) (SD.sc (SD.bool) (SD.sn)))))))), RM.v (SD.bool)] }
  | 48 => some { ps := [PM.ro (SD.sc (SD.bor 131) (SD.sc (SD.sc (SD.bor 3) (SD.sc (SD.int (IntKind.i64)) (SD.sc (SD.int (IntKind.i64)) (SD.sc (SD.int (IntKind.i64)) (SD.sn))))) (SD.sc (SD.bor 3) (SD.sc (SD.bor 128) (SD.sc (SD.bor 3) (SD.sc (SD.int (IntKind.i64)) (SD.sc (SD.bool) (SD.sn))))))))], rs := [RM.v (SD.bool)] }
  | 76 => some { ps := [PM.ro (SD.bor 131), PM.ro (SD.int (IntKind.i64)), PM.ro (SD.bool)], rs := [RM.v (SD.sc (SD.own 131 true) (SD.sc (SD.sc (SD.own 3 false) (SD.sc (SD.int (IntKind.i64)) (SD.sc (SD.int (IntKind.i64)) (SD.sc (SD.int (IntKind.i64)) (SD.sn))))) (SD.sc (SD.own 3 false) (SD.sc (SD.own 128 false) (SD.sc (SD.own 3 false) (SD.sc (SD.int (IntKind.i64)) (SD.sc (SD.bool) (SD.sn)))))))), RM.v (SD.bool)] }
  | 11 => some { ps := [PM.ro (SD.bor 176), PM.ro (SD.int (IntKind.i64)), PM.ro (SD.bool)], rs := [RM.v (SD.bool)] }
  | _ => none
/-! impl.nexts -/
def F219 (I : Interp) (n : Nat) (a : List PV) : Option (List PV) :=
  (thenN (iff (eqI ((nth a 0).fld 0).toInt (7 : Int))
  (some (Ex.n, [(PV.bool (eqI ((nth a 0).fld 0).toInt (7 : Int))), ((nth a 0).fld 0), (nth a 1), (nth a 0)]))
  (some (Ex.n, [(PV.bool (eqI ((nth a 0).fld 0).toInt (21 : Int))), ((nth a 0).fld 0), (nth a 1), (nth a 0)])))
  (fun p0 => (iff (nth p0 0).toBool
  (some [(PV.list ([] : List PV))])
  (iff (eqI (nth p0 1).toInt (19 : Int))
  (some [(PV.list (((nth p0 3).fld 1) :: ([] : List PV)))])
  (iff (eqI (nth p0 1).toInt (18 : Int))
  (some [(PV.list ((PV.int (IntKind.i64.wrap ((nth p0 2).toInt + (1 : Int)))) :: (((nth p0 3).fld 1) :: ([] : List PV))))])
  (thenN (iff (eqI (nth p0 1).toInt (10 : Int))
  (some (Ex.n, [(PV.bool (eqI (nth p0 1).toInt (10 : Int))), (nth p0 2), (nth p0 3)]))
  (some (Ex.n, [(PV.bool (eqI (nth p0 1).toInt (11 : Int))), (nth p0 2), (nth p0 3)])))
  (fun p1 => (iff (nth p1 0).toBool
  (some [(PV.list ((PV.int (IntKind.i64.wrap ((nth p1 1).toInt + (1 : Int)))) :: (((nth p1 2).fld 2) :: ([] : List PV))))])
  (some [(PV.list ((PV.int (IntKind.i64.wrap ((nth p1 1).toInt + (1 : Int)))) :: ([] : List PV)))])))
  (retE fun q2 => [(nth q2 0)]))))))
  (retE fun q3 => [(nth q3 0)]))
theorem e219 : ∀ I n a, (compF Try.prog sg 219).map (fun d => d.ev I n a) = some (F219 I n a) := fun I n a => by kernel_rfl
/-! laws.heldCallS -/
def L155_0 (I : Interp) (n : Nat) (p0 : List PV) : Option (Ex × List PV) :=
  (iff (ltI (nth p0 0).toInt ((nth p0 1).toList.length : Int))
  (iff (geI (nth p0 0).toInt (0 : Int))
  (iff (ltI (nth p0 0).toInt ((nth p0 1).toList.length : Int))
  (iff (neI ((nth (nth p0 1).toList (nth p0 0).toInt.toNat).fld 0).toInt (nth p0 2).toInt)
  (some (Ex.r, [(PV.int (-1 : Int))]))
  (iff (geI (nth p0 0).toInt (0 : Int))
  (iff (ltI (nth p0 0).toInt ((nth p0 1).toList.length : Int))
  (iff (neI ((nth (nth p0 1).toList (nth p0 0).toInt.toNat).fld 1).toInt (IntKind.i64.wrap ((nth p0 2).toInt + (1 : Int))))
  (some (Ex.r, [(PV.int (-1 : Int))]))
  (iff (geI (nth p0 0).toInt (0 : Int))
  (iff (ltI (nth p0 0).toInt ((nth p0 1).toList.length : Int))
  (iff (neI ((nth (nth p0 1).toList (nth p0 0).toInt.toNat).fld 2).toInt (IntKind.i64.wrap ((IntKind.i64.wrap ((nth p0 2).toInt + (1 : Int))) + (1 : Int))))
  (some (Ex.r, [(PV.int (-1 : Int))]))
  (some (Ex.n, [(PV.int (IntKind.i64.wrap ((nth p0 0).toInt + (1 : Int)))), (nth p0 1), (PV.int (IntKind.i64.wrap ((IntKind.i64.wrap ((IntKind.i64.wrap ((nth p0 2).toInt + (1 : Int))) + (1 : Int))) + (1 : Int))))])))
  none)
  none))
  none)
  none))
  none)
  none)
  (some (Ex.x 0, [(nth p0 2)])))
def F155 (I : Interp) (n : Nat) (a : List PV) : Option (List PV) :=
  (thenN (thenE (loopEv (L155_0 I n) n [(PV.int (0 : Int)), (nth a 0), (nth a 1)])
  (passB 0))
  (fun p1 => (some [(nth p1 0)]))
  (retE fun q2 => [(nth q2 0)]))
theorem e155 : ∀ I n a, (compF Try.prog sg 155).map (fun d => d.ev I n a) = some (F155 I n a) := fun I n a => by kernel_rfl
/-! impl.copyFuns -/
def L154_0 (I : Interp) (n : Nat) (p0 : List PV) : Option (Ex × List PV) :=
  (iff (ltI (nth p0 0).toInt (nth p0 1).toInt)
  (iff (geI (nth p0 0).toInt (0 : Int))
  (iff (ltI (nth p0 0).toInt ((nth p0 2).toList.length : Int))
  (iff (leN (([] : List PV).length + ((nth (nth p0 2).toList (nth p0 0).toInt.toNat).fld 1).toList.length) 5864062014805)
  (iff (leN ((nth p0 3).toList.length + ((PV.agg [((nth (nth p0 2).toList (nth p0 0).toInt.toNat).fld 0), (PV.list (([] : List PV) ++ ((nth (nth p0 2).toList (nth p0 0).toInt.toNat).fld 1).toList))]) :: ([] : List PV)).length) 4398046511104)
  (some (Ex.n, [(PV.int (IntKind.i64.wrap ((nth p0 0).toInt + (1 : Int)))), (nth p0 1), (nth p0 2), (PV.list ((nth p0 3).toList ++ ((PV.agg [((nth (nth p0 2).toList (nth p0 0).toInt.toNat).fld 0), (PV.list (([] : List PV) ++ ((nth (nth p0 2).toList (nth p0 0).toInt.toNat).fld 1).toList))]) :: ([] : List PV))))]))
  none)
  none)
  none)
  none)
  (some (Ex.x 0, [(nth p0 3)])))
def F154 (I : Interp) (n : Nat) (a : List PV) : Option (List PV) :=
  (thenN (thenE (loopEv (L154_0 I n) n [(PV.int (0 : Int)), (PV.int ((nth a 0).toList.length : Int)), (nth a 0), (PV.list ([] : List PV))])
  (passB 0))
  (fun p1 => (some [(nth p1 0)]))
  (retE fun q2 => [(nth q2 0)]))
theorem e154 : ∀ I n a, (compF Try.prog sg 154).map (fun d => d.ev I n a) = some (F154 I n a) := fun I n a => by kernel_rfl
/-! laws.heldIntS -/
def L27_0 (I : Interp) (n : Nat) (p0 : List PV) : Option (Ex × List PV) :=
  (iff (ltI (nth p0 0).toInt ((nth p0 1).toList.length : Int))
  (iff (geI (nth p0 0).toInt (0 : Int))
  (iff (ltI (nth p0 0).toInt ((nth p0 1).toList.length : Int))
  (iff (neI (nth (nth p0 1).toList (nth p0 0).toInt.toNat).toInt (nth p0 2).toInt)
  (some (Ex.r, [(PV.int (-1 : Int))]))
  (some (Ex.n, [(PV.int (IntKind.i64.wrap ((nth p0 0).toInt + (1 : Int)))), (nth p0 1), (PV.int (IntKind.i64.wrap ((nth p0 2).toInt + (1 : Int))))])))
  none)
  none)
  (some (Ex.x 0, [(nth p0 2)])))
def F27 (I : Interp) (n : Nat) (a : List PV) : Option (List PV) :=
  (thenN (thenE (loopEv (L27_0 I n) n [(PV.int (0 : Int)), (nth a 0), (nth a 1)])
  (passB 0))
  (fun p1 => (some [(nth p1 0)]))
  (retE fun q2 => [(nth q2 0)]))
theorem e27 : ∀ I n a, (compF Try.prog sg 27).map (fun d => d.ev I n a) = some (F27 I n a) := fun I n a => by kernel_rfl
/-! laws.heldOpS -/
def L146_0 (I : Interp) (n : Nat) (p0 : List PV) : Option (Ex × List PV) :=
  (iff (ltI (nth p0 0).toInt ((nth p0 1).toList.length : Int))
  (iff (geI (nth p0 0).toInt (0 : Int))
  (iff (ltI (nth p0 0).toInt ((nth p0 1).toList.length : Int))
  (iff (neI ((nth (nth p0 1).toList (nth p0 0).toInt.toNat).fld 0).toInt (nth p0 2).toInt)
  (some (Ex.r, [(PV.int (-1 : Int))]))
  (iff (geI (nth p0 0).toInt (0 : Int))
  (iff (ltI (nth p0 0).toInt ((nth p0 1).toList.length : Int))
  (iff (neI ((nth (nth p0 1).toList (nth p0 0).toInt.toNat).fld 1).toInt (IntKind.i64.wrap ((nth p0 2).toInt + (1 : Int))))
  (some (Ex.r, [(PV.int (-1 : Int))]))
  (iff (geI (nth p0 0).toInt (0 : Int))
  (iff (ltI (nth p0 0).toInt ((nth p0 1).toList.length : Int))
  (iff (neI ((nth (nth p0 1).toList (nth p0 0).toInt.toNat).fld 2).toInt (IntKind.i64.wrap ((IntKind.i64.wrap ((nth p0 2).toInt + (1 : Int))) + (1 : Int))))
  (some (Ex.r, [(PV.int (-1 : Int))]))
  (some (Ex.n, [(PV.int (IntKind.i64.wrap ((nth p0 0).toInt + (1 : Int)))), (nth p0 1), (PV.int (IntKind.i64.wrap ((IntKind.i64.wrap ((IntKind.i64.wrap ((nth p0 2).toInt + (1 : Int))) + (1 : Int))) + (1 : Int))))])))
  none)
  none))
  none)
  none))
  none)
  none)
  (some (Ex.x 0, [(nth p0 2)])))
def F146 (I : Interp) (n : Nat) (a : List PV) : Option (List PV) :=
  (thenN (thenE (loopEv (L146_0 I n) n [(PV.int (0 : Int)), (nth a 0), (nth a 1)])
  (passB 0))
  (fun p1 => (some [(nth p1 0)]))
  (retE fun q2 => [(nth q2 0)]))
theorem e146 : ∀ I n a, (compF Try.prog sg 146).map (fun d => d.ev I n a) = some (F146 I n a) := fun I n a => by kernel_rfl
/-! laws.markCallS -/
def L133_0 (I : Interp) (n : Nat) (p0 : List PV) : Option (Ex × List PV) :=
  (iff (ltI (nth p0 0).toInt ((nth p0 2).toList.length : Int))
  (iff (geI (nth p0 0).toInt (0 : Int))
  (iff (ltI (nth p0 0).toInt ((nth p0 2).toList.length : Int))
  (iff (geI (nth p0 0).toInt (0 : Int))
  (iff (ltI (nth p0 0).toInt (((nth p0 2).toList.set (nth p0 0).toInt.toNat ((nth (nth p0 2).toList (nth p0 0).toInt.toNat).setFld 0 (nth p0 1))).length : Int))
  (iff (geI (nth p0 0).toInt (0 : Int))
  (iff (ltI (nth p0 0).toInt ((((nth p0 2).toList.set (nth p0 0).toInt.toNat ((nth (nth p0 2).toList (nth p0 0).toInt.toNat).setFld 0 (nth p0 1))).set (nth p0 0).toInt.toNat ((nth ((nth p0 2).toList.set (nth p0 0).toInt.toNat ((nth (nth p0 2).toList (nth p0 0).toInt.toNat).setFld 0 (nth p0 1))) (nth p0 0).toInt.toNat).setFld 1 (PV.int (IntKind.i64.wrap ((nth p0 1).toInt + (1 : Int)))))).length : Int))
  (some (Ex.n, [(PV.int (IntKind.i64.wrap ((nth p0 0).toInt + (1 : Int)))), (PV.int (IntKind.i64.wrap ((IntKind.i64.wrap ((IntKind.i64.wrap ((nth p0 1).toInt + (1 : Int))) + (1 : Int))) + (1 : Int)))), (PV.list ((((nth p0 2).toList.set (nth p0 0).toInt.toNat ((nth (nth p0 2).toList (nth p0 0).toInt.toNat).setFld 0 (nth p0 1))).set (nth p0 0).toInt.toNat ((nth ((nth p0 2).toList.set (nth p0 0).toInt.toNat ((nth (nth p0 2).toList (nth p0 0).toInt.toNat).setFld 0 (nth p0 1))) (nth p0 0).toInt.toNat).setFld 1 (PV.int (IntKind.i64.wrap ((nth p0 1).toInt + (1 : Int)))))).set (nth p0 0).toInt.toNat ((nth (((nth p0 2).toList.set (nth p0 0).toInt.toNat ((nth (nth p0 2).toList (nth p0 0).toInt.toNat).setFld 0 (nth p0 1))).set (nth p0 0).toInt.toNat ((nth ((nth p0 2).toList.set (nth p0 0).toInt.toNat ((nth (nth p0 2).toList (nth p0 0).toInt.toNat).setFld 0 (nth p0 1))) (nth p0 0).toInt.toNat).setFld 1 (PV.int (IntKind.i64.wrap ((nth p0 1).toInt + (1 : Int)))))) (nth p0 0).toInt.toNat).setFld 2 (PV.int (IntKind.i64.wrap ((IntKind.i64.wrap ((nth p0 1).toInt + (1 : Int))) + (1 : Int)))))))]))
  none)
  none)
  none)
  none)
  none)
  none)
  (some (Ex.x 0, [(nth p0 2), (nth p0 1)])))
def F133 (I : Interp) (n : Nat) (a : List PV) : Option (List PV) :=
  (thenN (thenE (loopEv (L133_0 I n) n [(PV.int (0 : Int)), (nth a 1), (nth a 0)])
  (passB 0))
  (fun p1 => (some [(nth p1 1), (nth p1 0)]))
  (retE fun q2 => [(nth q2 1), (nth q2 0)]))
theorem e133 : ∀ I n a, (compF Try.prog sg 133).map (fun d => d.ev I n a) = some (F133 I n a) := fun I n a => by kernel_rfl
/-! laws.markCallS -/
def L4229_0 (I : Interp) (n : Nat) (p0 : List PV) : Option (Ex × List PV) :=
  (iff (ltI (nth p0 0).toInt ((nth p0 1).toList.length : Int))
  (iff (geI (nth p0 0).toInt (0 : Int))
  (iff (ltI (nth p0 0).toInt ((nth p0 1).toList.length : Int))
  (iff (geI (nth p0 0).toInt (0 : Int))
  (iff (ltI (nth p0 0).toInt (((nth p0 1).toList.set (nth p0 0).toInt.toNat ((nth (nth p0 1).toList (nth p0 0).toInt.toNat).setFld 0 (nth p0 2))).length : Int))
  (iff (geI (nth p0 0).toInt (0 : Int))
  (iff (ltI (nth p0 0).toInt ((((nth p0 1).toList.set (nth p0 0).toInt.toNat ((nth (nth p0 1).toList (nth p0 0).toInt.toNat).setFld 0 (nth p0 2))).set (nth p0 0).toInt.toNat ((nth ((nth p0 1).toList.set (nth p0 0).toInt.toNat ((nth (nth p0 1).toList (nth p0 0).toInt.toNat).setFld 0 (nth p0 2))) (nth p0 0).toInt.toNat).setFld 1 (PV.int (IntKind.i64.wrap ((nth p0 2).toInt + (1 : Int)))))).length : Int))
  (some (Ex.n, [(PV.int (IntKind.i64.wrap ((nth p0 0).toInt + (1 : Int)))), (PV.list ((((nth p0 1).toList.set (nth p0 0).toInt.toNat ((nth (nth p0 1).toList (nth p0 0).toInt.toNat).setFld 0 (nth p0 2))).set (nth p0 0).toInt.toNat ((nth ((nth p0 1).toList.set (nth p0 0).toInt.toNat ((nth (nth p0 1).toList (nth p0 0).toInt.toNat).setFld 0 (nth p0 2))) (nth p0 0).toInt.toNat).setFld 1 (PV.int (IntKind.i64.wrap ((nth p0 2).toInt + (1 : Int)))))).set (nth p0 0).toInt.toNat ((nth (((nth p0 1).toList.set (nth p0 0).toInt.toNat ((nth (nth p0 1).toList (nth p0 0).toInt.toNat).setFld 0 (nth p0 2))).set (nth p0 0).toInt.toNat ((nth ((nth p0 1).toList.set (nth p0 0).toInt.toNat ((nth (nth p0 1).toList (nth p0 0).toInt.toNat).setFld 0 (nth p0 2))) (nth p0 0).toInt.toNat).setFld 1 (PV.int (IntKind.i64.wrap ((nth p0 2).toInt + (1 : Int)))))) (nth p0 0).toInt.toNat).setFld 2 (PV.int (IntKind.i64.wrap ((IntKind.i64.wrap ((nth p0 2).toInt + (1 : Int))) + (1 : Int))))))), (PV.int (IntKind.i64.wrap ((IntKind.i64.wrap ((IntKind.i64.wrap ((nth p0 2).toInt + (1 : Int))) + (1 : Int))) + (1 : Int))))]))
  none)
  none)
  none)
  none)
  none)
  none)
  (some (Ex.x 0, [(nth p0 2)])))
def F4229 (I : Interp) (n : Nat) (a : List PV) : Option (List PV) :=
  (thenN (thenE (loopEv (L4229_0 I n) n [(PV.int (0 : Int)), (nth a 0), (nth a 1)])
  (passB 0))
  (fun p1 => (some [(nth p1 0)]))
  (retE fun q2 => [(nth q2 0)]))
theorem e4229 : ∀ I n a, (compF Try.prog sg 4229).map (fun d => d.ev I n a) = some (F4229 I n a) := fun I n a => by kernel_rfl
/-! laws.markIntS -/
def L25_0 (I : Interp) (n : Nat) (p0 : List PV) : Option (Ex × List PV) :=
  (iff (ltI (nth p0 0).toInt ((nth p0 2).toList.length : Int))
  (iff (geI (nth p0 0).toInt (0 : Int))
  (iff (ltI (nth p0 0).toInt ((nth p0 2).toList.length : Int))
  (some (Ex.n, [(PV.int (IntKind.i64.wrap ((nth p0 0).toInt + (1 : Int)))), (PV.int (IntKind.i64.wrap ((nth p0 1).toInt + (1 : Int)))), (PV.list ((nth p0 2).toList.set (nth p0 0).toInt.toNat (nth p0 1)))]))
  none)
  none)
  (some (Ex.x 0, [(nth p0 2), (nth p0 1)])))
def F25 (I : Interp) (n : Nat) (a : List PV) : Option (List PV) :=
  (thenN (thenE (loopEv (L25_0 I n) n [(PV.int (0 : Int)), (nth a 1), (nth a 0)])
  (passB 0))
  (fun p1 => (some [(nth p1 1), (nth p1 0)]))
  (retE fun q2 => [(nth q2 1), (nth q2 0)]))
theorem e25 : ∀ I n a, (compF Try.prog sg 25).map (fun d => d.ev I n a) = some (F25 I n a) := fun I n a => by kernel_rfl
/-! laws.markIntS -/
def L4121_0 (I : Interp) (n : Nat) (p0 : List PV) : Option (Ex × List PV) :=
  (iff (ltI (nth p0 0).toInt ((nth p0 1).toList.length : Int))
  (iff (geI (nth p0 0).toInt (0 : Int))
  (iff (ltI (nth p0 0).toInt ((nth p0 1).toList.length : Int))
  (some (Ex.n, [(PV.int (IntKind.i64.wrap ((nth p0 0).toInt + (1 : Int)))), (PV.list ((nth p0 1).toList.set (nth p0 0).toInt.toNat (nth p0 2))), (PV.int (IntKind.i64.wrap ((nth p0 2).toInt + (1 : Int))))]))
  none)
  none)
  (some (Ex.x 0, [(nth p0 2)])))
def F4121 (I : Interp) (n : Nat) (a : List PV) : Option (List PV) :=
  (thenN (thenE (loopEv (L4121_0 I n) n [(PV.int (0 : Int)), (nth a 0), (nth a 1)])
  (passB 0))
  (fun p1 => (some [(nth p1 0)]))
  (retE fun q2 => [(nth q2 0)]))
theorem e4121 : ∀ I n a, (compF Try.prog sg 4121).map (fun d => d.ev I n a) = some (F4121 I n a) := fun I n a => by kernel_rfl
/-! laws.markOpS -/
def L145_0 (I : Interp) (n : Nat) (p0 : List PV) : Option (Ex × List PV) :=
  (iff (ltI (nth p0 0).toInt ((nth p0 2).toList.length : Int))
  (iff (geI (nth p0 0).toInt (0 : Int))
  (iff (ltI (nth p0 0).toInt ((nth p0 2).toList.length : Int))
  (iff (geI (nth p0 0).toInt (0 : Int))
  (iff (ltI (nth p0 0).toInt (((nth p0 2).toList.set (nth p0 0).toInt.toNat ((nth (nth p0 2).toList (nth p0 0).toInt.toNat).setFld 0 (nth p0 1))).length : Int))
  (iff (geI (nth p0 0).toInt (0 : Int))
  (iff (ltI (nth p0 0).toInt ((((nth p0 2).toList.set (nth p0 0).toInt.toNat ((nth (nth p0 2).toList (nth p0 0).toInt.toNat).setFld 0 (nth p0 1))).set (nth p0 0).toInt.toNat ((nth ((nth p0 2).toList.set (nth p0 0).toInt.toNat ((nth (nth p0 2).toList (nth p0 0).toInt.toNat).setFld 0 (nth p0 1))) (nth p0 0).toInt.toNat).setFld 1 (PV.int (IntKind.i64.wrap ((nth p0 1).toInt + (1 : Int)))))).length : Int))
  (some (Ex.n, [(PV.int (IntKind.i64.wrap ((nth p0 0).toInt + (1 : Int)))), (PV.int (IntKind.i64.wrap ((IntKind.i64.wrap ((IntKind.i64.wrap ((nth p0 1).toInt + (1 : Int))) + (1 : Int))) + (1 : Int)))), (PV.list ((((nth p0 2).toList.set (nth p0 0).toInt.toNat ((nth (nth p0 2).toList (nth p0 0).toInt.toNat).setFld 0 (nth p0 1))).set (nth p0 0).toInt.toNat ((nth ((nth p0 2).toList.set (nth p0 0).toInt.toNat ((nth (nth p0 2).toList (nth p0 0).toInt.toNat).setFld 0 (nth p0 1))) (nth p0 0).toInt.toNat).setFld 1 (PV.int (IntKind.i64.wrap ((nth p0 1).toInt + (1 : Int)))))).set (nth p0 0).toInt.toNat ((nth (((nth p0 2).toList.set (nth p0 0).toInt.toNat ((nth (nth p0 2).toList (nth p0 0).toInt.toNat).setFld 0 (nth p0 1))).set (nth p0 0).toInt.toNat ((nth ((nth p0 2).toList.set (nth p0 0).toInt.toNat ((nth (nth p0 2).toList (nth p0 0).toInt.toNat).setFld 0 (nth p0 1))) (nth p0 0).toInt.toNat).setFld 1 (PV.int (IntKind.i64.wrap ((nth p0 1).toInt + (1 : Int)))))) (nth p0 0).toInt.toNat).setFld 2 (PV.int (IntKind.i64.wrap ((IntKind.i64.wrap ((nth p0 1).toInt + (1 : Int))) + (1 : Int)))))))]))
  none)
  none)
  none)
  none)
  none)
  none)
  (some (Ex.x 0, [(nth p0 2), (nth p0 1)])))
def F145 (I : Interp) (n : Nat) (a : List PV) : Option (List PV) :=
  (thenN (thenE (loopEv (L145_0 I n) n [(PV.int (0 : Int)), (nth a 1), (nth a 0)])
  (passB 0))
  (fun p1 => (some [(nth p1 1), (nth p1 0)]))
  (retE fun q2 => [(nth q2 1), (nth q2 0)]))
theorem e145 : ∀ I n a, (compF Try.prog sg 145).map (fun d => d.ev I n a) = some (F145 I n a) := fun I n a => by kernel_rfl
/-! laws.markOpS -/
def L4241_0 (I : Interp) (n : Nat) (p0 : List PV) : Option (Ex × List PV) :=
  (iff (ltI (nth p0 0).toInt ((nth p0 1).toList.length : Int))
  (iff (geI (nth p0 0).toInt (0 : Int))
  (iff (ltI (nth p0 0).toInt ((nth p0 1).toList.length : Int))
  (iff (geI (nth p0 0).toInt (0 : Int))
  (iff (ltI (nth p0 0).toInt (((nth p0 1).toList.set (nth p0 0).toInt.toNat ((nth (nth p0 1).toList (nth p0 0).toInt.toNat).setFld 0 (nth p0 2))).length : Int))
  (iff (geI (nth p0 0).toInt (0 : Int))
  (iff (ltI (nth p0 0).toInt ((((nth p0 1).toList.set (nth p0 0).toInt.toNat ((nth (nth p0 1).toList (nth p0 0).toInt.toNat).setFld 0 (nth p0 2))).set (nth p0 0).toInt.toNat ((nth ((nth p0 1).toList.set (nth p0 0).toInt.toNat ((nth (nth p0 1).toList (nth p0 0).toInt.toNat).setFld 0 (nth p0 2))) (nth p0 0).toInt.toNat).setFld 1 (PV.int (IntKind.i64.wrap ((nth p0 2).toInt + (1 : Int)))))).length : Int))
  (some (Ex.n, [(PV.int (IntKind.i64.wrap ((nth p0 0).toInt + (1 : Int)))), (PV.list ((((nth p0 1).toList.set (nth p0 0).toInt.toNat ((nth (nth p0 1).toList (nth p0 0).toInt.toNat).setFld 0 (nth p0 2))).set (nth p0 0).toInt.toNat ((nth ((nth p0 1).toList.set (nth p0 0).toInt.toNat ((nth (nth p0 1).toList (nth p0 0).toInt.toNat).setFld 0 (nth p0 2))) (nth p0 0).toInt.toNat).setFld 1 (PV.int (IntKind.i64.wrap ((nth p0 2).toInt + (1 : Int)))))).set (nth p0 0).toInt.toNat ((nth (((nth p0 1).toList.set (nth p0 0).toInt.toNat ((nth (nth p0 1).toList (nth p0 0).toInt.toNat).setFld 0 (nth p0 2))).set (nth p0 0).toInt.toNat ((nth ((nth p0 1).toList.set (nth p0 0).toInt.toNat ((nth (nth p0 1).toList (nth p0 0).toInt.toNat).setFld 0 (nth p0 2))) (nth p0 0).toInt.toNat).setFld 1 (PV.int (IntKind.i64.wrap ((nth p0 2).toInt + (1 : Int)))))) (nth p0 0).toInt.toNat).setFld 2 (PV.int (IntKind.i64.wrap ((IntKind.i64.wrap ((nth p0 2).toInt + (1 : Int))) + (1 : Int))))))), (PV.int (IntKind.i64.wrap ((IntKind.i64.wrap ((IntKind.i64.wrap ((nth p0 2).toInt + (1 : Int))) + (1 : Int))) + (1 : Int))))]))
  none)
  none)
  none)
  none)
  none)
  none)
  (some (Ex.x 0, [(nth p0 2)])))
def F4241 (I : Interp) (n : Nat) (a : List PV) : Option (List PV) :=
  (thenN (thenE (loopEv (L4241_0 I n) n [(PV.int (0 : Int)), (nth a 0), (nth a 1)])
  (passB 0))
  (fun p1 => (some [(nth p1 0)]))
  (retE fun q2 => [(nth q2 0)]))
theorem e4241 : ∀ I n a, (compF Try.prog sg 4241).map (fun d => d.ev I n a) = some (F4241 I n a) := fun I n a => by kernel_rfl
/-! laws.eqCall -/
def F172 (I : Interp) (n : Nat) (a : List PV) : Option (List PV) :=
  (iff (neI ((nth a 0).fld 0).toInt ((nth a 1).fld 0).toInt)
  (some [(PV.bool false)])
  (iff (neI ((nth a 0).fld 1).toInt ((nth a 1).fld 1).toInt)
  (some [(PV.bool false)])
  (iff (neI ((nth a 0).fld 2).toInt ((nth a 1).fld 2).toInt)
  (some [(PV.bool false)])
  (some [(PV.bool true)]))))
theorem e172 : ∀ I n a, (compF Try.prog sg 172).map (fun d => d.ev I n a) = some (F172 I n a) := fun I n a => by kernel_rfl
/-! laws.eqIntS -/
def L24_0 (I : Interp) (n : Nat) (p0 : List PV) : Option (Ex × List PV) :=
  (iff (ltI (nth p0 0).toInt ((nth p0 1).toList.length : Int))
  (iff (geI (nth p0 0).toInt (0 : Int))
  (iff (ltI (nth p0 0).toInt ((nth p0 1).toList.length : Int))
  (iff (geI (nth p0 0).toInt (0 : Int))
  (iff (ltI (nth p0 0).toInt ((nth p0 2).toList.length : Int))
  (iff (neI (nth (nth p0 1).toList (nth p0 0).toInt.toNat).toInt (nth (nth p0 2).toList (nth p0 0).toInt.toNat).toInt)
  (some (Ex.r, [(PV.bool false)]))
  (some (Ex.n, [(PV.int (IntKind.i64.wrap ((nth p0 0).toInt + (1 : Int)))), (nth p0 1), (nth p0 2)])))
  none)
  none)
  none)
  none)
  (some (Ex.x 0, [])))
def F24 (I : Interp) (n : Nat) (a : List PV) : Option (List PV) :=
  (iff (neI ((nth a 0).toList.length : Int) ((nth a 1).toList.length : Int))
  (some [(PV.bool false)])
  (thenN (thenE (loopEv (L24_0 I n) n [(PV.int (0 : Int)), (nth a 0), (nth a 1)])
  (passB 0))
  (fun p1 => (some [(PV.bool true)]))
  (retE fun q2 => [(nth q2 0)])))
theorem e24 : ∀ I n a, (compF Try.prog sg 24).map (fun d => d.ev I n a) = some (F24 I n a) := fun I n a => by kernel_rfl
/-! laws.eqOp -/
def F213 (I : Interp) (n : Nat) (a : List PV) : Option (List PV) :=
  (iff (neI ((nth a 0).fld 0).toInt ((nth a 1).fld 0).toInt)
  (some [(PV.bool false)])
  (iff (neI ((nth a 0).fld 1).toInt ((nth a 1).fld 1).toInt)
  (some [(PV.bool false)])
  (iff (neI ((nth a 0).fld 2).toInt ((nth a 1).fld 2).toInt)
  (some [(PV.bool false)])
  (some [(PV.bool true)]))))
theorem e213 : ∀ I n a, (compF Try.prog sg 213).map (fun d => d.ev I n a) = some (F213 I n a) := fun I n a => by kernel_rfl
/-! slices.isNaN[int] -/
def F195 (I : Interp) (n : Nat) (a : List PV) : Option (List PV) :=
  (some [(PV.bool (neI (nth a 0).toInt (nth a 0).toInt))])
theorem e195 : ∀ I n a, (compF Try.prog sg 195).map (fun d => d.ev I n a) = some (F195 I n a) := fun I n a => by kernel_rfl
/-! cmp.isNaN[int] -/
def F220 (I : Interp) (n : Nat) (a : List PV) : Option (List PV) :=
  (some [(PV.bool (neI (nth a 0).toInt (nth a 0).toInt))])
theorem e220 : ∀ I n a, (compF Try.prog sg 220).map (fun d => d.ev I n a) = some (F220 I n a) := fun I n a => by kernel_rfl
/-! impl.WordRef -/
def F96 (I : Interp) (n : Nat) (a : List PV) : Option (List PV) :=
  (iff (geI (1 : Int) (0 : Int))
  (some [(PV.int (arith BinOp.shr IntKind.i64 (nth a 0).toInt (1 : Int)))])
  none)
theorem e96 : ∀ I n a, (compF Try.prog sg 96).map (fun d => d.ev I n a) = some (F96 I n a) := fun I n a => by kernel_rfl
/-! impl.IsRef -/
def F94 (I : Interp) (n : Nat) (a : List PV) : Option (List PV) :=
  (some [(PV.bool (eqI (arith BinOp.and IntKind.i64 (nth a 0).toInt (1 : Int)) (0 : Int)))])
theorem e94 : ∀ I n a, (compF Try.prog sg 94).map (fun d => d.ev I n a) = some (F94 I n a) := fun I n a => by kernel_rfl
/-! impl.WordInt -/
def F158 (I : Interp) (n : Nat) (a : List PV) : Option (List PV) :=
  (iff (geI (1 : Int) (0 : Int))
  (some [(PV.int (arith BinOp.shr IntKind.i64 (nth a 0).toInt (1 : Int)))])
  none)
theorem e158 : ∀ I n a, (compF Try.prog sg 158).map (fun d => d.ev I n a) = some (F158 I n a) := fun I n a => by kernel_rfl
/-! spec.l17Of -/
def F109 (I : Interp) (n : Nat) (a : List PV) : Option (List PV) :=
  (iff (geI (1 : Int) (0 : Int))
  (iff (geI (1 : Int) (0 : Int))
  (iff (neI (64 : Int) (0 : Int))
  (iff (geI (1 : Int) (0 : Int))
  (some [(PV.bool (eqI (arith BinOp.and IntKind.i64 (arith BinOp.shr IntKind.i64 (nth a 0).toInt (1 : Int)) (1 : Int)) (1 : Int))), (PV.int (arith BinOp.quo IntKind.i64 (arith BinOp.shr IntKind.i64 (arith BinOp.shr IntKind.i64 (nth a 0).toInt (1 : Int)) (1 : Int)) (64 : Int))), (PV.int (arith BinOp.and IntKind.i64 (arith BinOp.shr IntKind.i64 (arith BinOp.shr IntKind.i64 (nth a 0).toInt (1 : Int)) (1 : Int)) (63 : Int)))])
  none)
  none)
  none)
  none)
theorem e109 : ∀ I n a, (compF Try.prog sg 109).map (fun d => d.ev I n a) = some (F109 I n a) := fun I n a => by kernel_rfl
/-! impl.within -/
def F102 (I : Interp) (n : Nat) (a : List PV) : Option (List PV) :=
  (some [(selB (geI (nth a 0).toInt (nth a 1).toInt) (selB ((geI (nth a 0).toInt (nth a 1).toInt) == true) (PV.bool (leI (selB ((geI (nth a 0).toInt (nth a 1).toInt) == true) (nth a 0) PV.unit).toInt (selB ((geI (nth a 0).toInt (nth a 1).toInt) == true) (nth a 2) PV.unit).toInt)) PV.unit) (PV.bool false))])
theorem e102 : ∀ I n a, (compF Try.prog sg 102).map (fun d => d.ev I n a) = some (F102 I n a) := fun I n a => by kernel_rfl
/-! spec.WordInt -/
def F157 (I : Interp) (n : Nat) (a : List PV) : Option (List PV) :=
  (iff (geI (1 : Int) (0 : Int))
  (some [(PV.int (arith BinOp.shr IntKind.i64 (nth a 0).toInt (1 : Int)))])
  none)
theorem e157 : ∀ I n a, (compF Try.prog sg 157).map (fun d => d.ev I n a) = some (F157 I n a) := fun I n a => by kernel_rfl
/-! spec.l4Has -/
def L168_0 (I : Interp) (n : Nat) (p0 : List PV) : Option (Ex × List PV) :=
  (iff (ltI (nth p0 0).toInt ((nth p0 1).toList.length : Int))
  (iff (geI (nth p0 0).toInt (0 : Int))
  (iff (ltI (nth p0 0).toInt ((nth p0 1).toList.length : Int))
  (iff (eqI (nth (nth p0 1).toList (nth p0 0).toInt.toNat).toInt (nth p0 2).toInt)
  (some (Ex.r, [(PV.bool true)]))
  (some (Ex.n, [(PV.int (IntKind.i64.wrap ((nth p0 0).toInt + (1 : Int)))), (nth p0 1), (nth p0 2)])))
  none)
  none)
  (some (Ex.x 0, [])))
def F168 (I : Interp) (n : Nat) (a : List PV) : Option (List PV) :=
  (thenN (thenE (loopEv (L168_0 I n) n [(PV.int (0 : Int)), (nth a 0), (nth a 1)])
  (passB 0))
  (fun p1 => (some [(PV.bool false)]))
  (retE fun q2 => [(nth q2 0)]))
theorem e168 : ∀ I n a, (compF Try.prog sg 168).map (fun d => d.ev I n a) = some (F168 I n a) := fun I n a => by kernel_rfl
/-! spec.WordRef -/
def F111 (I : Interp) (n : Nat) (a : List PV) : Option (List PV) :=
  (iff (geI (1 : Int) (0 : Int))
  (some [(PV.int (arith BinOp.shr IntKind.i64 (nth a 0).toInt (1 : Int)))])
  none)
theorem e111 : ∀ I n a, (compF Try.prog sg 111).map (fun d => d.ev I n a) = some (F111 I n a) := fun I n a => by kernel_rfl
/-! spec.IsRef -/
def F156 (I : Interp) (n : Nat) (a : List PV) : Option (List PV) :=
  (some [(PV.bool (eqI (arith BinOp.and IntKind.i64 (nth a 0).toInt (1 : Int)) (0 : Int)))])
theorem e156 : ∀ I n a, (compF Try.prog sg 156).map (fun d => d.ev I n a) = some (F156 I n a) := fun I n a => by kernel_rfl
/-! spec.l15Go -/
def F215 (I : Interp) (n : Nat) (a : List PV) : Option (List PV) :=
  (iff (selB (geI (nth a 1).toInt (((nth a 0).fld 0).toList.length : Int)) (PV.bool true) (selB ((geI (nth a 1).toInt (((nth a 0).fld 0).toList.length : Int)) == false) (PV.bool (gtI (selB ((geI (nth a 1).toInt (((nth a 0).fld 0).toList.length : Int)) == false) (nth a 2) PV.unit).toInt (60 : Int))) PV.unit)).toBool
  (some [((nth a 0).setFld 2 (PV.bool false))])
  (iff (geI (nth a 1).toInt (0 : Int))
  (iff (ltI (nth a 1).toInt (((nth a 0).fld 0).toList.length : Int))
  (iff (ltI (nth ((nth a 0).fld 0).toList (nth a 1).toInt.toNat).toInt (0 : Int))
  (iff (geI (nth a 1).toInt (0 : Int))
  (iff (ltI (nth a 1).toInt (((nth a 0).fld 0).toList.length : Int))
  (iff (leN ((((nth a 0).setFld 0 (PV.list (((nth a 0).fld 0).toList.set (nth a 1).toInt.toNat (nth a 2)))).fld 1).toList.length + ((nth a 1) :: ([] : List PV)).length) 17592186044416)
  (some [((((nth a 0).setFld 0 (PV.list (((nth a 0).fld 0).toList.set (nth a 1).toInt.toNat (nth a 2)))).setFld 1 PV.unit).setFld 1 (PV.list ((((nth a 0).setFld 0 (PV.list (((nth a 0).fld 0).toList.set (nth a 1).toInt.toNat (nth a 2)))).fld 1).toList ++ ((nth a 1) :: ([] : List PV)))))])
  none)
  none)
  none)
  (iff (geI (nth a 1).toInt (0 : Int))
  (iff (ltI (nth a 1).toInt (((nth a 0).fld 0).toList.length : Int))
  (iff (neI (nth ((nth a 0).fld 0).toList (nth a 1).toInt.toNat).toInt (nth a 2).toInt)
  (some [((nth a 0).setFld 2 (PV.bool false))])
  (some [(nth a 0)]))
  none)
  none))
  none)
  none))
theorem e215 : ∀ I n a, (compF Try.prog sg 215).map (fun d => d.ev I n a) = some (F215 I n a) := fun I n a => by kernel_rfl
/-! spec.l13Copy -/
def L151_0 (I : Interp) (n : Nat) (p0 : List PV) : Option (Ex × List PV) :=
  (iff (ltI (nth p0 0).toInt ((nth p0 1).toList.length : Int))
  (iff (geI (nth p0 0).toInt (0 : Int))
  (iff (ltI (nth p0 0).toInt ((nth p0 1).toList.length : Int))
  (iff (geI (nth p0 0).toInt (0 : Int))
  (iff (ltI (nth p0 0).toInt ((nth p0 1).toList.length : Int))
  (iff (leN (([] : List PV).length + ((nth (nth p0 1).toList (nth p0 0).toInt.toNat).fld 1).toList.length) 5864062014805)
  (iff (leN ((nth p0 2).toList.length + ((PV.agg [((nth (nth p0 1).toList (nth p0 0).toInt.toNat).fld 0), (PV.list (([] : List PV) ++ ((nth (nth p0 1).toList (nth p0 0).toInt.toNat).fld 1).toList))]) :: ([] : List PV)).length) 4398046511104)
  (some (Ex.n, [(PV.int (IntKind.i64.wrap ((nth p0 0).toInt + (1 : Int)))), (nth p0 1), (PV.list ((nth p0 2).toList ++ ((PV.agg [((nth (nth p0 1).toList (nth p0 0).toInt.toNat).fld 0), (PV.list (([] : List PV) ++ ((nth (nth p0 1).toList (nth p0 0).toInt.toNat).fld 1).toList))]) :: ([] : List PV))))]))
  none)
  none)
  none)
  none)
  none)
  none)
  (some (Ex.x 0, [(nth p0 2)])))
def F151 (I : Interp) (n : Nat) (a : List PV) : Option (List PV) :=
  (thenN (thenE (loopEv (L151_0 I n) n [(PV.int (0 : Int)), (nth a 0), (PV.list ([] : List PV))])
  (passB 0))
  (fun p1 => (some [(nth p1 0)]))
  (retE fun q2 => [(nth q2 0)]))
theorem e151 : ∀ I n a, (compF Try.prog sg 151).map (fun d => d.ev I n a) = some (F151 I n a) := fun I n a => by kernel_rfl
/-! spec.Effect -/
def F226 (I : Interp) (n : Nat) (a : List PV) : Option (List PV) :=
  (thenN (iff (eqI ((nth a 0).fld 0).toInt (1 : Int))
  (some (Ex.n, [(PV.bool (eqI ((nth a 0).fld 0).toInt (1 : Int))), ((nth a 0).fld 0), (nth a 0)]))
  (iff (eqI ((nth a 0).fld 0).toInt (2 : Int))
  (some (Ex.n, [(PV.bool (eqI ((nth a 0).fld 0).toInt (2 : Int))), ((nth a 0).fld 0), (nth a 0)]))
  (iff (eqI ((nth a 0).fld 0).toInt (3 : Int))
  (some (Ex.n, [(PV.bool (eqI ((nth a 0).fld 0).toInt (3 : Int))), ((nth a 0).fld 0), (nth a 0)]))
  (some (Ex.n, [(PV.bool (eqI ((nth a 0).fld 0).toInt (4 : Int))), ((nth a 0).fld 0), (nth a 0)])))))
  (fun p0 => (iff (nth p0 0).toBool
  (some [(PV.int (0 : Int)), (PV.int (1 : Int))])
  (thenN (iff (eqI (nth p0 1).toInt (5 : Int))
  (some (Ex.n, [(PV.bool (eqI (nth p0 1).toInt (5 : Int))), (nth p0 1), (nth p0 2)]))
  (some (Ex.n, [(PV.bool (eqI (nth p0 1).toInt (8 : Int))), (nth p0 1), (nth p0 2)])))
  (fun p1 => (iff (nth p1 0).toBool
  (some [((nth p1 2).fld 2), (PV.int (1 : Int))])
  (thenN (iff (eqI (nth p1 1).toInt (7 : Int))
  (some (Ex.n, [(PV.bool (eqI (nth p1 1).toInt (7 : Int))), (nth p1 1)]))
  (iff (eqI (nth p1 1).toInt (10 : Int))
  (some (Ex.n, [(PV.bool (eqI (nth p1 1).toInt (10 : Int))), (nth p1 1)]))
  (iff (eqI (nth p1 1).toInt (11 : Int))
  (some (Ex.n, [(PV.bool (eqI (nth p1 1).toInt (11 : Int))), (nth p1 1)]))
  (some (Ex.n, [(PV.bool (eqI (nth p1 1).toInt (18 : Int))), (nth p1 1)])))))
  (fun p2 => (iff (nth p2 0).toBool
  (some [(PV.int (1 : Int)), (PV.int (0 : Int))])
  (thenN (iff (eqI (nth p2 1).toInt (9 : Int))
  (some (Ex.n, [(PV.bool (eqI (nth p2 1).toInt (9 : Int))), (nth p2 1)]))
  (some (Ex.n, [(PV.bool (eqI (nth p2 1).toInt (17 : Int))), (nth p2 1)])))
  (fun p3 => (iff (nth p3 0).toBool
  (some [(PV.int (1 : Int)), (PV.int (1 : Int))])
  (thenN (iff (eqI (nth p3 1).toInt (6 : Int))
  (some (Ex.n, [(PV.bool (eqI (nth p3 1).toInt (6 : Int)))]))
  (iff (eqI (nth p3 1).toInt (12 : Int))
  (some (Ex.n, [(PV.bool (eqI (nth p3 1).toInt (12 : Int)))]))
  (iff (eqI (nth p3 1).toInt (13 : Int))
  (some (Ex.n, [(PV.bool (eqI (nth p3 1).toInt (13 : Int)))]))
  (iff (eqI (nth p3 1).toInt (14 : Int))
  (some (Ex.n, [(PV.bool (eqI (nth p3 1).toInt (14 : Int)))]))
  (iff (eqI (nth p3 1).toInt (15 : Int))
  (some (Ex.n, [(PV.bool (eqI (nth p3 1).toInt (15 : Int)))]))
  (iff (eqI (nth p3 1).toInt (16 : Int))
  (some (Ex.n, [(PV.bool (eqI (nth p3 1).toInt (16 : Int)))]))
  (some (Ex.n, [(PV.bool (eqI (nth p3 1).toInt (20 : Int)))]))))))))
  (fun p4 => (iff (nth p4 0).toBool
  (some [(PV.int (2 : Int)), (PV.int (1 : Int))])
  (some [(PV.int (0 : Int)), (PV.int (0 : Int))])))
  (retE fun q5 => [(nth q5 0), (nth q5 1)]))))
  (retE fun q6 => [(nth q6 0), (nth q6 1)]))))
  (retE fun q7 => [(nth q7 0), (nth q7 1)]))))
  (retE fun q8 => [(nth q8 0), (nth q8 1)]))))
  (retE fun q9 => [(nth q9 0), (nth q9 1)]))
theorem e226 : ∀ I n a, (compF Try.prog sg 226).map (fun d => d.ev I n a) = some (F226 I n a) := fun I n a => by kernel_rfl
/-! laws.toOp -/
def F217 (I : Interp) (n : Nat) (a : List PV) : Option (List PV) :=
  (some [(PV.agg [((nth a 0).fld 0), ((nth a 0).fld 1), ((nth a 0).fld 2)])])
theorem e217 : ∀ I n a, (compF Try.prog sg 217).map (fun d => d.ev I n a) = some (F217 I n a) := fun I n a => by kernel_rfl
/-! spec.l1In -/
def F104 (I : Interp) (n : Nat) (a : List PV) : Option (List PV) :=
  (some [(selB (geI (nth a 0).toInt (nth a 1).toInt) (selB ((geI (nth a 0).toInt (nth a 1).toInt) == true) (PV.bool (leI (selB ((geI (nth a 0).toInt (nth a 1).toInt) == true) (nth a 0) PV.unit).toInt (selB ((geI (nth a 0).toInt (nth a 1).toInt) == true) (nth a 2) PV.unit).toInt)) PV.unit) (PV.bool false))])
theorem e104 : ∀ I n a, (compF Try.prog sg 104).map (fun d => d.ev I n a) = some (F104 I n a) := fun I n a => by kernel_rfl
/-! laws.szOpS -/
def F187 (I : Interp) (n : Nat) (a : List PV) : Option (List PV) :=
  (iff (ltI (IntKind.i64.wrap ((nth a 1).toInt - ((nth a 0).toList.length : Int))) (0 : Int))
  (some [(PV.int (-1 : Int))])
  (some [(PV.int (IntKind.i64.wrap ((nth a 1).toInt - ((nth a 0).toList.length : Int))))]))
theorem e187 : ∀ I n a, (compF Try.prog sg 187).map (fun d => d.ev I n a) = some (F187 I n a) := fun I n a => by kernel_rfl
/-! laws.heldHeap -/
def F26 (I : Interp) (n : Nat) (a : List PV) : Option (List PV) :=
  ((I 27 [((nth a 0).fld 0), (nth a 1)]).bind fun r0 =>
  (iff (ltI (nth r0 0).toInt (0 : Int))
  (some [(PV.int (-1 : Int))])
  (some [(nth r0 0)])))
theorem e26 : ∀ I n a, (compF Try.prog sg 26).map (fun d => d.ev I n a) = some (F26 I n a) := fun I n a => by kernel_rfl
/-! laws.eqOpS -/
def L185_0 (I : Interp) (n : Nat) (p0 : List PV) : Option (Ex × List PV) :=
  (iff (ltI (nth p0 0).toInt ((nth p0 1).toList.length : Int))
  (iff (geI (nth p0 0).toInt (0 : Int))
  (iff (ltI (nth p0 0).toInt ((nth p0 1).toList.length : Int))
  (iff (geI (nth p0 0).toInt (0 : Int))
  (iff (ltI (nth p0 0).toInt ((nth p0 2).toList.length : Int))
  ((I 213 [(nth (nth p0 1).toList (nth p0 0).toInt.toNat), (nth (nth p0 2).toList (nth p0 0).toInt.toNat)]).bind fun r1 =>
  (iff (!(nth r1 0).toBool)
  (some (Ex.r, [(PV.bool false)]))
  (some (Ex.n, [(PV.int (IntKind.i64.wrap ((nth p0 0).toInt + (1 : Int)))), (nth p0 1), (nth p0 2)]))))
  none)
  none)
  none)
  none)
  (some (Ex.x 0, [])))
def F185 (I : Interp) (n : Nat) (a : List PV) : Option (List PV) :=
  (iff (neI ((nth a 0).toList.length : Int) ((nth a 1).toList.length : Int))
  (some [(PV.bool false)])
  (thenN (thenE (loopEv (L185_0 I n) n [(PV.int (0 : Int)), (nth a 0), (nth a 1)])
  (passB 0))
  (fun p2 => (some [(PV.bool true)]))
  (retE fun q3 => [(nth q3 0)])))
theorem e185 : ∀ I n a, (compF Try.prog sg 185).map (fun d => d.ev I n a) = some (F185 I n a) := fun I n a => by kernel_rfl
/-! spec.l7In -/
def F113 (I : Interp) (n : Nat) (a : List PV) : Option (List PV) :=
  ((I 168 [(nth a 0), (nth a 1)]).bind fun r0 =>
  (some [(nth r0 0)]))
theorem e113 : ∀ I n a, (compF Try.prog sg 113).map (fun d => d.ev I n a) = some (F113 I n a) := fun I n a => by kernel_rfl
/-! laws.eqCallS -/
def L121_0 (I : Interp) (n : Nat) (p0 : List PV) : Option (Ex × List PV) :=
  (iff (ltI (nth p0 0).toInt ((nth p0 1).toList.length : Int))
  (iff (geI (nth p0 0).toInt (0 : Int))
  (iff (ltI (nth p0 0).toInt ((nth p0 1).toList.length : Int))
  (iff (geI (nth p0 0).toInt (0 : Int))
  (iff (ltI (nth p0 0).toInt ((nth p0 2).toList.length : Int))
  ((I 172 [(nth (nth p0 1).toList (nth p0 0).toInt.toNat), (nth (nth p0 2).toList (nth p0 0).toInt.toNat)]).bind fun r1 =>
  (iff (!(nth r1 0).toBool)
  (some (Ex.r, [(PV.bool false)]))
  (some (Ex.n, [(PV.int (IntKind.i64.wrap ((nth p0 0).toInt + (1 : Int)))), (nth p0 1), (nth p0 2)]))))
  none)
  none)
  none)
  none)
  (some (Ex.x 0, [])))
def F121 (I : Interp) (n : Nat) (a : List PV) : Option (List PV) :=
  (iff (neI ((nth a 0).toList.length : Int) ((nth a 1).toList.length : Int))
  (some [(PV.bool false)])
  (thenN (thenE (loopEv (L121_0 I n) n [(PV.int (0 : Int)), (nth a 0), (nth a 1)])
  (passB 0))
  (fun p2 => (some [(PV.bool true)]))
  (retE fun q3 => [(nth q3 0)])))
theorem e121 : ∀ I n a, (compF Try.prog sg 121).map (fun d => d.ev I n a) = some (F121 I n a) := fun I n a => by kernel_rfl
/-! laws.markHeap -/
def F18 (I : Interp) (n : Nat) (a : List PV) : Option (List PV) :=
  ((I 25 [((nth a 0).fld 0), (nth a 1)]).bind fun r0 =>
  (some [(nth r0 0), ((nth a 0).setFld 0 (nth r0 1))]))
theorem e18 : ∀ I n a, (compF Try.prog sg 18).map (fun d => d.ev I n a) = some (F18 I n a) := fun I n a => by kernel_rfl
/-! laws.markHeap -/
def F4114 (I : Interp) (n : Nat) (a : List PV) : Option (List PV) :=
  ((I 25 [((nth a 0).fld 0), (nth a 1)]).bind fun r0 =>
  (some [(nth r0 0)]))
theorem e4114 : ∀ I n a, (compF Try.prog sg 4114).map (fun d => d.ev I n a) = some (F4114 I n a) := fun I n a => by kernel_rfl
/-! laws.eqHeap -/
def F17 (I : Interp) (n : Nat) (a : List PV) : Option (List PV) :=
  ((I 24 [((nth a 0).fld 0), ((nth a 1).fld 0)]).bind fun r0 =>
  (iff (!(nth r0 0).toBool)
  (some [(PV.bool false)])
  (iff (neI ((nth a 0).fld 1).toInt ((nth a 1).fld 1).toInt)
  (some [(PV.bool false)])
  (iff (neI ((nth a 0).fld 2).toInt ((nth a 1).fld 2).toInt)
  (some [(PV.bool false)])
  (iff (neI ((nth a 0).fld 3).toInt ((nth a 1).fld 3).toInt)
  (some [(PV.bool false)])
  (some [(PV.bool true)]))))))
theorem e17 : ∀ I n a, (compF Try.prog sg 17).map (fun d => d.ev I n a) = some (F17 I n a) := fun I n a => by kernel_rfl
/-! impl.Effect -/
def F218 (I : Interp) (n : Nat) (a : List PV) : Option (List PV) :=
  ((I 102 [((nth a 0).fld 0), (PV.int (1 : Int)), (PV.int (4 : Int))]).bind fun r0 =>
  (iff (nth r0 0).toBool
  (some [(PV.int (0 : Int)), (PV.int (1 : Int))])
  (iff (selB (eqI ((nth a 0).fld 0).toInt (5 : Int)) (PV.bool true) (selB ((eqI ((nth a 0).fld 0).toInt (5 : Int)) == false) (PV.bool (eqI (selB ((eqI ((nth a 0).fld 0).toInt (5 : Int)) == false) ((nth a 0).fld 0) PV.unit).toInt (8 : Int))) PV.unit)).toBool
  (some [((nth a 0).fld 2), (PV.int (1 : Int))])
  ((iff ((selB (eqI ((nth a 0).fld 0).toInt (6 : Int)) (PV.bool true) (selB ((eqI ((nth a 0).fld 0).toInt (6 : Int)) == false) (PV.bool (eqI (selB ((eqI ((nth a 0).fld 0).toInt (6 : Int)) == false) ((nth a 0).fld 0) PV.unit).toInt (20 : Int))) PV.unit)).isB false)
  ((I 102 [(selB ((selB (eqI ((nth a 0).fld 0).toInt (6 : Int)) (PV.bool true) (selB ((eqI ((nth a 0).fld 0).toInt (6 : Int)) == false) (PV.bool (eqI (selB ((eqI ((nth a 0).fld 0).toInt (6 : Int)) == false) ((nth a 0).fld 0) PV.unit).toInt (20 : Int))) PV.unit)).isB false) ((nth a 0).fld 0) PV.unit), (PV.int (12 : Int)), (PV.int (16 : Int))]).bind fun r1 =>
  (some [(nth r1 0), (nth r1 0)]))
  (some [PV.unit, PV.unit])).bind fun g2 =>
  (iff (selB (selB (eqI ((nth a 0).fld 0).toInt (6 : Int)) (PV.bool true) (selB ((eqI ((nth a 0).fld 0).toInt (6 : Int)) == false) (PV.bool (eqI (selB ((eqI ((nth a 0).fld 0).toInt (6 : Int)) == false) ((nth a 0).fld 0) PV.unit).toInt (20 : Int))) PV.unit)).toBool (PV.bool true) (nth g2 0)).toBool
  (some [(PV.int (2 : Int)), (PV.int (1 : Int))])
  (iff (selB (selB (selB (eqI ((nth a 0).fld 0).toInt (7 : Int)) (PV.bool true) (selB ((eqI ((nth a 0).fld 0).toInt (7 : Int)) == false) (PV.bool (eqI (selB ((eqI ((nth a 0).fld 0).toInt (7 : Int)) == false) ((nth a 0).fld 0) PV.unit).toInt (10 : Int))) PV.unit)).toBool (PV.bool true) (selB ((selB (eqI ((nth a 0).fld 0).toInt (7 : Int)) (PV.bool true) (selB ((eqI ((nth a 0).fld 0).toInt (7 : Int)) == false) (PV.bool (eqI (selB ((eqI ((nth a 0).fld 0).toInt (7 : Int)) == false) ((nth a 0).fld 0) PV.unit).toInt (10 : Int))) PV.unit)).isB false) (PV.bool (eqI (selB ((selB (eqI ((nth a 0).fld 0).toInt (7 : Int)) (PV.bool true) (selB ((eqI ((nth a 0).fld 0).toInt (7 : Int)) == false) (PV.bool (eqI (selB ((eqI ((nth a 0).fld 0).toInt (7 : Int)) == false) ((nth a 0).fld 0) PV.unit).toInt (10 : Int))) PV.unit)).isB false) ((nth a 0).fld 0) PV.unit).toInt (11 : Int))) PV.unit)).toBool (PV.bool true) (selB ((selB (selB (eqI ((nth a 0).fld 0).toInt (7 : Int)) (PV.bool true) (selB ((eqI ((nth a 0).fld 0).toInt (7 : Int)) == false) (PV.bool (eqI (selB ((eqI ((nth a 0).fld 0).toInt (7 : Int)) == false) ((nth a 0).fld 0) PV.unit).toInt (10 : Int))) PV.unit)).toBool (PV.bool true) (selB ((selB (eqI ((nth a 0).fld 0).toInt (7 : Int)) (PV.bool true) (selB ((eqI ((nth a 0).fld 0).toInt (7 : Int)) == false) (PV.bool (eqI (selB ((eqI ((nth a 0).fld 0).toInt (7 : Int)) == false) ((nth a 0).fld 0) PV.unit).toInt (10 : Int))) PV.unit)).isB false) (PV.bool (eqI (selB ((selB (eqI ((nth a 0).fld 0).toInt (7 : Int)) (PV.bool true) (selB ((eqI ((nth a 0).fld 0).toInt (7 : Int)) == false) (PV.bool (eqI (selB ((eqI ((nth a 0).fld 0).toInt (7 : Int)) == false) ((nth a 0).fld 0) PV.unit).toInt (10 : Int))) PV.unit)).isB false) ((nth a 0).fld 0) PV.unit).toInt (11 : Int))) PV.unit)).isB false) (PV.bool (eqI (selB ((selB (selB (eqI ((nth a 0).fld 0).toInt (7 : Int)) (PV.bool true) (selB ((eqI ((nth a 0).fld 0).toInt (7 : Int)) == false) (PV.bool (eqI (selB ((eqI ((nth a 0).fld 0).toInt (7 : Int)) == false) ((nth a 0).fld 0) PV.unit).toInt (10 : Int))) PV.unit)).toBool (PV.bool true) (selB ((selB (eqI ((nth a 0).fld 0).toInt (7 : Int)) (PV.bool true) (selB ((eqI ((nth a 0).fld 0).toInt (7 : Int)) == false) (PV.bool (eqI (selB ((eqI ((nth a 0).fld 0).toInt (7 : Int)) == false) ((nth a 0).fld 0) PV.unit).toInt (10 : Int))) PV.unit)).isB false) (PV.bool (eqI (selB ((selB (eqI ((nth a 0).fld 0).toInt (7 : Int)) (PV.bool true) (selB ((eqI ((nth a 0).fld 0).toInt (7 : Int)) == false) (PV.bool (eqI (selB ((eqI ((nth a 0).fld 0).toInt (7 : Int)) == false) ((nth a 0).fld 0) PV.unit).toInt (10 : Int))) PV.unit)).isB false) ((nth a 0).fld 0) PV.unit).toInt (11 : Int))) PV.unit)).isB false) ((nth a 0).fld 0) PV.unit).toInt (18 : Int))) PV.unit)).toBool
  (some [(PV.int (1 : Int)), (PV.int (0 : Int))])
  (iff (selB (eqI ((nth a 0).fld 0).toInt (9 : Int)) (PV.bool true) (selB ((eqI ((nth a 0).fld 0).toInt (9 : Int)) == false) (PV.bool (eqI (selB ((eqI ((nth a 0).fld 0).toInt (9 : Int)) == false) ((nth a 0).fld 0) PV.unit).toInt (17 : Int))) PV.unit)).toBool
  (some [(PV.int (1 : Int)), (PV.int (1 : Int))])
  (some [(PV.int (0 : Int)), (PV.int (0 : Int))]))))))))
theorem e218 : ∀ I n a, (compF Try.prog sg 218).map (fun d => d.ev I n a) = some (F218 I n a) := fun I n a => by kernel_rfl
/-! impl.WordOk -/
def F120 (I : Interp) (n : Nat) (a : List PV) : Option (List PV) :=
  ((I 102 [(nth a 0), (PV.int (-1073741824 : Int)), (PV.int (1073741823 : Int))]).bind fun r0 =>
  (some [(nth r0 0)]))
theorem e120 : ∀ I n a, (compF Try.prog sg 120).map (fun d => d.ev I n a) = some (F120 I n a) := fun I n a => by kernel_rfl
/-! impl.opOk$1 -/
def F197 (I : Interp) (n : Nat) (a : List PV) : Option (List PV) :=
  ((I 102 [(nth a 0), (PV.int (0 : Int)), (PV.int (IntKind.i64.wrap ((((nth a 1).fld 1).toList.length : Int) - (1 : Int))))]).bind fun r0 =>
  (some [(nth r0 0)]))
theorem e197 : ∀ I n a, (compF Try.prog sg 197).map (fun d => d.ev I n a) = some (F197 I n a) := fun I n a => by kernel_rfl
/-! impl.HeapNew -/
def F40 (I : Interp) (n : Nat) (a : List PV) : Option (List PV) :=
  ((I 102 [(nth a 0), (PV.int (1 : Int)), (PV.int (3000 : Int))]).bind fun r0 =>
  (iff (!(nth r0 0).toBool)
  (some [(PV.agg [(PV.list ([] : List PV)), (PV.int (0 : Int)), (PV.int (0 : Int)), (PV.int (0 : Int))]), (PV.bool false)])
  (iff (geI (IntKind.i64.wrap ((2 : Int) * (nth a 0).toInt)) (0 : Int))
  (iff (leI (IntKind.i64.wrap ((2 : Int) * (nth a 0).toInt)) (IntKind.i64.wrap ((2 : Int) * (nth a 0).toInt)))
  (iff (leI (IntKind.i64.wrap ((2 : Int) * (nth a 0).toInt)) (17592186044416 : Int))
  (some [(PV.agg [(PV.list (List.replicate (IntKind.i64.wrap ((2 : Int) * (nth a 0).toInt)).toNat (PV.int (0 : Int)))), (nth a 0), (PV.int (0 : Int)), (PV.int (0 : Int))]), (PV.bool true)])
  none)
  none)
  none)))
theorem e40 : ∀ I n a, (compF Try.prog sg 40).map (fun d => d.ev I n a) = some (F40 I n a) := fun I n a => by kernel_rfl
/-! laws.markFunS -/
def L69_0 (I : Interp) (n : Nat) (p0 : List PV) : Option (Ex × List PV) :=
  (iff (ltI (nth p0 0).toInt ((nth p0 2).toList.length : Int))
  (iff (geI (nth p0 0).toInt (0 : Int))
  (iff (ltI (nth p0 0).toInt ((nth p0 2).toList.length : Int))
  (iff (geI (nth p0 0).toInt (0 : Int))
  (iff (ltI (nth p0 0).toInt (((nth p0 2).toList.set (nth p0 0).toInt.toNat ((nth (nth p0 2).toList (nth p0 0).toInt.toNat).setFld 0 (nth p0 1))).length : Int))
  ((I 145 [((nth ((nth p0 2).toList.set (nth p0 0).toInt.toNat ((nth (nth p0 2).toList (nth p0 0).toInt.toNat).setFld 0 (nth p0 1))) (nth p0 0).toInt.toNat).fld 1), (PV.int (IntKind.i64.wrap ((nth p0 1).toInt + (1 : Int))))]).bind fun r1 =>
  (some (Ex.n, [(PV.int (IntKind.i64.wrap ((nth p0 0).toInt + (1 : Int)))), (nth r1 0), (PV.list (((nth p0 2).toList.set (nth p0 0).toInt.toNat ((nth (nth p0 2).toList (nth p0 0).toInt.toNat).setFld 0 (nth p0 1))).set (nth p0 0).toInt.toNat ((nth ((nth p0 2).toList.set (nth p0 0).toInt.toNat ((nth (nth p0 2).toList (nth p0 0).toInt.toNat).setFld 0 (nth p0 1))) (nth p0 0).toInt.toNat).setFld 1 (nth r1 1))))])))
  none)
  none)
  none)
  none)
  (some (Ex.x 0, [(nth p0 2), (nth p0 1)])))
def F69 (I : Interp) (n : Nat) (a : List PV) : Option (List PV) :=
  (thenN (thenE (loopEv (L69_0 I n) n [(PV.int (0 : Int)), (nth a 1), (nth a 0)])
  (passB 0))
  (fun p2 => (some [(nth p2 1), (nth p2 0)]))
  (retE fun q3 => [(nth q3 1), (nth q3 0)]))
theorem e69 : ∀ I n a, (compF Try.prog sg 69).map (fun d => d.ev I n a) = some (F69 I n a) := fun I n a => by kernel_rfl
/-! laws.markFunS -/
def L4165_0 (I : Interp) (n : Nat) (p0 : List PV) : Option (Ex × List PV) :=
  (iff (ltI (nth p0 0).toInt ((nth p0 1).toList.length : Int))
  (iff (geI (nth p0 0).toInt (0 : Int))
  (iff (ltI (nth p0 0).toInt ((nth p0 1).toList.length : Int))
  (iff (geI (nth p0 0).toInt (0 : Int))
  (iff (ltI (nth p0 0).toInt (((nth p0 1).toList.set (nth p0 0).toInt.toNat ((nth (nth p0 1).toList (nth p0 0).toInt.toNat).setFld 0 (nth p0 2))).length : Int))
  ((I 145 [((nth ((nth p0 1).toList.set (nth p0 0).toInt.toNat ((nth (nth p0 1).toList (nth p0 0).toInt.toNat).setFld 0 (nth p0 2))) (nth p0 0).toInt.toNat).fld 1), (PV.int (IntKind.i64.wrap ((nth p0 2).toInt + (1 : Int))))]).bind fun r1 =>
  (some (Ex.n, [(PV.int (IntKind.i64.wrap ((nth p0 0).toInt + (1 : Int)))), (PV.list (((nth p0 1).toList.set (nth p0 0).toInt.toNat ((nth (nth p0 1).toList (nth p0 0).toInt.toNat).setFld 0 (nth p0 2))).set (nth p0 0).toInt.toNat ((nth ((nth p0 1).toList.set (nth p0 0).toInt.toNat ((nth (nth p0 1).toList (nth p0 0).toInt.toNat).setFld 0 (nth p0 2))) (nth p0 0).toInt.toNat).setFld 1 (nth r1 1)))), (nth r1 0)])))
  none)
  none)
  none)
  none)
  (some (Ex.x 0, [(nth p0 2)])))
def F4165 (I : Interp) (n : Nat) (a : List PV) : Option (List PV) :=
  (thenN (thenE (loopEv (L4165_0 I n) n [(PV.int (0 : Int)), (nth a 0), (nth a 1)])
  (passB 0))
  (fun p2 => (some [(nth p2 0)]))
  (retE fun q3 => [(nth q3 0)]))
theorem e4165 : ∀ I n a, (compF Try.prog sg 4165).map (fun d => d.ev I n a) = some (F4165 I n a) := fun I n a => by kernel_rfl
/-! laws.heldFunS -/
def L70_0 (I : Interp) (n : Nat) (p0 : List PV) : Option (Ex × List PV) :=
  (iff (ltI (nth p0 0).toInt ((nth p0 1).toList.length : Int))
  (iff (geI (nth p0 0).toInt (0 : Int))
  (iff (ltI (nth p0 0).toInt ((nth p0 1).toList.length : Int))
  (iff (neI ((nth (nth p0 1).toList (nth p0 0).toInt.toNat).fld 0).toInt (nth p0 2).toInt)
  (some (Ex.r, [(PV.int (-1 : Int))]))
  (iff (geI (nth p0 0).toInt (0 : Int))
  (iff (ltI (nth p0 0).toInt ((nth p0 1).toList.length : Int))
  ((I 146 [((nth (nth p0 1).toList (nth p0 0).toInt.toNat).fld 1), (PV.int (IntKind.i64.wrap ((nth p0 2).toInt + (1 : Int))))]).bind fun r1 =>
  (iff (ltI (nth r1 0).toInt (0 : Int))
  (some (Ex.r, [(PV.int (-1 : Int))]))
  (some (Ex.n, [(PV.int (IntKind.i64.wrap ((nth p0 0).toInt + (1 : Int)))), (nth p0 1), (nth r1 0)]))))
  none)
  none))
  none)
  none)
  (some (Ex.x 0, [(nth p0 2)])))
def F70 (I : Interp) (n : Nat) (a : List PV) : Option (List PV) :=
  (thenN (thenE (loopEv (L70_0 I n) n [(PV.int (0 : Int)), (nth a 0), (nth a 1)])
  (passB 0))
  (fun p2 => (some [(nth p2 0)]))
  (retE fun q3 => [(nth q3 0)]))
theorem e70 : ∀ I n a, (compF Try.prog sg 70).map (fun d => d.ev I n a) = some (F70 I n a) := fun I n a => by kernel_rfl
/-! spec.l13Tag -/
def F196 (I : Interp) (n : Nat) (a : List PV) : Option (List PV) :=
  ((I 104 [(nth a 0), (PV.int (0 : Int)), (PV.int (19 : Int))]).bind fun r0 =>
  (some [(nth r0 0)]))
theorem e196 : ∀ I n a, (compF Try.prog sg 196).map (fun d => d.ev I n a) = some (F196 I n a) := fun I n a => by kernel_rfl
/-! spec.WordOk -/
def F117 (I : Interp) (n : Nat) (a : List PV) : Option (List PV) :=
  ((I 104 [(nth a 0), (PV.int (-1073741824 : Int)), (PV.int (1073741823 : Int))]).bind fun r0 =>
  (some [(nth r0 0)]))
theorem e117 : ∀ I n a, (compF Try.prog sg 117).map (fun d => d.ev I n a) = some (F117 I n a) := fun I n a => by kernel_rfl
/-! cmp.Less[int] -/
def F194 (I : Interp) (n : Nat) (a : List PV) : Option (List PV) :=
  ((I 220 [(nth a 0)]).bind fun r0 =>
  ((iff ((nth r0 0).isB true)
  ((I 220 [(selB ((nth r0 0).isB true) (nth a 1) PV.unit)]).bind fun r1 =>
  (some [(nth r1 0), (nth r1 0)]))
  (some [PV.unit, PV.unit])).bind fun g2 =>
  (some [(selB (selB (nth r0 0).toBool (selB ((nth r0 0).isB true) (PV.bool (!(nth g2 0).toBool)) PV.unit) (PV.bool false)).toBool (PV.bool true) (selB ((selB (nth r0 0).toBool (selB ((nth r0 0).isB true) (PV.bool (!(nth g2 0).toBool)) PV.unit) (PV.bool false)).isB false) (PV.bool (ltI (selB ((selB (nth r0 0).toBool (selB ((nth r0 0).isB true) (PV.bool (!(nth g2 0).toBool)) PV.unit) (PV.bool false)).isB false) (nth a 0) PV.unit).toInt (selB ((selB (nth r0 0).toBool (selB ((nth r0 0).isB true) (PV.bool (!(nth g2 0).toBool)) PV.unit) (PV.bool false)).isB false) (nth a 1) PV.unit).toInt)) PV.unit))])))
theorem e194 : ∀ I n a, (compF Try.prog sg 194).map (fun d => d.ev I n a) = some (F194 I n a) := fun I n a => by kernel_rfl
/-! spec.HeapNew -/
def F41 (I : Interp) (n : Nat) (a : List PV) : Option (List PV) :=
  ((I 104 [(nth a 0), (PV.int (1 : Int)), (PV.int (3000 : Int))]).bind fun r0 =>
  (iff (!(nth r0 0).toBool)
  (some [(PV.agg [(PV.list ([] : List PV)), (PV.int (0 : Int)), (PV.int (0 : Int)), (PV.int (0 : Int))]), (PV.bool false)])
  (iff (geI (IntKind.i64.wrap ((2 : Int) * (nth a 0).toInt)) (0 : Int))
  (iff (leI (IntKind.i64.wrap ((2 : Int) * (nth a 0).toInt)) (IntKind.i64.wrap ((2 : Int) * (nth a 0).toInt)))
  (iff (leI (IntKind.i64.wrap ((2 : Int) * (nth a 0).toInt)) (17592186044416 : Int))
  (some [(PV.agg [(PV.list (List.replicate (IntKind.i64.wrap ((2 : Int) * (nth a 0).toInt)).toNat (PV.int (0 : Int)))), (nth a 0), (PV.int (0 : Int)), (PV.int (0 : Int))]), (PV.bool true)])
  none)
  none)
  none)))
theorem e41 : ∀ I n a, (compF Try.prog sg 41).map (fun d => d.ev I n a) = some (F41 I n a) := fun I n a => by kernel_rfl
/-! laws.toOpS -/
def L189_0 (I : Interp) (n : Nat) (p0 : List PV) : Option (Ex × List PV) :=
  (iff (ltI (nth p0 0).toInt ((nth p0 1).toList.length : Int))
  (iff (geI (nth p0 0).toInt (0 : Int))
  (iff (ltI (nth p0 0).toInt ((nth p0 1).toList.length : Int))
  ((I 217 [(nth (nth p0 1).toList (nth p0 0).toInt.toNat)]).bind fun r1 =>
  (iff (geI (nth p0 0).toInt (0 : Int))
  (iff (ltI (nth p0 0).toInt ((nth p0 2).toList.length : Int))
  (some (Ex.n, [(PV.int (IntKind.i64.wrap ((nth p0 0).toInt + (1 : Int)))), (nth p0 1), (PV.list ((nth p0 2).toList.set (nth p0 0).toInt.toNat (nth r1 0)))]))
  none)
  none))
  none)
  none)
  (some (Ex.x 0, [(nth p0 2)])))
def F189 (I : Interp) (n : Nat) (a : List PV) : Option (List PV) :=
  (iff (geI ((nth a 0).toList.length : Int) (0 : Int))
  (iff (leI ((nth a 0).toList.length : Int) ((nth a 0).toList.length : Int))
  (iff (leI ((nth a 0).toList.length : Int) (5864062014805 : Int))
  (thenN (thenE (loopEv (L189_0 I n) n [(PV.int (0 : Int)), (nth a 0), (PV.list (List.replicate ((nth a 0).toList.length : Int).toNat (PV.agg [(PV.int (0 : Int)), (PV.int (0 : Int)), (PV.int (0 : Int))])))])
  (passB 0))
  (fun p2 => (some [(nth p2 0)]))
  (retE fun q3 => [(nth q3 0)]))
  none)
  none)
  none)
theorem e189 : ∀ I n a, (compF Try.prog sg 189).map (fun d => d.ev I n a) = some (F189 I n a) := fun I n a => by kernel_rfl
/-! laws.szFun -/
def F149 (I : Interp) (n : Nat) (a : List PV) : Option (List PV) :=
  ((I 187 [((nth a 0).fld 1), (nth a 1)]).bind fun r0 =>
  (iff (ltI (nth r0 0).toInt (0 : Int))
  (some [(PV.int (-1 : Int))])
  (some [(nth r0 0)])))
theorem e149 : ∀ I n a, (compF Try.prog sg 149).map (fun d => d.ev I n a) = some (F149 I n a) := fun I n a => by kernel_rfl
/-! spec.l17Places -/
def L79_0 (I : Interp) (n : Nat) (p0 : List PV) : Option (Ex × List PV) :=
  (iff (ltI (nth p0 0).toInt ((nth p0 2).fld 3).toInt)
  (iff (geI (nth p0 0).toInt (0 : Int))
  (iff (ltI (nth p0 0).toInt (((nth p0 2).fld 0).toList.length : Int))
  ((I 109 [(nth ((nth p0 2).fld 0).toList (nth p0 0).toInt.toNat)]).bind fun r1 =>
  ((iff ((ltI (nth ((nth p0 2).fld 0).toList (nth p0 0).toInt.toNat).toInt (0 : Int)) == false)
  ((I 156 [(selB ((ltI (nth ((nth p0 2).fld 0).toList (nth p0 0).toInt.toNat).toInt (0 : Int)) == false) (nth ((nth p0 2).fld 0).toList (nth p0 0).toInt.toNat) PV.unit)]).bind fun r2 =>
  (some [(nth r2 0), (nth r2 0)]))
  (some [PV.unit, PV.unit])).bind fun g3 =>
  (iff (selB (selB (selB (selB (ltI (nth ((nth p0 2).fld 0).toList (nth p0 0).toInt.toNat).toInt (0 : Int)) (PV.bool true) (nth g3 0)).toBool (PV.bool true) (selB ((selB (ltI (nth ((nth p0 2).fld 0).toList (nth p0 0).toInt.toNat).toInt (0 : Int)) (PV.bool true) (nth g3 0)).isB false) (PV.bool (gtI (selB ((selB (ltI (nth ((nth p0 2).fld 0).toList (nth p0 0).toInt.toNat).toInt (0 : Int)) (PV.bool true) (nth g3 0)).isB false) (nth r1 1) PV.unit).toInt (3000 : Int))) PV.unit)).toBool (PV.bool true) (selB ((selB (selB (ltI (nth ((nth p0 2).fld 0).toList (nth p0 0).toInt.toNat).toInt (0 : Int)) (PV.bool true) (nth g3 0)).toBool (PV.bool true) (selB ((selB (ltI (nth ((nth p0 2).fld 0).toList (nth p0 0).toInt.toNat).toInt (0 : Int)) (PV.bool true) (nth g3 0)).isB false) (PV.bool (gtI (selB ((selB (ltI (nth ((nth p0 2).fld 0).toList (nth p0 0).toInt.toNat).toInt (0 : Int)) (PV.bool true) (nth g3 0)).isB false) (nth r1 1) PV.unit).toInt (3000 : Int))) PV.unit)).isB false) (PV.bool (gtI (selB ((selB (selB (ltI (nth ((nth p0 2).fld 0).toList (nth p0 0).toInt.toNat).toInt (0 : Int)) (PV.bool true) (nth g3 0)).toBool (PV.bool true) (selB ((selB (ltI (nth ((nth p0 2).fld 0).toList (nth p0 0).toInt.toNat).toInt (0 : Int)) (PV.bool true) (nth g3 0)).isB false) (PV.bool (gtI (selB ((selB (ltI (nth ((nth p0 2).fld 0).toList (nth p0 0).toInt.toNat).toInt (0 : Int)) (PV.bool true) (nth g3 0)).isB false) (nth r1 1) PV.unit).toInt (3000 : Int))) PV.unit)).isB false) (nth r1 2) PV.unit).toInt (20 : Int))) PV.unit)).toBool (PV.bool true) (selB ((selB (selB (selB (ltI (nth ((nth p0 2).fld 0).toList (nth p0 0).toInt.toNat).toInt (0 : Int)) (PV.bool true) (nth g3 0)).toBool (PV.bool true) (selB ((selB (ltI (nth ((nth p0 2).fld 0).toList (nth p0 0).toInt.toNat).toInt (0 : Int)) (PV.bool true) (nth g3 0)).isB false) (PV.bool (gtI (selB ((selB (ltI (nth ((nth p0 2).fld 0).toList (nth p0 0).toInt.toNat).toInt (0 : Int)) (PV.bool true) (nth g3 0)).isB false) (nth r1 1) PV.unit).toInt (3000 : Int))) PV.unit)).toBool (PV.bool true) (selB ((selB (selB (ltI (nth ((nth p0 2).fld 0).toList (nth p0 0).toInt.toNat).toInt (0 : Int)) (PV.bool true) (nth g3 0)).toBool (PV.bool true) (selB ((selB (ltI (nth ((nth p0 2).fld 0).toList (nth p0 0).toInt.toNat).toInt (0 : Int)) (PV.bool true) (nth g3 0)).isB false) (PV.bool (gtI (selB ((selB (ltI (nth ((nth p0 2).fld 0).toList (nth p0 0).toInt.toNat).toInt (0 : Int)) (PV.bool true) (nth g3 0)).isB false) (nth r1 1) PV.unit).toInt (3000 : Int))) PV.unit)).isB false) (PV.bool (gtI (selB ((selB (selB (ltI (nth ((nth p0 2).fld 0).toList (nth p0 0).toInt.toNat).toInt (0 : Int)) (PV.bool true) (nth g3 0)).toBool (PV.bool true) (selB ((selB (ltI (nth ((nth p0 2).fld 0).toList (nth p0 0).toInt.toNat).toInt (0 : Int)) (PV.bool true) (nth g3 0)).isB false) (PV.bool (gtI (selB ((selB (ltI (nth ((nth p0 2).fld 0).toList (nth p0 0).toInt.toNat).toInt (0 : Int)) (PV.bool true) (nth g3 0)).isB false) (nth r1 1) PV.unit).toInt (3000 : Int))) PV.unit)).isB false) (nth r1 2) PV.unit).toInt (20 : Int))) PV.unit)).isB false) (PV.bool (geI (selB ((selB (selB (selB (ltI (nth ((nth p0 2).fld 0).toList (nth p0 0).toInt.toNat).toInt (0 : Int)) (PV.bool true) (nth g3 0)).toBool (PV.bool true) (selB ((selB (ltI (nth ((nth p0 2).fld 0).toList (nth p0 0).toInt.toNat).toInt (0 : Int)) (PV.bool true) (nth g3 0)).isB false) (PV.bool (gtI (selB ((selB (ltI (nth ((nth p0 2).fld 0).toList (nth p0 0).toInt.toNat).toInt (0 : Int)) (PV.bool true) (nth g3 0)).isB false) (nth r1 1) PV.unit).toInt (3000 : Int))) PV.unit)).toBool (PV.bool true) (selB ((selB (selB (ltI (nth ((nth p0 2).fld 0).toList (nth p0 0).toInt.toNat).toInt (0 : Int)) (PV.bool true) (nth g3 0)).toBool (PV.bool true) (selB ((selB (ltI (nth ((nth p0 2).fld 0).toList (nth p0 0).toInt.toNat).toInt (0 : Int)) (PV.bool true) (nth g3 0)).isB false) (PV.bool (gtI (selB ((selB (ltI (nth ((nth p0 2).fld 0).toList (nth p0 0).toInt.toNat).toInt (0 : Int)) (PV.bool true) (nth g3 0)).isB false) (nth r1 1) PV.unit).toInt (3000 : Int))) PV.unit)).isB false) (PV.bool (gtI (selB ((selB (selB (ltI (nth ((nth p0 2).fld 0).toList (nth p0 0).toInt.toNat).toInt (0 : Int)) (PV.bool true) (nth g3 0)).toBool (PV.bool true) (selB ((selB (ltI (nth ((nth p0 2).fld 0).toList (nth p0 0).toInt.toNat).toInt (0 : Int)) (PV.bool true) (nth g3 0)).isB false) (PV.bool (gtI (selB ((selB (ltI (nth ((nth p0 2).fld 0).toList (nth p0 0).toInt.toNat).toInt (0 : Int)) (PV.bool true) (nth g3 0)).isB false) (nth r1 1) PV.unit).toInt (3000 : Int))) PV.unit)).isB false) (nth r1 2) PV.unit).toInt (20 : Int))) PV.unit)).isB false) (nth r1 2) PV.unit).toInt (selB ((selB (selB (selB (ltI (nth ((nth p0 2).fld 0).toList (nth p0 0).toInt.toNat).toInt (0 : Int)) (PV.bool true) (nth g3 0)).toBool (PV.bool true) (selB ((selB (ltI (nth ((nth p0 2).fld 0).toList (nth p0 0).toInt.toNat).toInt (0 : Int)) (PV.bool true) (nth g3 0)).isB false) (PV.bool (gtI (selB ((selB (ltI (nth ((nth p0 2).fld 0).toList (nth p0 0).toInt.toNat).toInt (0 : Int)) (PV.bool true) (nth g3 0)).isB false) (nth r1 1) PV.unit).toInt (3000 : Int))) PV.unit)).toBool (PV.bool true) (selB ((selB (selB (ltI (nth ((nth p0 2).fld 0).toList (nth p0 0).toInt.toNat).toInt (0 : Int)) (PV.bool true) (nth g3 0)).toBool (PV.bool true) (selB ((selB (ltI (nth ((nth p0 2).fld 0).toList (nth p0 0).toInt.toNat).toInt (0 : Int)) (PV.bool true) (nth g3 0)).isB false) (PV.bool (gtI (selB ((selB (ltI (nth ((nth p0 2).fld 0).toList (nth p0 0).toInt.toNat).toInt (0 : Int)) (PV.bool true) (nth g3 0)).isB false) (nth r1 1) PV.unit).toInt (3000 : Int))) PV.unit)).isB false) (PV.bool (gtI (selB ((selB (selB (ltI (nth ((nth p0 2).fld 0).toList (nth p0 0).toInt.toNat).toInt (0 : Int)) (PV.bool true) (nth g3 0)).toBool (PV.bool true) (selB ((selB (ltI (nth ((nth p0 2).fld 0).toList (nth p0 0).toInt.toNat).toInt (0 : Int)) (PV.bool true) (nth g3 0)).isB false) (PV.bool (gtI (selB ((selB (ltI (nth ((nth p0 2).fld 0).toList (nth p0 0).toInt.toNat).toInt (0 : Int)) (PV.bool true) (nth g3 0)).isB false) (nth r1 1) PV.unit).toInt (3000 : Int))) PV.unit)).isB false) (nth r1 2) PV.unit).toInt (20 : Int))) PV.unit)).isB false) (PV.int (IntKind.i64.wrap ((selB ((selB (selB (selB (ltI (nth ((nth p0 2).fld 0).toList (nth p0 0).toInt.toNat).toInt (0 : Int)) (PV.bool true) (nth g3 0)).toBool (PV.bool true) (selB ((selB (ltI (nth ((nth p0 2).fld 0).toList (nth p0 0).toInt.toNat).toInt (0 : Int)) (PV.bool true) (nth g3 0)).isB false) (PV.bool (gtI (selB ((selB (ltI (nth ((nth p0 2).fld 0).toList (nth p0 0).toInt.toNat).toInt (0 : Int)) (PV.bool true) (nth g3 0)).isB false) (nth r1 1) PV.unit).toInt (3000 : Int))) PV.unit)).toBool (PV.bool true) (selB ((selB (selB (ltI (nth ((nth p0 2).fld 0).toList (nth p0 0).toInt.toNat).toInt (0 : Int)) (PV.bool true) (nth g3 0)).toBool (PV.bool true) (selB ((selB (ltI (nth ((nth p0 2).fld 0).toList (nth p0 0).toInt.toNat).toInt (0 : Int)) (PV.bool true) (nth g3 0)).isB false) (PV.bool (gtI (selB ((selB (ltI (nth ((nth p0 2).fld 0).toList (nth p0 0).toInt.toNat).toInt (0 : Int)) (PV.bool true) (nth g3 0)).isB false) (nth r1 1) PV.unit).toInt (3000 : Int))) PV.unit)).isB false) (PV.bool (gtI (selB ((selB (selB (ltI (nth ((nth p0 2).fld 0).toList (nth p0 0).toInt.toNat).toInt (0 : Int)) (PV.bool true) (nth g3 0)).toBool (PV.bool true) (selB ((selB (ltI (nth ((nth p0 2).fld 0).toList (nth p0 0).toInt.toNat).toInt (0 : Int)) (PV.bool true) (nth g3 0)).isB false) (PV.bool (gtI (selB ((selB (ltI (nth ((nth p0 2).fld 0).toList (nth p0 0).toInt.toNat).toInt (0 : Int)) (PV.bool true) (nth g3 0)).isB false) (nth r1 1) PV.unit).toInt (3000 : Int))) PV.unit)).isB false) (nth r1 2) PV.unit).toInt (20 : Int))) PV.unit)).isB false) ((nth p0 2).fld 3) PV.unit).toInt - (selB ((selB (selB (selB (ltI (nth ((nth p0 2).fld 0).toList (nth p0 0).toInt.toNat).toInt (0 : Int)) (PV.bool true) (nth g3 0)).toBool (PV.bool true) (selB ((selB (ltI (nth ((nth p0 2).fld 0).toList (nth p0 0).toInt.toNat).toInt (0 : Int)) (PV.bool true) (nth g3 0)).isB false) (PV.bool (gtI (selB ((selB (ltI (nth ((nth p0 2).fld 0).toList (nth p0 0).toInt.toNat).toInt (0 : Int)) (PV.bool true) (nth g3 0)).isB false) (nth r1 1) PV.unit).toInt (3000 : Int))) PV.unit)).toBool (PV.bool true) (selB ((selB (selB (ltI (nth ((nth p0 2).fld 0).toList (nth p0 0).toInt.toNat).toInt (0 : Int)) (PV.bool true) (nth g3 0)).toBool (PV.bool true) (selB ((selB (ltI (nth ((nth p0 2).fld 0).toList (nth p0 0).toInt.toNat).toInt (0 : Int)) (PV.bool true) (nth g3 0)).isB false) (PV.bool (gtI (selB ((selB (ltI (nth ((nth p0 2).fld 0).toList (nth p0 0).toInt.toNat).toInt (0 : Int)) (PV.bool true) (nth g3 0)).isB false) (nth r1 1) PV.unit).toInt (3000 : Int))) PV.unit)).isB false) (PV.bool (gtI (selB ((selB (selB (ltI (nth ((nth p0 2).fld 0).toList (nth p0 0).toInt.toNat).toInt (0 : Int)) (PV.bool true) (nth g3 0)).toBool (PV.bool true) (selB ((selB (ltI (nth ((nth p0 2).fld 0).toList (nth p0 0).toInt.toNat).toInt (0 : Int)) (PV.bool true) (nth g3 0)).isB false) (PV.bool (gtI (selB ((selB (ltI (nth ((nth p0 2).fld 0).toList (nth p0 0).toInt.toNat).toInt (0 : Int)) (PV.bool true) (nth g3 0)).isB false) (nth r1 1) PV.unit).toInt (3000 : Int))) PV.unit)).isB false) (nth r1 2) PV.unit).toInt (20 : Int))) PV.unit)).isB false) (nth p0 0) PV.unit).toInt))) PV.unit).toInt)) PV.unit)).toBool
  (some (Ex.r, [(nth p0 1), (PV.bool false)]))
  (iff (leN ((nth p0 1).toList.length + ((nth p0 0) :: ([] : List PV)).length) 17592186044416)
  (some (Ex.n, [(PV.int (IntKind.i64.wrap ((IntKind.i64.wrap ((nth p0 0).toInt + (1 : Int))) + (nth r1 2).toInt))), (PV.list ((nth p0 1).toList ++ ((nth p0 0) :: ([] : List PV)))), (nth p0 2)]))
  none))))
  none)
  none)
  (some (Ex.x 0, [(nth p0 1)])))
def F79 (I : Interp) (n : Nat) (a : List PV) : Option (List PV) :=
  (thenN (thenE (loopEv (L79_0 I n) n [((nth a 0).fld 2), (PV.list ([] : List PV)), (nth a 0)])
  (passB 0))
  (fun p4 => (some [(nth p4 0), (PV.bool true)]))
  (retE fun q5 => [(nth q5 0), (nth q5 1)]))
theorem e79 : ∀ I n a, (compF Try.prog sg 79).map (fun d => d.ev I n a) = some (F79 I n a) := fun I n a => by kernel_rfl
/-! laws.toFun -/
def F152 (I : Interp) (n : Nat) (a : List PV) : Option (List PV) :=
  ((I 189 [((nth a 0).fld 1)]).bind fun r0 =>
  (some [(PV.agg [((nth a 0).fld 0), (nth r0 0)])]))
theorem e152 : ∀ I n a, (compF Try.prog sg 152).map (fun d => d.ev I n a) = some (F152 I n a) := fun I n a => by kernel_rfl
/-! spec.l15One -/
def F216 (I : Interp) (n : Nat) (a : List PV) : Option (List PV) :=
  (iff (geI (nth a 2).toInt (0 : Int))
  (iff (ltI (nth a 2).toInt ((nth a 1).toList.length : Int))
  (iff (geI (nth a 2).toInt (0 : Int))
  (iff (ltI (nth a 2).toInt (((nth a 0).fld 0).toList.length : Int))
  ((I 226 [(nth (nth a 1).toList (nth a 2).toInt.toNat)]).bind fun r0 =>
  (letB (selB ((gtI (nth r0 0).toInt (IntKind.i64.wrap ((nth ((nth a 0).fld 0).toList (nth a 2).toInt.toNat).toInt - (1 : Int)))) == false) (selB (selB ((gtI (nth r0 0).toInt (IntKind.i64.wrap ((nth ((nth a 0).fld 0).toList (nth a 2).toInt.toNat).toInt - (1 : Int)))) == false) (selB ((gtI (nth r0 0).toInt (IntKind.i64.wrap ((nth ((nth a 0).fld 0).toList (nth a 2).toInt.toNat).toInt - (1 : Int)))) == false) (PV.bool (eqI (selB ((gtI (nth r0 0).toInt (IntKind.i64.wrap ((nth ((nth a 0).fld 0).toList (nth a 2).toInt.toNat).toInt - (1 : Int)))) == false) ((nth (nth a 1).toList (nth a 2).toInt.toNat).fld 0) PV.unit).toInt (2 : Int))) PV.unit) PV.unit).toBool (selB ((selB ((gtI (nth r0 0).toInt (IntKind.i64.wrap ((nth ((nth a 0).fld 0).toList (nth a 2).toInt.toNat).toInt - (1 : Int)))) == false) (selB ((gtI (nth r0 0).toInt (IntKind.i64.wrap ((nth ((nth a 0).fld 0).toList (nth a 2).toInt.toNat).toInt - (1 : Int)))) == false) (PV.bool (eqI (selB ((gtI (nth r0 0).toInt (IntKind.i64.wrap ((nth ((nth a 0).fld 0).toList (nth a 2).toInt.toNat).toInt - (1 : Int)))) == false) ((nth (nth a 1).toList (nth a 2).toInt.toNat).fld 0) PV.unit).toInt (2 : Int))) PV.unit) PV.unit).isB true) (PV.bool (geI (selB ((selB ((gtI (nth r0 0).toInt (IntKind.i64.wrap ((nth ((nth a 0).fld 0).toList (nth a 2).toInt.toNat).toInt - (1 : Int)))) == false) (selB ((gtI (nth r0 0).toInt (IntKind.i64.wrap ((nth ((nth a 0).fld 0).toList (nth a 2).toInt.toNat).toInt - (1 : Int)))) == false) (PV.bool (eqI (selB ((gtI (nth r0 0).toInt (IntKind.i64.wrap ((nth ((nth a 0).fld 0).toList (nth a 2).toInt.toNat).toInt - (1 : Int)))) == false) ((nth (nth a 1).toList (nth a 2).toInt.toNat).fld 0) PV.unit).toInt (2 : Int))) PV.unit) PV.unit).isB true) ((nth (nth a 1).toList (nth a 2).toInt.toNat).fld 1) PV.unit).toInt (selB ((selB ((gtI (nth r0 0).toInt (IntKind.i64.wrap ((nth ((nth a 0).fld 0).toList (nth a 2).toInt.toNat).toInt - (1 : Int)))) == false) (selB ((gtI (nth r0 0).toInt (IntKind.i64.wrap ((nth ((nth a 0).fld 0).toList (nth a 2).toInt.toNat).toInt - (1 : Int)))) == false) (PV.bool (eqI (selB ((gtI (nth r0 0).toInt (IntKind.i64.wrap ((nth ((nth a 0).fld 0).toList (nth a 2).toInt.toNat).toInt - (1 : Int)))) == false) ((nth (nth a 1).toList (nth a 2).toInt.toNat).fld 0) PV.unit).toInt (2 : Int))) PV.unit) PV.unit).isB true) (nth ((nth a 0).fld 0).toList (nth a 2).toInt.toNat) PV.unit).toInt)) PV.unit) (PV.bool false)) PV.unit) fun v1 =>
  (letB (selB (gtI (nth r0 0).toInt (IntKind.i64.wrap ((nth ((nth a 0).fld 0).toList (nth a 2).toInt.toNat).toInt - (1 : Int)))) (PV.bool true) v1) fun v2 =>
  (letB (selB (v2.isB false) (selB (selB (v2.isB false) (selB (v2.isB false) (PV.bool (eqI (selB (v2.isB false) ((nth (nth a 1).toList (nth a 2).toInt.toNat).fld 0) PV.unit).toInt (7 : Int))) PV.unit) PV.unit).toBool (selB ((selB (v2.isB false) (selB (v2.isB false) (PV.bool (eqI (selB (v2.isB false) ((nth (nth a 1).toList (nth a 2).toInt.toNat).fld 0) PV.unit).toInt (7 : Int))) PV.unit) PV.unit).isB true) (PV.bool (neI (selB ((selB (v2.isB false) (selB (v2.isB false) (PV.bool (eqI (selB (v2.isB false) ((nth (nth a 1).toList (nth a 2).toInt.toNat).fld 0) PV.unit).toInt (7 : Int))) PV.unit) PV.unit).isB true) (nth ((nth a 0).fld 0).toList (nth a 2).toInt.toNat) PV.unit).toInt (2 : Int))) PV.unit) (PV.bool false)) PV.unit) fun v3 =>
  (letB (selB v2.toBool (PV.bool true) v3) fun v4 =>
  (iff v4.toBool
  (some [((nth a 0).setFld 2 (PV.bool false))])
  (thenN (thenN (iff (eqI ((nth (nth a 1).toList (nth a 2).toInt.toNat).fld 0).toInt (7 : Int))
  (some (Ex.n, [(PV.bool (eqI ((nth (nth a 1).toList (nth a 2).toInt.toNat).fld 0).toInt (7 : Int))), ((nth (nth a 1).toList (nth a 2).toInt.toNat).fld 0), (nth a 2), (PV.int (IntKind.i64.wrap ((IntKind.i64.wrap ((nth ((nth a 0).fld 0).toList (nth a 2).toInt.toNat).toInt - (nth r0 0).toInt)) + (nth r0 1).toInt))), (nth (nth a 1).toList (nth a 2).toInt.toNat), (nth a 0)]))
  (some (Ex.n, [(PV.bool (eqI ((nth (nth a 1).toList (nth a 2).toInt.toNat).fld 0).toInt (21 : Int))), ((nth (nth a 1).toList (nth a 2).toInt.toNat).fld 0), (nth a 2), (PV.int (IntKind.i64.wrap ((IntKind.i64.wrap ((nth ((nth a 0).fld 0).toList (nth a 2).toInt.toNat).toInt - (nth r0 0).toInt)) + (nth r0 1).toInt))), (nth (nth a 1).toList (nth a 2).toInt.toNat), (nth a 0)])))
  (fun p5 => (iff (nth p5 0).toBool
  (some (Ex.r, [(nth p5 5)]))
  (iff (eqI (nth p5 1).toInt (19 : Int))
  ((I 215 [(nth p5 5), ((nth p5 4).fld 1), (nth p5 3)]).bind fun r6 =>
  (some (Ex.r, [(nth r6 0)])))
  (iff (eqI (nth p5 1).toInt (18 : Int))
  ((I 215 [(nth p5 5), ((nth p5 4).fld 1), (nth p5 3)]).bind fun r7 =>
  (some (Ex.n, [(nth p5 2), (nth p5 3), (nth r7 0)])))
  (thenN (iff (eqI (nth p5 1).toInt (10 : Int))
  (some (Ex.n, [(PV.bool (eqI (nth p5 1).toInt (10 : Int))), (nth p5 2), (nth p5 3), (nth p5 4), (nth p5 5)]))
  (some (Ex.n, [(PV.bool (eqI (nth p5 1).toInt (11 : Int))), (nth p5 2), (nth p5 3), (nth p5 4), (nth p5 5)])))
  (fun p8 => (iff (nth p8 0).toBool
  ((I 215 [(nth p8 4), ((nth p8 3).fld 2), (nth p8 2)]).bind fun r9 =>
  (some (Ex.n, [(nth p8 1), (nth p8 2), (nth r9 0)])))
  (some (Ex.n, [(nth p8 1), (nth p8 2), (nth p8 4)]))))
  passE)))))
  passE)
  (fun p10 => ((I 215 [(nth p10 2), (PV.int (IntKind.i64.wrap ((nth p10 0).toInt + (1 : Int)))), (nth p10 1)]).bind fun r11 =>
  (some [(nth r11 0)])))
  (retE fun q12 => [(nth q12 0)]))))))))
  none)
  none)
  none)
  none)
theorem e216 : ∀ I n a, (compF Try.prog sg 216).map (fun d => d.ev I n a) = some (F216 I n a) := fun I n a => ew_ev (g := F216) (fun I n a => by kernel_rfl) I n a
/-! spec.l15One -/
def F4312 (I : Interp) (n : Nat) (a : List PV) : Option (List PV) :=
  (iff (geI (nth a 2).toInt (0 : Int))
  (iff (ltI (nth a 2).toInt ((nth a 1).toList.length : Int))
  (iff (geI (nth a 2).toInt (0 : Int))
  (iff (ltI (nth a 2).toInt (((nth a 0).fld 0).toList.length : Int))
  ((I 226 [(nth (nth a 1).toList (nth a 2).toInt.toNat)]).bind fun r0 =>
  (letB (selB ((gtI (nth r0 0).toInt (IntKind.i64.wrap ((nth ((nth a 0).fld 0).toList (nth a 2).toInt.toNat).toInt - (1 : Int)))) == false) (selB (selB ((gtI (nth r0 0).toInt (IntKind.i64.wrap ((nth ((nth a 0).fld 0).toList (nth a 2).toInt.toNat).toInt - (1 : Int)))) == false) (selB ((gtI (nth r0 0).toInt (IntKind.i64.wrap ((nth ((nth a 0).fld 0).toList (nth a 2).toInt.toNat).toInt - (1 : Int)))) == false) (PV.bool (eqI (selB ((gtI (nth r0 0).toInt (IntKind.i64.wrap ((nth ((nth a 0).fld 0).toList (nth a 2).toInt.toNat).toInt - (1 : Int)))) == false) ((nth (nth a 1).toList (nth a 2).toInt.toNat).fld 0) PV.unit).toInt (2 : Int))) PV.unit) PV.unit).toBool (selB ((selB ((gtI (nth r0 0).toInt (IntKind.i64.wrap ((nth ((nth a 0).fld 0).toList (nth a 2).toInt.toNat).toInt - (1 : Int)))) == false) (selB ((gtI (nth r0 0).toInt (IntKind.i64.wrap ((nth ((nth a 0).fld 0).toList (nth a 2).toInt.toNat).toInt - (1 : Int)))) == false) (PV.bool (eqI (selB ((gtI (nth r0 0).toInt (IntKind.i64.wrap ((nth ((nth a 0).fld 0).toList (nth a 2).toInt.toNat).toInt - (1 : Int)))) == false) ((nth (nth a 1).toList (nth a 2).toInt.toNat).fld 0) PV.unit).toInt (2 : Int))) PV.unit) PV.unit).isB true) (PV.bool (geI (selB ((selB ((gtI (nth r0 0).toInt (IntKind.i64.wrap ((nth ((nth a 0).fld 0).toList (nth a 2).toInt.toNat).toInt - (1 : Int)))) == false) (selB ((gtI (nth r0 0).toInt (IntKind.i64.wrap ((nth ((nth a 0).fld 0).toList (nth a 2).toInt.toNat).toInt - (1 : Int)))) == false) (PV.bool (eqI (selB ((gtI (nth r0 0).toInt (IntKind.i64.wrap ((nth ((nth a 0).fld 0).toList (nth a 2).toInt.toNat).toInt - (1 : Int)))) == false) ((nth (nth a 1).toList (nth a 2).toInt.toNat).fld 0) PV.unit).toInt (2 : Int))) PV.unit) PV.unit).isB true) ((nth (nth a 1).toList (nth a 2).toInt.toNat).fld 1) PV.unit).toInt (selB ((selB ((gtI (nth r0 0).toInt (IntKind.i64.wrap ((nth ((nth a 0).fld 0).toList (nth a 2).toInt.toNat).toInt - (1 : Int)))) == false) (selB ((gtI (nth r0 0).toInt (IntKind.i64.wrap ((nth ((nth a 0).fld 0).toList (nth a 2).toInt.toNat).toInt - (1 : Int)))) == false) (PV.bool (eqI (selB ((gtI (nth r0 0).toInt (IntKind.i64.wrap ((nth ((nth a 0).fld 0).toList (nth a 2).toInt.toNat).toInt - (1 : Int)))) == false) ((nth (nth a 1).toList (nth a 2).toInt.toNat).fld 0) PV.unit).toInt (2 : Int))) PV.unit) PV.unit).isB true) (nth ((nth a 0).fld 0).toList (nth a 2).toInt.toNat) PV.unit).toInt)) PV.unit) (PV.bool false)) PV.unit) fun v1 =>
  (letB (selB (gtI (nth r0 0).toInt (IntKind.i64.wrap ((nth ((nth a 0).fld 0).toList (nth a 2).toInt.toNat).toInt - (1 : Int)))) (PV.bool true) v1) fun v2 =>
  (letB (selB (v2.isB false) (selB (selB (v2.isB false) (selB (v2.isB false) (PV.bool (eqI (selB (v2.isB false) ((nth (nth a 1).toList (nth a 2).toInt.toNat).fld 0) PV.unit).toInt (7 : Int))) PV.unit) PV.unit).toBool (selB ((selB (v2.isB false) (selB (v2.isB false) (PV.bool (eqI (selB (v2.isB false) ((nth (nth a 1).toList (nth a 2).toInt.toNat).fld 0) PV.unit).toInt (7 : Int))) PV.unit) PV.unit).isB true) (PV.bool (neI (selB ((selB (v2.isB false) (selB (v2.isB false) (PV.bool (eqI (selB (v2.isB false) ((nth (nth a 1).toList (nth a 2).toInt.toNat).fld 0) PV.unit).toInt (7 : Int))) PV.unit) PV.unit).isB true) (nth ((nth a 0).fld 0).toList (nth a 2).toInt.toNat) PV.unit).toInt (2 : Int))) PV.unit) (PV.bool false)) PV.unit) fun v3 =>
  (letB (selB v2.toBool (PV.bool true) v3) fun v4 =>
  (iff v4.toBool
  (some [((nth a 0).setFld 2 (PV.bool false)), (nth a 1)])
  (thenN (thenN (iff (eqI ((nth (nth a 1).toList (nth a 2).toInt.toNat).fld 0).toInt (7 : Int))
  (some (Ex.n, [(nth a 1), (PV.bool (eqI ((nth (nth a 1).toList (nth a 2).toInt.toNat).fld 0).toInt (7 : Int))), ((nth (nth a 1).toList (nth a 2).toInt.toNat).fld 0), (nth a 2), (PV.int (IntKind.i64.wrap ((IntKind.i64.wrap ((nth ((nth a 0).fld 0).toList (nth a 2).toInt.toNat).toInt - (nth r0 0).toInt)) + (nth r0 1).toInt))), (nth (nth a 1).toList (nth a 2).toInt.toNat), (nth a 0)]))
  (some (Ex.n, [(nth a 1), (PV.bool (eqI ((nth (nth a 1).toList (nth a 2).toInt.toNat).fld 0).toInt (21 : Int))), ((nth (nth a 1).toList (nth a 2).toInt.toNat).fld 0), (nth a 2), (PV.int (IntKind.i64.wrap ((IntKind.i64.wrap ((nth ((nth a 0).fld 0).toList (nth a 2).toInt.toNat).toInt - (nth r0 0).toInt)) + (nth r0 1).toInt))), (nth (nth a 1).toList (nth a 2).toInt.toNat), (nth a 0)])))
  (fun p5 => (iff (nth p5 1).toBool
  (some (Ex.r, [(nth p5 0), (nth p5 6)]))
  (iff (eqI (nth p5 2).toInt (19 : Int))
  ((I 215 [(nth p5 6), ((nth p5 5).fld 1), (nth p5 4)]).bind fun r6 =>
  (some (Ex.r, [(nth p5 0), (nth r6 0)])))
  (iff (eqI (nth p5 2).toInt (18 : Int))
  ((I 215 [(nth p5 6), ((nth p5 5).fld 1), (nth p5 4)]).bind fun r7 =>
  (some (Ex.n, [(nth p5 0), (nth p5 3), (nth p5 4), (nth r7 0)])))
  (thenN (iff (eqI (nth p5 2).toInt (10 : Int))
  (some (Ex.n, [(nth p5 0), (PV.bool (eqI (nth p5 2).toInt (10 : Int))), (nth p5 3), (nth p5 4), (nth p5 5), (nth p5 6)]))
  (some (Ex.n, [(nth p5 0), (PV.bool (eqI (nth p5 2).toInt (11 : Int))), (nth p5 3), (nth p5 4), (nth p5 5), (nth p5 6)])))
  (fun p8 => (iff (nth p8 1).toBool
  ((I 215 [(nth p8 5), ((nth p8 4).fld 2), (nth p8 3)]).bind fun r9 =>
  (some (Ex.n, [(nth p8 0), (nth p8 2), (nth p8 3), (nth r9 0)])))
  (some (Ex.n, [(nth p8 0), (nth p8 2), (nth p8 3), (nth p8 5)]))))
  passE)))))
  passE)
  (fun p10 => ((I 215 [(nth p10 3), (PV.int (IntKind.i64.wrap ((nth p10 1).toInt + (1 : Int)))), (nth p10 2)]).bind fun r11 =>
  (some [(nth r11 0), (nth p10 0)])))
  (retE fun q12 => [(nth q12 1), (nth q12 0)]))))))))
  none)
  none)
  none)
  none)
theorem e4312 : ∀ I n a, (compF Try.prog sg 4312).map (fun d => d.ev I n a) = some (F4312 I n a) := fun I n a => ew_ev (g := F4312) (fun I n a => by kernel_rfl) I n a
/-! spec.l15One -/
def F8408 (I : Interp) (n : Nat) (a : List PV) : Option (List PV) :=
  (iff (geI (nth a 2).toInt (0 : Int))
  (iff (ltI (nth a 2).toInt ((nth a 1).toList.length : Int))
  (iff (geI (nth a 2).toInt (0 : Int))
  (iff (ltI (nth a 2).toInt (((nth a 0).fld 0).toList.length : Int))
  ((I 226 [(nth (nth a 1).toList (nth a 2).toInt.toNat)]).bind fun r0 =>
  (letB (selB ((gtI (nth r0 0).toInt (IntKind.i64.wrap ((nth ((nth a 0).fld 0).toList (nth a 2).toInt.toNat).toInt - (1 : Int)))) == false) (selB (selB ((gtI (nth r0 0).toInt (IntKind.i64.wrap ((nth ((nth a 0).fld 0).toList (nth a 2).toInt.toNat).toInt - (1 : Int)))) == false) (selB ((gtI (nth r0 0).toInt (IntKind.i64.wrap ((nth ((nth a 0).fld 0).toList (nth a 2).toInt.toNat).toInt - (1 : Int)))) == false) (PV.bool (eqI (selB ((gtI (nth r0 0).toInt (IntKind.i64.wrap ((nth ((nth a 0).fld 0).toList (nth a 2).toInt.toNat).toInt - (1 : Int)))) == false) ((nth (nth a 1).toList (nth a 2).toInt.toNat).fld 0) PV.unit).toInt (2 : Int))) PV.unit) PV.unit).toBool (selB ((selB ((gtI (nth r0 0).toInt (IntKind.i64.wrap ((nth ((nth a 0).fld 0).toList (nth a 2).toInt.toNat).toInt - (1 : Int)))) == false) (selB ((gtI (nth r0 0).toInt (IntKind.i64.wrap ((nth ((nth a 0).fld 0).toList (nth a 2).toInt.toNat).toInt - (1 : Int)))) == false) (PV.bool (eqI (selB ((gtI (nth r0 0).toInt (IntKind.i64.wrap ((nth ((nth a 0).fld 0).toList (nth a 2).toInt.toNat).toInt - (1 : Int)))) == false) ((nth (nth a 1).toList (nth a 2).toInt.toNat).fld 0) PV.unit).toInt (2 : Int))) PV.unit) PV.unit).isB true) (PV.bool (geI (selB ((selB ((gtI (nth r0 0).toInt (IntKind.i64.wrap ((nth ((nth a 0).fld 0).toList (nth a 2).toInt.toNat).toInt - (1 : Int)))) == false) (selB ((gtI (nth r0 0).toInt (IntKind.i64.wrap ((nth ((nth a 0).fld 0).toList (nth a 2).toInt.toNat).toInt - (1 : Int)))) == false) (PV.bool (eqI (selB ((gtI (nth r0 0).toInt (IntKind.i64.wrap ((nth ((nth a 0).fld 0).toList (nth a 2).toInt.toNat).toInt - (1 : Int)))) == false) ((nth (nth a 1).toList (nth a 2).toInt.toNat).fld 0) PV.unit).toInt (2 : Int))) PV.unit) PV.unit).isB true) ((nth (nth a 1).toList (nth a 2).toInt.toNat).fld 1) PV.unit).toInt (selB ((selB ((gtI (nth r0 0).toInt (IntKind.i64.wrap ((nth ((nth a 0).fld 0).toList (nth a 2).toInt.toNat).toInt - (1 : Int)))) == false) (selB ((gtI (nth r0 0).toInt (IntKind.i64.wrap ((nth ((nth a 0).fld 0).toList (nth a 2).toInt.toNat).toInt - (1 : Int)))) == false) (PV.bool (eqI (selB ((gtI (nth r0 0).toInt (IntKind.i64.wrap ((nth ((nth a 0).fld 0).toList (nth a 2).toInt.toNat).toInt - (1 : Int)))) == false) ((nth (nth a 1).toList (nth a 2).toInt.toNat).fld 0) PV.unit).toInt (2 : Int))) PV.unit) PV.unit).isB true) (nth ((nth a 0).fld 0).toList (nth a 2).toInt.toNat) PV.unit).toInt)) PV.unit) (PV.bool false)) PV.unit) fun v1 =>
  (letB (selB (gtI (nth r0 0).toInt (IntKind.i64.wrap ((nth ((nth a 0).fld 0).toList (nth a 2).toInt.toNat).toInt - (1 : Int)))) (PV.bool true) v1) fun v2 =>
  (letB (selB (v2.isB false) (selB (selB (v2.isB false) (selB (v2.isB false) (PV.bool (eqI (selB (v2.isB false) ((nth (nth a 1).toList (nth a 2).toInt.toNat).fld 0) PV.unit).toInt (7 : Int))) PV.unit) PV.unit).toBool (selB ((selB (v2.isB false) (selB (v2.isB false) (PV.bool (eqI (selB (v2.isB false) ((nth (nth a 1).toList (nth a 2).toInt.toNat).fld 0) PV.unit).toInt (7 : Int))) PV.unit) PV.unit).isB true) (PV.bool (neI (selB ((selB (v2.isB false) (selB (v2.isB false) (PV.bool (eqI (selB (v2.isB false) ((nth (nth a 1).toList (nth a 2).toInt.toNat).fld 0) PV.unit).toInt (7 : Int))) PV.unit) PV.unit).isB true) (nth ((nth a 0).fld 0).toList (nth a 2).toInt.toNat) PV.unit).toInt (2 : Int))) PV.unit) (PV.bool false)) PV.unit) fun v3 =>
  (letB (selB v2.toBool (PV.bool true) v3) fun v4 =>
  (iff v4.toBool
  (some [((nth a 0).setFld 2 (PV.bool false))])
  (thenN (thenN (iff (eqI ((nth (nth a 1).toList (nth a 2).toInt.toNat).fld 0).toInt (7 : Int))
  (some (Ex.n, [(PV.bool (eqI ((nth (nth a 1).toList (nth a 2).toInt.toNat).fld 0).toInt (7 : Int))), ((nth (nth a 1).toList (nth a 2).toInt.toNat).fld 0), (nth a 2), (PV.int (IntKind.i64.wrap ((IntKind.i64.wrap ((nth ((nth a 0).fld 0).toList (nth a 2).toInt.toNat).toInt - (nth r0 0).toInt)) + (nth r0 1).toInt))), (nth (nth a 1).toList (nth a 2).toInt.toNat), (nth a 0)]))
  (some (Ex.n, [(PV.bool (eqI ((nth (nth a 1).toList (nth a 2).toInt.toNat).fld 0).toInt (21 : Int))), ((nth (nth a 1).toList (nth a 2).toInt.toNat).fld 0), (nth a 2), (PV.int (IntKind.i64.wrap ((IntKind.i64.wrap ((nth ((nth a 0).fld 0).toList (nth a 2).toInt.toNat).toInt - (nth r0 0).toInt)) + (nth r0 1).toInt))), (nth (nth a 1).toList (nth a 2).toInt.toNat), (nth a 0)])))
  (fun p5 => (iff (nth p5 0).toBool
  (some (Ex.r, [(nth p5 5)]))
  (iff (eqI (nth p5 1).toInt (19 : Int))
  ((I 215 [(nth p5 5), ((nth p5 4).fld 1), (nth p5 3)]).bind fun r6 =>
  (some (Ex.r, [(nth r6 0)])))
  (iff (eqI (nth p5 1).toInt (18 : Int))
  ((I 215 [(nth p5 5), ((nth p5 4).fld 1), (nth p5 3)]).bind fun r7 =>
  (some (Ex.n, [(nth p5 2), (nth p5 3), (nth r7 0)])))
  (thenN (iff (eqI (nth p5 1).toInt (10 : Int))
  (some (Ex.n, [(PV.bool (eqI (nth p5 1).toInt (10 : Int))), (nth p5 2), (nth p5 3), (nth p5 4), (nth p5 5)]))
  (some (Ex.n, [(PV.bool (eqI (nth p5 1).toInt (11 : Int))), (nth p5 2), (nth p5 3), (nth p5 4), (nth p5 5)])))
  (fun p8 => (iff (nth p8 0).toBool
  ((I 215 [(nth p8 4), ((nth p8 3).fld 2), (nth p8 2)]).bind fun r9 =>
  (some (Ex.n, [(nth p8 1), (nth p8 2), (nth r9 0)])))
  (some (Ex.n, [(nth p8 1), (nth p8 2), (nth p8 4)]))))
  passE)))))
  passE)
  (fun p10 => ((I 215 [(nth p10 2), (PV.int (IntKind.i64.wrap ((nth p10 0).toInt + (1 : Int)))), (nth p10 1)]).bind fun r11 =>
  (some [(nth r11 0)])))
  (retE fun q12 => [(nth q12 0)]))))))))
  none)
  none)
  none)
  none)
theorem e8408 : ∀ I n a, (compF Try.prog sg 8408).map (fun d => d.ev I n a) = some (F8408 I n a) := fun I n a => ew_ev (g := F8408) (fun I n a => by kernel_rfl) I n a
/-! impl.header -/
def F163 (I : Interp) (n : Nat) (a : List PV) : Option (List PV) :=
  ((I 158 [(nth a 0)]).bind fun r0 =>
  (iff (geI (7 : Int) (0 : Int))
  (iff (geI (1 : Int) (0 : Int))
  ((I 94 [(nth a 0)]).bind fun r1 =>
  (some [(PV.bool (eqI (arith BinOp.and IntKind.i64 (nth r0 0).toInt (1 : Int)) (1 : Int))), (PV.int (arith BinOp.shr IntKind.i64 (nth r0 0).toInt (7 : Int))), (PV.int (arith BinOp.and IntKind.i64 (arith BinOp.shr IntKind.i64 (nth r0 0).toInt (1 : Int)) (63 : Int))), (selB (selB (selB (!(nth r1 0).toBool) (selB ((!(nth r1 0).toBool) == true) (PV.bool (geI (selB ((!(nth r1 0).toBool) == true) (nth r0 0) PV.unit).toInt (0 : Int))) PV.unit) (PV.bool false)).toBool (selB ((selB (!(nth r1 0).toBool) (selB ((!(nth r1 0).toBool) == true) (PV.bool (geI (selB ((!(nth r1 0).toBool) == true) (nth r0 0) PV.unit).toInt (0 : Int))) PV.unit) (PV.bool false)).isB true) (PV.bool (leI (selB ((selB (!(nth r1 0).toBool) (selB ((!(nth r1 0).toBool) == true) (PV.bool (geI (selB ((!(nth r1 0).toBool) == true) (nth r0 0) PV.unit).toInt (0 : Int))) PV.unit) (PV.bool false)).isB true) (PV.int (arith BinOp.shr IntKind.i64 (nth r0 0).toInt (7 : Int))) PV.unit).toInt (3000 : Int))) PV.unit) (PV.bool false)).toBool (selB ((selB (selB (!(nth r1 0).toBool) (selB ((!(nth r1 0).toBool) == true) (PV.bool (geI (selB ((!(nth r1 0).toBool) == true) (nth r0 0) PV.unit).toInt (0 : Int))) PV.unit) (PV.bool false)).toBool (selB ((selB (!(nth r1 0).toBool) (selB ((!(nth r1 0).toBool) == true) (PV.bool (geI (selB ((!(nth r1 0).toBool) == true) (nth r0 0) PV.unit).toInt (0 : Int))) PV.unit) (PV.bool false)).isB true) (PV.bool (leI (selB ((selB (!(nth r1 0).toBool) (selB ((!(nth r1 0).toBool) == true) (PV.bool (geI (selB ((!(nth r1 0).toBool) == true) (nth r0 0) PV.unit).toInt (0 : Int))) PV.unit) (PV.bool false)).isB true) (PV.int (arith BinOp.shr IntKind.i64 (nth r0 0).toInt (7 : Int))) PV.unit).toInt (3000 : Int))) PV.unit) (PV.bool false)).isB true) (PV.bool (leI (selB ((selB (selB (!(nth r1 0).toBool) (selB ((!(nth r1 0).toBool) == true) (PV.bool (geI (selB ((!(nth r1 0).toBool) == true) (nth r0 0) PV.unit).toInt (0 : Int))) PV.unit) (PV.bool false)).toBool (selB ((selB (!(nth r1 0).toBool) (selB ((!(nth r1 0).toBool) == true) (PV.bool (geI (selB ((!(nth r1 0).toBool) == true) (nth r0 0) PV.unit).toInt (0 : Int))) PV.unit) (PV.bool false)).isB true) (PV.bool (leI (selB ((selB (!(nth r1 0).toBool) (selB ((!(nth r1 0).toBool) == true) (PV.bool (geI (selB ((!(nth r1 0).toBool) == true) (nth r0 0) PV.unit).toInt (0 : Int))) PV.unit) (PV.bool false)).isB true) (PV.int (arith BinOp.shr IntKind.i64 (nth r0 0).toInt (7 : Int))) PV.unit).toInt (3000 : Int))) PV.unit) (PV.bool false)).isB true) (PV.int (arith BinOp.and IntKind.i64 (arith BinOp.shr IntKind.i64 (nth r0 0).toInt (1 : Int)) (63 : Int))) PV.unit).toInt (20 : Int))) PV.unit) (PV.bool false))]))
  none)
  none))
theorem e163 : ∀ I n a, (compF Try.prog sg 163).map (fun d => d.ev I n a) = some (F163 I n a) := fun I n a => by kernel_rfl
/-! impl.IntWord -/
def F103 (I : Interp) (n : Nat) (a : List PV) : Option (List PV) :=
  ((I 120 [(nth a 0)]).bind fun r0 =>
  (iff (!(nth r0 0).toBool)
  (some [(PV.int (1 : Int))])
  (some [(PV.int (IntKind.i64.wrap ((IntKind.i64.wrap ((2 : Int) * (nth a 0).toInt)) + (1 : Int))))])))
theorem e103 : ∀ I n a, (compF Try.prog sg 103).map (fun d => d.ev I n a) = some (F103 I n a) := fun I n a => by kernel_rfl
/-! laws.eqFun -/
def F142 (I : Interp) (n : Nat) (a : List PV) : Option (List PV) :=
  (iff (neI ((nth a 0).fld 0).toInt ((nth a 1).fld 0).toInt)
  (some [(PV.bool false)])
  ((I 185 [((nth a 0).fld 1), ((nth a 1).fld 1)]).bind fun r0 =>
  (iff (!(nth r0 0).toBool)
  (some [(PV.bool false)])
  (some [(PV.bool true)]))))
theorem e142 : ∀ I n a, (compF Try.prog sg 142).map (fun d => d.ev I n a) = some (F142 I n a) := fun I n a => by kernel_rfl
/-! laws.szFunS -/
def L73_0 (I : Interp) (n : Nat) (p0 : List PV) : Option (Ex × List PV) :=
  (iff (ltI (nth p0 0).toInt ((nth p0 1).toList.length : Int))
  (iff (geI (nth p0 0).toInt (0 : Int))
  (iff (ltI (nth p0 0).toInt ((nth p0 1).toList.length : Int))
  ((I 149 [(nth (nth p0 1).toList (nth p0 0).toInt.toNat), (nth p0 2)]).bind fun r1 =>
  (iff (ltI (nth r1 0).toInt (0 : Int))
  (some (Ex.r, [(PV.int (-1 : Int))]))
  (some (Ex.n, [(PV.int (IntKind.i64.wrap ((nth p0 0).toInt + (1 : Int)))), (nth p0 1), (nth r1 0)]))))
  none)
  none)
  (some (Ex.x 0, [(nth p0 2)])))
def F73 (I : Interp) (n : Nat) (a : List PV) : Option (List PV) :=
  (iff (ltI (IntKind.i64.wrap ((nth a 1).toInt - ((nth a 0).toList.length : Int))) (0 : Int))
  (some [(PV.int (-1 : Int))])
  (thenN (thenE (loopEv (L73_0 I n) n [(PV.int (0 : Int)), (nth a 0), (PV.int (IntKind.i64.wrap ((nth a 1).toInt - ((nth a 0).toList.length : Int))))])
  (passB 0))
  (fun p2 => (some [(nth p2 0)]))
  (retE fun q3 => [(nth q3 0)])))
theorem e73 : ∀ I n a, (compF Try.prog sg 73).map (fun d => d.ev I n a) = some (F73 I n a) := fun I n a => by kernel_rfl
/-! laws.eqFunS -/
def L66_0 (I : Interp) (n : Nat) (p0 : List PV) : Option (Ex × List PV) :=
  (iff (ltI (nth p0 0).toInt ((nth p0 1).toList.length : Int))
  (iff (geI (nth p0 0).toInt (0 : Int))
  (iff (ltI (nth p0 0).toInt ((nth p0 1).toList.length : Int))
  (iff (geI (nth p0 0).toInt (0 : Int))
  (iff (ltI (nth p0 0).toInt ((nth p0 2).toList.length : Int))
  ((I 142 [(nth (nth p0 1).toList (nth p0 0).toInt.toNat), (nth (nth p0 2).toList (nth p0 0).toInt.toNat)]).bind fun r1 =>
  (iff (!(nth r1 0).toBool)
  (some (Ex.r, [(PV.bool false)]))
  (some (Ex.n, [(PV.int (IntKind.i64.wrap ((nth p0 0).toInt + (1 : Int)))), (nth p0 1), (nth p0 2)]))))
  none)
  none)
  none)
  none)
  (some (Ex.x 0, [])))
def F66 (I : Interp) (n : Nat) (a : List PV) : Option (List PV) :=
  (iff (neI ((nth a 0).toList.length : Int) ((nth a 1).toList.length : Int))
  (some [(PV.bool false)])
  (thenN (thenE (loopEv (L66_0 I n) n [(PV.int (0 : Int)), (nth a 0), (nth a 1)])
  (passB 0))
  (fun p2 => (some [(PV.bool true)]))
  (retE fun q3 => [(nth q3 0)])))
theorem e66 : ∀ I n a, (compF Try.prog sg 66).map (fun d => d.ev I n a) = some (F66 I n a) := fun I n a => by kernel_rfl
/-! laws.toFunS -/
def L75_0 (I : Interp) (n : Nat) (p0 : List PV) : Option (Ex × List PV) :=
  (iff (ltI (nth p0 0).toInt ((nth p0 1).toList.length : Int))
  (iff (geI (nth p0 0).toInt (0 : Int))
  (iff (ltI (nth p0 0).toInt ((nth p0 1).toList.length : Int))
  ((I 152 [(nth (nth p0 1).toList (nth p0 0).toInt.toNat)]).bind fun r1 =>
  (iff (geI (nth p0 0).toInt (0 : Int))
  (iff (ltI (nth p0 0).toInt ((nth p0 2).toList.length : Int))
  (some (Ex.n, [(PV.int (IntKind.i64.wrap ((nth p0 0).toInt + (1 : Int)))), (nth p0 1), (PV.list ((nth p0 2).toList.set (nth p0 0).toInt.toNat (nth r1 0)))]))
  none)
  none))
  none)
  none)
  (some (Ex.x 0, [(nth p0 2)])))
def F75 (I : Interp) (n : Nat) (a : List PV) : Option (List PV) :=
  (iff (geI ((nth a 0).toList.length : Int) (0 : Int))
  (iff (leI ((nth a 0).toList.length : Int) ((nth a 0).toList.length : Int))
  (iff (leI ((nth a 0).toList.length : Int) (4398046511104 : Int))
  (thenN (thenE (loopEv (L75_0 I n) n [(PV.int (0 : Int)), (nth a 0), (PV.list (List.replicate ((nth a 0).toList.length : Int).toNat (PV.agg [(PV.int (0 : Int)), (PV.list ([] : List PV))])))])
  (passB 0))
  (fun p2 => (some [(nth p2 0)]))
  (retE fun q3 => [(nth q3 0)]))
  none)
  none)
  none)
theorem e75 : ∀ I n a, (compF Try.prog sg 75).map (fun d => d.ev I n a) = some (F75 I n a) := fun I n a => by kernel_rfl
/-! impl.kidsAt -/
def F92 (I : Interp) (n : Nat) (a : List PV) : Option (List PV) :=
  (iff (geI (nth a 1).toInt (0 : Int))
  (iff (ltI (nth a 1).toInt (((nth a 0).fld 0).toList.length : Int))
  ((I 163 [(nth ((nth a 0).fld 0).toList (nth a 1).toInt.toNat)]).bind fun r0 =>
  (iff (geI (IntKind.i64.wrap ((nth a 1).toInt + (1 : Int))) (0 : Int))
  (iff (leI (IntKind.i64.wrap ((nth a 1).toInt + (1 : Int))) (IntKind.i64.wrap ((IntKind.i64.wrap ((nth a 1).toInt + (1 : Int))) + (nth r0 2).toInt)))
  (iff (leI (IntKind.i64.wrap ((IntKind.i64.wrap ((nth a 1).toInt + (1 : Int))) + (nth r0 2).toInt)) (((nth a 0).fld 0).toList.length : Int))
  (some [(PV.list ((((nth a 0).fld 0).toList.drop (IntKind.i64.wrap ((nth a 1).toInt + (1 : Int))).toNat).take ((IntKind.i64.wrap ((IntKind.i64.wrap ((nth a 1).toInt + (1 : Int))) + (nth r0 2).toInt)).toNat - (IntKind.i64.wrap ((nth a 1).toInt + (1 : Int))).toNat)))])
  none)
  none)
  none))
  none)
  none)
theorem e92 : ∀ I n a, (compF Try.prog sg 92).map (fun d => d.ev I n a) = some (F92 I n a) := fun I n a => by kernel_rfl
/-! impl.opOk -/
def F171 (I : Interp) (n : Nat) (a : List PV) : Option (List PV) :=
  (thenN (iff (eqI ((nth a 3).fld 0).toInt (1 : Int))
  ((I 120 [((nth a 3).fld 1)]).bind fun r0 =>
  (some (Ex.n, [(nth r0 0), (PV.bool (eqI ((nth a 3).fld 2).toInt (0 : Int))), (nth a 3)])))
  (iff (eqI ((nth a 3).fld 0).toInt (2 : Int))
  ((I 102 [((nth a 3).fld 1), (PV.int (0 : Int)), (PV.int (2999 : Int))]).bind fun r1 =>
  (some (Ex.n, [(nth r1 0), (PV.bool (eqI ((nth a 3).fld 2).toInt (0 : Int))), (nth a 3)])))
  (iff (eqI ((nth a 3).fld 0).toInt (3 : Int))
  ((I 102 [((nth a 3).fld 1), (PV.int (0 : Int)), (PV.int (IntKind.i64.wrap (((nth a 1).fld 0).toInt - (1 : Int))))]).bind fun r2 =>
  (some (Ex.n, [(nth r2 0), (PV.bool (eqI ((nth a 3).fld 2).toInt (0 : Int))), (nth a 3)])))
  (iff (eqI ((nth a 3).fld 0).toInt (4 : Int))
  (some (Ex.n, [(selB (eqI ((nth a 3).fld 1).toInt (0 : Int)) (selB ((eqI ((nth a 3).fld 1).toInt (0 : Int)) == true) (PV.bool (gtI (selB ((eqI ((nth a 3).fld 1).toInt (0 : Int)) == true) (nth a 2) PV.unit).toInt (0 : Int))) PV.unit) (PV.bool false)), (PV.bool (eqI ((nth a 3).fld 2).toInt (0 : Int))), (nth a 3)]))
  (iff (eqI ((nth a 3).fld 0).toInt (5 : Int))
  ((I 102 [((nth a 3).fld 1), (PV.int (1 : Int)), (PV.int (IntKind.i64.wrap (((nth a 0).toList.length : Int) - (1 : Int))))]).bind fun r3 =>
  ((iff ((nth r3 0).isB true)
  (iff (geI (selB ((nth r3 0).isB true) ((nth a 3).fld 1) PV.unit).toInt (0 : Int))
  (iff (ltI (selB ((nth r3 0).isB true) ((nth a 3).fld 1) PV.unit).toInt ((selB ((nth r3 0).isB true) (nth a 0) PV.unit).toList.length : Int))
  (some [(nth (selB ((nth r3 0).isB true) (nth a 0) PV.unit).toList (selB ((nth r3 0).isB true) ((nth a 3).fld 1) PV.unit).toInt.toNat), (nth (selB ((nth r3 0).isB true) (nth a 0) PV.unit).toList (selB ((nth r3 0).isB true) ((nth a 3).fld 1) PV.unit).toInt.toNat)])
  none)
  none)
  (some [PV.unit, PV.unit])).bind fun g4 =>
  (some (Ex.n, [(nth r3 0), (selB (nth r3 0).toBool (selB ((nth r3 0).isB true) (PV.bool (eqI (selB ((nth r3 0).isB true) ((nth a 3).fld 2) PV.unit).toInt (selB ((nth r3 0).isB true) (selB ((nth r3 0).isB true) ((nth g4 0).fld 0) PV.unit) PV.unit).toInt)) PV.unit) (PV.bool false)), (nth a 3)]))))
  (iff (eqI ((nth a 3).fld 0).toInt (8 : Int))
  ((I 102 [((nth a 3).fld 1), (PV.int (0 : Int)), (PV.int (19 : Int))]).bind fun r5 =>
  ((I 102 [((nth a 3).fld 2), (PV.int (0 : Int)), (PV.int (20 : Int))]).bind fun r6 =>
  (some (Ex.n, [(nth r5 0), (nth r6 0), (nth a 3)]))))
  (iff (eqI ((nth a 3).fld 0).toInt (9 : Int))
  ((I 102 [((nth a 3).fld 1), (PV.int (0 : Int)), (PV.int (19 : Int))]).bind fun r7 =>
  (some (Ex.n, [(nth r7 0), (PV.bool (eqI ((nth a 3).fld 2).toInt (0 : Int))), (nth a 3)])))
  (iff (eqI ((nth a 3).fld 0).toInt (10 : Int))
  ((I 102 [((nth a 3).fld 1), (PV.int (0 : Int)), (PV.int (19 : Int))]).bind fun r8 =>
  ((I 197 [((nth a 3).fld 2), (nth a 1)]).bind fun r9 =>
  (some (Ex.n, [(nth r8 0), (nth r9 0), (nth a 3)]))))
  (iff (eqI ((nth a 3).fld 0).toInt (11 : Int))
  ((I 120 [((nth a 3).fld 1)]).bind fun r10 =>
  ((I 197 [((nth a 3).fld 2), (nth a 1)]).bind fun r11 =>
  (some (Ex.n, [(nth r10 0), (nth r11 0), (nth a 3)]))))
  (thenN (iff (eqI ((nth a 3).fld 0).toInt (18 : Int))
  (some (Ex.n, [(PV.bool (eqI ((nth a 3).fld 0).toInt (18 : Int))), (PV.bool (eqI ((nth a 3).fld 1).toInt (0 : Int))), (PV.bool (eqI ((nth a 3).fld 2).toInt (0 : Int))), (nth a 3), (nth a 1)]))
  (some (Ex.n, [(PV.bool (eqI ((nth a 3).fld 0).toInt (19 : Int))), (PV.bool (eqI ((nth a 3).fld 1).toInt (0 : Int))), (PV.bool (eqI ((nth a 3).fld 2).toInt (0 : Int))), (nth a 3), (nth a 1)])))
  (fun p12 => (iff (nth p12 0).toBool
  ((I 197 [((nth p12 3).fld 1), (nth p12 4)]).bind fun r13 =>
  (some (Ex.n, [(nth r13 0), (nth p12 2), (nth p12 3)])))
  (some (Ex.n, [(nth p12 1), (nth p12 2), (nth p12 3)]))))
  passE))))))))))
  (fun p14 => ((I 102 [((nth p14 2).fld 0), (PV.int (1 : Int)), (PV.int (21 : Int))]).bind fun r15 =>
  (some [(selB (selB (nth r15 0).toBool (selB ((nth r15 0).isB true) (nth p14 0) PV.unit) (PV.bool false)).toBool (selB ((selB (nth r15 0).toBool (selB ((nth r15 0).isB true) (nth p14 0) PV.unit) (PV.bool false)).isB true) (nth p14 1) PV.unit) (PV.bool false))])))
  (retE fun q16 => [(nth q16 0)]))
theorem e171 : ∀ I n a, (compF Try.prog sg 171).map (fun d => d.ev I n a) = some (F171 I n a) := fun I n a => by kernel_rfl
/-! slices.BinarySearch[[]int,int] -/
def L167_0 (I : Interp) (n : Nat) (p0 : List PV) : Option (Ex × List PV) :=
  (iff (ltI (nth p0 3).toInt (nth p0 0).toInt)
  (iff (geI (1 : Int) (0 : Int))
  (iff (geI (IntKind.i64.wrap (arith BinOp.shr IntKind.u64 (IntKind.u64.wrap (IntKind.i64.wrap ((nth p0 3).toInt + (nth p0 0).toInt))) (1 : Int))) (0 : Int))
  (iff (ltI (IntKind.i64.wrap (arith BinOp.shr IntKind.u64 (IntKind.u64.wrap (IntKind.i64.wrap ((nth p0 3).toInt + (nth p0 0).toInt))) (1 : Int))) ((nth p0 2).toList.length : Int))
  ((I 194 [(nth (nth p0 2).toList (IntKind.i64.wrap (arith BinOp.shr IntKind.u64 (IntKind.u64.wrap (IntKind.i64.wrap ((nth p0 3).toInt + (nth p0 0).toInt))) (1 : Int))).toNat), (nth p0 4)]).bind fun r1 =>
  (iff (nth r1 0).toBool
  (some (Ex.n, [(nth p0 0), (nth p0 1), (nth p0 2), (PV.int (IntKind.i64.wrap ((IntKind.i64.wrap (arith BinOp.shr IntKind.u64 (IntKind.u64.wrap (IntKind.i64.wrap ((nth p0 3).toInt + (nth p0 0).toInt))) (1 : Int))) + (1 : Int)))), (nth p0 4)]))
  (some (Ex.n, [(PV.int (IntKind.i64.wrap (arith BinOp.shr IntKind.u64 (IntKind.u64.wrap (IntKind.i64.wrap ((nth p0 3).toInt + (nth p0 0).toInt))) (1 : Int)))), (nth p0 1), (nth p0 2), (nth p0 3), (nth p0 4)]))))
  none)
  none)
  none)
  (some (Ex.x 0, [(nth p0 1), (nth p0 2), (nth p0 3), (nth p0 4)])))
def F167 (I : Interp) (n : Nat) (a : List PV) : Option (List PV) :=
  (thenN (thenE (loopEv (L167_0 I n) n [(PV.int ((nth a 0).toList.length : Int)), (PV.int ((nth a 0).toList.length : Int)), (nth a 0), (PV.int (0 : Int)), (nth a 1)])
  (passB 0))
  (fun p2 => ((iff ((ltI (nth p2 2).toInt (nth p2 0).toInt) == true)
  (iff (geI (selB ((ltI (nth p2 2).toInt (nth p2 0).toInt) == true) (nth p2 2) PV.unit).toInt (0 : Int))
  (iff (ltI (selB ((ltI (nth p2 2).toInt (nth p2 0).toInt) == true) (nth p2 2) PV.unit).toInt ((selB ((ltI (nth p2 2).toInt (nth p2 0).toInt) == true) (nth p2 1) PV.unit).toList.length : Int))
  (some [(nth (selB ((ltI (nth p2 2).toInt (nth p2 0).toInt) == true) (nth p2 1) PV.unit).toList (selB ((ltI (nth p2 2).toInt (nth p2 0).toInt) == true) (nth p2 2) PV.unit).toInt.toNat), (nth (selB ((ltI (nth p2 2).toInt (nth p2 0).toInt) == true) (nth p2 1) PV.unit).toList (selB ((ltI (nth p2 2).toInt (nth p2 0).toInt) == true) (nth p2 2) PV.unit).toInt.toNat)])
  none)
  none)
  (some [PV.unit, PV.unit])).bind fun g3 =>
  ((iff ((selB ((ltI (nth p2 2).toInt (nth p2 0).toInt) == true) (selB ((ltI (nth p2 2).toInt (nth p2 0).toInt) == true) (PV.bool (eqI (selB ((ltI (nth p2 2).toInt (nth p2 0).toInt) == true) (nth g3 0) PV.unit).toInt (selB ((ltI (nth p2 2).toInt (nth p2 0).toInt) == true) (nth p2 3) PV.unit).toInt)) PV.unit) PV.unit).isB false)
  (iff (geI (selB ((selB ((ltI (nth p2 2).toInt (nth p2 0).toInt) == true) (selB ((ltI (nth p2 2).toInt (nth p2 0).toInt) == true) (PV.bool (eqI (selB ((ltI (nth p2 2).toInt (nth p2 0).toInt) == true) (nth g3 0) PV.unit).toInt (selB ((ltI (nth p2 2).toInt (nth p2 0).toInt) == true) (nth p2 3) PV.unit).toInt)) PV.unit) PV.unit).isB false) (nth p2 2) PV.unit).toInt (0 : Int))
  (iff (ltI (selB ((selB ((ltI (nth p2 2).toInt (nth p2 0).toInt) == true) (selB ((ltI (nth p2 2).toInt (nth p2 0).toInt) == true) (PV.bool (eqI (selB ((ltI (nth p2 2).toInt (nth p2 0).toInt) == true) (nth g3 0) PV.unit).toInt (selB ((ltI (nth p2 2).toInt (nth p2 0).toInt) == true) (nth p2 3) PV.unit).toInt)) PV.unit) PV.unit).isB false) (nth p2 2) PV.unit).toInt ((selB ((selB ((ltI (nth p2 2).toInt (nth p2 0).toInt) == true) (selB ((ltI (nth p2 2).toInt (nth p2 0).toInt) == true) (PV.bool (eqI (selB ((ltI (nth p2 2).toInt (nth p2 0).toInt) == true) (nth g3 0) PV.unit).toInt (selB ((ltI (nth p2 2).toInt (nth p2 0).toInt) == true) (nth p2 3) PV.unit).toInt)) PV.unit) PV.unit).isB false) (nth p2 1) PV.unit).toList.length : Int))
  (some [(nth (selB ((selB ((ltI (nth p2 2).toInt (nth p2 0).toInt) == true) (selB ((ltI (nth p2 2).toInt (nth p2 0).toInt) == true) (PV.bool (eqI (selB ((ltI (nth p2 2).toInt (nth p2 0).toInt) == true) (nth g3 0) PV.unit).toInt (selB ((ltI (nth p2 2).toInt (nth p2 0).toInt) == true) (nth p2 3) PV.unit).toInt)) PV.unit) PV.unit).isB false) (nth p2 1) PV.unit).toList (selB ((selB ((ltI (nth p2 2).toInt (nth p2 0).toInt) == true) (selB ((ltI (nth p2 2).toInt (nth p2 0).toInt) == true) (PV.bool (eqI (selB ((ltI (nth p2 2).toInt (nth p2 0).toInt) == true) (nth g3 0) PV.unit).toInt (selB ((ltI (nth p2 2).toInt (nth p2 0).toInt) == true) (nth p2 3) PV.unit).toInt)) PV.unit) PV.unit).isB false) (nth p2 2) PV.unit).toInt.toNat), (nth (selB ((selB ((ltI (nth p2 2).toInt (nth p2 0).toInt) == true) (selB ((ltI (nth p2 2).toInt (nth p2 0).toInt) == true) (PV.bool (eqI (selB ((ltI (nth p2 2).toInt (nth p2 0).toInt) == true) (nth g3 0) PV.unit).toInt (selB ((ltI (nth p2 2).toInt (nth p2 0).toInt) == true) (nth p2 3) PV.unit).toInt)) PV.unit) PV.unit).isB false) (nth p2 1) PV.unit).toList (selB ((selB ((ltI (nth p2 2).toInt (nth p2 0).toInt) == true) (selB ((ltI (nth p2 2).toInt (nth p2 0).toInt) == true) (PV.bool (eqI (selB ((ltI (nth p2 2).toInt (nth p2 0).toInt) == true) (nth g3 0) PV.unit).toInt (selB ((ltI (nth p2 2).toInt (nth p2 0).toInt) == true) (nth p2 3) PV.unit).toInt)) PV.unit) PV.unit).isB false) (nth p2 2) PV.unit).toInt.toNat)])
  none)
  none)
  (some [PV.unit, PV.unit])).bind fun g4 =>
  ((iff ((selB ((ltI (nth p2 2).toInt (nth p2 0).toInt) == true) (selB ((ltI (nth p2 2).toInt (nth p2 0).toInt) == true) (PV.bool (eqI (selB ((ltI (nth p2 2).toInt (nth p2 0).toInt) == true) (nth g3 0) PV.unit).toInt (selB ((ltI (nth p2 2).toInt (nth p2 0).toInt) == true) (nth p2 3) PV.unit).toInt)) PV.unit) PV.unit).isB false)
  ((I 195 [(selB ((selB ((ltI (nth p2 2).toInt (nth p2 0).toInt) == true) (selB ((ltI (nth p2 2).toInt (nth p2 0).toInt) == true) (PV.bool (eqI (selB ((ltI (nth p2 2).toInt (nth p2 0).toInt) == true) (nth g3 0) PV.unit).toInt (selB ((ltI (nth p2 2).toInt (nth p2 0).toInt) == true) (nth p2 3) PV.unit).toInt)) PV.unit) PV.unit).isB false) (nth g4 0) PV.unit)]).bind fun r5 =>
  (some [(nth r5 0), (nth r5 0)]))
  (some [PV.unit, PV.unit])).bind fun g6 =>
  ((iff ((selB ((selB ((ltI (nth p2 2).toInt (nth p2 0).toInt) == true) (selB ((ltI (nth p2 2).toInt (nth p2 0).toInt) == true) (PV.bool (eqI (selB ((ltI (nth p2 2).toInt (nth p2 0).toInt) == true) (nth g3 0) PV.unit).toInt (selB ((ltI (nth p2 2).toInt (nth p2 0).toInt) == true) (nth p2 3) PV.unit).toInt)) PV.unit) PV.unit).isB false) (nth g6 0) PV.unit).isB true)
  ((I 195 [(selB ((selB ((selB ((ltI (nth p2 2).toInt (nth p2 0).toInt) == true) (selB ((ltI (nth p2 2).toInt (nth p2 0).toInt) == true) (PV.bool (eqI (selB ((ltI (nth p2 2).toInt (nth p2 0).toInt) == true) (nth g3 0) PV.unit).toInt (selB ((ltI (nth p2 2).toInt (nth p2 0).toInt) == true) (nth p2 3) PV.unit).toInt)) PV.unit) PV.unit).isB false) (nth g6 0) PV.unit).isB true) (nth p2 3) PV.unit)]).bind fun r7 =>
  (some [(nth r7 0), (nth r7 0)]))
  (some [PV.unit, PV.unit])).bind fun g8 =>
  (some [(nth p2 2), (selB (ltI (nth p2 2).toInt (nth p2 0).toInt) (selB ((ltI (nth p2 2).toInt (nth p2 0).toInt) == true) (selB (selB ((ltI (nth p2 2).toInt (nth p2 0).toInt) == true) (selB ((ltI (nth p2 2).toInt (nth p2 0).toInt) == true) (PV.bool (eqI (selB ((ltI (nth p2 2).toInt (nth p2 0).toInt) == true) (nth g3 0) PV.unit).toInt (selB ((ltI (nth p2 2).toInt (nth p2 0).toInt) == true) (nth p2 3) PV.unit).toInt)) PV.unit) PV.unit).toBool (PV.bool true) (selB ((selB ((ltI (nth p2 2).toInt (nth p2 0).toInt) == true) (selB ((ltI (nth p2 2).toInt (nth p2 0).toInt) == true) (PV.bool (eqI (selB ((ltI (nth p2 2).toInt (nth p2 0).toInt) == true) (nth g3 0) PV.unit).toInt (selB ((ltI (nth p2 2).toInt (nth p2 0).toInt) == true) (nth p2 3) PV.unit).toInt)) PV.unit) PV.unit).isB false) (selB (selB ((selB ((ltI (nth p2 2).toInt (nth p2 0).toInt) == true) (selB ((ltI (nth p2 2).toInt (nth p2 0).toInt) == true) (PV.bool (eqI (selB ((ltI (nth p2 2).toInt (nth p2 0).toInt) == true) (nth g3 0) PV.unit).toInt (selB ((ltI (nth p2 2).toInt (nth p2 0).toInt) == true) (nth p2 3) PV.unit).toInt)) PV.unit) PV.unit).isB false) (nth g6 0) PV.unit).toBool (nth g8 0) (PV.bool false)) PV.unit)) PV.unit) (PV.bool false))]))))))
  (retE fun q9 => [(nth q9 0), (nth q9 1)]))
theorem e167 : ∀ I n a, (compF Try.prog sg 167).map (fun d => d.ev I n a) = some (F167 I n a) := fun I n a => by kernel_rfl
/-! spec.l13Op -/
def F169 (I : Interp) (n : Nat) (a : List PV) : Option (List PV) :=
  (iff (geI (nth a 1).toInt (0 : Int))
  (iff (ltI (nth a 1).toInt ((nth a 0).toList.length : Int))
  (iff (eqI ((nth a 2).fld 0).toInt (1 : Int))
  ((I 117 [((nth a 2).fld 1)]).bind fun r0 =>
  (some [(selB (nth r0 0).toBool (selB ((nth r0 0).isB true) (PV.bool (eqI (selB ((nth r0 0).isB true) ((nth a 2).fld 2) PV.unit).toInt (0 : Int))) PV.unit) (PV.bool false))]))
  (iff (eqI ((nth a 2).fld 0).toInt (2 : Int))
  ((I 104 [((nth a 2).fld 1), (PV.int (0 : Int)), (PV.int (2999 : Int))]).bind fun r1 =>
  (some [(selB (nth r1 0).toBool (selB ((nth r1 0).isB true) (PV.bool (eqI (selB ((nth r1 0).isB true) ((nth a 2).fld 2) PV.unit).toInt (0 : Int))) PV.unit) (PV.bool false))]))
  (iff (eqI ((nth a 2).fld 0).toInt (3 : Int))
  (iff (geI (nth a 1).toInt (0 : Int))
  (iff (ltI (nth a 1).toInt ((nth a 0).toList.length : Int))
  ((I 104 [((nth a 2).fld 1), (PV.int (0 : Int)), (PV.int (IntKind.i64.wrap (((nth (nth a 0).toList (nth a 1).toInt.toNat).fld 0).toInt - (1 : Int))))]).bind fun r2 =>
  (some [(selB (nth r2 0).toBool (selB ((nth r2 0).isB true) (PV.bool (eqI (selB ((nth r2 0).isB true) ((nth a 2).fld 2) PV.unit).toInt (0 : Int))) PV.unit) (PV.bool false))]))
  none)
  none)
  (iff (eqI ((nth a 2).fld 0).toInt (4 : Int))
  (some [(selB (selB (gtI (nth a 1).toInt (0 : Int)) (selB ((gtI (nth a 1).toInt (0 : Int)) == true) (PV.bool (eqI (selB ((gtI (nth a 1).toInt (0 : Int)) == true) ((nth a 2).fld 1) PV.unit).toInt (0 : Int))) PV.unit) (PV.bool false)).toBool (selB ((selB (gtI (nth a 1).toInt (0 : Int)) (selB ((gtI (nth a 1).toInt (0 : Int)) == true) (PV.bool (eqI (selB ((gtI (nth a 1).toInt (0 : Int)) == true) ((nth a 2).fld 1) PV.unit).toInt (0 : Int))) PV.unit) (PV.bool false)).isB true) (PV.bool (eqI (selB ((selB (gtI (nth a 1).toInt (0 : Int)) (selB ((gtI (nth a 1).toInt (0 : Int)) == true) (PV.bool (eqI (selB ((gtI (nth a 1).toInt (0 : Int)) == true) ((nth a 2).fld 1) PV.unit).toInt (0 : Int))) PV.unit) (PV.bool false)).isB true) ((nth a 2).fld 2) PV.unit).toInt (0 : Int))) PV.unit) (PV.bool false))])
  (iff (eqI ((nth a 2).fld 0).toInt (5 : Int))
  ((I 104 [((nth a 2).fld 1), (PV.int (1 : Int)), (PV.int (IntKind.i64.wrap (((nth a 0).toList.length : Int) - (1 : Int))))]).bind fun r3 =>
  ((iff ((nth r3 0).isB true)
  (iff (geI (selB ((nth r3 0).isB true) ((nth a 2).fld 1) PV.unit).toInt (0 : Int))
  (iff (ltI (selB ((nth r3 0).isB true) ((nth a 2).fld 1) PV.unit).toInt ((selB ((nth r3 0).isB true) (nth a 0) PV.unit).toList.length : Int))
  (some [(nth (selB ((nth r3 0).isB true) (nth a 0) PV.unit).toList (selB ((nth r3 0).isB true) ((nth a 2).fld 1) PV.unit).toInt.toNat), (nth (selB ((nth r3 0).isB true) (nth a 0) PV.unit).toList (selB ((nth r3 0).isB true) ((nth a 2).fld 1) PV.unit).toInt.toNat)])
  none)
  none)
  (some [PV.unit, PV.unit])).bind fun g4 =>
  (some [(selB (nth r3 0).toBool (selB ((nth r3 0).isB true) (PV.bool (eqI (selB ((nth r3 0).isB true) ((nth a 2).fld 2) PV.unit).toInt (selB ((nth r3 0).isB true) (selB ((nth r3 0).isB true) ((nth g4 0).fld 0) PV.unit) PV.unit).toInt)) PV.unit) (PV.bool false))])))
  (iff (eqI ((nth a 2).fld 0).toInt (8 : Int))
  ((I 196 [((nth a 2).fld 1)]).bind fun r5 =>
  ((iff ((nth r5 0).isB true)
  ((I 104 [(selB ((nth r5 0).isB true) ((nth a 2).fld 2) PV.unit), (PV.int (0 : Int)), (PV.int (20 : Int))]).bind fun r6 =>
  (some [(nth r6 0), (nth r6 0)]))
  (some [PV.unit, PV.unit])).bind fun g7 =>
  (some [(selB (nth r5 0).toBool (nth g7 0) (PV.bool false))])))
  (iff (eqI ((nth a 2).fld 0).toInt (9 : Int))
  ((I 196 [((nth a 2).fld 1)]).bind fun r8 =>
  (some [(selB (nth r8 0).toBool (selB ((nth r8 0).isB true) (PV.bool (eqI (selB ((nth r8 0).isB true) ((nth a 2).fld 2) PV.unit).toInt (0 : Int))) PV.unit) (PV.bool false))]))
  (iff (eqI ((nth a 2).fld 0).toInt (10 : Int))
  ((I 196 [((nth a 2).fld 1)]).bind fun r9 =>
  ((iff ((nth r9 0).isB true)
  ((I 104 [(selB ((nth r9 0).isB true) ((nth a 2).fld 2) PV.unit), (PV.int (0 : Int)), (selB ((nth r9 0).isB true) (PV.int (IntKind.i64.wrap ((selB ((nth r9 0).isB true) (PV.int (((nth (nth a 0).toList (nth a 1).toInt.toNat).fld 1).toList.length : Int)) PV.unit).toInt - (1 : Int)))) PV.unit)]).bind fun r10 =>
  (some [(nth r10 0), (nth r10 0)]))
  (some [PV.unit, PV.unit])).bind fun g11 =>
  (some [(selB (nth r9 0).toBool (nth g11 0) (PV.bool false))])))
  (iff (eqI ((nth a 2).fld 0).toInt (11 : Int))
  ((I 117 [((nth a 2).fld 1)]).bind fun r12 =>
  ((iff ((nth r12 0).isB true)
  ((I 104 [(selB ((nth r12 0).isB true) ((nth a 2).fld 2) PV.unit), (PV.int (0 : Int)), (selB ((nth r12 0).isB true) (PV.int (IntKind.i64.wrap ((selB ((nth r12 0).isB true) (PV.int (((nth (nth a 0).toList (nth a 1).toInt.toNat).fld 1).toList.length : Int)) PV.unit).toInt - (1 : Int)))) PV.unit)]).bind fun r13 =>
  (some [(nth r13 0), (nth r13 0)]))
  (some [PV.unit, PV.unit])).bind fun g14 =>
  (some [(selB (nth r12 0).toBool (nth g14 0) (PV.bool false))])))
  (thenN (iff (eqI ((nth a 2).fld 0).toInt (18 : Int))
  (some (Ex.n, [(PV.bool (eqI ((nth a 2).fld 0).toInt (18 : Int))), (PV.int (((nth (nth a 0).toList (nth a 1).toInt.toNat).fld 1).toList.length : Int)), (nth a 2)]))
  (some (Ex.n, [(PV.bool (eqI ((nth a 2).fld 0).toInt (19 : Int))), (PV.int (((nth (nth a 0).toList (nth a 1).toInt.toNat).fld 1).toList.length : Int)), (nth a 2)])))
  (fun p15 => (iff (nth p15 0).toBool
  ((I 104 [((nth p15 2).fld 1), (PV.int (0 : Int)), (PV.int (IntKind.i64.wrap ((nth p15 1).toInt - (1 : Int))))]).bind fun r16 =>
  (some [(selB (nth r16 0).toBool (selB ((nth r16 0).isB true) (PV.bool (eqI (selB ((nth r16 0).isB true) ((nth p15 2).fld 2) PV.unit).toInt (0 : Int))) PV.unit) (PV.bool false))]))
  ((I 104 [((nth p15 2).fld 0), (PV.int (1 : Int)), (PV.int (21 : Int))]).bind fun r17 =>
  (some [(selB (selB (nth r17 0).toBool (selB ((nth r17 0).isB true) (PV.bool (eqI (selB ((nth r17 0).isB true) ((nth p15 2).fld 1) PV.unit).toInt (0 : Int))) PV.unit) (PV.bool false)).toBool (selB ((selB (nth r17 0).toBool (selB ((nth r17 0).isB true) (PV.bool (eqI (selB ((nth r17 0).isB true) ((nth p15 2).fld 1) PV.unit).toInt (0 : Int))) PV.unit) (PV.bool false)).isB true) (PV.bool (eqI (selB ((selB (nth r17 0).toBool (selB ((nth r17 0).isB true) (PV.bool (eqI (selB ((nth r17 0).isB true) ((nth p15 2).fld 1) PV.unit).toInt (0 : Int))) PV.unit) (PV.bool false)).isB true) ((nth p15 2).fld 2) PV.unit).toInt (0 : Int))) PV.unit) (PV.bool false))]))))
  (retE fun q18 => [(nth q18 0)])))))))))))
  none)
  none)
theorem e169 : ∀ I n a, (compF Try.prog sg 169).map (fun d => d.ev I n a) = some (F169 I n a) := fun I n a => by kernel_rfl
/-! spec.FunsOk -/
def L116_0 (I : Interp) (n : Nat) (p6 : List PV) : Option (Ex × List PV) :=
  (iff (ltI (nth p6 0).toInt (nth p6 1).toInt)
  (iff (geI (nth p6 2).toInt (0 : Int))
  (iff (ltI (nth p6 2).toInt ((nth p6 3).toList.length : Int))
  (iff (geI (nth p6 0).toInt (0 : Int))
  (iff (ltI (nth p6 0).toInt (((nth (nth p6 3).toList (nth p6 2).toInt.toNat).fld 1).toList.length : Int))
  ((I 169 [(nth p6 3), (nth p6 2), (nth ((nth (nth p6 3).toList (nth p6 2).toInt.toNat).fld 1).toList (nth p6 0).toInt.toNat)]).bind fun r7 =>
  (iff (!(nth r7 0).toBool)
  (some (Ex.r, [(PV.bool false)]))
  (some (Ex.n, [(PV.int (IntKind.i64.wrap ((nth p6 0).toInt + (1 : Int)))), (nth p6 1), (nth p6 2), (nth p6 3)]))))
  none)
  none)
  none)
  none)
  (some (Ex.x 2, [(nth p6 1), (nth p6 2), (nth p6 3)])))
def L116_1 (I : Interp) (n : Nat) (p2 : List PV) : Option (Ex × List PV) :=
  (iff (ltI (nth p2 0).toInt ((nth p2 1).toList.length : Int))
  (iff (geI (nth p2 0).toInt (0 : Int))
  (iff (ltI (nth p2 0).toInt ((nth p2 1).toList.length : Int))
  (iff (geI (nth p2 0).toInt (0 : Int))
  (iff (ltI (nth p2 0).toInt ((nth p2 1).toList.length : Int))
  ((I 104 [((nth (nth p2 1).toList (nth p2 0).toInt.toNat).fld 0), (PV.int (0 : Int)), (PV.int (20 : Int))]).bind fun r3 =>
  ((iff ((!(nth r3 0).toBool) == false)
  ((I 104 [(selB ((!(nth r3 0).toBool) == false) (PV.int (((nth (nth p2 1).toList (nth p2 0).toInt.toNat).fld 1).toList.length : Int)) PV.unit), (PV.int (1 : Int)), (PV.int (3000 : Int))]).bind fun r4 =>
  (some [(nth r4 0), (nth r4 0)]))
  (some [PV.unit, PV.unit])).bind fun g5 =>
  (iff (selB (!(nth r3 0).toBool) (PV.bool true) (selB ((!(nth r3 0).toBool) == false) (PV.bool (!(nth g5 0).toBool)) PV.unit)).toBool
  (some (Ex.r, [(PV.bool false)]))
  (thenN (thenE (loopEv (L116_0 I n) n [(PV.int (0 : Int)), (PV.int (((nth (nth p2 1).toList (nth p2 0).toInt.toNat).fld 1).toList.length : Int)), (nth p2 0), (nth p2 1)])
  (passB 2))
  (fun p8 => (iff (geI (nth p8 1).toInt (0 : Int))
  (iff (ltI (nth p8 1).toInt ((nth p8 2).toList.length : Int))
  (iff (geI (IntKind.i64.wrap ((nth p8 0).toInt - (1 : Int))) (0 : Int))
  (iff (ltI (IntKind.i64.wrap ((nth p8 0).toInt - (1 : Int))) (((nth (nth p8 2).toList (nth p8 1).toInt.toNat).fld 1).toList.length : Int))
  (iff (selB (selB (neI ((nth ((nth (nth p8 2).toList (nth p8 1).toInt.toNat).fld 1).toList (IntKind.i64.wrap ((nth p8 0).toInt - (1 : Int))).toNat).fld 0).toInt (7 : Int)) (selB ((neI ((nth ((nth (nth p8 2).toList (nth p8 1).toInt.toNat).fld 1).toList (IntKind.i64.wrap ((nth p8 0).toInt - (1 : Int))).toNat).fld 0).toInt (7 : Int)) == true) (PV.bool (neI (selB ((neI ((nth ((nth (nth p8 2).toList (nth p8 1).toInt.toNat).fld 1).toList (IntKind.i64.wrap ((nth p8 0).toInt - (1 : Int))).toNat).fld 0).toInt (7 : Int)) == true) ((nth ((nth (nth p8 2).toList (nth p8 1).toInt.toNat).fld 1).toList (IntKind.i64.wrap ((nth p8 0).toInt - (1 : Int))).toNat).fld 0) PV.unit).toInt (19 : Int))) PV.unit) (PV.bool false)).toBool (selB ((selB (neI ((nth ((nth (nth p8 2).toList (nth p8 1).toInt.toNat).fld 1).toList (IntKind.i64.wrap ((nth p8 0).toInt - (1 : Int))).toNat).fld 0).toInt (7 : Int)) (selB ((neI ((nth ((nth (nth p8 2).toList (nth p8 1).toInt.toNat).fld 1).toList (IntKind.i64.wrap ((nth p8 0).toInt - (1 : Int))).toNat).fld 0).toInt (7 : Int)) == true) (PV.bool (neI (selB ((neI ((nth ((nth (nth p8 2).toList (nth p8 1).toInt.toNat).fld 1).toList (IntKind.i64.wrap ((nth p8 0).toInt - (1 : Int))).toNat).fld 0).toInt (7 : Int)) == true) ((nth ((nth (nth p8 2).toList (nth p8 1).toInt.toNat).fld 1).toList (IntKind.i64.wrap ((nth p8 0).toInt - (1 : Int))).toNat).fld 0) PV.unit).toInt (19 : Int))) PV.unit) (PV.bool false)).isB true) (PV.bool (neI (selB ((selB (neI ((nth ((nth (nth p8 2).toList (nth p8 1).toInt.toNat).fld 1).toList (IntKind.i64.wrap ((nth p8 0).toInt - (1 : Int))).toNat).fld 0).toInt (7 : Int)) (selB ((neI ((nth ((nth (nth p8 2).toList (nth p8 1).toInt.toNat).fld 1).toList (IntKind.i64.wrap ((nth p8 0).toInt - (1 : Int))).toNat).fld 0).toInt (7 : Int)) == true) (PV.bool (neI (selB ((neI ((nth ((nth (nth p8 2).toList (nth p8 1).toInt.toNat).fld 1).toList (IntKind.i64.wrap ((nth p8 0).toInt - (1 : Int))).toNat).fld 0).toInt (7 : Int)) == true) ((nth ((nth (nth p8 2).toList (nth p8 1).toInt.toNat).fld 1).toList (IntKind.i64.wrap ((nth p8 0).toInt - (1 : Int))).toNat).fld 0) PV.unit).toInt (19 : Int))) PV.unit) (PV.bool false)).isB true) ((nth ((nth (nth p8 2).toList (nth p8 1).toInt.toNat).fld 1).toList (IntKind.i64.wrap ((nth p8 0).toInt - (1 : Int))).toNat).fld 0) PV.unit).toInt (21 : Int))) PV.unit) (PV.bool false)).toBool
  (some (Ex.r, [(PV.bool false)]))
  (some (Ex.n, [(PV.int (IntKind.i64.wrap ((nth p8 1).toInt + (1 : Int)))), (nth p8 2)])))
  none)
  none)
  none)
  none))
  passE))))
  none)
  none)
  none)
  none)
  (some (Ex.x 0, [])))
def F116 (I : Interp) (n : Nat) (a : List PV) : Option (List PV) :=
  ((I 104 [(PV.int ((nth a 0).toList.length : Int)), (PV.int (1 : Int)), (PV.int (60 : Int))]).bind fun r0 =>
  ((iff ((!(nth r0 0).toBool) == false)
  (iff (geI (0 : Int) (0 : Int))
  (iff (ltI (0 : Int) ((selB ((!(nth r0 0).toBool) == false) (nth a 0) PV.unit).toList.length : Int))
  (some [(nth (selB ((!(nth r0 0).toBool) == false) (nth a 0) PV.unit).toList (0 : Int).toNat), (nth (selB ((!(nth r0 0).toBool) == false) (nth a 0) PV.unit).toList (0 : Int).toNat)])
  none)
  none)
  (some [PV.unit, PV.unit])).bind fun g1 =>
  (iff (selB (!(nth r0 0).toBool) (PV.bool true) (selB ((!(nth r0 0).toBool) == false) (PV.bool (neI (selB ((!(nth r0 0).toBool) == false) (selB ((!(nth r0 0).toBool) == false) ((nth g1 0).fld 0) PV.unit) PV.unit).toInt (0 : Int))) PV.unit)).toBool
  (some [(PV.bool false)])
  (thenN (thenE (loopEv (L116_1 I n) n [(PV.int (0 : Int)), (nth a 0)])
  (passB 0))
  (fun p9 => (some [(PV.bool true)]))
  (retE fun q10 => [(nth q10 0)])))))
theorem e116 : ∀ I n a, (compF Try.prog sg 116).map (fun d => d.ev I n a) = some (F116 I n a) := fun I n a => by kernel_rfl
/-! impl.FunsOk -/
def L119_0 (I : Interp) (n : Nat) (p6 : List PV) : Option (Ex × List PV) :=
  (iff (ltI (nth p6 0).toInt (nth p6 1).toInt)
  (iff (geI (nth p6 0).toInt (0 : Int))
  (iff (ltI (nth p6 0).toInt ((nth p6 2).toList.length : Int))
  ((I 171 [(nth p6 7), (nth p6 8), (nth p6 3), (nth (nth p6 2).toList (nth p6 0).toInt.toNat)]).bind fun r7 =>
  (iff (!(nth r7 0).toBool)
  (some (Ex.r, [(PV.bool false)]))
  (some (Ex.n, [(PV.int (IntKind.i64.wrap ((nth p6 0).toInt + (1 : Int)))), (nth p6 1), (nth p6 2), (nth p6 3), (nth p6 4), (nth p6 5), (nth p6 6), (nth p6 7), (nth p6 8)]))))
  none)
  none)
  (some (Ex.x 2, [(nth p6 4), (nth p6 5), (nth p6 6), (nth p6 7), (nth p6 8)])))
def L119_1 (I : Interp) (n : Nat) (p2 : List PV) : Option (Ex × List PV) :=
  (iff (ltI (nth p2 0).toInt (nth p2 1).toInt)
  (iff (geI (nth p2 0).toInt (0 : Int))
  (iff (ltI (nth p2 0).toInt ((nth p2 2).toList.length : Int))
  ((I 102 [((nth (nth p2 2).toList (nth p2 0).toInt.toNat).fld 0), (PV.int (0 : Int)), (PV.int (20 : Int))]).bind fun r3 =>
  ((iff ((!(nth r3 0).toBool) == false)
  ((I 102 [(selB ((!(nth r3 0).toBool) == false) (PV.int ((selB ((!(nth r3 0).toBool) == false) ((nth (nth p2 2).toList (nth p2 0).toInt.toNat).fld 1) PV.unit).toList.length : Int)) PV.unit), (PV.int (1 : Int)), (PV.int (3000 : Int))]).bind fun r4 =>
  (some [(nth r4 0), (nth r4 0)]))
  (some [PV.unit, PV.unit])).bind fun g5 =>
  (iff (selB (!(nth r3 0).toBool) (PV.bool true) (selB ((!(nth r3 0).toBool) == false) (PV.bool (!(nth g5 0).toBool)) PV.unit)).toBool
  (some (Ex.r, [(PV.bool false)]))
  (thenN (thenE (loopEv (L119_0 I n) n [(PV.int (0 : Int)), (PV.int (((nth (nth p2 2).toList (nth p2 0).toInt.toNat).fld 1).toList.length : Int)), ((nth (nth p2 2).toList (nth p2 0).toInt.toNat).fld 1), (nth p2 0), (nth p2 0), (nth p2 1), (nth p2 2), (nth p2 3), (nth (nth p2 2).toList (nth p2 0).toInt.toNat)])
  (passB 2))
  (fun p8 => (iff (geI (IntKind.i64.wrap ((((nth p8 4).fld 1).toList.length : Int) - (1 : Int))) (0 : Int))
  (iff (ltI (IntKind.i64.wrap ((((nth p8 4).fld 1).toList.length : Int) - (1 : Int))) (((nth p8 4).fld 1).toList.length : Int))
  (thenN (iff (eqI ((nth ((nth p8 4).fld 1).toList (IntKind.i64.wrap ((((nth p8 4).fld 1).toList.length : Int) - (1 : Int))).toNat).fld 0).toInt (7 : Int))
  (some (Ex.n, [(PV.bool (eqI ((nth ((nth p8 4).fld 1).toList (IntKind.i64.wrap ((((nth p8 4).fld 1).toList.length : Int) - (1 : Int))).toNat).fld 0).toInt (7 : Int))), (nth p8 0), (nth p8 1), (nth p8 2), (nth p8 3)]))
  (iff (eqI ((nth ((nth p8 4).fld 1).toList (IntKind.i64.wrap ((((nth p8 4).fld 1).toList.length : Int) - (1 : Int))).toNat).fld 0).toInt (19 : Int))
  (some (Ex.n, [(PV.bool (eqI ((nth ((nth p8 4).fld 1).toList (IntKind.i64.wrap ((((nth p8 4).fld 1).toList.length : Int) - (1 : Int))).toNat).fld 0).toInt (19 : Int))), (nth p8 0), (nth p8 1), (nth p8 2), (nth p8 3)]))
  (some (Ex.n, [(PV.bool (eqI ((nth ((nth p8 4).fld 1).toList (IntKind.i64.wrap ((((nth p8 4).fld 1).toList.length : Int) - (1 : Int))).toNat).fld 0).toInt (21 : Int))), (nth p8 0), (nth p8 1), (nth p8 2), (nth p8 3)]))))
  (fun p9 => (iff (nth p9 0).toBool
  (some (Ex.n, [(PV.int (IntKind.i64.wrap ((nth p9 1).toInt + (1 : Int)))), (nth p9 2), (nth p9 3), (nth p9 4)]))
  (some (Ex.r, [(PV.bool false)]))))
  passE)
  none)
  none))
  passE))))
  none)
  none)
  (some (Ex.x 0, [])))
def F119 (I : Interp) (n : Nat) (a : List PV) : Option (List PV) :=
  ((I 102 [(PV.int ((nth a 0).toList.length : Int)), (PV.int (1 : Int)), (PV.int (60 : Int))]).bind fun r0 =>
  ((iff ((!(nth r0 0).toBool) == false)
  (iff (geI (0 : Int) (0 : Int))
  (iff (ltI (0 : Int) ((selB ((!(nth r0 0).toBool) == false) (nth a 0) PV.unit).toList.length : Int))
  (some [(nth (selB ((!(nth r0 0).toBool) == false) (nth a 0) PV.unit).toList (0 : Int).toNat), (nth (selB ((!(nth r0 0).toBool) == false) (nth a 0) PV.unit).toList (0 : Int).toNat)])
  none)
  none)
  (some [PV.unit, PV.unit])).bind fun g1 =>
  (iff (selB (!(nth r0 0).toBool) (PV.bool true) (selB ((!(nth r0 0).toBool) == false) (PV.bool (neI (selB ((!(nth r0 0).toBool) == false) (selB ((!(nth r0 0).toBool) == false) ((nth g1 0).fld 0) PV.unit) PV.unit).toInt (0 : Int))) PV.unit)).toBool
  (some [(PV.bool false)])
  (thenN (thenE (loopEv (L119_1 I n) n [(PV.int (0 : Int)), (PV.int ((nth a 0).toList.length : Int)), (nth a 0), (nth a 0)])
  (passB 0))
  (fun p10 => (some [(PV.bool true)]))
  (retE fun q11 => [(nth q11 0)])))))
theorem e119 : ∀ I n a, (compF Try.prog sg 119).map (fun d => d.ev I n a) = some (F119 I n a) := fun I n a => by kernel_rfl
/-! impl.blocksOf -/
def L106_0 (I : Interp) (n : Nat) (p7 : List PV) : Option (Ex × List PV) :=
  (iff (ltI (nth p7 0).toInt ((nth p7 2).fld 3).toInt)
  (iff (geI (nth p7 0).toInt (0 : Int))
  (iff (ltI (nth p7 0).toInt (((nth p7 2).fld 0).toList.length : Int))
  ((I 163 [(nth ((nth p7 2).fld 0).toList (nth p7 0).toInt.toNat)]).bind fun r8 =>
  (letB (selB (!(nth r8 3).toBool) (PV.bool true) (selB ((!(nth r8 3).toBool) == false) (PV.bool (gtI (selB ((!(nth r8 3).toBool) == false) (PV.int (IntKind.i64.wrap ((selB ((!(nth r8 3).toBool) == false) (PV.int (IntKind.i64.wrap ((selB ((!(nth r8 3).toBool) == false) (nth p7 0) PV.unit).toInt + (1 : Int)))) PV.unit).toInt + (selB ((!(nth r8 3).toBool) == false) (nth r8 2) PV.unit).toInt))) PV.unit).toInt (selB ((!(nth r8 3).toBool) == false) ((nth p7 2).fld 3) PV.unit).toInt)) PV.unit)) fun v9 =>
  (iff v9.toBool
  (some (Ex.r, [(PV.list ([] : List PV)), (PV.bool false)]))
  (iff (leN ((nth p7 1).toList.length + ((nth p7 0) :: ([] : List PV)).length) 17592186044416)
  (some (Ex.n, [(PV.int (IntKind.i64.wrap ((nth p7 0).toInt + (IntKind.i64.wrap ((1 : Int) + (nth r8 2).toInt))))), (PV.list ((nth p7 1).toList ++ ((nth p7 0) :: ([] : List PV)))), (nth p7 2)]))
  none))))
  none)
  none)
  (some (Ex.x 0, [(nth p7 1)])))
def F106 (I : Interp) (n : Nat) (a : List PV) : Option (List PV) :=
  ((I 102 [((nth a 0).fld 1), (PV.int (1 : Int)), (PV.int (3000 : Int))]).bind fun r0 =>
  (letB (selB (!(nth r0 0).toBool) (PV.bool true) (selB ((!(nth r0 0).toBool) == false) (PV.bool (neI (selB ((!(nth r0 0).toBool) == false) (PV.int ((selB ((!(nth r0 0).toBool) == false) ((nth a 0).fld 0) PV.unit).toList.length : Int)) PV.unit).toInt (selB ((!(nth r0 0).toBool) == false) (PV.int (IntKind.i64.wrap ((2 : Int) * (selB ((!(nth r0 0).toBool) == false) ((nth a 0).fld 1) PV.unit).toInt))) PV.unit).toInt)) PV.unit)) fun v1 =>
  (letB (selB (v1.isB false) (selB (selB (v1.isB false) (selB (v1.isB false) (PV.bool (neI (selB (v1.isB false) ((nth a 0).fld 2) PV.unit).toInt (0 : Int))) PV.unit) PV.unit).toBool (selB ((selB (v1.isB false) (selB (v1.isB false) (PV.bool (neI (selB (v1.isB false) ((nth a 0).fld 2) PV.unit).toInt (0 : Int))) PV.unit) PV.unit).isB true) (PV.bool (neI (selB ((selB (v1.isB false) (selB (v1.isB false) (PV.bool (neI (selB (v1.isB false) ((nth a 0).fld 2) PV.unit).toInt (0 : Int))) PV.unit) PV.unit).isB true) ((nth a 0).fld 2) PV.unit).toInt (selB ((selB (v1.isB false) (selB (v1.isB false) (PV.bool (neI (selB (v1.isB false) ((nth a 0).fld 2) PV.unit).toInt (0 : Int))) PV.unit) PV.unit).isB true) ((nth a 0).fld 1) PV.unit).toInt)) PV.unit) (PV.bool false)) PV.unit) fun v2 =>
  (letB (selB v1.toBool (PV.bool true) v2) fun v3 =>
  ((iff (v3.isB false)
  ((I 102 [(selB (v3.isB false) ((nth a 0).fld 3) PV.unit), (selB (v3.isB false) ((nth a 0).fld 2) PV.unit), (selB (v3.isB false) (PV.int (IntKind.i64.wrap ((selB (v3.isB false) ((nth a 0).fld 2) PV.unit).toInt + (selB (v3.isB false) ((nth a 0).fld 1) PV.unit).toInt))) PV.unit)]).bind fun r4 =>
  (some [(nth r4 0), (nth r4 0)]))
  (some [PV.unit, PV.unit])).bind fun g5 =>
  (letB (selB v3.toBool (PV.bool true) (selB (v3.isB false) (PV.bool (!(nth g5 0).toBool)) PV.unit)) fun v6 =>
  (iff v6.toBool
  (some [(PV.list ([] : List PV)), (PV.bool false)])
  (thenN (thenE (loopEv (L106_0 I n) n [((nth a 0).fld 2), (PV.list ([] : List PV)), (nth a 0)])
  (passB 0))
  (fun p10 => (some [(nth p10 0), (PV.bool true)]))
  (retE fun q11 => [(nth q11 0), (nth q11 1)])))))))))
theorem e106 : ∀ I n a, (compF Try.prog sg 106).map (fun d => d.ev I n a) = some (F106 I n a) := fun I n a => ew_ev (g := F106) (fun I n a => by kernel_rfl) I n a
/-! impl.isInt -/
def F107 (I : Interp) (n : Nat) (a : List PV) : Option (List PV) :=
  ((I 94 [(nth a 0)]).bind fun r0 =>
  ((iff ((!(nth r0 0).toBool) == true)
  ((I 158 [(selB ((!(nth r0 0).toBool) == true) (nth a 0) PV.unit)]).bind fun r1 =>
  (some [(nth r1 0), (nth r1 0)]))
  (some [PV.unit, PV.unit])).bind fun g2 =>
  ((iff ((!(nth r0 0).toBool) == true)
  ((I 120 [(nth g2 0)]).bind fun r3 =>
  (some [(nth r3 0), (nth r3 0)]))
  (some [PV.unit, PV.unit])).bind fun g4 =>
  (some [(selB (!(nth r0 0).toBool) (nth g4 0) (PV.bool false))]))))
theorem e107 : ∀ I n a, (compF Try.prog sg 107).map (fun d => d.ev I n a) = some (F107 I n a) := fun I n a => by kernel_rfl
/-! laws.heldVm -/
def F77 (I : Interp) (n : Nat) (a : List PV) : Option (List PV) :=
  ((I 70 [((nth a 0).fld 0), (nth a 1)]).bind fun r0 =>
  (iff (ltI (nth r0 0).toInt (0 : Int))
  (some [(PV.int (-1 : Int))])
  ((I 26 [((nth a 0).fld 1), (nth r0 0)]).bind fun r1 =>
  (iff (ltI (nth r1 0).toInt (0 : Int))
  (some [(PV.int (-1 : Int))])
  ((I 27 [((nth a 0).fld 2), (nth r1 0)]).bind fun r2 =>
  (iff (ltI (nth r2 0).toInt (0 : Int))
  (some [(PV.int (-1 : Int))])
  ((I 155 [((nth a 0).fld 3), (nth r2 0)]).bind fun r3 =>
  (iff (ltI (nth r3 0).toInt (0 : Int))
  (some [(PV.int (-1 : Int))])
  ((I 27 [((nth a 0).fld 4), (nth r3 0)]).bind fun r4 =>
  (iff (ltI (nth r4 0).toInt (0 : Int))
  (some [(PV.int (-1 : Int))])
  (some [(nth r4 0)])))))))))))
theorem e77 : ∀ I n a, (compF Try.prog sg 77).map (fun d => d.ev I n a) = some (F77 I n a) := fun I n a => by kernel_rfl
/-! laws.markVm -/
def F61 (I : Interp) (n : Nat) (a : List PV) : Option (List PV) :=
  ((I 69 [((nth a 0).fld 0), (nth a 1)]).bind fun r0 =>
  ((I 18 [(((nth a 0).setFld 0 (nth r0 1)).fld 1), (nth r0 0)]).bind fun r1 =>
  ((I 25 [((((nth a 0).setFld 0 (nth r0 1)).setFld 1 (nth r1 1)).fld 2), (nth r1 0)]).bind fun r2 =>
  ((I 133 [(((((nth a 0).setFld 0 (nth r0 1)).setFld 1 (nth r1 1)).setFld 2 (nth r2 1)).fld 3), (nth r2 0)]).bind fun r3 =>
  ((I 25 [((((((nth a 0).setFld 0 (nth r0 1)).setFld 1 (nth r1 1)).setFld 2 (nth r2 1)).setFld 3 (nth r3 1)).fld 4), (nth r3 0)]).bind fun r4 =>
  (some [(nth r4 0), ((((((nth a 0).setFld 0 (nth r0 1)).setFld 1 (nth r1 1)).setFld 2 (nth r2 1)).setFld 3 (nth r3 1)).setFld 4 (nth r4 1))]))))))
theorem e61 : ∀ I n a, (compF Try.prog sg 61).map (fun d => d.ev I n a) = some (F61 I n a) := fun I n a => by kernel_rfl
/-! laws.markVm -/
def F4157 (I : Interp) (n : Nat) (a : List PV) : Option (List PV) :=
  ((I 69 [((nth a 0).fld 0), (nth a 1)]).bind fun r0 =>
  ((I 18 [(((nth a 0).setFld 0 (nth r0 1)).fld 1), (nth r0 0)]).bind fun r1 =>
  ((I 25 [((((nth a 0).setFld 0 (nth r0 1)).setFld 1 (nth r1 1)).fld 2), (nth r1 0)]).bind fun r2 =>
  ((I 133 [(((((nth a 0).setFld 0 (nth r0 1)).setFld 1 (nth r1 1)).setFld 2 (nth r2 1)).fld 3), (nth r2 0)]).bind fun r3 =>
  ((I 25 [((((((nth a 0).setFld 0 (nth r0 1)).setFld 1 (nth r1 1)).setFld 2 (nth r2 1)).setFld 3 (nth r3 1)).fld 4), (nth r3 0)]).bind fun r4 =>
  (some [(nth r4 0)]))))))
theorem e4157 : ∀ I n a, (compF Try.prog sg 4157).map (fun d => d.ev I n a) = some (F4157 I n a) := fun I n a => by kernel_rfl
/-! impl.isBlock -/
def F108 (I : Interp) (n : Nat) (a : List PV) : Option (List PV) :=
  ((I 96 [(nth a 1)]).bind fun r0 =>
  ((I 167 [(nth a 0), (nth r0 0)]).bind fun r1 =>
  ((I 94 [(nth a 1)]).bind fun r2 =>
  (some [(selB (nth r2 0).toBool (selB ((nth r2 0).isB true) (nth r1 1) PV.unit) (PV.bool false))]))))
theorem e108 : ∀ I n a, (compF Try.prog sg 108).map (fun d => d.ev I n a) = some (F108 I n a) := fun I n a => by kernel_rfl
/-! spec.l17There -/
def F110 (I : Interp) (n : Nat) (a : List PV) : Option (List PV) :=
  ((I 156 [(nth a 1)]).bind fun r0 =>
  (iff (nth r0 0).toBool
  ((I 111 [(nth a 1)]).bind fun r1 =>
  ((I 113 [(nth a 0), (nth r1 0)]).bind fun r2 =>
  (some [(nth r2 0)])))
  ((I 157 [(nth a 1)]).bind fun r3 =>
  ((I 117 [(nth r3 0)]).bind fun r4 =>
  (some [(nth r4 0)])))))
theorem e110 : ∀ I n a, (compF Try.prog sg 110).map (fun d => d.ev I n a) = some (F110 I n a) := fun I n a => by kernel_rfl
/-! impl.Depths -/
def L190_0 (I : Interp) (n : Nat) (p3 : List PV) : Option (Ex × List PV) :=
  (iff (ltI (nth p3 0).toInt (nth p3 1).toInt)
  (iff (geI (nth p3 0).toInt (0 : Int))
  (iff (ltI (nth p3 0).toInt ((nth p3 3).toList.length : Int))
  (some (Ex.n, [(PV.int (IntKind.i64.wrap ((nth p3 0).toInt + (1 : Int)))), (nth p3 1), (nth p3 2), (PV.list ((nth p3 3).toList.set (nth p3 0).toInt.toNat (PV.int (-1 : Int))))]))
  none)
  none)
  (some (Ex.x 0, [(nth p3 2), (nth p3 3)])))
def L190_1 (I : Interp) (n : Nat) (p8 : List PV) : Option (Ex × List PV) :=
  (iff (ltI (nth p8 0).toInt (nth p8 1).toInt)
  (thenN (iff (geI (nth p8 0).toInt (0 : Int))
  (iff (ltI (nth p8 0).toInt ((nth p8 2).toList.length : Int))
  (iff (geI (nth (nth p8 2).toList (nth p8 0).toInt.toNat).toInt (0 : Int))
  (iff (ltI (nth (nth p8 2).toList (nth p8 0).toInt.toNat).toInt ((nth p8 6).toList.length : Int))
  (iff (eqI (nth (nth p8 6).toList (nth (nth p8 2).toList (nth p8 0).toInt.toNat).toInt.toNat).toInt (-1 : Int))
  (iff (geI (nth (nth p8 2).toList (nth p8 0).toInt.toNat).toInt (0 : Int))
  (iff (ltI (nth (nth p8 2).toList (nth p8 0).toInt.toNat).toInt ((nth p8 6).toList.length : Int))
  (iff (leN ((nth p8 4).toList.length + ((nth (nth p8 2).toList (nth p8 0).toInt.toNat) :: ([] : List PV)).length) 17592186044416)
  (some (Ex.n, [(nth p8 0), (nth p8 1), (nth p8 2), (nth p8 3), (PV.list ((nth p8 4).toList ++ ((nth (nth p8 2).toList (nth p8 0).toInt.toNat) :: ([] : List PV)))), (nth p8 5), (PV.list ((nth p8 6).toList.set (nth (nth p8 2).toList (nth p8 0).toInt.toNat).toInt.toNat (nth p8 3)))]))
  none)
  none)
  none)
  (iff (geI (nth (nth p8 2).toList (nth p8 0).toInt.toNat).toInt (0 : Int))
  (iff (ltI (nth (nth p8 2).toList (nth p8 0).toInt.toNat).toInt ((nth p8 6).toList.length : Int))
  (iff (neI (nth (nth p8 6).toList (nth (nth p8 2).toList (nth p8 0).toInt.toNat).toInt.toNat).toInt (nth p8 3).toInt)
  (some (Ex.r, [(PV.list ([] : List PV)), (PV.bool false)]))
  (some (Ex.n, [(nth p8 0), (nth p8 1), (nth p8 2), (nth p8 3), (nth p8 4), (nth p8 5), (nth p8 6)])))
  none)
  none))
  none)
  none)
  none)
  none)
  (fun p9 => (some (Ex.n, [(PV.int (IntKind.i64.wrap ((nth p9 0).toInt + (1 : Int)))), (nth p9 1), (nth p9 2), (nth p9 3), (nth p9 4), (nth p9 5), (nth p9 6)])))
  passE)
  (some (Ex.x 4, [(nth p8 4), (nth p8 5), (nth p8 6)])))
def L190_2 (I : Interp) (n : Nat) (p5 : List PV) : Option (Ex × List PV) :=
  (iff (gtI ((nth p5 0).toList.length : Int) (0 : Int))
  (iff (geI (IntKind.i64.wrap (((nth p5 0).toList.length : Int) - (1 : Int))) (0 : Int))
  (iff (ltI (IntKind.i64.wrap (((nth p5 0).toList.length : Int) - (1 : Int))) ((nth p5 0).toList.length : Int))
  (iff (geI (0 : Int) (0 : Int))
  (iff (leI (0 : Int) (IntKind.i64.wrap (((nth p5 0).toList.length : Int) - (1 : Int))))
  (iff (leI (IntKind.i64.wrap (((nth p5 0).toList.length : Int) - (1 : Int))) ((nth p5 0).toList.length : Int))
  (iff (geI (nth (nth p5 0).toList (IntKind.i64.wrap (((nth p5 0).toList.length : Int) - (1 : Int))).toNat).toInt (0 : Int))
  (iff (ltI (nth (nth p5 0).toList (IntKind.i64.wrap (((nth p5 0).toList.length : Int) - (1 : Int))).toNat).toInt ((nth p5 1).toList.length : Int))
  (iff (geI (nth (nth p5 0).toList (IntKind.i64.wrap (((nth p5 0).toList.length : Int) - (1 : Int))).toNat).toInt (0 : Int))
  (iff (ltI (nth (nth p5 0).toList (IntKind.i64.wrap (((nth p5 0).toList.length : Int) - (1 : Int))).toNat).toInt ((nth p5 2).toList.length : Int))
  ((I 218 [(nth (nth p5 1).toList (nth (nth p5 0).toList (IntKind.i64.wrap (((nth p5 0).toList.length : Int) - (1 : Int))).toNat).toInt.toNat)]).bind fun r6 =>
  (iff (selB (selB (gtI (nth r6 0).toInt (IntKind.i64.wrap ((nth (nth p5 2).toList (nth (nth p5 0).toList (IntKind.i64.wrap (((nth p5 0).toList.length : Int) - (1 : Int))).toNat).toInt.toNat).toInt - (1 : Int)))) (PV.bool true) (selB ((gtI (nth r6 0).toInt (IntKind.i64.wrap ((nth (nth p5 2).toList (nth (nth p5 0).toList (IntKind.i64.wrap (((nth p5 0).toList.length : Int) - (1 : Int))).toNat).toInt.toNat).toInt - (1 : Int)))) == false) (selB (selB ((gtI (nth r6 0).toInt (IntKind.i64.wrap ((nth (nth p5 2).toList (nth (nth p5 0).toList (IntKind.i64.wrap (((nth p5 0).toList.length : Int) - (1 : Int))).toNat).toInt.toNat).toInt - (1 : Int)))) == false) (selB ((gtI (nth r6 0).toInt (IntKind.i64.wrap ((nth (nth p5 2).toList (nth (nth p5 0).toList (IntKind.i64.wrap (((nth p5 0).toList.length : Int) - (1 : Int))).toNat).toInt.toNat).toInt - (1 : Int)))) == false) (PV.bool (eqI (selB ((gtI (nth r6 0).toInt (IntKind.i64.wrap ((nth (nth p5 2).toList (nth (nth p5 0).toList (IntKind.i64.wrap (((nth p5 0).toList.length : Int) - (1 : Int))).toNat).toInt.toNat).toInt - (1 : Int)))) == false) ((nth (nth p5 1).toList (nth (nth p5 0).toList (IntKind.i64.wrap (((nth p5 0).toList.length : Int) - (1 : Int))).toNat).toInt.toNat).fld 0) PV.unit).toInt (2 : Int))) PV.unit) PV.unit).toBool (selB ((selB ((gtI (nth r6 0).toInt (IntKind.i64.wrap ((nth (nth p5 2).toList (nth (nth p5 0).toList (IntKind.i64.wrap (((nth p5 0).toList.length : Int) - (1 : Int))).toNat).toInt.toNat).toInt - (1 : Int)))) == false) (selB ((gtI (nth r6 0).toInt (IntKind.i64.wrap ((nth (nth p5 2).toList (nth (nth p5 0).toList (IntKind.i64.wrap (((nth p5 0).toList.length : Int) - (1 : Int))).toNat).toInt.toNat).toInt - (1 : Int)))) == false) (PV.bool (eqI (selB ((gtI (nth r6 0).toInt (IntKind.i64.wrap ((nth (nth p5 2).toList (nth (nth p5 0).toList (IntKind.i64.wrap (((nth p5 0).toList.length : Int) - (1 : Int))).toNat).toInt.toNat).toInt - (1 : Int)))) == false) ((nth (nth p5 1).toList (nth (nth p5 0).toList (IntKind.i64.wrap (((nth p5 0).toList.length : Int) - (1 : Int))).toNat).toInt.toNat).fld 0) PV.unit).toInt (2 : Int))) PV.unit) PV.unit).isB true) (PV.bool (geI (selB ((selB ((gtI (nth r6 0).toInt (IntKind.i64.wrap ((nth (nth p5 2).toList (nth (nth p5 0).toList (IntKind.i64.wrap (((nth p5 0).toList.length : Int) - (1 : Int))).toNat).toInt.toNat).toInt - (1 : Int)))) == false) (selB ((gtI (nth r6 0).toInt (IntKind.i64.wrap ((nth (nth p5 2).toList (nth (nth p5 0).toList (IntKind.i64.wrap (((nth p5 0).toList.length : Int) - (1 : Int))).toNat).toInt.toNat).toInt - (1 : Int)))) == false) (PV.bool (eqI (selB ((gtI (nth r6 0).toInt (IntKind.i64.wrap ((nth (nth p5 2).toList (nth (nth p5 0).toList (IntKind.i64.wrap (((nth p5 0).toList.length : Int) - (1 : Int))).toNat).toInt.toNat).toInt - (1 : Int)))) == false) ((nth (nth p5 1).toList (nth (nth p5 0).toList (IntKind.i64.wrap (((nth p5 0).toList.length : Int) - (1 : Int))).toNat).toInt.toNat).fld 0) PV.unit).toInt (2 : Int))) PV.unit) PV.unit).isB true) ((nth (nth p5 1).toList (nth (nth p5 0).toList (IntKind.i64.wrap (((nth p5 0).toList.length : Int) - (1 : Int))).toNat).toInt.toNat).fld 1) PV.unit).toInt (selB ((selB ((gtI (nth r6 0).toInt (IntKind.i64.wrap ((nth (nth p5 2).toList (nth (nth p5 0).toList (IntKind.i64.wrap (((nth p5 0).toList.length : Int) - (1 : Int))).toNat).toInt.toNat).toInt - (1 : Int)))) == false) (selB ((gtI (nth r6 0).toInt (IntKind.i64.wrap ((nth (nth p5 2).toList (nth (nth p5 0).toList (IntKind.i64.wrap (((nth p5 0).toList.length : Int) - (1 : Int))).toNat).toInt.toNat).toInt - (1 : Int)))) == false) (PV.bool (eqI (selB ((gtI (nth r6 0).toInt (IntKind.i64.wrap ((nth (nth p5 2).toList (nth (nth p5 0).toList (IntKind.i64.wrap (((nth p5 0).toList.length : Int) - (1 : Int))).toNat).toInt.toNat).toInt - (1 : Int)))) == false) ((nth (nth p5 1).toList (nth (nth p5 0).toList (IntKind.i64.wrap (((nth p5 0).toList.length : Int) - (1 : Int))).toNat).toInt.toNat).fld 0) PV.unit).toInt (2 : Int))) PV.unit) PV.unit).isB true) (nth (nth p5 2).toList (nth (nth p5 0).toList (IntKind.i64.wrap (((nth p5 0).toList.length : Int) - (1 : Int))).toNat).toInt.toNat) PV.unit).toInt)) PV.unit) (PV.bool false)) PV.unit)).toBool (PV.bool true) (selB ((selB (gtI (nth r6 0).toInt (IntKind.i64.wrap ((nth (nth p5 2).toList (nth (nth p5 0).toList (IntKind.i64.wrap (((nth p5 0).toList.length : Int) - (1 : Int))).toNat).toInt.toNat).toInt - (1 : Int)))) (PV.bool true) (selB ((gtI (nth r6 0).toInt (IntKind.i64.wrap ((nth (nth p5 2).toList (nth (nth p5 0).toList (IntKind.i64.wrap (((nth p5 0).toList.length : Int) - (1 : Int))).toNat).toInt.toNat).toInt - (1 : Int)))) == false) (selB (selB ((gtI (nth r6 0).toInt (IntKind.i64.wrap ((nth (nth p5 2).toList (nth (nth p5 0).toList (IntKind.i64.wrap (((nth p5 0).toList.length : Int) - (1 : Int))).toNat).toInt.toNat).toInt - (1 : Int)))) == false) (selB ((gtI (nth r6 0).toInt (IntKind.i64.wrap ((nth (nth p5 2).toList (nth (nth p5 0).toList (IntKind.i64.wrap (((nth p5 0).toList.length : Int) - (1 : Int))).toNat).toInt.toNat).toInt - (1 : Int)))) == false) (PV.bool (eqI (selB ((gtI (nth r6 0).toInt (IntKind.i64.wrap ((nth (nth p5 2).toList (nth (nth p5 0).toList (IntKind.i64.wrap (((nth p5 0).toList.length : Int) - (1 : Int))).toNat).toInt.toNat).toInt - (1 : Int)))) == false) ((nth (nth p5 1).toList (nth (nth p5 0).toList (IntKind.i64.wrap (((nth p5 0).toList.length : Int) - (1 : Int))).toNat).toInt.toNat).fld 0) PV.unit).toInt (2 : Int))) PV.unit) PV.unit).toBool (selB ((selB ((gtI (nth r6 0).toInt (IntKind.i64.wrap ((nth (nth p5 2).toList (nth (nth p5 0).toList (IntKind.i64.wrap (((nth p5 0).toList.length : Int) - (1 : Int))).toNat).toInt.toNat).toInt - (1 : Int)))) == false) (selB ((gtI (nth r6 0).toInt (IntKind.i64.wrap ((nth (nth p5 2).toList (nth (nth p5 0).toList (IntKind.i64.wrap (((nth p5 0).toList.length : Int) - (1 : Int))).toNat).toInt.toNat).toInt - (1 : Int)))) == false) (PV.bool (eqI (selB ((gtI (nth r6 0).toInt (IntKind.i64.wrap ((nth (nth p5 2).toList (nth (nth p5 0).toList (IntKind.i64.wrap (((nth p5 0).toList.length : Int) - (1 : Int))).toNat).toInt.toNat).toInt - (1 : Int)))) == false) ((nth (nth p5 1).toList (nth (nth p5 0).toList (IntKind.i64.wrap (((nth p5 0).toList.length : Int) - (1 : Int))).toNat).toInt.toNat).fld 0) PV.unit).toInt (2 : Int))) PV.unit) PV.unit).isB true) (PV.bool (geI (selB ((selB ((gtI (nth r6 0).toInt (IntKind.i64.wrap ((nth (nth p5 2).toList (nth (nth p5 0).toList (IntKind.i64.wrap (((nth p5 0).toList.length : Int) - (1 : Int))).toNat).toInt.toNat).toInt - (1 : Int)))) == false) (selB ((gtI (nth r6 0).toInt (IntKind.i64.wrap ((nth (nth p5 2).toList (nth (nth p5 0).toList (IntKind.i64.wrap (((nth p5 0).toList.length : Int) - (1 : Int))).toNat).toInt.toNat).toInt - (1 : Int)))) == false) (PV.bool (eqI (selB ((gtI (nth r6 0).toInt (IntKind.i64.wrap ((nth (nth p5 2).toList (nth (nth p5 0).toList (IntKind.i64.wrap (((nth p5 0).toList.length : Int) - (1 : Int))).toNat).toInt.toNat).toInt - (1 : Int)))) == false) ((nth (nth p5 1).toList (nth (nth p5 0).toList (IntKind.i64.wrap (((nth p5 0).toList.length : Int) - (1 : Int))).toNat).toInt.toNat).fld 0) PV.unit).toInt (2 : Int))) PV.unit) PV.unit).isB true) ((nth (nth p5 1).toList (nth (nth p5 0).toList (IntKind.i64.wrap (((nth p5 0).toList.length : Int) - (1 : Int))).toNat).toInt.toNat).fld 1) PV.unit).toInt (selB ((selB ((gtI (nth r6 0).toInt (IntKind.i64.wrap ((nth (nth p5 2).toList (nth (nth p5 0).toList (IntKind.i64.wrap (((nth p5 0).toList.length : Int) - (1 : Int))).toNat).toInt.toNat).toInt - (1 : Int)))) == false) (selB ((gtI (nth r6 0).toInt (IntKind.i64.wrap ((nth (nth p5 2).toList (nth (nth p5 0).toList (IntKind.i64.wrap (((nth p5 0).toList.length : Int) - (1 : Int))).toNat).toInt.toNat).toInt - (1 : Int)))) == false) (PV.bool (eqI (selB ((gtI (nth r6 0).toInt (IntKind.i64.wrap ((nth (nth p5 2).toList (nth (nth p5 0).toList (IntKind.i64.wrap (((nth p5 0).toList.length : Int) - (1 : Int))).toNat).toInt.toNat).toInt - (1 : Int)))) == false) ((nth (nth p5 1).toList (nth (nth p5 0).toList (IntKind.i64.wrap (((nth p5 0).toList.length : Int) - (1 : Int))).toNat).toInt.toNat).fld 0) PV.unit).toInt (2 : Int))) PV.unit) PV.unit).isB true) (nth (nth p5 2).toList (nth (nth p5 0).toList (IntKind.i64.wrap (((nth p5 0).toList.length : Int) - (1 : Int))).toNat).toInt.toNat) PV.unit).toInt)) PV.unit) (PV.bool false)) PV.unit)).isB false) (selB (selB ((selB (gtI (nth r6 0).toInt (IntKind.i64.wrap ((nth (nth p5 2).toList (nth (nth p5 0).toList (IntKind.i64.wrap (((nth p5 0).toList.length : Int) - (1 : Int))).toNat).toInt.toNat).toInt - (1 : Int)))) (PV.bool true) (selB ((gtI (nth r6 0).toInt (IntKind.i64.wrap ((nth (nth p5 2).toList (nth (nth p5 0).toList (IntKind.i64.wrap (((nth p5 0).toList.length : Int) - (1 : Int))).toNat).toInt.toNat).toInt - (1 : Int)))) == false) (selB (selB ((gtI (nth r6 0).toInt (IntKind.i64.wrap ((nth (nth p5 2).toList (nth (nth p5 0).toList (IntKind.i64.wrap (((nth p5 0).toList.length : Int) - (1 : Int))).toNat).toInt.toNat).toInt - (1 : Int)))) == false) (selB ((gtI (nth r6 0).toInt (IntKind.i64.wrap ((nth (nth p5 2).toList (nth (nth p5 0).toList (IntKind.i64.wrap (((nth p5 0).toList.length : Int) - (1 : Int))).toNat).toInt.toNat).toInt - (1 : Int)))) == false) (PV.bool (eqI (selB ((gtI (nth r6 0).toInt (IntKind.i64.wrap ((nth (nth p5 2).toList (nth (nth p5 0).toList (IntKind.i64.wrap (((nth p5 0).toList.length : Int) - (1 : Int))).toNat).toInt.toNat).toInt - (1 : Int)))) == false) ((nth (nth p5 1).toList (nth (nth p5 0).toList (IntKind.i64.wrap (((nth p5 0).toList.length : Int) - (1 : Int))).toNat).toInt.toNat).fld 0) PV.unit).toInt (2 : Int))) PV.unit) PV.unit).toBool (selB ((selB ((gtI (nth r6 0).toInt (IntKind.i64.wrap ((nth (nth p5 2).toList (nth (nth p5 0).toList (IntKind.i64.wrap (((nth p5 0).toList.length : Int) - (1 : Int))).toNat).toInt.toNat).toInt - (1 : Int)))) == false) (selB ((gtI (nth r6 0).toInt (IntKind.i64.wrap ((nth (nth p5 2).toList (nth (nth p5 0).toList (IntKind.i64.wrap (((nth p5 0).toList.length : Int) - (1 : Int))).toNat).toInt.toNat).toInt - (1 : Int)))) == false) (PV.bool (eqI (selB ((gtI (nth r6 0).toInt (IntKind.i64.wrap ((nth (nth p5 2).toList (nth (nth p5 0).toList (IntKind.i64.wrap (((nth p5 0).toList.length : Int) - (1 : Int))).toNat).toInt.toNat).toInt - (1 : Int)))) == false) ((nth (nth p5 1).toList (nth (nth p5 0).toList (IntKind.i64.wrap (((nth p5 0).toList.length : Int) - (1 : Int))).toNat).toInt.toNat).fld 0) PV.unit).toInt (2 : Int))) PV.unit) PV.unit).isB true) (PV.bool (geI (selB ((selB ((gtI (nth r6 0).toInt (IntKind.i64.wrap ((nth (nth p5 2).toList (nth (nth p5 0).toList (IntKind.i64.wrap (((nth p5 0).toList.length : Int) - (1 : Int))).toNat).toInt.toNat).toInt - (1 : Int)))) == false) (selB ((gtI (nth r6 0).toInt (IntKind.i64.wrap ((nth (nth p5 2).toList (nth (nth p5 0).toList (IntKind.i64.wrap (((nth p5 0).toList.length : Int) - (1 : Int))).toNat).toInt.toNat).toInt - (1 : Int)))) == false) (PV.bool (eqI (selB ((gtI (nth r6 0).toInt (IntKind.i64.wrap ((nth (nth p5 2).toList (nth (nth p5 0).toList (IntKind.i64.wrap (((nth p5 0).toList.length : Int) - (1 : Int))).toNat).toInt.toNat).toInt - (1 : Int)))) == false) ((nth (nth p5 1).toList (nth (nth p5 0).toList (IntKind.i64.wrap (((nth p5 0).toList.length : Int) - (1 : Int))).toNat).toInt.toNat).fld 0) PV.unit).toInt (2 : Int))) PV.unit) PV.unit).isB true) ((nth (nth p5 1).toList (nth (nth p5 0).toList (IntKind.i64.wrap (((nth p5 0).toList.length : Int) - (1 : Int))).toNat).toInt.toNat).fld 1) PV.unit).toInt (selB ((selB ((gtI (nth r6 0).toInt (IntKind.i64.wrap ((nth (nth p5 2).toList (nth (nth p5 0).toList (IntKind.i64.wrap (((nth p5 0).toList.length : Int) - (1 : Int))).toNat).toInt.toNat).toInt - (1 : Int)))) == false) (selB ((gtI (nth r6 0).toInt (IntKind.i64.wrap ((nth (nth p5 2).toList (nth (nth p5 0).toList (IntKind.i64.wrap (((nth p5 0).toList.length : Int) - (1 : Int))).toNat).toInt.toNat).toInt - (1 : Int)))) == false) (PV.bool (eqI (selB ((gtI (nth r6 0).toInt (IntKind.i64.wrap ((nth (nth p5 2).toList (nth (nth p5 0).toList (IntKind.i64.wrap (((nth p5 0).toList.length : Int) - (1 : Int))).toNat).toInt.toNat).toInt - (1 : Int)))) == false) ((nth (nth p5 1).toList (nth (nth p5 0).toList (IntKind.i64.wrap (((nth p5 0).toList.length : Int) - (1 : Int))).toNat).toInt.toNat).fld 0) PV.unit).toInt (2 : Int))) PV.unit) PV.unit).isB true) (nth (nth p5 2).toList (nth (nth p5 0).toList (IntKind.i64.wrap (((nth p5 0).toList.length : Int) - (1 : Int))).toNat).toInt.toNat) PV.unit).toInt)) PV.unit) (PV.bool false)) PV.unit)).isB false) (selB ((selB (gtI (nth r6 0).toInt (IntKind.i64.wrap ((nth (nth p5 2).toList (nth (nth p5 0).toList (IntKind.i64.wrap (((nth p5 0).toList.length : Int) - (1 : Int))).toNat).toInt.toNat).toInt - (1 : Int)))) (PV.bool true) (selB ((gtI (nth r6 0).toInt (IntKind.i64.wrap ((nth (nth p5 2).toList (nth (nth p5 0).toList (IntKind.i64.wrap (((nth p5 0).toList.length : Int) - (1 : Int))).toNat).toInt.toNat).toInt - (1 : Int)))) == false) (selB (selB ((gtI (nth r6 0).toInt (IntKind.i64.wrap ((nth (nth p5 2).toList (nth (nth p5 0).toList (IntKind.i64.wrap (((nth p5 0).toList.length : Int) - (1 : Int))).toNat).toInt.toNat).toInt - (1 : Int)))) == false) (selB ((gtI (nth r6 0).toInt (IntKind.i64.wrap ((nth (nth p5 2).toList (nth (nth p5 0).toList (IntKind.i64.wrap (((nth p5 0).toList.length : Int) - (1 : Int))).toNat).toInt.toNat).toInt - (1 : Int)))) == false) (PV.bool (eqI (selB ((gtI (nth r6 0).toInt (IntKind.i64.wrap ((nth (nth p5 2).toList (nth (nth p5 0).toList (IntKind.i64.wrap (((nth p5 0).toList.length : Int) - (1 : Int))).toNat).toInt.toNat).toInt - (1 : Int)))) == false) ((nth (nth p5 1).toList (nth (nth p5 0).toList (IntKind.i64.wrap (((nth p5 0).toList.length : Int) - (1 : Int))).toNat).toInt.toNat).fld 0) PV.unit).toInt (2 : Int))) PV.unit) PV.unit).toBool (selB ((selB ((gtI (nth r6 0).toInt (IntKind.i64.wrap ((nth (nth p5 2).toList (nth (nth p5 0).toList (IntKind.i64.wrap (((nth p5 0).toList.length : Int) - (1 : Int))).toNat).toInt.toNat).toInt - (1 : Int)))) == false) (selB ((gtI (nth r6 0).toInt (IntKind.i64.wrap ((nth (nth p5 2).toList (nth (nth p5 0).toList (IntKind.i64.wrap (((nth p5 0).toList.length : Int) - (1 : Int))).toNat).toInt.toNat).toInt - (1 : Int)))) == false) (PV.bool (eqI (selB ((gtI (nth r6 0).toInt (IntKind.i64.wrap ((nth (nth p5 2).toList (nth (nth p5 0).toList (IntKind.i64.wrap (((nth p5 0).toList.length : Int) - (1 : Int))).toNat).toInt.toNat).toInt - (1 : Int)))) == false) ((nth (nth p5 1).toList (nth (nth p5 0).toList (IntKind.i64.wrap (((nth p5 0).toList.length : Int) - (1 : Int))).toNat).toInt.toNat).fld 0) PV.unit).toInt (2 : Int))) PV.unit) PV.unit).isB true) (PV.bool (geI (selB ((selB ((gtI (nth r6 0).toInt (IntKind.i64.wrap ((nth (nth p5 2).toList (nth (nth p5 0).toList (IntKind.i64.wrap (((nth p5 0).toList.length : Int) - (1 : Int))).toNat).toInt.toNat).toInt - (1 : Int)))) == false) (selB ((gtI (nth r6 0).toInt (IntKind.i64.wrap ((nth (nth p5 2).toList (nth (nth p5 0).toList (IntKind.i64.wrap (((nth p5 0).toList.length : Int) - (1 : Int))).toNat).toInt.toNat).toInt - (1 : Int)))) == false) (PV.bool (eqI (selB ((gtI (nth r6 0).toInt (IntKind.i64.wrap ((nth (nth p5 2).toList (nth (nth p5 0).toList (IntKind.i64.wrap (((nth p5 0).toList.length : Int) - (1 : Int))).toNat).toInt.toNat).toInt - (1 : Int)))) == false) ((nth (nth p5 1).toList (nth (nth p5 0).toList (IntKind.i64.wrap (((nth p5 0).toList.length : Int) - (1 : Int))).toNat).toInt.toNat).fld 0) PV.unit).toInt (2 : Int))) PV.unit) PV.unit).isB true) ((nth (nth p5 1).toList (nth (nth p5 0).toList (IntKind.i64.wrap (((nth p5 0).toList.length : Int) - (1 : Int))).toNat).toInt.toNat).fld 1) PV.unit).toInt (selB ((selB ((gtI (nth r6 0).toInt (IntKind.i64.wrap ((nth (nth p5 2).toList (nth (nth p5 0).toList (IntKind.i64.wrap (((nth p5 0).toList.length : Int) - (1 : Int))).toNat).toInt.toNat).toInt - (1 : Int)))) == false) (selB ((gtI (nth r6 0).toInt (IntKind.i64.wrap ((nth (nth p5 2).toList (nth (nth p5 0).toList (IntKind.i64.wrap (((nth p5 0).toList.length : Int) - (1 : Int))).toNat).toInt.toNat).toInt - (1 : Int)))) == false) (PV.bool (eqI (selB ((gtI (nth r6 0).toInt (IntKind.i64.wrap ((nth (nth p5 2).toList (nth (nth p5 0).toList (IntKind.i64.wrap (((nth p5 0).toList.length : Int) - (1 : Int))).toNat).toInt.toNat).toInt - (1 : Int)))) == false) ((nth (nth p5 1).toList (nth (nth p5 0).toList (IntKind.i64.wrap (((nth p5 0).toList.length : Int) - (1 : Int))).toNat).toInt.toNat).fld 0) PV.unit).toInt (2 : Int))) PV.unit) PV.unit).isB true) (nth (nth p5 2).toList (nth (nth p5 0).toList (IntKind.i64.wrap (((nth p5 0).toList.length : Int) - (1 : Int))).toNat).toInt.toNat) PV.unit).toInt)) PV.unit) (PV.bool false)) PV.unit)).isB false) (PV.bool (eqI (selB ((selB (gtI (nth r6 0).toInt (IntKind.i64.wrap ((nth (nth p5 2).toList (nth (nth p5 0).toList (IntKind.i64.wrap (((nth p5 0).toList.length : Int) - (1 : Int))).toNat).toInt.toNat).toInt - (1 : Int)))) (PV.bool true) (selB ((gtI (nth r6 0).toInt (IntKind.i64.wrap ((nth (nth p5 2).toList (nth (nth p5 0).toList (IntKind.i64.wrap (((nth p5 0).toList.length : Int) - (1 : Int))).toNat).toInt.toNat).toInt - (1 : Int)))) == false) (selB (selB ((gtI (nth r6 0).toInt (IntKind.i64.wrap ((nth (nth p5 2).toList (nth (nth p5 0).toList (IntKind.i64.wrap (((nth p5 0).toList.length : Int) - (1 : Int))).toNat).toInt.toNat).toInt - (1 : Int)))) == false) (selB ((gtI (nth r6 0).toInt (IntKind.i64.wrap ((nth (nth p5 2).toList (nth (nth p5 0).toList (IntKind.i64.wrap (((nth p5 0).toList.length : Int) - (1 : Int))).toNat).toInt.toNat).toInt - (1 : Int)))) == false) (PV.bool (eqI (selB ((gtI (nth r6 0).toInt (IntKind.i64.wrap ((nth (nth p5 2).toList (nth (nth p5 0).toList (IntKind.i64.wrap (((nth p5 0).toList.length : Int) - (1 : Int))).toNat).toInt.toNat).toInt - (1 : Int)))) == false) ((nth (nth p5 1).toList (nth (nth p5 0).toList (IntKind.i64.wrap (((nth p5 0).toList.length : Int) - (1 : Int))).toNat).toInt.toNat).fld 0) PV.unit).toInt (2 : Int))) PV.unit) PV.unit).toBool (selB ((selB ((gtI (nth r6 0).toInt (IntKind.i64.wrap ((nth (nth p5 2).toList (nth (nth p5 0).toList (IntKind.i64.wrap (((nth p5 0).toList.length : Int) - (1 : Int))).toNat).toInt.toNat).toInt - (1 : Int)))) == false) (selB ((gtI (nth r6 0).toInt (IntKind.i64.wrap ((nth (nth p5 2).toList (nth (nth p5 0).toList (IntKind.i64.wrap (((nth p5 0).toList.length : Int) - (1 : Int))).toNat).toInt.toNat).toInt - (1 : Int)))) == false) (PV.bool (eqI (selB ((gtI (nth r6 0).toInt (IntKind.i64.wrap ((nth (nth p5 2).toList (nth (nth p5 0).toList (IntKind.i64.wrap (((nth p5 0).toList.length : Int) - (1 : Int))).toNat).toInt.toNat).toInt - (1 : Int)))) == false) ((nth (nth p5 1).toList (nth (nth p5 0).toList (IntKind.i64.wrap (((nth p5 0).toList.length : Int) - (1 : Int))).toNat).toInt.toNat).fld 0) PV.unit).toInt (2 : Int))) PV.unit) PV.unit).isB true) (PV.bool (geI (selB ((selB ((gtI (nth r6 0).toInt (IntKind.i64.wrap ((nth (nth p5 2).toList (nth (nth p5 0).toList (IntKind.i64.wrap (((nth p5 0).toList.length : Int) - (1 : Int))).toNat).toInt.toNat).toInt - (1 : Int)))) == false) (selB ((gtI (nth r6 0).toInt (IntKind.i64.wrap ((nth (nth p5 2).toList (nth (nth p5 0).toList (IntKind.i64.wrap (((nth p5 0).toList.length : Int) - (1 : Int))).toNat).toInt.toNat).toInt - (1 : Int)))) == false) (PV.bool (eqI (selB ((gtI (nth r6 0).toInt (IntKind.i64.wrap ((nth (nth p5 2).toList (nth (nth p5 0).toList (IntKind.i64.wrap (((nth p5 0).toList.length : Int) - (1 : Int))).toNat).toInt.toNat).toInt - (1 : Int)))) == false) ((nth (nth p5 1).toList (nth (nth p5 0).toList (IntKind.i64.wrap (((nth p5 0).toList.length : Int) - (1 : Int))).toNat).toInt.toNat).fld 0) PV.unit).toInt (2 : Int))) PV.unit) PV.unit).isB true) ((nth (nth p5 1).toList (nth (nth p5 0).toList (IntKind.i64.wrap (((nth p5 0).toList.length : Int) - (1 : Int))).toNat).toInt.toNat).fld 1) PV.unit).toInt (selB ((selB ((gtI (nth r6 0).toInt (IntKind.i64.wrap ((nth (nth p5 2).toList (nth (nth p5 0).toList (IntKind.i64.wrap (((nth p5 0).toList.length : Int) - (1 : Int))).toNat).toInt.toNat).toInt - (1 : Int)))) == false) (selB ((gtI (nth r6 0).toInt (IntKind.i64.wrap ((nth (nth p5 2).toList (nth (nth p5 0).toList (IntKind.i64.wrap (((nth p5 0).toList.length : Int) - (1 : Int))).toNat).toInt.toNat).toInt - (1 : Int)))) == false) (PV.bool (eqI (selB ((gtI (nth r6 0).toInt (IntKind.i64.wrap ((nth (nth p5 2).toList (nth (nth p5 0).toList (IntKind.i64.wrap (((nth p5 0).toList.length : Int) - (1 : Int))).toNat).toInt.toNat).toInt - (1 : Int)))) == false) ((nth (nth p5 1).toList (nth (nth p5 0).toList (IntKind.i64.wrap (((nth p5 0).toList.length : Int) - (1 : Int))).toNat).toInt.toNat).fld 0) PV.unit).toInt (2 : Int))) PV.unit) PV.unit).isB true) (nth (nth p5 2).toList (nth (nth p5 0).toList (IntKind.i64.wrap (((nth p5 0).toList.length : Int) - (1 : Int))).toNat).toInt.toNat) PV.unit).toInt)) PV.unit) (PV.bool false)) PV.unit)).isB false) ((nth (nth p5 1).toList (nth (nth p5 0).toList (IntKind.i64.wrap (((nth p5 0).toList.length : Int) - (1 : Int))).toNat).toInt.toNat).fld 0) PV.unit).toInt (7 : Int))) PV.unit) PV.unit).toBool (selB ((selB ((selB (gtI (nth r6 0).toInt (IntKind.i64.wrap ((nth (nth p5 2).toList (nth (nth p5 0).toList (IntKind.i64.wrap (((nth p5 0).toList.length : Int) - (1 : Int))).toNat).toInt.toNat).toInt - (1 : Int)))) (PV.bool true) (selB ((gtI (nth r6 0).toInt (IntKind.i64.wrap ((nth (nth p5 2).toList (nth (nth p5 0).toList (IntKind.i64.wrap (((nth p5 0).toList.length : Int) - (1 : Int))).toNat).toInt.toNat).toInt - (1 : Int)))) == false) (selB (selB ((gtI (nth r6 0).toInt (IntKind.i64.wrap ((nth (nth p5 2).toList (nth (nth p5 0).toList (IntKind.i64.wrap (((nth p5 0).toList.length : Int) - (1 : Int))).toNat).toInt.toNat).toInt - (1 : Int)))) == false) (selB ((gtI (nth r6 0).toInt (IntKind.i64.wrap ((nth (nth p5 2).toList (nth (nth p5 0).toList (IntKind.i64.wrap (((nth p5 0).toList.length : Int) - (1 : Int))).toNat).toInt.toNat).toInt - (1 : Int)))) == false) (PV.bool (eqI (selB ((gtI (nth r6 0).toInt (IntKind.i64.wrap ((nth (nth p5 2).toList (nth (nth p5 0).toList (IntKind.i64.wrap (((nth p5 0).toList.length : Int) - (1 : Int))).toNat).toInt.toNat).toInt - (1 : Int)))) == false) ((nth (nth p5 1).toList (nth (nth p5 0).toList (IntKind.i64.wrap (((nth p5 0).toList.length : Int) - (1 : Int))).toNat).toInt.toNat).fld 0) PV.unit).toInt (2 : Int))) PV.unit) PV.unit).toBool (selB ((selB ((gtI (nth r6 0).toInt (IntKind.i64.wrap ((nth (nth p5 2).toList (nth (nth p5 0).toList (IntKind.i64.wrap (((nth p5 0).toList.length : Int) - (1 : Int))).toNat).toInt.toNat).toInt - (1 : Int)))) == false) (selB ((gtI (nth r6 0).toInt (IntKind.i64.wrap ((nth (nth p5 2).toList (nth (nth p5 0).toList (IntKind.i64.wrap (((nth p5 0).toList.length : Int) - (1 : Int))).toNat).toInt.toNat).toInt - (1 : Int)))) == false) (PV.bool (eqI (selB ((gtI (nth r6 0).toInt (IntKind.i64.wrap ((nth (nth p5 2).toList (nth (nth p5 0).toList (IntKind.i64.wrap (((nth p5 0).toList.length : Int) - (1 : Int))).toNat).toInt.toNat).toInt - (1 : Int)))) == false) ((nth (nth p5 1).toList (nth (nth p5 0).toList (IntKind.i64.wrap (((nth p5 0).toList.length : Int) - (1 : Int))).toNat).toInt.toNat).fld 0) PV.unit).toInt (2 : Int))) PV.unit) PV.unit).isB true) (PV.bool (geI (selB ((selB ((gtI (nth r6 0).toInt (IntKind.i64.wrap ((nth (nth p5 2).toList (nth (nth p5 0).toList (IntKind.i64.wrap (((nth p5 0).toList.length : Int) - (1 : Int))).toNat).toInt.toNat).toInt - (1 : Int)))) == false) (selB ((gtI (nth r6 0).toInt (IntKind.i64.wrap ((nth (nth p5 2).toList (nth (nth p5 0).toList (IntKind.i64.wrap (((nth p5 0).toList.length : Int) - (1 : Int))).toNat).toInt.toNat).toInt - (1 : Int)))) == false) (PV.bool (eqI (selB ((gtI (nth r6 0).toInt (IntKind.i64.wrap ((nth (nth p5 2).toList (nth (nth p5 0).toList (IntKind.i64.wrap (((nth p5 0).toList.length : Int) - (1 : Int))).toNat).toInt.toNat).toInt - (1 : Int)))) == false) ((nth (nth p5 1).toList (nth (nth p5 0).toList (IntKind.i64.wrap (((nth p5 0).toList.length : Int) - (1 : Int))).toNat).toInt.toNat).fld 0) PV.unit).toInt (2 : Int))) PV.unit) PV.unit).isB true) ((nth (nth p5 1).toList (nth (nth p5 0).toList (IntKind.i64.wrap (((nth p5 0).toList.length : Int) - (1 : Int))).toNat).toInt.toNat).fld 1) PV.unit).toInt (selB ((selB ((gtI (nth r6 0).toInt (IntKind.i64.wrap ((nth (nth p5 2).toList (nth (nth p5 0).toList (IntKind.i64.wrap (((nth p5 0).toList.length : Int) - (1 : Int))).toNat).toInt.toNat).toInt - (1 : Int)))) == false) (selB ((gtI (nth r6 0).toInt (IntKind.i64.wrap ((nth (nth p5 2).toList (nth (nth p5 0).toList (IntKind.i64.wrap (((nth p5 0).toList.length : Int) - (1 : Int))).toNat).toInt.toNat).toInt - (1 : Int)))) == false) (PV.bool (eqI (selB ((gtI (nth r6 0).toInt (IntKind.i64.wrap ((nth (nth p5 2).toList (nth (nth p5 0).toList (IntKind.i64.wrap (((nth p5 0).toList.length : Int) - (1 : Int))).toNat).toInt.toNat).toInt - (1 : Int)))) == false) ((nth (nth p5 1).toList (nth (nth p5 0).toList (IntKind.i64.wrap (((nth p5 0).toList.length : Int) - (1 : Int))).toNat).toInt.toNat).fld 0) PV.unit).toInt (2 : Int))) PV.unit) PV.unit).isB true) (nth (nth p5 2).toList (nth (nth p5 0).toList (IntKind.i64.wrap (((nth p5 0).toList.length : Int) - (1 : Int))).toNat).toInt.toNat) PV.unit).toInt)) PV.unit) (PV.bool false)) PV.unit)).isB false) (selB ((selB (gtI (nth r6 0).toInt (IntKind.i64.wrap ((nth (nth p5 2).toList (nth (nth p5 0).toList (IntKind.i64.wrap (((nth p5 0).toList.length : Int) - (1 : Int))).toNat).toInt.toNat).toInt - (1 : Int)))) (PV.bool true) (selB ((gtI (nth r6 0).toInt (IntKind.i64.wrap ((nth (nth p5 2).toList (nth (nth p5 0).toList (IntKind.i64.wrap (((nth p5 0).toList.length : Int) - (1 : Int))).toNat).toInt.toNat).toInt - (1 : Int)))) == false) (selB (selB ((gtI (nth r6 0).toInt (IntKind.i64.wrap ((nth (nth p5 2).toList (nth (nth p5 0).toList (IntKind.i64.wrap (((nth p5 0).toList.length : Int) - (1 : Int))).toNat).toInt.toNat).toInt - (1 : Int)))) == false) (selB ((gtI (nth r6 0).toInt (IntKind.i64.wrap ((nth (nth p5 2).toList (nth (nth p5 0).toList (IntKind.i64.wrap (((nth p5 0).toList.length : Int) - (1 : Int))).toNat).toInt.toNat).toInt - (1 : Int)))) == false) (PV.bool (eqI (selB ((gtI (nth r6 0).toInt (IntKind.i64.wrap ((nth (nth p5 2).toList (nth (nth p5 0).toList (IntKind.i64.wrap (((nth p5 0).toList.length : Int) - (1 : Int))).toNat).toInt.toNat).toInt - (1 : Int)))) == false) ((nth (nth p5 1).toList (nth (nth p5 0).toList (IntKind.i64.wrap (((nth p5 0).toList.length : Int) - (1 : Int))).toNat).toInt.toNat).fld 0) PV.unit).toInt (2 : Int))) PV.unit) PV.unit).toBool (selB ((selB ((gtI (nth r6 0).toInt (IntKind.i64.wrap ((nth (nth p5 2).toList (nth (nth p5 0).toList (IntKind.i64.wrap (((nth p5 0).toList.length : Int) - (1 : Int))).toNat).toInt.toNat).toInt - (1 : Int)))) == false) (selB ((gtI (nth r6 0).toInt (IntKind.i64.wrap ((nth (nth p5 2).toList (nth (nth p5 0).toList (IntKind.i64.wrap (((nth p5 0).toList.length : Int) - (1 : Int))).toNat).toInt.toNat).toInt - (1 : Int)))) == false) (PV.bool (eqI (selB ((gtI (nth r6 0).toInt (IntKind.i64.wrap ((nth (nth p5 2).toList (nth (nth p5 0).toList (IntKind.i64.wrap (((nth p5 0).toList.length : Int) - (1 : Int))).toNat).toInt.toNat).toInt - (1 : Int)))) == false) ((nth (nth p5 1).toList (nth (nth p5 0).toList (IntKind.i64.wrap (((nth p5 0).toList.length : Int) - (1 : Int))).toNat).toInt.toNat).fld 0) PV.unit).toInt (2 : Int))) PV.unit) PV.unit).isB true) (PV.bool (geI (selB ((selB ((gtI (nth r6 0).toInt (IntKind.i64.wrap ((nth (nth p5 2).toList (nth (nth p5 0).toList (IntKind.i64.wrap (((nth p5 0).toList.length : Int) - (1 : Int))).toNat).toInt.toNat).toInt - (1 : Int)))) == false) (selB ((gtI (nth r6 0).toInt (IntKind.i64.wrap ((nth (nth p5 2).toList (nth (nth p5 0).toList (IntKind.i64.wrap (((nth p5 0).toList.length : Int) - (1 : Int))).toNat).toInt.toNat).toInt - (1 : Int)))) == false) (PV.bool (eqI (selB ((gtI (nth r6 0).toInt (IntKind.i64.wrap ((nth (nth p5 2).toList (nth (nth p5 0).toList (IntKind.i64.wrap (((nth p5 0).toList.length : Int) - (1 : Int))).toNat).toInt.toNat).toInt - (1 : Int)))) == false) ((nth (nth p5 1).toList (nth (nth p5 0).toList (IntKind.i64.wrap (((nth p5 0).toList.length : Int) - (1 : Int))).toNat).toInt.toNat).fld 0) PV.unit).toInt (2 : Int))) PV.unit) PV.unit).isB true) ((nth (nth p5 1).toList (nth (nth p5 0).toList (IntKind.i64.wrap (((nth p5 0).toList.length : Int) - (1 : Int))).toNat).toInt.toNat).fld 1) PV.unit).toInt (selB ((selB ((gtI (nth r6 0).toInt (IntKind.i64.wrap ((nth (nth p5 2).toList (nth (nth p5 0).toList (IntKind.i64.wrap (((nth p5 0).toList.length : Int) - (1 : Int))).toNat).toInt.toNat).toInt - (1 : Int)))) == false) (selB ((gtI (nth r6 0).toInt (IntKind.i64.wrap ((nth (nth p5 2).toList (nth (nth p5 0).toList (IntKind.i64.wrap (((nth p5 0).toList.length : Int) - (1 : Int))).toNat).toInt.toNat).toInt - (1 : Int)))) == false) (PV.bool (eqI (selB ((gtI (nth r6 0).toInt (IntKind.i64.wrap ((nth (nth p5 2).toList (nth (nth p5 0).toList (IntKind.i64.wrap (((nth p5 0).toList.length : Int) - (1 : Int))).toNat).toInt.toNat).toInt - (1 : Int)))) == false) ((nth (nth p5 1).toList (nth (nth p5 0).toList (IntKind.i64.wrap (((nth p5 0).toList.length : Int) - (1 : Int))).toNat).toInt.toNat).fld 0) PV.unit).toInt (2 : Int))) PV.unit) PV.unit).isB true) (nth (nth p5 2).toList (nth (nth p5 0).toList (IntKind.i64.wrap (((nth p5 0).toList.length : Int) - (1 : Int))).toNat).toInt.toNat) PV.unit).toInt)) PV.unit) (PV.bool false)) PV.unit)).isB false) (PV.bool (eqI (selB ((selB (gtI (nth r6 0).toInt (IntKind.i64.wrap ((nth (nth p5 2).toList (nth (nth p5 0).toList (IntKind.i64.wrap (((nth p5 0).toList.length : Int) - (1 : Int))).toNat).toInt.toNat).toInt - (1 : Int)))) (PV.bool true) (selB ((gtI (nth r6 0).toInt (IntKind.i64.wrap ((nth (nth p5 2).toList (nth (nth p5 0).toList (IntKind.i64.wrap (((nth p5 0).toList.length : Int) - (1 : Int))).toNat).toInt.toNat).toInt - (1 : Int)))) == false) (selB (selB ((gtI (nth r6 0).toInt (IntKind.i64.wrap ((nth (nth p5 2).toList (nth (nth p5 0).toList (IntKind.i64.wrap (((nth p5 0).toList.length : Int) - (1 : Int))).toNat).toInt.toNat).toInt - (1 : Int)))) == false) (selB ((gtI (nth r6 0).toInt (IntKind.i64.wrap ((nth (nth p5 2).toList (nth (nth p5 0).toList (IntKind.i64.wrap (((nth p5 0).toList.length : Int) - (1 : Int))).toNat).toInt.toNat).toInt - (1 : Int)))) == false) (PV.bool (eqI (selB ((gtI (nth r6 0).toInt (IntKind.i64.wrap ((nth (nth p5 2).toList (nth (nth p5 0).toList (IntKind.i64.wrap (((nth p5 0).toList.length : Int) - (1 : Int))).toNat).toInt.toNat).toInt - (1 : Int)))) == false) ((nth (nth p5 1).toList (nth (nth p5 0).toList (IntKind.i64.wrap (((nth p5 0).toList.length : Int) - (1 : Int))).toNat).toInt.toNat).fld 0) PV.unit).toInt (2 : Int))) PV.unit) PV.unit).toBool (selB ((selB ((gtI (nth r6 0).toInt (IntKind.i64.wrap ((nth (nth p5 2).toList (nth (nth p5 0).toList (IntKind.i64.wrap (((nth p5 0).toList.length : Int) - (1 : Int))).toNat).toInt.toNat).toInt - (1 : Int)))) == false) (selB ((gtI (nth r6 0).toInt (IntKind.i64.wrap ((nth (nth p5 2).toList (nth (nth p5 0).toList (IntKind.i64.wrap (((nth p5 0).toList.length : Int) - (1 : Int))).toNat).toInt.toNat).toInt - (1 : Int)))) == false) (PV.bool (eqI (selB ((gtI (nth r6 0).toInt (IntKind.i64.wrap ((nth (nth p5 2).toList (nth (nth p5 0).toList (IntKind.i64.wrap (((nth p5 0).toList.length : Int) - (1 : Int))).toNat).toInt.toNat).toInt - (1 : Int)))) == false) ((nth (nth p5 1).toList (nth (nth p5 0).toList (IntKind.i64.wrap (((nth p5 0).toList.length : Int) - (1 : Int))).toNat).toInt.toNat).fld 0) PV.unit).toInt (2 : Int))) PV.unit) PV.unit).isB true) (PV.bool (geI (selB ((selB ((gtI (nth r6 0).toInt (IntKind.i64.wrap ((nth (nth p5 2).toList (nth (nth p5 0).toList (IntKind.i64.wrap (((nth p5 0).toList.length : Int) - (1 : Int))).toNat).toInt.toNat).toInt - (1 : Int)))) == false) (selB ((gtI (nth r6 0).toInt (IntKind.i64.wrap ((nth (nth p5 2).toList (nth (nth p5 0).toList (IntKind.i64.wrap (((nth p5 0).toList.length : Int) - (1 : Int))).toNat).toInt.toNat).toInt - (1 : Int)))) == false) (PV.bool (eqI (selB ((gtI (nth r6 0).toInt (IntKind.i64.wrap ((nth (nth p5 2).toList (nth (nth p5 0).toList (IntKind.i64.wrap (((nth p5 0).toList.length : Int) - (1 : Int))).toNat).toInt.toNat).toInt - (1 : Int)))) == false) ((nth (nth p5 1).toList (nth (nth p5 0).toList (IntKind.i64.wrap (((nth p5 0).toList.length : Int) - (1 : Int))).toNat).toInt.toNat).fld 0) PV.unit).toInt (2 : Int))) PV.unit) PV.unit).isB true) ((nth (nth p5 1).toList (nth (nth p5 0).toList (IntKind.i64.wrap (((nth p5 0).toList.length : Int) - (1 : Int))).toNat).toInt.toNat).fld 1) PV.unit).toInt (selB ((selB ((gtI (nth r6 0).toInt (IntKind.i64.wrap ((nth (nth p5 2).toList (nth (nth p5 0).toList (IntKind.i64.wrap (((nth p5 0).toList.length : Int) - (1 : Int))).toNat).toInt.toNat).toInt - (1 : Int)))) == false) (selB ((gtI (nth r6 0).toInt (IntKind.i64.wrap ((nth (nth p5 2).toList (nth (nth p5 0).toList (IntKind.i64.wrap (((nth p5 0).toList.length : Int) - (1 : Int))).toNat).toInt.toNat).toInt - (1 : Int)))) == false) (PV.bool (eqI (selB ((gtI (nth r6 0).toInt (IntKind.i64.wrap ((nth (nth p5 2).toList (nth (nth p5 0).toList (IntKind.i64.wrap (((nth p5 0).toList.length : Int) - (1 : Int))).toNat).toInt.toNat).toInt - (1 : Int)))) == false) ((nth (nth p5 1).toList (nth (nth p5 0).toList (IntKind.i64.wrap (((nth p5 0).toList.length : Int) - (1 : Int))).toNat).toInt.toNat).fld 0) PV.unit).toInt (2 : Int))) PV.unit) PV.unit).isB true) (nth (nth p5 2).toList (nth (nth p5 0).toList (IntKind.i64.wrap (((nth p5 0).toList.length : Int) - (1 : Int))).toNat).toInt.toNat) PV.unit).toInt)) PV.unit) (PV.bool false)) PV.unit)).isB false) ((nth (nth p5 1).toList (nth (nth p5 0).toList (IntKind.i64.wrap (((nth p5 0).toList.length : Int) - (1 : Int))).toNat).toInt.toNat).fld 0) PV.unit).toInt (7 : Int))) PV.unit) PV.unit).isB true) (PV.bool (neI (selB ((selB ((selB (gtI (nth r6 0).toInt (IntKind.i64.wrap ((nth (nth p5 2).toList (nth (nth p5 0).toList (IntKind.i64.wrap (((nth p5 0).toList.length : Int) - (1 : Int))).toNat).toInt.toNat).toInt - (1 : Int)))) (PV.bool true) (selB ((gtI (nth r6 0).toInt (IntKind.i64.wrap ((nth (nth p5 2).toList (nth (nth p5 0).toList (IntKind.i64.wrap (((nth p5 0).toList.length : Int) - (1 : Int))).toNat).toInt.toNat).toInt - (1 : Int)))) == false) (selB (selB ((gtI (nth r6 0).toInt (IntKind.i64.wrap ((nth (nth p5 2).toList (nth (nth p5 0).toList (IntKind.i64.wrap (((nth p5 0).toList.length : Int) - (1 : Int))).toNat).toInt.toNat).toInt - (1 : Int)))) == false) (selB ((gtI (nth r6 0).toInt (IntKind.i64.wrap ((nth (nth p5 2).toList (nth (nth p5 0).toList (IntKind.i64.wrap (((nth p5 0).toList.length : Int) - (1 : Int))).toNat).toInt.toNat).toInt - (1 : Int)))) == false) (PV.bool (eqI (selB ((gtI (nth r6 0).toInt (IntKind.i64.wrap ((nth (nth p5 2).toList (nth (nth p5 0).toList (IntKind.i64.wrap (((nth p5 0).toList.length : Int) - (1 : Int))).toNat).toInt.toNat).toInt - (1 : Int)))) == false) ((nth (nth p5 1).toList (nth (nth p5 0).toList (IntKind.i64.wrap (((nth p5 0).toList.length : Int) - (1 : Int))).toNat).toInt.toNat).fld 0) PV.unit).toInt (2 : Int))) PV.unit) PV.unit).toBool (selB ((selB ((gtI (nth r6 0).toInt (IntKind.i64.wrap ((nth (nth p5 2).toList (nth (nth p5 0).toList (IntKind.i64.wrap (((nth p5 0).toList.length : Int) - (1 : Int))).toNat).toInt.toNat).toInt - (1 : Int)))) == false) (selB ((gtI (nth r6 0).toInt (IntKind.i64.wrap ((nth (nth p5 2).toList (nth (nth p5 0).toList (IntKind.i64.wrap (((nth p5 0).toList.length : Int) - (1 : Int))).toNat).toInt.toNat).toInt - (1 : Int)))) == false) (PV.bool (eqI (selB ((gtI (nth r6 0).toInt (IntKind.i64.wrap ((nth (nth p5 2).toList (nth (nth p5 0).toList (IntKind.i64.wrap (((nth p5 0).toList.length : Int) - (1 : Int))).toNat).toInt.toNat).toInt - (1 : Int)))) == false) ((nth (nth p5 1).toList (nth (nth p5 0).toList (IntKind.i64.wrap (((nth p5 0).toList.length : Int) - (1 : Int))).toNat).toInt.toNat).fld 0) PV.unit).toInt (2 : Int))) PV.unit) PV.unit).isB true) (PV.bool (geI (selB ((selB ((gtI (nth r6 0).toInt (IntKind.i64.wrap ((nth (nth p5 2).toList (nth (nth p5 0).toList (IntKind.i64.wrap (((nth p5 0).toList.length : Int) - (1 : Int))).toNat).toInt.toNat).toInt - (1 : Int)))) == false) (selB ((gtI (nth r6 0).toInt (IntKind.i64.wrap ((nth (nth p5 2).toList (nth (nth p5 0).toList (IntKind.i64.wrap (((nth p5 0).toList.length : Int) - (1 : Int))).toNat).toInt.toNat).toInt - (1 : Int)))) == false) (PV.bool (eqI (selB ((gtI (nth r6 0).toInt (IntKind.i64.wrap ((nth (nth p5 2).toList (nth (nth p5 0).toList (IntKind.i64.wrap (((nth p5 0).toList.length : Int) - (1 : Int))).toNat).toInt.toNat).toInt - (1 : Int)))) == false) ((nth (nth p5 1).toList (nth (nth p5 0).toList (IntKind.i64.wrap (((nth p5 0).toList.length : Int) - (1 : Int))).toNat).toInt.toNat).fld 0) PV.unit).toInt (2 : Int))) PV.unit) PV.unit).isB true) ((nth (nth p5 1).toList (nth (nth p5 0).toList (IntKind.i64.wrap (((nth p5 0).toList.length : Int) - (1 : Int))).toNat).toInt.toNat).fld 1) PV.unit).toInt (selB ((selB ((gtI (nth r6 0).toInt (IntKind.i64.wrap ((nth (nth p5 2).toList (nth (nth p5 0).toList (IntKind.i64.wrap (((nth p5 0).toList.length : Int) - (1 : Int))).toNat).toInt.toNat).toInt - (1 : Int)))) == false) (selB ((gtI (nth r6 0).toInt (IntKind.i64.wrap ((nth (nth p5 2).toList (nth (nth p5 0).toList (IntKind.i64.wrap (((nth p5 0).toList.length : Int) - (1 : Int))).toNat).toInt.toNat).toInt - (1 : Int)))) == false) (PV.bool (eqI (selB ((gtI (nth r6 0).toInt (IntKind.i64.wrap ((nth (nth p5 2).toList (nth (nth p5 0).toList (IntKind.i64.wrap (((nth p5 0).toList.length : Int) - (1 : Int))).toNat).toInt.toNat).toInt - (1 : Int)))) == false) ((nth (nth p5 1).toList (nth (nth p5 0).toList (IntKind.i64.wrap (((nth p5 0).toList.length : Int) - (1 : Int))).toNat).toInt.toNat).fld 0) PV.unit).toInt (2 : Int))) PV.unit) PV.unit).isB true) (nth (nth p5 2).toList (nth (nth p5 0).toList (IntKind.i64.wrap (((nth p5 0).toList.length : Int) - (1 : Int))).toNat).toInt.toNat) PV.unit).toInt)) PV.unit) (PV.bool false)) PV.unit)).isB false) (selB ((selB (gtI (nth r6 0).toInt (IntKind.i64.wrap ((nth (nth p5 2).toList (nth (nth p5 0).toList (IntKind.i64.wrap (((nth p5 0).toList.length : Int) - (1 : Int))).toNat).toInt.toNat).toInt - (1 : Int)))) (PV.bool true) (selB ((gtI (nth r6 0).toInt (IntKind.i64.wrap ((nth (nth p5 2).toList (nth (nth p5 0).toList (IntKind.i64.wrap (((nth p5 0).toList.length : Int) - (1 : Int))).toNat).toInt.toNat).toInt - (1 : Int)))) == false) (selB (selB ((gtI (nth r6 0).toInt (IntKind.i64.wrap ((nth (nth p5 2).toList (nth (nth p5 0).toList (IntKind.i64.wrap (((nth p5 0).toList.length : Int) - (1 : Int))).toNat).toInt.toNat).toInt - (1 : Int)))) == false) (selB ((gtI (nth r6 0).toInt (IntKind.i64.wrap ((nth (nth p5 2).toList (nth (nth p5 0).toList (IntKind.i64.wrap (((nth p5 0).toList.length : Int) - (1 : Int))).toNat).toInt.toNat).toInt - (1 : Int)))) == false) (PV.bool (eqI (selB ((gtI (nth r6 0).toInt (IntKind.i64.wrap ((nth (nth p5 2).toList (nth (nth p5 0).toList (IntKind.i64.wrap (((nth p5 0).toList.length : Int) - (1 : Int))).toNat).toInt.toNat).toInt - (1 : Int)))) == false) ((nth (nth p5 1).toList (nth (nth p5 0).toList (IntKind.i64.wrap (((nth p5 0).toList.length : Int) - (1 : Int))).toNat).toInt.toNat).fld 0) PV.unit).toInt (2 : Int))) PV.unit) PV.unit).toBool (selB ((selB ((gtI (nth r6 0).toInt (IntKind.i64.wrap ((nth (nth p5 2).toList (nth (nth p5 0).toList (IntKind.i64.wrap (((nth p5 0).toList.length : Int) - (1 : Int))).toNat).toInt.toNat).toInt - (1 : Int)))) == false) (selB ((gtI (nth r6 0).toInt (IntKind.i64.wrap ((nth (nth p5 2).toList (nth (nth p5 0).toList (IntKind.i64.wrap (((nth p5 0).toList.length : Int) - (1 : Int))).toNat).toInt.toNat).toInt - (1 : Int)))) == false) (PV.bool (eqI (selB ((gtI (nth r6 0).toInt (IntKind.i64.wrap ((nth (nth p5 2).toList (nth (nth p5 0).toList (IntKind.i64.wrap (((nth p5 0).toList.length : Int) - (1 : Int))).toNat).toInt.toNat).toInt - (1 : Int)))) == false) ((nth (nth p5 1).toList (nth (nth p5 0).toList (IntKind.i64.wrap (((nth p5 0).toList.length : Int) - (1 : Int))).toNat).toInt.toNat).fld 0) PV.unit).toInt (2 : Int))) PV.unit) PV.unit).isB true) (PV.bool (geI (selB ((selB ((gtI (nth r6 0).toInt (IntKind.i64.wrap ((nth (nth p5 2).toList (nth (nth p5 0).toList (IntKind.i64.wrap (((nth p5 0).toList.length : Int) - (1 : Int))).toNat).toInt.toNat).toInt - (1 : Int)))) == false) (selB ((gtI (nth r6 0).toInt (IntKind.i64.wrap ((nth (nth p5 2).toList (nth (nth p5 0).toList (IntKind.i64.wrap (((nth p5 0).toList.length : Int) - (1 : Int))).toNat).toInt.toNat).toInt - (1 : Int)))) == false) (PV.bool (eqI (selB ((gtI (nth r6 0).toInt (IntKind.i64.wrap ((nth (nth p5 2).toList (nth (nth p5 0).toList (IntKind.i64.wrap (((nth p5 0).toList.length : Int) - (1 : Int))).toNat).toInt.toNat).toInt - (1 : Int)))) == false) ((nth (nth p5 1).toList (nth (nth p5 0).toList (IntKind.i64.wrap (((nth p5 0).toList.length : Int) - (1 : Int))).toNat).toInt.toNat).fld 0) PV.unit).toInt (2 : Int))) PV.unit) PV.unit).isB true) ((nth (nth p5 1).toList (nth (nth p5 0).toList (IntKind.i64.wrap (((nth p5 0).toList.length : Int) - (1 : Int))).toNat).toInt.toNat).fld 1) PV.unit).toInt (selB ((selB ((gtI (nth r6 0).toInt (IntKind.i64.wrap ((nth (nth p5 2).toList (nth (nth p5 0).toList (IntKind.i64.wrap (((nth p5 0).toList.length : Int) - (1 : Int))).toNat).toInt.toNat).toInt - (1 : Int)))) == false) (selB ((gtI (nth r6 0).toInt (IntKind.i64.wrap ((nth (nth p5 2).toList (nth (nth p5 0).toList (IntKind.i64.wrap (((nth p5 0).toList.length : Int) - (1 : Int))).toNat).toInt.toNat).toInt - (1 : Int)))) == false) (PV.bool (eqI (selB ((gtI (nth r6 0).toInt (IntKind.i64.wrap ((nth (nth p5 2).toList (nth (nth p5 0).toList (IntKind.i64.wrap (((nth p5 0).toList.length : Int) - (1 : Int))).toNat).toInt.toNat).toInt - (1 : Int)))) == false) ((nth (nth p5 1).toList (nth (nth p5 0).toList (IntKind.i64.wrap (((nth p5 0).toList.length : Int) - (1 : Int))).toNat).toInt.toNat).fld 0) PV.unit).toInt (2 : Int))) PV.unit) PV.unit).isB true) (nth (nth p5 2).toList (nth (nth p5 0).toList (IntKind.i64.wrap (((nth p5 0).toList.length : Int) - (1 : Int))).toNat).toInt.toNat) PV.unit).toInt)) PV.unit) (PV.bool false)) PV.unit)).isB false) (PV.bool (eqI (selB ((selB (gtI (nth r6 0).toInt (IntKind.i64.wrap ((nth (nth p5 2).toList (nth (nth p5 0).toList (IntKind.i64.wrap (((nth p5 0).toList.length : Int) - (1 : Int))).toNat).toInt.toNat).toInt - (1 : Int)))) (PV.bool true) (selB ((gtI (nth r6 0).toInt (IntKind.i64.wrap ((nth (nth p5 2).toList (nth (nth p5 0).toList (IntKind.i64.wrap (((nth p5 0).toList.length : Int) - (1 : Int))).toNat).toInt.toNat).toInt - (1 : Int)))) == false) (selB (selB ((gtI (nth r6 0).toInt (IntKind.i64.wrap ((nth (nth p5 2).toList (nth (nth p5 0).toList (IntKind.i64.wrap (((nth p5 0).toList.length : Int) - (1 : Int))).toNat).toInt.toNat).toInt - (1 : Int)))) == false) (selB ((gtI (nth r6 0).toInt (IntKind.i64.wrap ((nth (nth p5 2).toList (nth (nth p5 0).toList (IntKind.i64.wrap (((nth p5 0).toList.length : Int) - (1 : Int))).toNat).toInt.toNat).toInt - (1 : Int)))) == false) (PV.bool (eqI (selB ((gtI (nth r6 0).toInt (IntKind.i64.wrap ((nth (nth p5 2).toList (nth (nth p5 0).toList (IntKind.i64.wrap (((nth p5 0).toList.length : Int) - (1 : Int))).toNat).toInt.toNat).toInt - (1 : Int)))) == false) ((nth (nth p5 1).toList (nth (nth p5 0).toList (IntKind.i64.wrap (((nth p5 0).toList.length : Int) - (1 : Int))).toNat).toInt.toNat).fld 0) PV.unit).toInt (2 : Int))) PV.unit) PV.unit).toBool (selB ((selB ((gtI (nth r6 0).toInt (IntKind.i64.wrap ((nth (nth p5 2).toList (nth (nth p5 0).toList (IntKind.i64.wrap (((nth p5 0).toList.length : Int) - (1 : Int))).toNat).toInt.toNat).toInt - (1 : Int)))) == false) (selB ((gtI (nth r6 0).toInt (IntKind.i64.wrap ((nth (nth p5 2).toList (nth (nth p5 0).toList (IntKind.i64.wrap (((nth p5 0).toList.length : Int) - (1 : Int))).toNat).toInt.toNat).toInt - (1 : Int)))) == false) (PV.bool (eqI (selB ((gtI (nth r6 0).toInt (IntKind.i64.wrap ((nth (nth p5 2).toList (nth (nth p5 0).toList (IntKind.i64.wrap (((nth p5 0).toList.length : Int) - (1 : Int))).toNat).toInt.toNat).toInt - (1 : Int)))) == false) ((nth (nth p5 1).toList (nth (nth p5 0).toList (IntKind.i64.wrap (((nth p5 0).toList.length : Int) - (1 : Int))).toNat).toInt.toNat).fld 0) PV.unit).toInt (2 : Int))) PV.unit) PV.unit).isB true) (PV.bool (geI (selB ((selB ((gtI (nth r6 0).toInt (IntKind.i64.wrap ((nth (nth p5 2).toList (nth (nth p5 0).toList (IntKind.i64.wrap (((nth p5 0).toList.length : Int) - (1 : Int))).toNat).toInt.toNat).toInt - (1 : Int)))) == false) (selB ((gtI (nth r6 0).toInt (IntKind.i64.wrap ((nth (nth p5 2).toList (nth (nth p5 0).toList (IntKind.i64.wrap (((nth p5 0).toList.length : Int) - (1 : Int))).toNat).toInt.toNat).toInt - (1 : Int)))) == false) (PV.bool (eqI (selB ((gtI (nth r6 0).toInt (IntKind.i64.wrap ((nth (nth p5 2).toList (nth (nth p5 0).toList (IntKind.i64.wrap (((nth p5 0).toList.length : Int) - (1 : Int))).toNat).toInt.toNat).toInt - (1 : Int)))) == false) ((nth (nth p5 1).toList (nth (nth p5 0).toList (IntKind.i64.wrap (((nth p5 0).toList.length : Int) - (1 : Int))).toNat).toInt.toNat).fld 0) PV.unit).toInt (2 : Int))) PV.unit) PV.unit).isB true) ((nth (nth p5 1).toList (nth (nth p5 0).toList (IntKind.i64.wrap (((nth p5 0).toList.length : Int) - (1 : Int))).toNat).toInt.toNat).fld 1) PV.unit).toInt (selB ((selB ((gtI (nth r6 0).toInt (IntKind.i64.wrap ((nth (nth p5 2).toList (nth (nth p5 0).toList (IntKind.i64.wrap (((nth p5 0).toList.length : Int) - (1 : Int))).toNat).toInt.toNat).toInt - (1 : Int)))) == false) (selB ((gtI (nth r6 0).toInt (IntKind.i64.wrap ((nth (nth p5 2).toList (nth (nth p5 0).toList (IntKind.i64.wrap (((nth p5 0).toList.length : Int) - (1 : Int))).toNat).toInt.toNat).toInt - (1 : Int)))) == false) (PV.bool (eqI (selB ((gtI (nth r6 0).toInt (IntKind.i64.wrap ((nth (nth p5 2).toList (nth (nth p5 0).toList (IntKind.i64.wrap (((nth p5 0).toList.length : Int) - (1 : Int))).toNat).toInt.toNat).toInt - (1 : Int)))) == false) ((nth (nth p5 1).toList (nth (nth p5 0).toList (IntKind.i64.wrap (((nth p5 0).toList.length : Int) - (1 : Int))).toNat).toInt.toNat).fld 0) PV.unit).toInt (2 : Int))) PV.unit) PV.unit).isB true) (nth (nth p5 2).toList (nth (nth p5 0).toList (IntKind.i64.wrap (((nth p5 0).toList.length : Int) - (1 : Int))).toNat).toInt.toNat) PV.unit).toInt)) PV.unit) (PV.bool false)) PV.unit)).isB false) ((nth (nth p5 1).toList (nth (nth p5 0).toList (IntKind.i64.wrap (((nth p5 0).toList.length : Int) - (1 : Int))).toNat).toInt.toNat).fld 0) PV.unit).toInt (7 : Int))) PV.unit) PV.unit).isB true) (nth (nth p5 2).toList (nth (nth p5 0).toList (IntKind.i64.wrap (((nth p5 0).toList.length : Int) - (1 : Int))).toNat).toInt.toNat) PV.unit).toInt (2 : Int))) PV.unit) (PV.bool false)) PV.unit)).toBool
  (some (Ex.r, [(PV.list ([] : List PV)), (PV.bool false)]))
  (iff (gtI (IntKind.i64.wrap ((IntKind.i64.wrap ((nth (nth p5 2).toList (nth (nth p5 0).toList (IntKind.i64.wrap (((nth p5 0).toList.length : Int) - (1 : Int))).toNat).toInt.toNat).toInt - (nth r6 0).toInt)) + (nth r6 1).toInt)) (60 : Int))
  (some (Ex.r, [(PV.list ([] : List PV)), (PV.bool false)]))
  ((I 219 [(nth (nth p5 1).toList (nth (nth p5 0).toList (IntKind.i64.wrap (((nth p5 0).toList.length : Int) - (1 : Int))).toNat).toInt.toNat), (nth (nth p5 0).toList (IntKind.i64.wrap (((nth p5 0).toList.length : Int) - (1 : Int))).toNat)]).bind fun r7 =>
  (thenN (thenE (loopEv (L190_1 I n) n [(PV.int (0 : Int)), (PV.int ((nth r7 0).toList.length : Int)), (nth r7 0), (PV.int (IntKind.i64.wrap ((IntKind.i64.wrap ((nth (nth p5 2).toList (nth (nth p5 0).toList (IntKind.i64.wrap (((nth p5 0).toList.length : Int) - (1 : Int))).toNat).toInt.toNat).toInt - (nth r6 0).toInt)) + (nth r6 1).toInt))), (PV.list ((nth p5 0).toList.take (IntKind.i64.wrap (((nth p5 0).toList.length : Int) - (1 : Int))).toNat)), (nth p5 1), (nth p5 2)])
  (passB 4))
  (fun p10 => (some (Ex.n, [(nth p10 0), (nth p10 1), (nth p10 2)])))
  passE)))))
  none)
  none)
  none)
  none)
  none)
  none)
  none)
  none)
  none)
  (some (Ex.x 2, [(nth p5 2)])))
def F190 (I : Interp) (n : Nat) (a : List PV) : Option (List PV) :=
  ((I 119 [(nth a 0)]).bind fun r0 =>
  ((iff ((!(nth r0 0).toBool) == false)
  ((I 102 [(selB ((!(nth r0 0).toBool) == false) (nth a 1) PV.unit), (PV.int (0 : Int)), (selB ((!(nth r0 0).toBool) == false) (PV.int (IntKind.i64.wrap ((selB ((!(nth r0 0).toBool) == false) (PV.int ((selB ((!(nth r0 0).toBool) == false) (nth a 0) PV.unit).toList.length : Int)) PV.unit).toInt - (1 : Int)))) PV.unit)]).bind fun r1 =>
  (some [(nth r1 0), (nth r1 0)]))
  (some [PV.unit, PV.unit])).bind fun g2 =>
  (iff (selB (!(nth r0 0).toBool) (PV.bool true) (selB ((!(nth r0 0).toBool) == false) (PV.bool (!(nth g2 0).toBool)) PV.unit)).toBool
  (some [(PV.list ([] : List PV)), (PV.bool false)])
  (iff (geI (nth a 1).toInt (0 : Int))
  (iff (ltI (nth a 1).toInt ((nth a 0).toList.length : Int))
  (iff (geI (((nth (nth a 0).toList (nth a 1).toInt.toNat).fld 1).toList.length : Int) (0 : Int))
  (iff (leI (((nth (nth a 0).toList (nth a 1).toInt.toNat).fld 1).toList.length : Int) (((nth (nth a 0).toList (nth a 1).toInt.toNat).fld 1).toList.length : Int))
  (iff (leI (((nth (nth a 0).toList (nth a 1).toInt.toNat).fld 1).toList.length : Int) (17592186044416 : Int))
  (thenN (thenE (loopEv (L190_0 I n) n [(PV.int (0 : Int)), (PV.int ((List.replicate (((nth (nth a 0).toList (nth a 1).toInt.toNat).fld 1).toList.length : Int).toNat (PV.int (0 : Int))).length : Int)), ((nth (nth a 0).toList (nth a 1).toInt.toNat).fld 1), (PV.list (List.replicate (((nth (nth a 0).toList (nth a 1).toInt.toNat).fld 1).toList.length : Int).toNat (PV.int (0 : Int))))])
  (passB 0))
  (fun p4 => (iff (geI (0 : Int) (0 : Int))
  (iff (ltI (0 : Int) ((nth p4 1).toList.length : Int))
  (thenN (thenE (loopEv (L190_2 I n) n [(PV.list ((PV.int (0 : Int)) :: ([] : List PV))), (nth p4 0), (PV.list ((nth p4 1).toList.set (0 : Int).toNat (PV.int (1 : Int))))])
  (passB 2))
  (fun p11 => (some [(nth p11 0), (PV.bool true)]))
  (retE fun q12 => [(nth q12 0), (nth q12 1)]))
  none)
  none))
  (retE fun q13 => [(nth q13 0), (nth q13 1)]))
  none)
  none)
  none)
  none)
  none))))
theorem e190 : ∀ I n a, (compF Try.prog sg 190).map (fun d => d.ev I n a) = some (F190 I n a) := fun I n a => by kernel_rfl
/-! impl.Verify -/
def L153_0 (I : Interp) (n : Nat) (p0 : List PV) : Option (Ex × List PV) :=
  (iff (ltI (nth p0 0).toInt (nth p0 1).toInt)
  ((I 190 [(nth p0 2), (nth p0 0)]).bind fun r1 =>
  (iff (!(nth r1 1).toBool)
  (some (Ex.r, [(PV.bool false)]))
  (some (Ex.n, [(PV.int (IntKind.i64.wrap ((nth p0 0).toInt + (1 : Int)))), (nth p0 1), (nth p0 2)]))))
  (some (Ex.x 0, [(nth p0 2)])))
def F153 (I : Interp) (n : Nat) (a : List PV) : Option (List PV) :=
  (thenN (thenE (loopEv (L153_0 I n) n [(PV.int (0 : Int)), (PV.int ((nth a 0).toList.length : Int)), (nth a 0)])
  (passB 0))
  (fun p2 => (some [(PV.bool (gtI ((nth p2 0).toList.length : Int) (0 : Int)))]))
  (retE fun q3 => [(nth q3 0)]))
theorem e153 : ∀ I n a, (compF Try.prog sg 153).map (fun d => d.ev I n a) = some (F153 I n a) := fun I n a => by kernel_rfl
/-! spec.Depths -/
def L188_0 (I : Interp) (n : Nat) (p3 : List PV) : Option (Ex × List PV) :=
  (iff (geI (nth p3 2).toInt (0 : Int))
  (iff (ltI (nth p3 2).toInt ((nth p3 1).toList.length : Int))
  (iff (ltI (nth p3 0).toInt (((nth (nth p3 1).toList (nth p3 2).toInt.toNat).fld 1).toList.length : Int))
  (iff (leN (((nth p3 3).fld 0).toList.length + ((PV.int (-1 : Int)) :: ([] : List PV)).length) 17592186044416)
  (some (Ex.n, [(PV.int (IntKind.i64.wrap ((nth p3 0).toInt + (1 : Int)))), (nth p3 1), (nth p3 2), (((nth p3 3).setFld 0 PV.unit).setFld 0 (PV.list (((nth p3 3).fld 0).toList ++ ((PV.int (-1 : Int)) :: ([] : List PV)))))]))
  none)
  (some (Ex.x 0, [(nth p3 1), (nth p3 2), (nth p3 3)])))
  none)
  none)
def L188_1 (I : Interp) (n : Nat) (p6 : List PV) : Option (Ex × List PV) :=
  (iff (selB ((nth p6 2).fld 2).toBool (selB (((nth p6 2).fld 2).isB true) (PV.bool (gtI (selB (((nth p6 2).fld 2).isB true) (PV.int (((nth p6 2).fld 1).toList.length : Int)) PV.unit).toInt (0 : Int))) PV.unit) (PV.bool false)).toBool
  (iff (geI (IntKind.i64.wrap ((((nth p6 2).fld 1).toList.length : Int) - (1 : Int))) (0 : Int))
  (iff (ltI (IntKind.i64.wrap ((((nth p6 2).fld 1).toList.length : Int) - (1 : Int))) (((nth p6 2).fld 1).toList.length : Int))
  (iff (geI (0 : Int) (0 : Int))
  (iff (leI (0 : Int) (IntKind.i64.wrap ((((nth p6 2).fld 1).toList.length : Int) - (1 : Int))))
  (iff (leI (IntKind.i64.wrap ((((nth p6 2).fld 1).toList.length : Int) - (1 : Int))) (((nth p6 2).fld 1).toList.length : Int))
  (iff (leN (([] : List PV).length + (((nth p6 2).fld 1).toList.take (IntKind.i64.wrap ((((nth p6 2).fld 1).toList.length : Int) - (1 : Int))).toNat).length) 17592186044416)
  (iff (geI (nth p6 1).toInt (0 : Int))
  (iff (ltI (nth p6 1).toInt ((nth p6 0).toList.length : Int))
  ((I 216 [((nth p6 2).setFld 1 (PV.list (([] : List PV) ++ (((nth p6 2).fld 1).toList.take (IntKind.i64.wrap ((((nth p6 2).fld 1).toList.length : Int) - (1 : Int))).toNat)))), ((nth (nth p6 0).toList (nth p6 1).toInt.toNat).fld 1), (nth ((nth p6 2).fld 1).toList (IntKind.i64.wrap ((((nth p6 2).fld 1).toList.length : Int) - (1 : Int))).toNat)]).bind fun r7 =>
  (some (Ex.n, [(nth p6 0), (nth p6 1), (nth r7 0)])))
  none)
  none)
  none)
  none)
  none)
  none)
  none)
  none)
  (some (Ex.x 2, [(nth p6 2)])))
def F188 (I : Interp) (n : Nat) (a : List PV) : Option (List PV) :=
  ((I 116 [(nth a 0)]).bind fun r0 =>
  ((iff ((!(nth r0 0).toBool) == false)
  ((I 104 [(selB ((!(nth r0 0).toBool) == false) (nth a 1) PV.unit), (PV.int (0 : Int)), (selB ((!(nth r0 0).toBool) == false) (PV.int (IntKind.i64.wrap ((selB ((!(nth r0 0).toBool) == false) (PV.int ((selB ((!(nth r0 0).toBool) == false) (nth a 0) PV.unit).toList.length : Int)) PV.unit).toInt - (1 : Int)))) PV.unit)]).bind fun r1 =>
  (some [(nth r1 0), (nth r1 0)]))
  (some [PV.unit, PV.unit])).bind fun g2 =>
  (iff (selB (!(nth r0 0).toBool) (PV.bool true) (selB ((!(nth r0 0).toBool) == false) (PV.bool (!(nth g2 0).toBool)) PV.unit)).toBool
  (some [(PV.list ([] : List PV)), (PV.bool false)])
  (thenN (thenE (loopEv (L188_0 I n) n [(PV.int (0 : Int)), (nth a 0), (nth a 1), (PV.agg [(PV.list ([] : List PV)), (PV.list ([] : List PV)), (PV.bool true)])])
  (passB 0))
  (fun p4 => ((I 215 [(nth p4 2), (PV.int (0 : Int)), (PV.int (1 : Int))]).bind fun r5 =>
  (thenN (thenE (loopEv (L188_1 I n) n [(nth p4 0), (nth p4 1), (nth r5 0)])
  (passB 2))
  (fun p8 => (iff (!((nth p8 0).fld 2).toBool)
  (some [(PV.list ([] : List PV)), (PV.bool false)])
  (some [((nth p8 0).fld 0), (PV.bool true)])))
  (retE fun q9 => [(nth q9 0), (nth q9 1)]))))
  (retE fun q10 => [(nth q10 0), (nth q10 1)])))))
theorem e188 : ∀ I n a, (compF Try.prog sg 188).map (fun d => d.ev I n a) = some (F188 I n a) := fun I n a => by kernel_rfl
/-! laws.eqVm -/
def F49 (I : Interp) (n : Nat) (a : List PV) : Option (List PV) :=
  ((I 66 [((nth a 0).fld 0), ((nth a 1).fld 0)]).bind fun r0 =>
  (iff (!(nth r0 0).toBool)
  (some [(PV.bool false)])
  ((I 17 [((nth a 0).fld 1), ((nth a 1).fld 1)]).bind fun r1 =>
  (iff (!(nth r1 0).toBool)
  (some [(PV.bool false)])
  ((I 24 [((nth a 0).fld 2), ((nth a 1).fld 2)]).bind fun r2 =>
  (iff (!(nth r2 0).toBool)
  (some [(PV.bool false)])
  ((I 121 [((nth a 0).fld 3), ((nth a 1).fld 3)]).bind fun r3 =>
  (iff (!(nth r3 0).toBool)
  (some [(PV.bool false)])
  ((I 24 [((nth a 0).fld 4), ((nth a 1).fld 4)]).bind fun r4 =>
  (iff (!(nth r4 0).toBool)
  (some [(PV.bool false)])
  (iff (neI ((nth a 0).fld 5).toInt ((nth a 1).fld 5).toInt)
  (some [(PV.bool false)])
  (iff ((((nth a 0).fld 6).toBool == ((nth a 1).fld 6).toBool) == false)
  (some [(PV.bool false)])
  (some [(PV.bool true)])))))))))))))
theorem e49 : ∀ I n a, (compF Try.prog sg 49).map (fun d => d.ev I n a) = some (F49 I n a) := fun I n a => by kernel_rfl
/-! spec.Verify -/
def L150_0 (I : Interp) (n : Nat) (p0 : List PV) : Option (Ex × List PV) :=
  (iff (ltI (nth p0 0).toInt ((nth p0 1).toList.length : Int))
  ((I 188 [(nth p0 1), (nth p0 0)]).bind fun r1 =>
  (iff (!(nth r1 1).toBool)
  (some (Ex.r, [(PV.bool false)]))
  (some (Ex.n, [(PV.int (IntKind.i64.wrap ((nth p0 0).toInt + (1 : Int)))), (nth p0 1)]))))
  (some (Ex.x 0, [(nth p0 1)])))
def F150 (I : Interp) (n : Nat) (a : List PV) : Option (List PV) :=
  (thenN (thenE (loopEv (L150_0 I n) n [(PV.int (0 : Int)), (nth a 0)])
  (passB 0))
  (fun p2 => ((I 116 [(nth p2 0)]).bind fun r3 =>
  (some [(nth r3 0)])))
  (retE fun q4 => [(nth q4 0)]))
theorem e150 : ∀ I n a, (compF Try.prog sg 150).map (fun d => d.ev I n a) = some (F150 I n a) := fun I n a => by kernel_rfl
/-! spec.HeapOk -/
def L34_0 (I : Interp) (n : Nat) (p10 : List PV) : Option (Ex × List PV) :=
  (iff (leI (nth p10 0).toInt (nth p10 1).toInt)
  (iff (geI (nth p10 2).toInt (0 : Int))
  (iff (ltI (nth p10 2).toInt ((nth p10 3).toList.length : Int))
  (iff (geI (IntKind.i64.wrap ((nth (nth p10 3).toList (nth p10 2).toInt.toNat).toInt + (nth p10 0).toInt)) (0 : Int))
  (iff (ltI (IntKind.i64.wrap ((nth (nth p10 3).toList (nth p10 2).toInt.toNat).toInt + (nth p10 0).toInt)) (((nth p10 4).fld 0).toList.length : Int))
  ((I 110 [(nth p10 3), (nth ((nth p10 4).fld 0).toList (IntKind.i64.wrap ((nth (nth p10 3).toList (nth p10 2).toInt.toNat).toInt + (nth p10 0).toInt)).toNat)]).bind fun r11 =>
  (iff (!(nth r11 0).toBool)
  (some (Ex.r, [(PV.bool false)]))
  (some (Ex.n, [(PV.int (IntKind.i64.wrap ((nth p10 0).toInt + (1 : Int)))), (nth p10 1), (nth p10 2), (nth p10 3), (nth p10 4)]))))
  none)
  none)
  none)
  none)
  (some (Ex.x 2, [(nth p10 2), (nth p10 3), (nth p10 4)])))
def L34_1 (I : Interp) (n : Nat) (p8 : List PV) : Option (Ex × List PV) :=
  (iff (ltI (nth p8 0).toInt ((nth p8 1).toList.length : Int))
  (iff (geI (nth p8 0).toInt (0 : Int))
  (iff (ltI (nth p8 0).toInt ((nth p8 1).toList.length : Int))
  (iff (geI (nth (nth p8 1).toList (nth p8 0).toInt.toNat).toInt (0 : Int))
  (iff (ltI (nth (nth p8 1).toList (nth p8 0).toInt.toNat).toInt (((nth p8 2).fld 0).toList.length : Int))
  ((I 109 [(nth ((nth p8 2).fld 0).toList (nth (nth p8 1).toList (nth p8 0).toInt.toNat).toInt.toNat)]).bind fun r9 =>
  (thenN (thenE (loopEv (L34_0 I n) n [(PV.int (1 : Int)), (nth r9 2), (nth p8 0), (nth p8 1), (nth p8 2)])
  (passB 2))
  (fun p12 => (some (Ex.n, [(PV.int (IntKind.i64.wrap ((nth p12 0).toInt + (1 : Int)))), (nth p12 1), (nth p12 2)])))
  passE))
  none)
  none)
  none)
  none)
  (some (Ex.x 0, [])))
def F34 (I : Interp) (n : Nat) (a : List PV) : Option (List PV) :=
  ((I 104 [((nth a 0).fld 1), (PV.int (1 : Int)), (PV.int (3000 : Int))]).bind fun r0 =>
  (letB (selB (!(nth r0 0).toBool) (PV.bool true) (selB ((!(nth r0 0).toBool) == false) (PV.bool (neI (selB ((!(nth r0 0).toBool) == false) (PV.int ((selB ((!(nth r0 0).toBool) == false) ((nth a 0).fld 0) PV.unit).toList.length : Int)) PV.unit).toInt (selB ((!(nth r0 0).toBool) == false) (PV.int (IntKind.i64.wrap ((2 : Int) * (selB ((!(nth r0 0).toBool) == false) ((nth a 0).fld 1) PV.unit).toInt))) PV.unit).toInt)) PV.unit)) fun v1 =>
  (letB (selB (v1.isB false) (selB (selB (v1.isB false) (selB (v1.isB false) (PV.bool (neI (selB (v1.isB false) ((nth a 0).fld 2) PV.unit).toInt (0 : Int))) PV.unit) PV.unit).toBool (selB ((selB (v1.isB false) (selB (v1.isB false) (PV.bool (neI (selB (v1.isB false) ((nth a 0).fld 2) PV.unit).toInt (0 : Int))) PV.unit) PV.unit).isB true) (PV.bool (neI (selB ((selB (v1.isB false) (selB (v1.isB false) (PV.bool (neI (selB (v1.isB false) ((nth a 0).fld 2) PV.unit).toInt (0 : Int))) PV.unit) PV.unit).isB true) ((nth a 0).fld 2) PV.unit).toInt (selB ((selB (v1.isB false) (selB (v1.isB false) (PV.bool (neI (selB (v1.isB false) ((nth a 0).fld 2) PV.unit).toInt (0 : Int))) PV.unit) PV.unit).isB true) ((nth a 0).fld 1) PV.unit).toInt)) PV.unit) (PV.bool false)) PV.unit) fun v2 =>
  (letB (selB v1.toBool (PV.bool true) v2) fun v3 =>
  ((iff (v3.isB false)
  ((I 104 [(selB (v3.isB false) ((nth a 0).fld 3) PV.unit), (selB (v3.isB false) ((nth a 0).fld 2) PV.unit), (selB (v3.isB false) (PV.int (IntKind.i64.wrap ((selB (v3.isB false) ((nth a 0).fld 2) PV.unit).toInt + (selB (v3.isB false) ((nth a 0).fld 1) PV.unit).toInt))) PV.unit)]).bind fun r4 =>
  (some [(nth r4 0), (nth r4 0)]))
  (some [PV.unit, PV.unit])).bind fun g5 =>
  (letB (selB v3.toBool (PV.bool true) (selB (v3.isB false) (PV.bool (!(nth g5 0).toBool)) PV.unit)) fun v6 =>
  (iff v6.toBool
  (some [(PV.bool false)])
  ((I 79 [(nth a 0)]).bind fun r7 =>
  (iff (!(nth r7 1).toBool)
  (some [(PV.bool false)])
  (thenN (thenE (loopEv (L34_1 I n) n [(PV.int (0 : Int)), (nth r7 0), (nth a 0)])
  (passB 0))
  (fun p13 => (some [(PV.bool true)]))
  (retE fun q14 => [(nth q14 0)])))))))))))
theorem e34 : ∀ I n a, (compF Try.prog sg 34).map (fun d => d.ev I n a) = some (F34 I n a) := fun I n a => ew_ev (g := F34) (fun I n a => by kernel_rfl) I n a
/-! impl.rootsOk$1 -/
def F161 (I : Interp) (n : Nat) (a : List PV) : Option (List PV) :=
  ((I 107 [(nth a 0)]).bind fun r0 =>
  ((iff ((!(nth r0 0).toBool) == true)
  ((I 108 [(selB ((!(nth r0 0).toBool) == true) (nth a 1) PV.unit), (selB ((!(nth r0 0).toBool) == true) (nth a 0) PV.unit)]).bind fun r1 =>
  (some [(nth r1 0), (nth r1 0)]))
  (some [PV.unit, PV.unit])).bind fun g2 =>
  (some [(selB (!(nth r0 0).toBool) (selB ((!(nth r0 0).toBool) == true) (PV.bool (!(nth g2 0).toBool)) PV.unit) (PV.bool false))])))
theorem e161 : ∀ I n a, (compF Try.prog sg 161).map (fun d => d.ev I n a) = some (F161 I n a) := fun I n a => by kernel_rfl
/-! slices.IndexFunc[[]int,int] -/
def L173_0 (I : Interp) (n : Nat) (p0 : List PV) : Option (Ex × List PV) :=
  (iff (ltI (nth p0 0).toInt (nth p0 1).toInt)
  (iff (geI (nth p0 0).toInt (0 : Int))
  (iff (ltI (nth p0 0).toInt ((nth p0 2).toList.length : Int))
  ((I 161 [(nth (nth p0 2).toList (nth p0 0).toInt.toNat), (nth p0 3)]).bind fun r1 =>
  (iff (nth r1 0).toBool
  (some (Ex.r, [(nth p0 0)]))
  (some (Ex.n, [(PV.int (IntKind.i64.wrap ((nth p0 0).toInt + (1 : Int)))), (nth p0 1), (nth p0 2), (nth p0 3)]))))
  none)
  none)
  (some (Ex.x 0, [])))
def F173 (I : Interp) (n : Nat) (a : List PV) : Option (List PV) :=
  (thenN (thenE (loopEv (L173_0 I n) n [(PV.int (0 : Int)), (PV.int ((nth a 0).toList.length : Int)), (nth a 0), (nth a 1)])
  (passB 0))
  (fun p2 => (some [(PV.int (-1 : Int))]))
  (retE fun q3 => [(nth q3 0)]))
theorem e173 : ∀ I n a, (compF Try.prog sg 173).map (fun d => d.ev I n a) = some (F173 I n a) := fun I n a => by kernel_rfl
/-! slices.IndexFunc[[]int,int] -/
def L4269_0 (I : Interp) (n : Nat) (p0 : List PV) : Option (Ex × List PV) :=
  (iff (ltI (nth p0 0).toInt (nth p0 1).toInt)
  (iff (geI (nth p0 0).toInt (0 : Int))
  (iff (ltI (nth p0 0).toInt ((nth p0 2).toList.length : Int))
  ((I 197 [(nth (nth p0 2).toList (nth p0 0).toInt.toNat), (nth p0 3)]).bind fun r1 =>
  (iff (nth r1 0).toBool
  (some (Ex.r, [(nth p0 0)]))
  (some (Ex.n, [(PV.int (IntKind.i64.wrap ((nth p0 0).toInt + (1 : Int)))), (nth p0 1), (nth p0 2), (nth p0 3)]))))
  none)
  none)
  (some (Ex.x 0, [])))
def F4269 (I : Interp) (n : Nat) (a : List PV) : Option (List PV) :=
  (thenN (thenE (loopEv (L4269_0 I n) n [(PV.int (0 : Int)), (PV.int ((nth a 0).toList.length : Int)), (nth a 0), (nth a 1)])
  (passB 0))
  (fun p2 => (some [(PV.int (-1 : Int))]))
  (retE fun q3 => [(nth q3 0)]))
theorem e4269 : ∀ I n a, (compF Try.prog sg 4269).map (fun d => d.ev I n a) = some (F4269 I n a) := fun I n a => by kernel_rfl
/-! slices.IndexFunc[[]int,int] -/
def L8365_0 (I : Interp) (n : Nat) (p0 : List PV) : Option (Ex × List PV) :=
  (iff (ltI (nth p0 0).toInt (nth p0 1).toInt)
  (iff (geI (nth p0 0).toInt (0 : Int))
  (iff (ltI (nth p0 0).toInt ((nth p0 2).toList.length : Int))
  ((I 161 [(nth (nth p0 2).toList (nth p0 0).toInt.toNat), (nth p0 3)]).bind fun r1 =>
  (iff (nth r1 0).toBool
  (some (Ex.r, [(nth p0 0)]))
  (some (Ex.n, [(PV.int (IntKind.i64.wrap ((nth p0 0).toInt + (1 : Int)))), (nth p0 1), (nth p0 2), (nth p0 3)]))))
  none)
  none)
  (some (Ex.x 0, [])))
def F8365 (I : Interp) (n : Nat) (a : List PV) : Option (List PV) :=
  (thenN (thenE (loopEv (L8365_0 I n) n [(PV.int (0 : Int)), (PV.int ((nth a 0).toList.length : Int)), (nth a 0), (nth a 1)])
  (passB 0))
  (fun p2 => (some [(PV.int (-1 : Int))]))
  (retE fun q3 => [(nth q3 0)]))
theorem e8365 : ∀ I n a, (compF Try.prog sg 8365).map (fun d => d.ev I n a) = some (F8365 I n a) := fun I n a => by kernel_rfl
/-! slices.IndexFunc[[]int,int] -/
def L12461_0 (I : Interp) (n : Nat) (p0 : List PV) : Option (Ex × List PV) :=
  (iff (ltI (nth p0 0).toInt (nth p0 1).toInt)
  (iff (geI (nth p0 0).toInt (0 : Int))
  (iff (ltI (nth p0 0).toInt ((nth p0 2).toList.length : Int))
  ((I 197 [(nth (nth p0 2).toList (nth p0 0).toInt.toNat), (nth p0 3)]).bind fun r1 =>
  (iff (nth r1 0).toBool
  (some (Ex.r, [(nth p0 0)]))
  (some (Ex.n, [(PV.int (IntKind.i64.wrap ((nth p0 0).toInt + (1 : Int)))), (nth p0 1), (nth p0 2), (nth p0 3)]))))
  none)
  none)
  (some (Ex.x 0, [])))
def F12461 (I : Interp) (n : Nat) (a : List PV) : Option (List PV) :=
  (thenN (thenE (loopEv (L12461_0 I n) n [(PV.int (0 : Int)), (PV.int ((nth a 0).toList.length : Int)), (nth a 0), (nth a 1)])
  (passB 0))
  (fun p2 => (some [(PV.int (-1 : Int))]))
  (retE fun q3 => [(nth q3 0)]))
theorem e12461 : ∀ I n a, (compF Try.prog sg 12461).map (fun d => d.ev I n a) = some (F12461 I n a) := fun I n a => by kernel_rfl
/-! impl.HeapOk -/
def L33_0 (I : Interp) (n : Nat) (p3 : List PV) : Option (Ex × List PV) :=
  (iff (ltI (nth p3 0).toInt (nth p3 1).toInt)
  (iff (geI (nth p3 0).toInt (0 : Int))
  (iff (ltI (nth p3 0).toInt ((nth p3 2).toList.length : Int))
  ((I 107 [(nth (nth p3 2).toList (nth p3 0).toInt.toNat)]).bind fun r4 =>
  ((iff ((!(nth r4 0).toBool) == true)
  ((I 108 [(nth p3 5), (selB ((!(nth r4 0).toBool) == true) (nth (nth p3 2).toList (nth p3 0).toInt.toNat) PV.unit)]).bind fun r5 =>
  (some [(nth r5 0), (nth r5 0)]))
  (some [PV.unit, PV.unit])).bind fun g6 =>
  (iff (selB (!(nth r4 0).toBool) (selB ((!(nth r4 0).toBool) == true) (PV.bool (!(nth g6 0).toBool)) PV.unit) (PV.bool false)).toBool
  (some (Ex.r, [(PV.bool false)]))
  (some (Ex.n, [(PV.int (IntKind.i64.wrap ((nth p3 0).toInt + (1 : Int)))), (nth p3 1), (nth p3 2), (nth p3 3), (nth p3 4), (nth p3 5), (nth p3 6)])))))
  none)
  none)
  (some (Ex.x 2, [(nth p3 3), (nth p3 4), (nth p3 5), (nth p3 6)])))
def L33_1 (I : Interp) (n : Nat) (p1 : List PV) : Option (Ex × List PV) :=
  (iff (ltI (nth p1 0).toInt (nth p1 1).toInt)
  (iff (geI (nth p1 0).toInt (0 : Int))
  (iff (ltI (nth p1 0).toInt ((nth p1 2).toList.length : Int))
  ((I 92 [(nth p1 3), (nth (nth p1 2).toList (nth p1 0).toInt.toNat)]).bind fun r2 =>
  (thenN (thenE (loopEv (L33_0 I n) n [(PV.int (0 : Int)), (PV.int ((nth r2 0).toList.length : Int)), (nth r2 0), (nth p1 0), (nth p1 1), (nth p1 2), (nth p1 3)])
  (passB 2))
  (fun p7 => (some (Ex.n, [(PV.int (IntKind.i64.wrap ((nth p7 0).toInt + (1 : Int)))), (nth p7 1), (nth p7 2), (nth p7 3)])))
  passE))
  none)
  none)
  (some (Ex.x 0, [])))
def F33 (I : Interp) (n : Nat) (a : List PV) : Option (List PV) :=
  ((I 106 [(nth a 0)]).bind fun r0 =>
  (iff (!(nth r0 1).toBool)
  (some [(PV.bool false)])
  (thenN (thenE (loopEv (L33_1 I n) n [(PV.int (0 : Int)), (PV.int ((nth r0 0).toList.length : Int)), (nth r0 0), (nth a 0)])
  (passB 0))
  (fun p8 => (some [(PV.bool true)]))
  (retE fun q9 => [(nth q9 0)]))))
theorem e33 : ∀ I n a, (compF Try.prog sg 33).map (fun d => d.ev I n a) = some (F33 I n a) := fun I n a => by kernel_rfl
/-! slices.ContainsFunc[[]int,int] -/
def F160 (I : Interp) (n : Nat) (a : List PV) : Option (List PV) :=
  ((I 173 [(nth a 0), (nth a 1)]).bind fun r0 =>
  (some [(PV.bool (geI (nth r0 0).toInt (0 : Int)))]))
theorem e160 : ∀ I n a, (compF Try.prog sg 160).map (fun d => d.ev I n a) = some (F160 I n a) := fun I n a => by kernel_rfl
/-! slices.ContainsFunc[[]int,int] -/
def F4256 (I : Interp) (n : Nat) (a : List PV) : Option (List PV) :=
  ((I 4269 [(nth a 0), (nth a 1)]).bind fun r0 =>
  (some [(PV.bool (geI (nth r0 0).toInt (0 : Int)))]))
theorem e4256 : ∀ I n a, (compF Try.prog sg 4256).map (fun d => d.ev I n a) = some (F4256 I n a) := fun I n a => by kernel_rfl
/-! slices.ContainsFunc[[]int,int] -/
def F8352 (I : Interp) (n : Nat) (a : List PV) : Option (List PV) :=
  ((I 173 [(nth a 0), (nth a 1)]).bind fun r0 =>
  (some [(PV.bool (geI (nth r0 0).toInt (0 : Int)))]))
theorem e8352 : ∀ I n a, (compF Try.prog sg 8352).map (fun d => d.ev I n a) = some (F8352 I n a) := fun I n a => by kernel_rfl
/-! slices.ContainsFunc[[]int,int] -/
def F12448 (I : Interp) (n : Nat) (a : List PV) : Option (List PV) :=
  ((I 4269 [(nth a 0), (nth a 1)]).bind fun r0 =>
  (some [(PV.bool (geI (nth r0 0).toInt (0 : Int)))]))
theorem e12448 : ∀ I n a, (compF Try.prog sg 12448).map (fun d => d.ev I n a) = some (F12448 I n a) := fun I n a => by kernel_rfl
/-! spec.VmOk -/
def L46_0 (I : Interp) (n : Nat) (p12 : List PV) : Option (Ex × List PV) :=
  (iff (ltI (nth p12 0).toInt (((nth p12 2).fld 2).toList.length : Int))
  (iff (geI (nth p12 0).toInt (0 : Int))
  (iff (ltI (nth p12 0).toInt (((nth p12 2).fld 2).toList.length : Int))
  ((I 110 [(nth p12 1), (nth ((nth p12 2).fld 2).toList (nth p12 0).toInt.toNat)]).bind fun r13 =>
  (iff (!(nth r13 0).toBool)
  (some (Ex.r, [(PV.bool false)]))
  (some (Ex.n, [(PV.int (IntKind.i64.wrap ((nth p12 0).toInt + (1 : Int)))), (nth p12 1), (nth p12 2)]))))
  none)
  none)
  (some (Ex.x 0, [(nth p12 2)])))
def L46_1 (I : Interp) (n : Nat) (p15 : List PV) : Option (Ex × List PV) :=
  (iff (ltI (nth p15 0).toInt (((nth p15 1).fld 3).toList.length : Int))
  (iff (geI (nth p15 0).toInt (0 : Int))
  (iff (ltI (nth p15 0).toInt (((nth p15 1).fld 3).toList.length : Int))
  ((I 104 [((nth ((nth p15 1).fld 3).toList (nth p15 0).toInt.toNat).fld 0), (PV.int (0 : Int)), (PV.int (IntKind.i64.wrap ((((nth p15 1).fld 0).toList.length : Int) - (1 : Int))))]).bind fun r16 =>
  ((iff ((!(nth r16 0).toBool) == false)
  (iff (geI (selB ((!(nth r16 0).toBool) == false) ((nth ((nth p15 1).fld 3).toList (nth p15 0).toInt.toNat).fld 0) PV.unit).toInt (0 : Int))
  (iff (ltI (selB ((!(nth r16 0).toBool) == false) ((nth ((nth p15 1).fld 3).toList (nth p15 0).toInt.toNat).fld 0) PV.unit).toInt ((selB ((!(nth r16 0).toBool) == false) ((nth p15 1).fld 0) PV.unit).toList.length : Int))
  (some [(nth (selB ((!(nth r16 0).toBool) == false) ((nth p15 1).fld 0) PV.unit).toList (selB ((!(nth r16 0).toBool) == false) ((nth ((nth p15 1).fld 3).toList (nth p15 0).toInt.toNat).fld 0) PV.unit).toInt.toNat), (nth (selB ((!(nth r16 0).toBool) == false) ((nth p15 1).fld 0) PV.unit).toList (selB ((!(nth r16 0).toBool) == false) ((nth ((nth p15 1).fld 3).toList (nth p15 0).toInt.toNat).fld 0) PV.unit).toInt.toNat)])
  none)
  none)
  (some [PV.unit, PV.unit])).bind fun g17 =>
  ((iff ((!(nth r16 0).toBool) == false)
  ((I 104 [(selB ((!(nth r16 0).toBool) == false) ((nth ((nth p15 1).fld 3).toList (nth p15 0).toInt.toNat).fld 1) PV.unit), (PV.int (0 : Int)), (selB ((!(nth r16 0).toBool) == false) (PV.int (IntKind.i64.wrap ((selB ((!(nth r16 0).toBool) == false) (PV.int ((selB ((!(nth r16 0).toBool) == false) (selB ((!(nth r16 0).toBool) == false) ((nth g17 0).fld 1) PV.unit) PV.unit).toList.length : Int)) PV.unit).toInt - (1 : Int)))) PV.unit)]).bind fun r18 =>
  (some [(nth r18 0), (nth r18 0)]))
  (some [PV.unit, PV.unit])).bind fun g19 =>
  (letB (selB (!(nth r16 0).toBool) (PV.bool true) (selB ((!(nth r16 0).toBool) == false) (PV.bool (!(nth g19 0).toBool)) PV.unit)) fun v20 =>
  ((iff (v20.isB false)
  ((I 104 [(selB (v20.isB false) ((nth ((nth p15 1).fld 3).toList (nth p15 0).toInt.toNat).fld 2) PV.unit), (PV.int (1 : Int)), (selB (v20.isB false) (PV.int (IntKind.i64.wrap ((selB (v20.isB false) (PV.int ((selB (v20.isB false) ((nth p15 1).fld 2) PV.unit).toList.length : Int)) PV.unit).toInt - (1 : Int)))) PV.unit)]).bind fun r21 =>
  (some [(nth r21 0), (nth r21 0)]))
  (some [PV.unit, PV.unit])).bind fun g22 =>
  (letB (selB v20.toBool (PV.bool true) (selB (v20.isB false) (PV.bool (!(nth g22 0).toBool)) PV.unit)) fun v23 =>
  ((iff ((selB (v23.isB false) (selB (v23.isB false) (PV.bool (gtI (selB (v23.isB false) (nth p15 0) PV.unit).toInt (0 : Int))) PV.unit) PV.unit).isB true)
  (iff (geI (selB ((selB (v23.isB false) (selB (v23.isB false) (PV.bool (gtI (selB (v23.isB false) (nth p15 0) PV.unit).toInt (0 : Int))) PV.unit) PV.unit).isB true) (PV.int (IntKind.i64.wrap ((selB ((selB (v23.isB false) (selB (v23.isB false) (PV.bool (gtI (selB (v23.isB false) (nth p15 0) PV.unit).toInt (0 : Int))) PV.unit) PV.unit).isB true) (nth p15 0) PV.unit).toInt - (1 : Int)))) PV.unit).toInt (0 : Int))
  (iff (ltI (selB ((selB (v23.isB false) (selB (v23.isB false) (PV.bool (gtI (selB (v23.isB false) (nth p15 0) PV.unit).toInt (0 : Int))) PV.unit) PV.unit).isB true) (PV.int (IntKind.i64.wrap ((selB ((selB (v23.isB false) (selB (v23.isB false) (PV.bool (gtI (selB (v23.isB false) (nth p15 0) PV.unit).toInt (0 : Int))) PV.unit) PV.unit).isB true) (nth p15 0) PV.unit).toInt - (1 : Int)))) PV.unit).toInt ((selB ((selB (v23.isB false) (selB (v23.isB false) (PV.bool (gtI (selB (v23.isB false) (nth p15 0) PV.unit).toInt (0 : Int))) PV.unit) PV.unit).isB true) ((nth p15 1).fld 3) PV.unit).toList.length : Int))
  (some [(nth (selB ((selB (v23.isB false) (selB (v23.isB false) (PV.bool (gtI (selB (v23.isB false) (nth p15 0) PV.unit).toInt (0 : Int))) PV.unit) PV.unit).isB true) ((nth p15 1).fld 3) PV.unit).toList (selB ((selB (v23.isB false) (selB (v23.isB false) (PV.bool (gtI (selB (v23.isB false) (nth p15 0) PV.unit).toInt (0 : Int))) PV.unit) PV.unit).isB true) (PV.int (IntKind.i64.wrap ((selB ((selB (v23.isB false) (selB (v23.isB false) (PV.bool (gtI (selB (v23.isB false) (nth p15 0) PV.unit).toInt (0 : Int))) PV.unit) PV.unit).isB true) (nth p15 0) PV.unit).toInt - (1 : Int)))) PV.unit).toInt.toNat), (nth (selB ((selB (v23.isB false) (selB (v23.isB false) (PV.bool (gtI (selB (v23.isB false) (nth p15 0) PV.unit).toInt (0 : Int))) PV.unit) PV.unit).isB true) ((nth p15 1).fld 3) PV.unit).toList (selB ((selB (v23.isB false) (selB (v23.isB false) (PV.bool (gtI (selB (v23.isB false) (nth p15 0) PV.unit).toInt (0 : Int))) PV.unit) PV.unit).isB true) (PV.int (IntKind.i64.wrap ((selB ((selB (v23.isB false) (selB (v23.isB false) (PV.bool (gtI (selB (v23.isB false) (nth p15 0) PV.unit).toInt (0 : Int))) PV.unit) PV.unit).isB true) (nth p15 0) PV.unit).toInt - (1 : Int)))) PV.unit).toInt.toNat)])
  none)
  none)
  (some [PV.unit, PV.unit])).bind fun g24 =>
  (letB (selB (v23.isB false) (selB (selB (v23.isB false) (selB (v23.isB false) (PV.bool (gtI (selB (v23.isB false) (nth p15 0) PV.unit).toInt (0 : Int))) PV.unit) PV.unit).toBool (selB ((selB (v23.isB false) (selB (v23.isB false) (PV.bool (gtI (selB (v23.isB false) (nth p15 0) PV.unit).toInt (0 : Int))) PV.unit) PV.unit).isB true) (PV.bool (leI (selB ((selB (v23.isB false) (selB (v23.isB false) (PV.bool (gtI (selB (v23.isB false) (nth p15 0) PV.unit).toInt (0 : Int))) PV.unit) PV.unit).isB true) ((nth ((nth p15 1).fld 3).toList (nth p15 0).toInt.toNat).fld 2) PV.unit).toInt (selB ((selB (v23.isB false) (selB (v23.isB false) (PV.bool (gtI (selB (v23.isB false) (nth p15 0) PV.unit).toInt (0 : Int))) PV.unit) PV.unit).isB true) (selB ((selB (v23.isB false) (selB (v23.isB false) (PV.bool (gtI (selB (v23.isB false) (nth p15 0) PV.unit).toInt (0 : Int))) PV.unit) PV.unit).isB true) ((nth g24 0).fld 2) PV.unit) PV.unit).toInt)) PV.unit) (PV.bool false)) PV.unit) fun v25 =>
  (letB (selB v23.toBool (PV.bool true) v25) fun v26 =>
  (iff v26.toBool
  (some (Ex.r, [(PV.bool false)]))
  (some (Ex.n, [(PV.int (IntKind.i64.wrap ((nth p15 0).toInt + (1 : Int)))), (nth p15 1)]))))))))))))
  none)
  none)
  (some (Ex.x 2, [(nth p15 1)])))
def L46_2 (I : Interp) (n : Nat) (p28 : List PV) : Option (Ex × List PV) :=
  (iff (ltI (nth p28 0).toInt (((nth p28 1).fld 4).toList.length : Int))
  (iff (geI (nth p28 0).toInt (0 : Int))
  (iff (ltI (nth p28 0).toInt (((nth p28 1).fld 4).toList.length : Int))
  ((I 117 [(nth ((nth p28 1).fld 4).toList (nth p28 0).toInt.toNat)]).bind fun r29 =>
  (iff (!(nth r29 0).toBool)
  (some (Ex.r, [(PV.bool false)]))
  (some (Ex.n, [(PV.int (IntKind.i64.wrap ((nth p28 0).toInt + (1 : Int)))), (nth p28 1)]))))
  none)
  none)
  (some (Ex.x 4, [])))
def F46 (I : Interp) (n : Nat) (a : List PV) : Option (List PV) :=
  ((I 116 [((nth a 0).fld 0)]).bind fun r0 =>
  ((iff ((!(nth r0 0).toBool) == false)
  ((I 34 [(selB ((!(nth r0 0).toBool) == false) ((nth a 0).fld 1) PV.unit)]).bind fun r1 =>
  (some [(nth r1 0), (nth r1 0)]))
  (some [PV.unit, PV.unit])).bind fun g2 =>
  (letB (selB (!(nth r0 0).toBool) (PV.bool true) (selB ((!(nth r0 0).toBool) == false) (PV.bool (!(nth g2 0).toBool)) PV.unit)) fun v3 =>
  (letB (selB v3.toBool (PV.bool true) (selB (v3.isB false) (PV.bool (gtI (selB (v3.isB false) (PV.int ((selB (v3.isB false) ((nth a 0).fld 2) PV.unit).toList.length : Int)) PV.unit).toInt (600 : Int))) PV.unit)) fun v4 =>
  (letB (selB v4.toBool (PV.bool true) (selB (v4.isB false) (PV.bool (gtI (selB (v4.isB false) (PV.int ((selB (v4.isB false) ((nth a 0).fld 3) PV.unit).toList.length : Int)) PV.unit).toInt (120 : Int))) PV.unit)) fun v5 =>
  (letB (selB (v5.isB false) (selB (selB (v5.isB false) (selB (v5.isB false) (PV.bool (eqI (selB (v5.isB false) ((nth a 0).fld 5) PV.unit).toInt (0 : Int))) PV.unit) PV.unit).toBool (selB ((selB (v5.isB false) (selB (v5.isB false) (PV.bool (eqI (selB (v5.isB false) ((nth a 0).fld 5) PV.unit).toInt (0 : Int))) PV.unit) PV.unit).isB true) (PV.bool (eqI (selB ((selB (v5.isB false) (selB (v5.isB false) (PV.bool (eqI (selB (v5.isB false) ((nth a 0).fld 5) PV.unit).toInt (0 : Int))) PV.unit) PV.unit).isB true) (PV.int ((selB ((selB (v5.isB false) (selB (v5.isB false) (PV.bool (eqI (selB (v5.isB false) ((nth a 0).fld 5) PV.unit).toInt (0 : Int))) PV.unit) PV.unit).isB true) ((nth a 0).fld 3) PV.unit).toList.length : Int)) PV.unit).toInt (0 : Int))) PV.unit) (PV.bool false)) PV.unit) fun v6 =>
  (letB (selB v5.toBool (PV.bool true) v6) fun v7 =>
  ((iff (v7.isB false)
  ((I 104 [(selB (v7.isB false) ((nth a 0).fld 5) PV.unit), (PV.int (0 : Int)), (PV.int (5 : Int))]).bind fun r8 =>
  (some [(nth r8 0), (nth r8 0)]))
  (some [PV.unit, PV.unit])).bind fun g9 =>
  (letB (selB v7.toBool (PV.bool true) (selB (v7.isB false) (PV.bool (!(nth g9 0).toBool)) PV.unit)) fun v10 =>
  (iff v10.toBool
  (some [(PV.bool false)])
  ((I 79 [((nth a 0).fld 1)]).bind fun r11 =>
  (thenN (thenE (loopEv (L46_0 I n) n [(PV.int (0 : Int)), (nth r11 0), (nth a 0)])
  (passB 0))
  (fun p14 => (thenN (thenE (loopEv (L46_1 I n) n [(PV.int (0 : Int)), (nth p14 0)])
  (passB 2))
  (fun p27 => (thenN (thenE (loopEv (L46_2 I n) n [(PV.int (0 : Int)), (nth p27 0)])
  (passB 4))
  (fun p30 => (some [(PV.bool true)]))
  (retE fun q31 => [(nth q31 0)])))
  (retE fun q32 => [(nth q32 0)])))
  (retE fun q33 => [(nth q33 0)])))))))))))))
theorem e46 : ∀ I n a, (compF Try.prog sg 46).map (fun d => d.ev I n a) = some (F46 I n a) := fun I n a => ew_ev (g := F46) (fun I n a => by kernel_rfl) I n a
/-! impl.rootsOk -/
def F88 (I : Interp) (n : Nat) (a : List PV) : Option (List PV) :=
  ((I 33 [(nth a 0)]).bind fun r0 =>
  (iff (!(nth r0 0).toBool)
  (some [(PV.bool false)])
  ((I 106 [(nth a 0)]).bind fun r1 =>
  ((I 160 [(nth a 1), (nth r1 0)]).bind fun r2 =>
  (some [(PV.bool (!(nth r2 0).toBool))])))))
theorem e88 : ∀ I n a, (compF Try.prog sg 88).map (fun d => d.ev I n a) = some (F88 I n a) := fun I n a => by kernel_rfl
/-! spec.VmNew -/
def F74 (I : Interp) (n : Nat) (a : List PV) : Option (List PV) :=
  ((I 41 [(nth a 1)]).bind fun r0 =>
  ((iff ((!(nth r0 1).toBool) == false)
  ((I 150 [(selB ((!(nth r0 1).toBool) == false) (nth a 0) PV.unit)]).bind fun r1 =>
  (some [(nth r1 0), (nth r1 0)]))
  (some [PV.unit, PV.unit])).bind fun g2 =>
  (iff (selB (!(nth r0 1).toBool) (PV.bool true) (selB ((!(nth r0 1).toBool) == false) (PV.bool (!(nth g2 0).toBool)) PV.unit)).toBool
  (some [(PV.agg [(PV.list ([] : List PV)), (PV.agg [(PV.list ([] : List PV)), (PV.int (0 : Int)), (PV.int (0 : Int)), (PV.int (0 : Int))]), (PV.list ([] : List PV)), (PV.list ([] : List PV)), (PV.list ([] : List PV)), (PV.int (0 : Int)), (PV.bool false)]), (PV.bool false)])
  ((I 151 [(nth a 0)]).bind fun r3 =>
  ((I 46 [(PV.agg [(nth r3 0), (nth r0 0), (PV.list ((PV.int (1 : Int)) :: ((PV.int (1 : Int)) :: ([] : List PV)))), (PV.list ((PV.agg [(PV.int (0 : Int)), (PV.int (0 : Int)), (PV.int (1 : Int))]) :: ([] : List PV))), (PV.list ([] : List PV)), (PV.int (0 : Int)), (nth a 2)])]).bind fun r4 =>
  (iff (!(nth r4 0).toBool)
  (some [(PV.agg [(PV.list ([] : List PV)), (PV.agg [(PV.list ([] : List PV)), (PV.int (0 : Int)), (PV.int (0 : Int)), (PV.int (0 : Int))]), (PV.list ([] : List PV)), (PV.list ([] : List PV)), (PV.list ([] : List PV)), (PV.int (0 : Int)), (PV.bool false)]), (PV.bool false)])
  (some [(PV.agg [(nth r3 0), (nth r0 0), (PV.list ((PV.int (1 : Int)) :: ((PV.int (1 : Int)) :: ([] : List PV)))), (PV.list ((PV.agg [(PV.int (0 : Int)), (PV.int (0 : Int)), (PV.int (1 : Int))]) :: ([] : List PV))), (PV.list ([] : List PV)), (PV.int (0 : Int)), (nth a 2)]), (PV.bool true)])))))))
theorem e74 : ∀ I n a, (compF Try.prog sg 74).map (fun d => d.ev I n a) = some (F74 I n a) := fun I n a => by kernel_rfl
/-! impl.VmOk -/
def L48_0 (I : Interp) (n : Nat) (p11 : List PV) : Option (Ex × List PV) :=
  (iff (ltI (nth p11 0).toInt (nth p11 1).toInt)
  (iff (geI (nth p11 0).toInt (0 : Int))
  (iff (ltI (nth p11 0).toInt ((nth p11 2).toList.length : Int))
  ((I 102 [((nth (nth p11 2).toList (nth p11 0).toInt.toNat).fld 0), (PV.int (0 : Int)), (PV.int (IntKind.i64.wrap ((((nth p11 3).fld 0).toList.length : Int) - (1 : Int))))]).bind fun r12 =>
  ((iff ((!(nth r12 0).toBool) == false)
  (iff (geI (selB ((!(nth r12 0).toBool) == false) ((nth (nth p11 2).toList (nth p11 0).toInt.toNat).fld 0) PV.unit).toInt (0 : Int))
  (iff (ltI (selB ((!(nth r12 0).toBool) == false) ((nth (nth p11 2).toList (nth p11 0).toInt.toNat).fld 0) PV.unit).toInt ((selB ((!(nth r12 0).toBool) == false) ((nth p11 3).fld 0) PV.unit).toList.length : Int))
  (some [(nth (selB ((!(nth r12 0).toBool) == false) ((nth p11 3).fld 0) PV.unit).toList (selB ((!(nth r12 0).toBool) == false) ((nth (nth p11 2).toList (nth p11 0).toInt.toNat).fld 0) PV.unit).toInt.toNat), (nth (selB ((!(nth r12 0).toBool) == false) ((nth p11 3).fld 0) PV.unit).toList (selB ((!(nth r12 0).toBool) == false) ((nth (nth p11 2).toList (nth p11 0).toInt.toNat).fld 0) PV.unit).toInt.toNat)])
  none)
  none)
  (some [PV.unit, PV.unit])).bind fun g13 =>
  ((iff ((!(nth r12 0).toBool) == false)
  ((I 102 [(selB ((!(nth r12 0).toBool) == false) ((nth (nth p11 2).toList (nth p11 0).toInt.toNat).fld 1) PV.unit), (PV.int (0 : Int)), (selB ((!(nth r12 0).toBool) == false) (PV.int (IntKind.i64.wrap ((selB ((!(nth r12 0).toBool) == false) (PV.int ((selB ((!(nth r12 0).toBool) == false) (selB ((!(nth r12 0).toBool) == false) ((nth g13 0).fld 1) PV.unit) PV.unit).toList.length : Int)) PV.unit).toInt - (1 : Int)))) PV.unit)]).bind fun r14 =>
  (some [(nth r14 0), (nth r14 0)]))
  (some [PV.unit, PV.unit])).bind fun g15 =>
  (letB (selB (!(nth r12 0).toBool) (PV.bool true) (selB ((!(nth r12 0).toBool) == false) (PV.bool (!(nth g15 0).toBool)) PV.unit)) fun v16 =>
  ((iff (v16.isB false)
  ((I 102 [(selB (v16.isB false) ((nth (nth p11 2).toList (nth p11 0).toInt.toNat).fld 2) PV.unit), (PV.int (1 : Int)), (selB (v16.isB false) (PV.int (IntKind.i64.wrap ((selB (v16.isB false) (PV.int ((selB (v16.isB false) ((nth p11 3).fld 2) PV.unit).toList.length : Int)) PV.unit).toInt - (1 : Int)))) PV.unit)]).bind fun r17 =>
  (some [(nth r17 0), (nth r17 0)]))
  (some [PV.unit, PV.unit])).bind fun g18 =>
  (letB (selB v16.toBool (PV.bool true) (selB (v16.isB false) (PV.bool (!(nth g18 0).toBool)) PV.unit)) fun v19 =>
  ((iff ((selB (v19.isB false) (selB (v19.isB false) (PV.bool (gtI (selB (v19.isB false) (nth p11 0) PV.unit).toInt (0 : Int))) PV.unit) PV.unit).isB true)
  (iff (geI (selB ((selB (v19.isB false) (selB (v19.isB false) (PV.bool (gtI (selB (v19.isB false) (nth p11 0) PV.unit).toInt (0 : Int))) PV.unit) PV.unit).isB true) (PV.int (IntKind.i64.wrap ((selB ((selB (v19.isB false) (selB (v19.isB false) (PV.bool (gtI (selB (v19.isB false) (nth p11 0) PV.unit).toInt (0 : Int))) PV.unit) PV.unit).isB true) (nth p11 0) PV.unit).toInt - (1 : Int)))) PV.unit).toInt (0 : Int))
  (iff (ltI (selB ((selB (v19.isB false) (selB (v19.isB false) (PV.bool (gtI (selB (v19.isB false) (nth p11 0) PV.unit).toInt (0 : Int))) PV.unit) PV.unit).isB true) (PV.int (IntKind.i64.wrap ((selB ((selB (v19.isB false) (selB (v19.isB false) (PV.bool (gtI (selB (v19.isB false) (nth p11 0) PV.unit).toInt (0 : Int))) PV.unit) PV.unit).isB true) (nth p11 0) PV.unit).toInt - (1 : Int)))) PV.unit).toInt ((selB ((selB (v19.isB false) (selB (v19.isB false) (PV.bool (gtI (selB (v19.isB false) (nth p11 0) PV.unit).toInt (0 : Int))) PV.unit) PV.unit).isB true) ((nth p11 3).fld 3) PV.unit).toList.length : Int))
  (some [(nth (selB ((selB (v19.isB false) (selB (v19.isB false) (PV.bool (gtI (selB (v19.isB false) (nth p11 0) PV.unit).toInt (0 : Int))) PV.unit) PV.unit).isB true) ((nth p11 3).fld 3) PV.unit).toList (selB ((selB (v19.isB false) (selB (v19.isB false) (PV.bool (gtI (selB (v19.isB false) (nth p11 0) PV.unit).toInt (0 : Int))) PV.unit) PV.unit).isB true) (PV.int (IntKind.i64.wrap ((selB ((selB (v19.isB false) (selB (v19.isB false) (PV.bool (gtI (selB (v19.isB false) (nth p11 0) PV.unit).toInt (0 : Int))) PV.unit) PV.unit).isB true) (nth p11 0) PV.unit).toInt - (1 : Int)))) PV.unit).toInt.toNat), (nth (selB ((selB (v19.isB false) (selB (v19.isB false) (PV.bool (gtI (selB (v19.isB false) (nth p11 0) PV.unit).toInt (0 : Int))) PV.unit) PV.unit).isB true) ((nth p11 3).fld 3) PV.unit).toList (selB ((selB (v19.isB false) (selB (v19.isB false) (PV.bool (gtI (selB (v19.isB false) (nth p11 0) PV.unit).toInt (0 : Int))) PV.unit) PV.unit).isB true) (PV.int (IntKind.i64.wrap ((selB ((selB (v19.isB false) (selB (v19.isB false) (PV.bool (gtI (selB (v19.isB false) (nth p11 0) PV.unit).toInt (0 : Int))) PV.unit) PV.unit).isB true) (nth p11 0) PV.unit).toInt - (1 : Int)))) PV.unit).toInt.toNat)])
  none)
  none)
  (some [PV.unit, PV.unit])).bind fun g20 =>
  (letB (selB (v19.isB false) (selB (selB (v19.isB false) (selB (v19.isB false) (PV.bool (gtI (selB (v19.isB false) (nth p11 0) PV.unit).toInt (0 : Int))) PV.unit) PV.unit).toBool (selB ((selB (v19.isB false) (selB (v19.isB false) (PV.bool (gtI (selB (v19.isB false) (nth p11 0) PV.unit).toInt (0 : Int))) PV.unit) PV.unit).isB true) (PV.bool (geI (selB ((selB (v19.isB false) (selB (v19.isB false) (PV.bool (gtI (selB (v19.isB false) (nth p11 0) PV.unit).toInt (0 : Int))) PV.unit) PV.unit).isB true) (selB ((selB (v19.isB false) (selB (v19.isB false) (PV.bool (gtI (selB (v19.isB false) (nth p11 0) PV.unit).toInt (0 : Int))) PV.unit) PV.unit).isB true) ((nth g20 0).fld 2) PV.unit) PV.unit).toInt (selB ((selB (v19.isB false) (selB (v19.isB false) (PV.bool (gtI (selB (v19.isB false) (nth p11 0) PV.unit).toInt (0 : Int))) PV.unit) PV.unit).isB true) ((nth (nth p11 2).toList (nth p11 0).toInt.toNat).fld 2) PV.unit).toInt)) PV.unit) (PV.bool false)) PV.unit) fun v21 =>
  (letB (selB v19.toBool (PV.bool true) v21) fun v22 =>
  (iff v22.toBool
  (some (Ex.r, [(PV.bool false)]))
  (some (Ex.n, [(PV.int (IntKind.i64.wrap ((nth p11 0).toInt + (1 : Int)))), (nth p11 1), (nth p11 2), (nth p11 3)]))))))))))))
  none)
  none)
  (some (Ex.x 0, [(nth p11 3)])))
def L48_1 (I : Interp) (n : Nat) (p24 : List PV) : Option (Ex × List PV) :=
  (iff (ltI (nth p24 0).toInt (nth p24 1).toInt)
  (iff (geI (nth p24 0).toInt (0 : Int))
  (iff (ltI (nth p24 0).toInt ((nth p24 2).toList.length : Int))
  ((I 120 [(nth (nth p24 2).toList (nth p24 0).toInt.toNat)]).bind fun r25 =>
  (iff (!(nth r25 0).toBool)
  (some (Ex.r, [(PV.bool false)]))
  (some (Ex.n, [(PV.int (IntKind.i64.wrap ((nth p24 0).toInt + (1 : Int)))), (nth p24 1), (nth p24 2)]))))
  none)
  none)
  (some (Ex.x 2, [])))
def F48 (I : Interp) (n : Nat) (a : List PV) : Option (List PV) :=
  ((I 119 [((nth a 0).fld 0)]).bind fun r0 =>
  ((iff ((!(nth r0 0).toBool) == false)
  ((I 88 [(selB ((!(nth r0 0).toBool) == false) ((nth a 0).fld 1) PV.unit), (selB ((!(nth r0 0).toBool) == false) ((nth a 0).fld 2) PV.unit)]).bind fun r1 =>
  (some [(nth r1 0), (nth r1 0)]))
  (some [PV.unit, PV.unit])).bind fun g2 =>
  (letB (selB (!(nth r0 0).toBool) (PV.bool true) (selB ((!(nth r0 0).toBool) == false) (PV.bool (!(nth g2 0).toBool)) PV.unit)) fun v3 =>
  (letB (selB v3.toBool (PV.bool true) (selB (v3.isB false) (PV.bool (gtI (selB (v3.isB false) (PV.int ((selB (v3.isB false) ((nth a 0).fld 2) PV.unit).toList.length : Int)) PV.unit).toInt (600 : Int))) PV.unit)) fun v4 =>
  (letB (selB v4.toBool (PV.bool true) (selB (v4.isB false) (PV.bool (gtI (selB (v4.isB false) (PV.int ((selB (v4.isB false) ((nth a 0).fld 3) PV.unit).toList.length : Int)) PV.unit).toInt (120 : Int))) PV.unit)) fun v5 =>
  ((iff (v5.isB false)
  ((I 102 [(selB (v5.isB false) ((nth a 0).fld 5) PV.unit), (PV.int (0 : Int)), (PV.int (5 : Int))]).bind fun r6 =>
  (some [(nth r6 0), (nth r6 0)]))
  (some [PV.unit, PV.unit])).bind fun g7 =>
  (letB (selB v5.toBool (PV.bool true) (selB (v5.isB false) (PV.bool (!(nth g7 0).toBool)) PV.unit)) fun v8 =>
  (letB (selB (v8.isB false) (selB (selB (v8.isB false) (selB (v8.isB false) (PV.bool (eqI (selB (v8.isB false) ((nth a 0).fld 5) PV.unit).toInt (0 : Int))) PV.unit) PV.unit).toBool (selB ((selB (v8.isB false) (selB (v8.isB false) (PV.bool (eqI (selB (v8.isB false) ((nth a 0).fld 5) PV.unit).toInt (0 : Int))) PV.unit) PV.unit).isB true) (PV.bool (eqI (selB ((selB (v8.isB false) (selB (v8.isB false) (PV.bool (eqI (selB (v8.isB false) ((nth a 0).fld 5) PV.unit).toInt (0 : Int))) PV.unit) PV.unit).isB true) (PV.int ((selB ((selB (v8.isB false) (selB (v8.isB false) (PV.bool (eqI (selB (v8.isB false) ((nth a 0).fld 5) PV.unit).toInt (0 : Int))) PV.unit) PV.unit).isB true) ((nth a 0).fld 3) PV.unit).toList.length : Int)) PV.unit).toInt (0 : Int))) PV.unit) (PV.bool false)) PV.unit) fun v9 =>
  (letB (selB v8.toBool (PV.bool true) v9) fun v10 =>
  (iff v10.toBool
  (some [(PV.bool false)])
  (thenN (thenE (loopEv (L48_0 I n) n [(PV.int (0 : Int)), (PV.int (((nth a 0).fld 3).toList.length : Int)), ((nth a 0).fld 3), (nth a 0)])
  (passB 0))
  (fun p23 => (thenN (thenE (loopEv (L48_1 I n) n [(PV.int (0 : Int)), (PV.int (((nth p23 0).fld 4).toList.length : Int)), ((nth p23 0).fld 4)])
  (passB 2))
  (fun p26 => (some [(PV.bool true)]))
  (retE fun q27 => [(nth q27 0)])))
  (retE fun q28 => [(nth q28 0)]))))))))))))
theorem e48 : ∀ I n a, (compF Try.prog sg 48).map (fun d => d.ev I n a) = some (F48 I n a) := fun I n a => ew_ev (g := F48) (fun I n a => by kernel_rfl) I n a
/-! impl.VmNew -/
def F76 (I : Interp) (n : Nat) (a : List PV) : Option (List PV) :=
  ((I 40 [(nth a 1)]).bind fun r0 =>
  ((iff ((!(nth r0 1).toBool) == false)
  ((I 153 [(selB ((!(nth r0 1).toBool) == false) (nth a 0) PV.unit)]).bind fun r1 =>
  (some [(nth r1 0), (nth r1 0)]))
  (some [PV.unit, PV.unit])).bind fun g2 =>
  (iff (selB (!(nth r0 1).toBool) (PV.bool true) (selB ((!(nth r0 1).toBool) == false) (PV.bool (!(nth g2 0).toBool)) PV.unit)).toBool
  (some [(PV.agg [(PV.list ([] : List PV)), (PV.agg [(PV.list ([] : List PV)), (PV.int (0 : Int)), (PV.int (0 : Int)), (PV.int (0 : Int))]), (PV.list ([] : List PV)), (PV.list ([] : List PV)), (PV.list ([] : List PV)), (PV.int (0 : Int)), (PV.bool false)]), (PV.bool false)])
  ((I 154 [(nth a 0)]).bind fun r3 =>
  ((I 103 [(PV.int (0 : Int))]).bind fun r4 =>
  ((I 103 [(PV.int (0 : Int))]).bind fun r5 =>
  ((I 48 [(PV.agg [(nth r3 0), (nth r0 0), (PV.list ((nth r4 0) :: ((nth r5 0) :: ([] : List PV)))), (PV.list ((PV.agg [(PV.int (0 : Int)), (PV.int (0 : Int)), (PV.int (1 : Int))]) :: ([] : List PV))), (PV.list ([] : List PV)), (PV.int (0 : Int)), (nth a 2)])]).bind fun r6 =>
  (iff (!(nth r6 0).toBool)
  (some [(PV.agg [(PV.list ([] : List PV)), (PV.agg [(PV.list ([] : List PV)), (PV.int (0 : Int)), (PV.int (0 : Int)), (PV.int (0 : Int))]), (PV.list ([] : List PV)), (PV.list ([] : List PV)), (PV.list ([] : List PV)), (PV.int (0 : Int)), (PV.bool false)]), (PV.bool false)])
  (some [(PV.agg [(nth r3 0), (nth r0 0), (PV.list ((nth r4 0) :: ((nth r5 0) :: ([] : List PV)))), (PV.list ((PV.agg [(PV.int (0 : Int)), (PV.int (0 : Int)), (PV.int (1 : Int))]) :: ([] : List PV))), (PV.list ([] : List PV)), (PV.int (0 : Int)), (nth a 2)]), (PV.bool true)])))))))))
theorem e76 : ∀ I n a, (compF Try.prog sg 76).map (fun d => d.ev I n a) = some (F76 I n a) := fun I n a => by kernel_rfl
/-! laws.FnExactVmNew -/
def F11 (I : Interp) (n : Nat) (a : List PV) : Option (List PV) :=
  ((I 73 [(nth a 0), (PV.int (1048576 : Int))]).bind fun r0 =>
  (iff (ltI (nth r0 0).toInt (0 : Int))
  (some [(PV.bool true)])
  ((I 75 [(nth a 0)]).bind fun r1 =>
  ((I 74 [(nth r1 0), (nth a 1), (nth a 2)]).bind fun r2 =>
  ((I 75 [(nth a 0)]).bind fun r3 =>
  ((I 76 [(nth r3 0), (nth a 1), (nth a 2)]).bind fun r4 =>
  ((I 49 [(nth r4 0), (nth r2 0)]).bind fun r5 =>
  (iff (selB (!(nth r5 0).toBool) (PV.bool true) (selB ((!(nth r5 0).toBool) == false) (PV.bool (((selB ((!(nth r5 0).toBool) == false) (nth r4 1) PV.unit).toBool == (selB ((!(nth r5 0).toBool) == false) (nth r2 1) PV.unit).toBool) == false)) PV.unit)).toBool
  (some [(PV.bool false)])
  ((I 75 [(nth a 0)]).bind fun r6 =>
  ((I 66 [(nth r3 0), (nth r6 0)]).bind fun r7 =>
  (iff (!(nth r7 0).toBool)
  (some [(PV.bool false)])
  ((I 69 [(nth r3 0), (PV.int (1 : Int))]).bind fun r8 =>
  ((iff ((ltI (nth r8 0).toInt (0 : Int)) == false)
  ((I 49 [(nth r4 0), (nth r2 0)]).bind fun r9 =>
  (some [(nth r9 0), (nth r9 0)]))
  (some [PV.unit, PV.unit])).bind fun g10 =>
  (iff (selB (selB (ltI (nth r8 0).toInt (0 : Int)) (PV.bool true) (selB ((ltI (nth r8 0).toInt (0 : Int)) == false) (PV.bool (!(nth g10 0).toBool)) PV.unit)).toBool (PV.bool true) (selB ((selB (ltI (nth r8 0).toInt (0 : Int)) (PV.bool true) (selB ((ltI (nth r8 0).toInt (0 : Int)) == false) (PV.bool (!(nth g10 0).toBool)) PV.unit)).isB false) (PV.bool (((selB ((selB (ltI (nth r8 0).toInt (0 : Int)) (PV.bool true) (selB ((ltI (nth r8 0).toInt (0 : Int)) == false) (PV.bool (!(nth g10 0).toBool)) PV.unit)).isB false) (nth r4 1) PV.unit).toBool == (selB ((selB (ltI (nth r8 0).toInt (0 : Int)) (PV.bool true) (selB ((ltI (nth r8 0).toInt (0 : Int)) == false) (PV.bool (!(nth g10 0).toBool)) PV.unit)).isB false) (nth r2 1) PV.unit).toBool) == false)) PV.unit)).toBool
  (some [(PV.bool false)])
  ((I 61 [(nth r4 0), (PV.int (1 : Int))]).bind fun r11 =>
  ((I 77 [(nth r11 1), (PV.int (1 : Int))]).bind fun r12 =>
  (iff (ltI (nth r12 0).toInt (0 : Int))
  (some [(PV.bool false)])
  (iff (neI (nth r12 0).toInt (nth r11 0).toInt)
  (some [(PV.bool false)])
  ((I 75 [(nth a 0)]).bind fun r13 =>
  ((I 76 [(nth r13 0), (nth a 1), (nth a 2)]).bind fun r14 =>
  ((I 49 [(nth r14 0), (nth r2 0)]).bind fun r15 =>
  (iff (selB (!(nth r15 0).toBool) (PV.bool true) (selB ((!(nth r15 0).toBool) == false) (PV.bool (((selB ((!(nth r15 0).toBool) == false) (nth r14 1) PV.unit).toBool == (selB ((!(nth r15 0).toBool) == false) (nth r2 1) PV.unit).toBool) == false)) PV.unit)).toBool
  (some [(PV.bool false)])
  ((I 77 [(nth r11 1), (PV.int (1 : Int))]).bind fun r16 =>
  (iff (ltI (nth r16 0).toInt (0 : Int))
  (some [(PV.bool false)])
  (iff (neI (nth r16 0).toInt (nth r11 0).toInt)
  (some [(PV.bool false)])
  (some [(PV.bool true)]))))))))))))))))))))))))))
theorem e11 : ∀ I n a, (compF Try.prog sg 11).map (fun d => d.ev I n a) = some (F11 I n a) := fun I n a => by kernel_rfl
end Go.Proofs.Ytijgokehlicmnaa.GFnExactVmNew
