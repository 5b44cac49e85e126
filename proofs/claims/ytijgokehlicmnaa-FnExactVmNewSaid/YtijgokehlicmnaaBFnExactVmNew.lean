/- What functions of the program and of the reference come to, for the law FnExactVmNew. Each under the conditions that it names. -/
import Derived.Test.YtijgokehlicmnaaAFnExactVmNew
namespace Go.Proofs.Ytijgokehlicmnaa.GFnExactVmNew
open Go Go.Rsc Go.Proofs.Ytijgokehlicmnaa
set_option maxRecDepth 100000
set_option linter.unusedVariables false
set_option linter.unusedSimpArgs false
def okW (x : Int) : Bool := decide (-1073741824 ≤ x ∧ x ≤ 1073741823)
def okR (x a b : Int) : Bool := decide (a ≤ x ∧ x ≤ b)
theorem is54 (x y z : Int) : Rn 102 [.int x, .int y, .int z] [.bool (okR x y z)] := by
  refine Is.of e102 (Evt.all fun n => ?_)
  by_cases h : x ≥ y <;> simp [F102, geI, leI, h, okR]
theorem is51 (x y z : Int) : Rn 104 [.int x, .int y, .int z] [.bool (okR x y z)] := by
  refine Is.of e104 (Evt.all fun n => ?_)
  by_cases h : x ≥ y <;> simp [F104, geI, leI, h, okR]
theorem is102 (x : Int) : Rn 120 [.int x] [.bool (okW x)] :=
  Is.of e120 ((is54 x (-1073741824) 1073741823).mp fun n h => by simp only [okR] at h; simp [F120, h, okW])
theorem is101 (x : Int) : Rn 117 [.int x] [.bool (okW x)] :=
  Is.of e117 ((is51 x (-1073741824) 1073741823).mp fun n h => by simp only [okR] at h; simp [F117, h, okW])
theorem is105 (x : Int) : Rn 196 [.int x] [.bool (okR x 0 19)] :=
  Is.of e196 ((is51 x 0 19).mp fun n h => by simp [F196, h])
theorem and127 {x : Nat} (h : x < 9223372036854775808) : arith .and .i64 x 127 = ((x % 128 : Nat) : Int) := arith_and x 7 h (by decide) 127 rfl
theorem shr7 (x : Nat) : arith .shr .i64 x 7 = ((x / 128 : Nat) : Int) := arith_shr x 7 (by decide) 7 rfl
theorem rem128 (x : Nat) : arith .rem .i64 x 128 = ((x % 128 : Nat) : Int) := arith_rem x 128
theorem quo128 {x : Nat} (h : x < 9223372036854775808) : arith .quo .i64 x 128 = ((x / 128 : Nat) : Int) := arith_quo x 128 h
/-! ### What is right -/
def opB (l : List PV) (free len at_ : Int) (c n m : Int) : Bool :=
  if c = 1 then okW n && eqI m 0
  else if c = 2 then okR n 0 2999 && eqI m 0
  else if c = 3 then okR n 0 (IntKind.i64.wrap (free - 1)) && eqI m 0
  else if c = 4 then gtI at_ 0 && (eqI n 0 && eqI m 0)
  else if c = 5 then okR n 1 (IntKind.i64.wrap (l.length - 1)) && eqI m ((nth l n.toNat).fld 0).toInt
  else if c = 8 then okR n 0 19 && okR m 0 20
  else if c = 9 then okR n 0 19 && eqI m 0
  else if c = 10 then okR n 0 19 && okR m 0 (IntKind.i64.wrap (len - 1))
  else if c = 11 then okW n && okR m 0 (IntKind.i64.wrap (len - 1))
  else if c = 18 ∨ c = 19 then okR n 0 (IntKind.i64.wrap (len - 1)) && eqI m 0
  else okR c 1 21 && (eqI n 0 && eqI m 0)
theorem okR_in {x a b : Int} (h : okR x a b = true) : a ≤ x ∧ x ≤ b := by simpa [okR] using h
theorem place (x : Int) (f : Int) (ops : List PV) : Rn 197 [.int x, .agg [.int f, .list ops]] [.bool (okR x 0 (IntKind.i64.wrap (ops.length - 1)))] :=
  Is.of e197 ((is54 x 0 (IntKind.i64.wrap (ops.length - 1))).mp fun n h => by simp [F197, h])
theorem sel_and (a b : Bool) : selB a (selB a (.bool b) .unit) (.bool false) = .bool (a && b) := by cases a <;> rfl
theorem wrap_len (l : List PV) (h : l.length ≤ 1048576) : IntKind.i64.wrap ((l.length : Int) - 1) = l.length - 1 := wrap64 (by omega) (by omega)

theorem op83_1 (l ops : List PV) (free at_ n m : Int) (hl : l.length ≤ 1048576) : Rn 171 [.list l, .agg [.int free, .list ops], .int at_, .agg [.int 1, .int n, .int m]] [.bool (opB l free ops.length at_ 1 n m)] := by
  have hw := is54 1 1 21
  refine Is.of e171 ((is102 n).mp2 hw fun k q0 qw => ?_)
  cases h0 : okW n <;> cases h1 : eqI m 0 <;> simp (disch := omega) [F171, eqT, eqF, opB, q0, qw, h0, h1] <;> simp [okR]
theorem op83_2 (l ops : List PV) (free at_ n m : Int) (hl : l.length ≤ 1048576) : Rn 171 [.list l, .agg [.int free, .list ops], .int at_, .agg [.int 2, .int n, .int m]] [.bool (opB l free ops.length at_ 2 n m)] := by
  have hw := is54 2 1 21
  refine Is.of e171 ((is54 n 0 2999).mp2 hw fun k q0 qw => ?_)
  cases h0 : okR n 0 2999 <;> cases h1 : eqI m 0 <;> simp (disch := omega) [F171, eqT, eqF, opB, q0, qw, h0, h1] <;> simp [okR]
theorem op83_3 (l ops : List PV) (free at_ n m : Int) (hl : l.length ≤ 1048576) : Rn 171 [.list l, .agg [.int free, .list ops], .int at_, .agg [.int 3, .int n, .int m]] [.bool (opB l free ops.length at_ 3 n m)] := by
  have hw := is54 3 1 21
  refine Is.of e171 ((is54 n 0 (IntKind.i64.wrap (free - 1))).mp2 hw fun k q0 qw => ?_)
  cases h0 : okR n 0 (IntKind.i64.wrap (free - 1)) <;> cases h1 : eqI m 0 <;> simp (disch := omega) [F171, eqT, eqF, opB, q0, qw, h0, h1] <;> simp [okR]
theorem op83_4 (l ops : List PV) (free at_ n m : Int) (hl : l.length ≤ 1048576) : Rn 171 [.list l, .agg [.int free, .list ops], .int at_, .agg [.int 4, .int n, .int m]] [.bool (opB l free ops.length at_ 4 n m)] := by
  have hw := is54 4 1 21
  refine Is.of e171 (hw.mp fun k qw => ?_)
  cases h0 : eqI n 0 <;> cases h1 : eqI m 0 <;> cases h2 : gtI at_ 0 <;> simp (disch := omega) [F171, eqT, eqF, opB, qw, h0, h1, h2] <;> simp [okR]
theorem op83_5 (l ops : List PV) (free at_ n m : Int) (hl : l.length ≤ 1048576) : Rn 171 [.list l, .agg [.int free, .list ops], .int at_, .agg [.int 5, .int n, .int m]] [.bool (opB l free ops.length at_ 5 n m)] := by
  have hw := is54 5 1 21
  refine Is.of e171 ((is54 n 1 (IntKind.i64.wrap (l.length - 1))).mp2 hw fun k q0 qw => ?_)
  cases hn : okR n 1 (IntKind.i64.wrap (l.length - 1)) with
  | false => simp (disch := omega) [F171, eqT, eqF, q0, qw, opB, hn] <;> simp [okR]
  | true =>
    have hr := okR_in hn
    rw [wrap_len l hl] at hr
    cases hm : eqI m ((nth l n.toNat).fld 0).toInt <;> simp (disch := omega) [F171, eqT, eqF, q0, qw, opB, hn, hm, geT, ltT] <;> simp [okR]
theorem op83_8 (l ops : List PV) (free at_ n m : Int) (hl : l.length ≤ 1048576) : Rn 171 [.list l, .agg [.int free, .list ops], .int at_, .agg [.int 8, .int n, .int m]] [.bool (opB l free ops.length at_ 8 n m)] := by
  have hw := is54 8 1 21
  refine Is.of e171 ((is54 n 0 19).mp3 (is54 m 0 20) hw fun k q0 q1 qw => ?_)
  cases h0 : okR n 0 19 <;> cases h1 : okR m 0 20 <;> simp (disch := omega) [F171, eqT, eqF, opB, q0, q1, qw, h0, h1] <;> simp [okR]
theorem op83_9 (l ops : List PV) (free at_ n m : Int) (hl : l.length ≤ 1048576) : Rn 171 [.list l, .agg [.int free, .list ops], .int at_, .agg [.int 9, .int n, .int m]] [.bool (opB l free ops.length at_ 9 n m)] := by
  have hw := is54 9 1 21
  refine Is.of e171 ((is54 n 0 19).mp2 hw fun k q0 qw => ?_)
  cases h0 : okR n 0 19 <;> cases h1 : eqI m 0 <;> simp (disch := omega) [F171, eqT, eqF, opB, q0, qw, h0, h1] <;> simp [okR]
theorem op83_10 (l ops : List PV) (free at_ n m : Int) (hl : l.length ≤ 1048576) : Rn 171 [.list l, .agg [.int free, .list ops], .int at_, .agg [.int 10, .int n, .int m]] [.bool (opB l free ops.length at_ 10 n m)] := by
  have hw := is54 10 1 21
  refine Is.of e171 ((is54 n 0 19).mp3 (place m free ops) hw fun k q0 q1 qw => ?_)
  cases h0 : okR n 0 19 <;> cases h1 : okR m 0 (IntKind.i64.wrap (ops.length - 1)) <;> simp (disch := omega) [F171, eqT, eqF, opB, q0, q1, qw, h0, h1] <;> simp [okR]
theorem op83_11 (l ops : List PV) (free at_ n m : Int) (hl : l.length ≤ 1048576) : Rn 171 [.list l, .agg [.int free, .list ops], .int at_, .agg [.int 11, .int n, .int m]] [.bool (opB l free ops.length at_ 11 n m)] := by
  have hw := is54 11 1 21
  refine Is.of e171 ((is102 n).mp3 (place m free ops) hw fun k q0 q1 qw => ?_)
  cases h0 : okW n <;> cases h1 : okR m 0 (IntKind.i64.wrap (ops.length - 1)) <;> simp (disch := omega) [F171, eqT, eqF, opB, q0, q1, qw, h0, h1] <;> simp [okR]
theorem op83_18 (l ops : List PV) (free at_ n m : Int) (hl : l.length ≤ 1048576) : Rn 171 [.list l, .agg [.int free, .list ops], .int at_, .agg [.int 18, .int n, .int m]] [.bool (opB l free ops.length at_ 18 n m)] := by
  have hw := is54 18 1 21
  refine Is.of e171 ((place n free ops).mp2 hw fun k q0 qw => ?_)
  cases h0 : okR n 0 (IntKind.i64.wrap (ops.length - 1)) <;> cases h1 : eqI m 0 <;> simp (disch := omega) [F171, eqT, eqF, opB, q0, qw, h0, h1] <;> simp [okR]
theorem op83_19 (l ops : List PV) (free at_ n m : Int) (hl : l.length ≤ 1048576) : Rn 171 [.list l, .agg [.int free, .list ops], .int at_, .agg [.int 19, .int n, .int m]] [.bool (opB l free ops.length at_ 19 n m)] := by
  have hw := is54 19 1 21
  refine Is.of e171 ((place n free ops).mp2 hw fun k q0 qw => ?_)
  cases h0 : okR n 0 (IntKind.i64.wrap (ops.length - 1)) <;> cases h1 : eqI m 0 <;> simp (disch := omega) [F171, eqT, eqF, opB, q0, qw, h0, h1] <;> simp [okR]
theorem op83_x (l ops : List PV) (free at_ c n m : Int) (hl : l.length ≤ 1048576) (h1 : c ≠ 1) (h2 : c ≠ 2) (h3 : c ≠ 3) (h4 : c ≠ 4) (h5 : c ≠ 5) (h8 : c ≠ 8) (h9 : c ≠ 9) (h10 : c ≠ 10) (h11 : c ≠ 11) (h18 : c ≠ 18) (h19 : c ≠ 19) : Rn 171 [.list l, .agg [.int free, .list ops], .int at_, .agg [.int c, .int n, .int m]] [.bool (opB l free ops.length at_ c n m)] := by
  have hw := is54 c 1 21
  refine Is.of e171 (hw.mp fun k qw => ?_)
  have hF : opB l free ops.length at_ c n m = (okR c 1 21 && (eqI n 0 && eqI m 0)) := by simp [opB, h1, h2, h3, h4, h5, h8, h9, h10, h11, h18, h19]
  rw [hF]
  cases hn : eqI n 0 <;> cases hm : eqI m 0 <;> cases hc : okR c 1 21 <;> simp [F171, eqF h1, eqF h2, eqF h3, eqF h4, eqF h5, eqF h8, eqF h9, eqF h10, eqF h11, eqF h18, eqF h19, qw, hn, hm, hc]
theorem op83 (l ops : List PV) (free at_ c n m : Int) (hl : l.length ≤ 1048576) : Rn 171 [.list l, .agg [.int free, .list ops], .int at_, .agg [.int c, .int n, .int m]] [.bool (opB l free ops.length at_ c n m)] := by
  by_cases h1 : c = 1
  · subst h1; exact op83_1 l ops free at_ n m hl
  by_cases h2 : c = 2
  · subst h2; exact op83_2 l ops free at_ n m hl
  by_cases h3 : c = 3
  · subst h3; exact op83_3 l ops free at_ n m hl
  by_cases h4 : c = 4
  · subst h4; exact op83_4 l ops free at_ n m hl
  by_cases h5 : c = 5
  · subst h5; exact op83_5 l ops free at_ n m hl
  by_cases h8 : c = 8
  · subst h8; exact op83_8 l ops free at_ n m hl
  by_cases h9 : c = 9
  · subst h9; exact op83_9 l ops free at_ n m hl
  by_cases h10 : c = 10
  · subst h10; exact op83_10 l ops free at_ n m hl
  by_cases h11 : c = 11
  · subst h11; exact op83_11 l ops free at_ n m hl
  by_cases h18 : c = 18
  · subst h18; exact op83_18 l ops free at_ n m hl
  by_cases h19 : c = 19
  · subst h19; exact op83_19 l ops free at_ n m hl
  exact op83_x l ops free at_ c n m hl h1 h2 h3 h4 h5 h8 h9 h10 h11 h18 h19
theorem op81_1 (l ops : List PV) (free n m : Int) (i : Nat) (hi : i < l.length) (he : nth l i = .agg [.int free, .list ops]) (hl : l.length ≤ 1048576) : Rn 169 [.list l, .int i, .agg [.int 1, .int n, .int m]] [.bool (opB l free ops.length i 1 n m)] := by
  refine Is.of e169 ((is101 n).mp fun k q0 => ?_)
  cases h0 : okW n <;> cases h1 : eqI m 0 <;> simp (disch := omega) [F169, eqT, eqF, geT, ltT, he, opB, q0, h0, h1]
theorem op81_2 (l ops : List PV) (free n m : Int) (i : Nat) (hi : i < l.length) (he : nth l i = .agg [.int free, .list ops]) (hl : l.length ≤ 1048576) : Rn 169 [.list l, .int i, .agg [.int 2, .int n, .int m]] [.bool (opB l free ops.length i 2 n m)] := by
  refine Is.of e169 ((is51 n 0 2999).mp fun k q0 => ?_)
  cases h0 : okR n 0 2999 <;> cases h1 : eqI m 0 <;> simp (disch := omega) [F169, eqT, eqF, geT, ltT, he, opB, q0, h0, h1]
theorem op81_3 (l ops : List PV) (free n m : Int) (i : Nat) (hi : i < l.length) (he : nth l i = .agg [.int free, .list ops]) (hl : l.length ≤ 1048576) : Rn 169 [.list l, .int i, .agg [.int 3, .int n, .int m]] [.bool (opB l free ops.length i 3 n m)] := by
  refine Is.of e169 ((is51 n 0 (IntKind.i64.wrap (free - 1))).mp fun k q0 => ?_)
  cases h0 : okR n 0 (IntKind.i64.wrap (free - 1)) <;> cases h1 : eqI m 0 <;> simp (disch := omega) [F169, eqT, eqF, geT, ltT, he, opB, q0, h0, h1]
theorem op81_4 (l ops : List PV) (free n m : Int) (i : Nat) (hi : i < l.length) (he : nth l i = .agg [.int free, .list ops]) (hl : l.length ≤ 1048576) : Rn 169 [.list l, .int i, .agg [.int 4, .int n, .int m]] [.bool (opB l free ops.length i 4 n m)] := by
  refine Is.of e169 (Evt.all fun k => ?_)
  cases h0 : eqI n 0 <;> cases h1 : eqI m 0 <;> cases h2 : gtI (i : Int) 0 <;> simp (disch := omega) [F169, eqT, eqF, geT, ltT, he, opB, h0, h1, h2]
theorem op81_5 (l ops : List PV) (free n m : Int) (i : Nat) (hi : i < l.length) (he : nth l i = .agg [.int free, .list ops]) (hl : l.length ≤ 1048576) : Rn 169 [.list l, .int i, .agg [.int 5, .int n, .int m]] [.bool (opB l free ops.length i 5 n m)] := by
  refine Is.of e169 ((is51 n 1 (IntKind.i64.wrap (l.length - 1))).mp fun k q0 => ?_)
  cases hn : okR n 1 (IntKind.i64.wrap (l.length - 1)) with
  | false => simp (disch := omega) [F169, eqT, eqF, geT, ltT, q0, opB, hn]
  | true =>
    have hr := okR_in hn
    rw [wrap_len l hl] at hr
    cases hm : eqI m ((nth l n.toNat).fld 0).toInt <;> simp (disch := omega) [F169, eqT, eqF, q0, opB, hn, hm, geT, ltT]
theorem op81_8 (l ops : List PV) (free n m : Int) (i : Nat) (hi : i < l.length) (he : nth l i = .agg [.int free, .list ops]) (hl : l.length ≤ 1048576) : Rn 169 [.list l, .int i, .agg [.int 8, .int n, .int m]] [.bool (opB l free ops.length i 8 n m)] := by
  refine Is.of e169 ((is105 n).mp2 (is51 m 0 20) fun k q0 q1 => ?_)
  cases h0 : okR n 0 19 <;> cases h1 : okR m 0 20 <;> simp (disch := omega) [F169, eqT, eqF, geT, ltT, he, opB, q0, q1, h0, h1]
theorem op81_9 (l ops : List PV) (free n m : Int) (i : Nat) (hi : i < l.length) (he : nth l i = .agg [.int free, .list ops]) (hl : l.length ≤ 1048576) : Rn 169 [.list l, .int i, .agg [.int 9, .int n, .int m]] [.bool (opB l free ops.length i 9 n m)] := by
  refine Is.of e169 ((is105 n).mp fun k q0 => ?_)
  cases h0 : okR n 0 19 <;> cases h1 : eqI m 0 <;> simp (disch := omega) [F169, eqT, eqF, geT, ltT, he, opB, q0, h0, h1]
theorem op81_10 (l ops : List PV) (free n m : Int) (i : Nat) (hi : i < l.length) (he : nth l i = .agg [.int free, .list ops]) (hl : l.length ≤ 1048576) : Rn 169 [.list l, .int i, .agg [.int 10, .int n, .int m]] [.bool (opB l free ops.length i 10 n m)] := by
  refine Is.of e169 ((is105 n).mp2 (is51 m 0 (IntKind.i64.wrap (ops.length - 1))) fun k q0 q1 => ?_)
  cases h0 : okR n 0 19 <;> cases h1 : okR m 0 (IntKind.i64.wrap (ops.length - 1)) <;> simp (disch := omega) [F169, eqT, eqF, geT, ltT, he, opB, q0, q1, h0, h1]
theorem op81_11 (l ops : List PV) (free n m : Int) (i : Nat) (hi : i < l.length) (he : nth l i = .agg [.int free, .list ops]) (hl : l.length ≤ 1048576) : Rn 169 [.list l, .int i, .agg [.int 11, .int n, .int m]] [.bool (opB l free ops.length i 11 n m)] := by
  refine Is.of e169 ((is101 n).mp2 (is51 m 0 (IntKind.i64.wrap (ops.length - 1))) fun k q0 q1 => ?_)
  cases h0 : okW n <;> cases h1 : okR m 0 (IntKind.i64.wrap (ops.length - 1)) <;> simp (disch := omega) [F169, eqT, eqF, geT, ltT, he, opB, q0, q1, h0, h1]
theorem op81_18 (l ops : List PV) (free n m : Int) (i : Nat) (hi : i < l.length) (he : nth l i = .agg [.int free, .list ops]) (hl : l.length ≤ 1048576) : Rn 169 [.list l, .int i, .agg [.int 18, .int n, .int m]] [.bool (opB l free ops.length i 18 n m)] := by
  refine Is.of e169 ((is51 n 0 (IntKind.i64.wrap (ops.length - 1))).mp fun k q0 => ?_)
  cases h0 : okR n 0 (IntKind.i64.wrap (ops.length - 1)) <;> cases h1 : eqI m 0 <;> simp (disch := omega) [F169, eqT, eqF, geT, ltT, he, opB, q0, h0, h1]
theorem op81_19 (l ops : List PV) (free n m : Int) (i : Nat) (hi : i < l.length) (he : nth l i = .agg [.int free, .list ops]) (hl : l.length ≤ 1048576) : Rn 169 [.list l, .int i, .agg [.int 19, .int n, .int m]] [.bool (opB l free ops.length i 19 n m)] := by
  refine Is.of e169 ((is51 n 0 (IntKind.i64.wrap (ops.length - 1))).mp fun k q0 => ?_)
  cases h0 : okR n 0 (IntKind.i64.wrap (ops.length - 1)) <;> cases h1 : eqI m 0 <;> simp (disch := omega) [F169, eqT, eqF, geT, ltT, he, opB, q0, h0, h1]
theorem op81_x (l ops : List PV) (free c n m : Int) (i : Nat) (hi : i < l.length) (he : nth l i = .agg [.int free, .list ops]) (hl : l.length ≤ 1048576) (h1 : c ≠ 1) (h2 : c ≠ 2) (h3 : c ≠ 3) (h4 : c ≠ 4) (h5 : c ≠ 5) (h8 : c ≠ 8) (h9 : c ≠ 9) (h10 : c ≠ 10) (h11 : c ≠ 11) (h18 : c ≠ 18) (h19 : c ≠ 19) : Rn 169 [.list l, .int i, .agg [.int c, .int n, .int m]] [.bool (opB l free ops.length i c n m)] := by
  refine Is.of e169 ((is51 c 1 21).mp fun k qw => ?_)
  have hF : opB l free ops.length i c n m = (okR c 1 21 && (eqI n 0 && eqI m 0)) := by simp [opB, h1, h2, h3, h4, h5, h8, h9, h10, h11, h18, h19]
  rw [hF]
  cases hn : eqI n 0 <;> cases hm : eqI m 0 <;> cases hc : okR c 1 21 <;> simp (disch := omega) [F169, geT, ltT, eqF h1, eqF h2, eqF h3, eqF h4, eqF h5, eqF h8, eqF h9, eqF h10, eqF h11, eqF h18, eqF h19, qw, hn, hm, hc]
theorem op81 (l ops : List PV) (free c n m : Int) (i : Nat) (hi : i < l.length) (he : nth l i = .agg [.int free, .list ops]) (hl : l.length ≤ 1048576) : Rn 169 [.list l, .int i, .agg [.int c, .int n, .int m]] [.bool (opB l free ops.length i c n m)] := by
  by_cases h1 : c = 1
  · subst h1; exact op81_1 l ops free n m i hi he hl
  by_cases h2 : c = 2
  · subst h2; exact op81_2 l ops free n m i hi he hl
  by_cases h3 : c = 3
  · subst h3; exact op81_3 l ops free n m i hi he hl
  by_cases h4 : c = 4
  · subst h4; exact op81_4 l ops free n m i hi he hl
  by_cases h5 : c = 5
  · subst h5; exact op81_5 l ops free n m i hi he hl
  by_cases h8 : c = 8
  · subst h8; exact op81_8 l ops free n m i hi he hl
  by_cases h9 : c = 9
  · subst h9; exact op81_9 l ops free n m i hi he hl
  by_cases h10 : c = 10
  · subst h10; exact op81_10 l ops free n m i hi he hl
  by_cases h11 : c = 11
  · subst h11; exact op81_11 l ops free n m i hi he hl
  by_cases h18 : c = 18
  · subst h18; exact op81_18 l ops free n m i hi he hl
  by_cases h19 : c = 19
  · subst h19; exact op81_19 l ops free n m i hi he hl
  exact op81_x l ops free c n m i hi he hl h1 h2 h3 h4 h5 h8 h9 h10 h11 h18 h19

/-! ### Functions -/
def FunOk (q : PV) : Prop := ∃ (free : Int) (ops : List PV), q = .agg [.int free, .list ops] ∧ ops.length ≤ 1048576 ∧ ∀ o, o ∈ ops → ∃ c n m : Int, o = .agg [.int c, .int n, .int m]
def opV (l : List PV) (free len at_ : Int) (o : PV) : Bool := opB l free len at_ (o.fld 0).toInt (o.fld 1).toInt (o.fld 2).toInt
def lastB (c : Int) : Bool := eqI c 7 || (eqI c 19 || eqI c 21)
def okOps (l : List PV) (i : Nat) (free : Int) (ops : List PV) : Bool := (List.range ops.length).all fun k => opV l free ops.length i (nth ops k)
def okF (l : List PV) (i : Nat) : Bool :=
  let free := ((nth l i).fld 0).toInt
  let ops := ((nth l i).fld 1).toList
  okR free 0 20 && (okR ops.length 1 3000 && (okOps l i free ops && lastB ((nth ops (ops.length - 1)).fld 0).toInt))
def funsOk (l : List PV) : Bool := okR l.length 1 60 && (eqI ((nth l 0).fld 0).toInt 0 && (List.range l.length).all (okF l))

section
variable {l ops : List PV} {free : Int} {i : Nat}
theorem ops44 (hl : l.length ≤ 1048576) (ho : ops.length ≤ 1048576) (he : ∀ o, o ∈ ops → ∃ c n m : Int, o = .agg [.int c, .int n, .int m]) (a b c d : PV) :
    Evt fun n => loopEv (L119_0 (ev Try.prog sg n) n) n [.int 0, .int ops.length, .list ops, .int i, a, b, c, .list l, .agg [.int free, .list ops]] =
      if okOps l i free ops then some (.x 2, [a, b, c, .list l, .agg [.int free, .list ops]]) else some (.r, [.bool false]) := by
  refine (all_loop (body := fun n => L119_0 (ev Try.prog sg n) n) (pay := fun k => [.int k, .int ops.length, .list ops, .int i, a, b, c, .list l, .agg [.int free, .list ops]]) (c := fun k => opV l free ops.length i (nth ops k))
    (e1 := .x 2) (r1 := [a, b, c, .list l, .agg [.int free, .list ops]]) (e2 := .r) (r2 := [.bool false]) ops.length (by simp) (by simp) (fun k hk hc => ?_) (fun k hk hc => ?_) (Evt.all fun n => ?_))
  · obtain ⟨x, y, z, e⟩ := he _ (nth_mem hk)
    refine (op83 l ops free i x y z hl).mp fun n h => ?_
    simp only [opV, e, fld_agg, nth_0, nth_1, nth_2, toInt_int] at hc
    simp (disch := omega) [L119_0, ltT, geT, wrap64, e, h, hc]
  · obtain ⟨x, y, z, e⟩ := he _ (nth_mem hk)
    refine (op83 l ops free i x y z hl).mp fun n h => ?_
    simp only [opV, e, fld_agg, nth_0, nth_1, nth_2, toInt_int] at hc
    simp (disch := omega) [L119_0, ltT, geT, wrap64, e, h, hc]
  · simp (disch := omega) [L119_0, ltF]
theorem ops41 (hl : l.length ≤ 1048576) (ho : ops.length ≤ 1048576) (hi : i < l.length) (hq : nth l i = .agg [.int free, .list ops]) (he : ∀ o, o ∈ ops → ∃ c n m : Int, o = .agg [.int c, .int n, .int m]) :
    Evt fun n => loopEv (L116_0 (ev Try.prog sg n) n) n [.int 0, .int ops.length, .int i, .list l] =
      if okOps l i free ops then some (.x 2, [.int ops.length, .int i, .list l]) else some (.r, [.bool false]) := by
  refine (all_loop (body := fun n => L116_0 (ev Try.prog sg n) n) (pay := fun k => [.int k, .int ops.length, .int i, .list l]) (c := fun k => opV l free ops.length i (nth ops k))
    (e1 := .x 2) (r1 := [.int ops.length, .int i, .list l]) (e2 := .r) (r2 := [.bool false]) ops.length (by simp) (by simp) (fun k hk hc => ?_) (fun k hk hc => ?_) (Evt.all fun n => ?_))
  · obtain ⟨x, y, z, e⟩ := he _ (nth_mem hk)
    refine (op81 l ops free x y z i hi hq hl).mp fun n h => ?_
    simp only [opV, e, fld_agg, nth_0, nth_1, nth_2, toInt_int] at hc
    simp (disch := omega) [L116_0, ltT, geT, wrap64, hq, e, h, hc]
  · obtain ⟨x, y, z, e⟩ := he _ (nth_mem hk)
    refine (op81 l ops free x y z i hi hq hl).mp fun n h => ?_
    simp only [opV, e, fld_agg, nth_0, nth_1, nth_2, toInt_int] at hc
    simp (disch := omega) [L116_0, ltT, geT, wrap64, hq, e, h, hc]
  · simp (disch := omega) [L116_0, ltF]
end
theorem fun44 {l : List PV} (hl : l.length ≤ 1048576) (hf : ∀ q, q ∈ l → FunOk q) : Rn 119 [.list l] [.bool (funsOk l)] := by
  by_cases h1 : okR l.length 1 60 = true
  rotate_left
  · have h1 : okR l.length 1 60 = false := by simpa using h1
    exact Is.of e119 ((is54 l.length 1 60).mp fun n h => by simp [F119, h, h1, funsOk])
  have hr := okR_in h1
  obtain ⟨f0, o0, e0, _, _⟩ := hf _ (nth_mem (i := 0) (l := l) (by omega))
  by_cases h2 : f0 = 0
  rotate_left
  · exact Is.of e119 ((is54 l.length 1 60).mp fun n h => by simp (disch := omega) [F119, h, h1, funsOk, e0, ltT, geT, neT, eqF, h2])
  subst h2
  have hloop := all_loop (body := fun n => L119_1 (ev Try.prog sg n) n) (pay := fun i => [.int i, .int l.length, .list l, .list l]) (c := okF l) (e1 := .x 0) (r1 := []) (e2 := .r) (r2 := [.bool false]) l.length (by simp) (by simp) (fun i hi hc => ?_) (fun i hi hc => ?_) (Evt.all fun n => ?_)
  · refine Is.of e119 ((is54 l.length 1 60).mp2 hloop fun n h h3 => ?_)
    simp only [show ((0 : Nat) : Int) = 0 from rfl] at h3
    cases ha : (List.range l.length).all (okF l) <;> simp only [ha, Bool.false_eq_true, if_false, if_true] at h3 <;>
      simp (disch := omega) [F119, h, h1, funsOk, e0, ltT, geT, neF, eqT, h3, ha]
  · obtain ⟨free, ops, e, ho, he⟩ := hf _ (nth_mem hi)
    simp only [okF, e, fld_agg, nth_0, nth_1, toInt_int, toList_list, Bool.and_eq_true] at hc
    obtain ⟨c1, c2, c3, c4⟩ := hc
    have r2 := okR_in c2
    have hlast : IntKind.i64.wrap ((ops.length : Int) - 1) = ((ops.length - 1 : Nat) : Int) := by rw [wrap64 (by omega) (by omega)]; omega
    refine (is54 free 0 20).mp3 (is54 ops.length 1 3000) (ops44 (i := i) (free := free) hl ho he (.int i) (.int l.length) (.list l) (.list l)) fun n h4 h5 h6 => ?_
    rw [c1] at h4; rw [c2] at h5; rw [if_pos c3] at h6
    generalize hx : ((nth ops (ops.length - 1)).fld 0).toInt = x at c4
    by_cases x7 : x = 7
    · subst x7; simp (disch := omega) [L119_1, ltT, geT, e, h4, h5, h6, hlast, hx, eqT, wrap64]
    by_cases x19 : x = 19
    · subst x19; simp (disch := omega) [L119_1, ltT, geT, e, h4, h5, h6, hlast, hx, eqT, eqF, wrap64]
    by_cases x21 : x = 21
    · subst x21; simp (disch := omega) [L119_1, ltT, geT, e, h4, h5, h6, hlast, hx, eqT, eqF, wrap64]
    · simp [lastB, eqF x7, eqF x19, eqF x21] at c4
  · obtain ⟨free, ops, e, ho, he⟩ := hf _ (nth_mem hi)
    simp only [okF, e, fld_agg, nth_0, nth_1, toInt_int, toList_list] at hc
    by_cases c1 : okR free 0 20 = true
    rotate_left
    · have c1 : okR free 0 20 = false := by simpa using c1
      refine (is54 free 0 20).mp fun n h4 => ?_
      simp (disch := omega) [L119_1, ltT, geT, e, h4, c1]
    by_cases c2 : okR ops.length 1 3000 = true
    rotate_left
    · have c2 : okR ops.length 1 3000 = false := by simpa using c2
      refine (is54 free 0 20).mp2 (is54 ops.length 1 3000) fun n h4 h5 => ?_
      simp (disch := omega) [L119_1, ltT, geT, e, h4, h5, c1, c2]
    have r2 := okR_in c2
    have hlast : IntKind.i64.wrap ((ops.length : Int) - 1) = ((ops.length - 1 : Nat) : Int) := by rw [wrap64 (by omega) (by omega)]; omega
    refine (is54 free 0 20).mp3 (is54 ops.length 1 3000) (ops44 (i := i) (free := free) hl ho he (.int i) (.int l.length) (.list l) (.list l)) fun n h4 h5 h6 => ?_
    rw [c1] at h4; rw [c2] at h5
    cases c3 : okOps l i free ops with
    | false =>
      rw [c3] at h6
      simp only [Bool.false_eq_true, if_false] at h6
      simp (disch := omega) [L119_1, ltT, geT, e, h4, h5, h6]
    | true =>
      rw [c3] at h6
      simp only [if_true] at h6
      simp only [c1, c2, c3, Bool.true_and] at hc
      generalize hx : ((nth ops (ops.length - 1)).fld 0).toInt = x at hc
      simp only [lastB, Bool.or_eq_false_iff] at hc
      obtain ⟨x7, x19, x21⟩ := hc
      simp (disch := omega) [L119_1, ltT, geT, e, h4, h5, h6, hlast, hx, x7, x19, x21]
  · simp (disch := omega) [L119_1, ltF]
theorem fun41 {l : List PV} (hl : l.length ≤ 1048576) (hf : ∀ q, q ∈ l → FunOk q) : Rn 116 [.list l] [.bool (funsOk l)] := by
  by_cases h1 : okR l.length 1 60 = true
  rotate_left
  · have h1 : okR l.length 1 60 = false := by simpa using h1
    exact Is.of e116 ((is51 l.length 1 60).mp fun n h => by simp [F116, h, h1, funsOk])
  have hr := okR_in h1
  obtain ⟨f0, o0, e0, _, _⟩ := hf _ (nth_mem (i := 0) (l := l) (by omega))
  by_cases h2 : f0 = 0
  rotate_left
  · exact Is.of e116 ((is51 l.length 1 60).mp fun n h => by simp (disch := omega) [F116, h, h1, funsOk, e0, ltT, geT, neT, eqF, h2])
  subst h2
  have hloop := all_loop (body := fun n => L116_1 (ev Try.prog sg n) n) (pay := fun i => [.int i, .list l]) (c := okF l) (e1 := .x 0) (r1 := []) (e2 := .r) (r2 := [.bool false]) l.length (by simp) (by simp) (fun i hi hc => ?_) (fun i hi hc => ?_) (Evt.all fun n => ?_)
  · refine Is.of e116 ((is51 l.length 1 60).mp2 hloop fun n h h3 => ?_)
    simp only [show ((0 : Nat) : Int) = 0 from rfl] at h3
    cases ha : (List.range l.length).all (okF l) <;> simp only [ha, Bool.false_eq_true, if_false, if_true] at h3 <;>
      simp (disch := omega) [F116, h, h1, funsOk, e0, ltT, geT, neF, eqT, h3, ha]
  · obtain ⟨free, ops, e, ho, he⟩ := hf _ (nth_mem hi)
    simp only [okF, e, fld_agg, nth_0, nth_1, toInt_int, toList_list, Bool.and_eq_true] at hc
    obtain ⟨c1, c2, c3, c4⟩ := hc
    have r2 := okR_in c2
    have hlast : IntKind.i64.wrap ((ops.length : Int) - 1) = ((ops.length - 1 : Nat) : Int) := by rw [wrap64 (by omega) (by omega)]; omega
    refine (is51 free 0 20).mp3 (is51 ops.length 1 3000) (ops41 (i := i) (free := free) hl ho hi e he) fun n h4 h5 h6 => ?_
    rw [c1] at h4; rw [c2] at h5; rw [if_pos c3] at h6
    generalize hx : ((nth ops (ops.length - 1)).fld 0).toInt = x at c4
    by_cases x7 : x = 7
    · subst x7; simp (disch := omega) [L116_1, ltT, geT, e, h4, h5, h6, hlast, hx, neF, wrap64]
    by_cases x19 : x = 19
    · subst x19; simp (disch := omega) [L116_1, ltT, geT, e, h4, h5, h6, hlast, hx, neF, neT, wrap64]
    by_cases x21 : x = 21
    · subst x21; simp (disch := omega) [L116_1, ltT, geT, e, h4, h5, h6, hlast, hx, neF, neT, wrap64]
    · simp [lastB, eqF x7, eqF x19, eqF x21] at c4
  · obtain ⟨free, ops, e, ho, he⟩ := hf _ (nth_mem hi)
    simp only [okF, e, fld_agg, nth_0, nth_1, toInt_int, toList_list] at hc
    by_cases c1 : okR free 0 20 = true
    rotate_left
    · have c1 : okR free 0 20 = false := by simpa using c1
      refine (is51 free 0 20).mp fun n h4 => ?_
      simp (disch := omega) [L116_1, ltT, geT, e, h4, c1]
    by_cases c2 : okR ops.length 1 3000 = true
    rotate_left
    · have c2 : okR ops.length 1 3000 = false := by simpa using c2
      refine (is51 free 0 20).mp2 (is51 ops.length 1 3000) fun n h4 h5 => ?_
      simp (disch := omega) [L116_1, ltT, geT, e, h4, h5, c1, c2]
    have r2 := okR_in c2
    have hlast : IntKind.i64.wrap ((ops.length : Int) - 1) = ((ops.length - 1 : Nat) : Int) := by rw [wrap64 (by omega) (by omega)]; omega
    refine (is51 free 0 20).mp3 (is51 ops.length 1 3000) (ops41 (i := i) (free := free) hl ho hi e he) fun n h4 h5 h6 => ?_
    rw [c1] at h4; rw [c2] at h5
    cases c3 : okOps l i free ops with
    | false =>
      rw [c3] at h6
      simp only [Bool.false_eq_true, if_false] at h6
      simp (disch := omega) [L116_1, ltT, geT, e, h4, h5, h6]
    | true =>
      rw [c3] at h6
      simp only [if_true] at h6
      simp only [c1, c2, c3, Bool.true_and] at hc
      generalize hx : ((nth ops (ops.length - 1)).fld 0).toInt = x at hc
      simp only [lastB, Bool.or_eq_false_iff] at hc
      obtain ⟨x7, x19, x21⟩ := hc
      have x7 : x ≠ 7 := by simpa [eqI] using x7
      have x19 : x ≠ 19 := by simpa [eqI] using x19
      have x21 : x ≠ 21 := by simpa [eqI] using x21
      simp (disch := omega) [L116_1, ltT, geT, e, h4, h5, h6, hlast, hx, neT x7, neT x19, neT x21]
  · simp (disch := omega) [L116_1, ltF]
/-! ### What an op takes and puts; what comes behind it -/
def effT (c m : Int) : Int := if c ≤ 4 then 0 else if c = 5 ∨ c = 8 then m else if c = 6 ∨ c = 20 ∨ (12 ≤ c ∧ c ≤ 16) then 2 else if c = 19 ∨ c = 21 then 0 else 1
def effP (c : Int) : Int := if c = 7 ∨ c = 10 ∨ c = 11 ∨ c = 18 ∨ c = 19 ∨ c = 21 then 0 else 1
def nxt (c n m : Int) (at_ : Nat) : List Int := if c = 7 ∨ c = 21 then [] else if c = 19 then [n] else if c = 18 then [(at_ : Int) + 1, n] else if c = 10 ∨ c = 11 then [(at_ : Int) + 1, m] else [(at_ : Int) + 1]
theorem codes {c : Int} (h1 : 1 ≤ c) (h2 : c ≤ 21) {p : Int → Prop} (h : p 1 ∧ p 2 ∧ p 3 ∧ p 4 ∧ p 5 ∧ p 6 ∧ p 7 ∧ p 8 ∧ p 9 ∧ p 10 ∧ p 11 ∧ p 12 ∧ p 13 ∧ p 14 ∧ p 15 ∧ p 16 ∧ p 17 ∧ p 18 ∧ p 19 ∧ p 20 ∧ p 21) : p c := by
  obtain ⟨a1, a2, a3, a4, a5, a6, a7, a8, a9, a10, a11, a12, a13, a14, a15, a16, a17, a18, a19, a20, a21⟩ := h
  have : c = 1 ∨ c = 2 ∨ c = 3 ∨ c = 4 ∨ c = 5 ∨ c = 6 ∨ c = 7 ∨ c = 8 ∨ c = 9 ∨ c = 10 ∨ c = 11 ∨ c = 12 ∨ c = 13 ∨ c = 14 ∨ c = 15 ∨ c = 16 ∨ c = 17 ∨ c = 18 ∨ c = 19 ∨ c = 20 ∨ c = 21 := by omega
  rcases this with rfl | rfl | rfl | rfl | rfl | rfl | rfl | rfl | rfl | rfl | rfl | rfl | rfl | rfl | rfl | rfl | rfl | rfl | rfl | rfl | rfl <;> assumption
theorem effS {c : Int} (n m : Int) (h1 : 1 ≤ c) (h2 : c ≤ 21) : Rn 226 [.agg [.int c, .int n, .int m]] [.int (effT c m), .int (effP c)] := by
  refine codes (p := fun c => Rn 226 [.agg [.int c, .int n, .int m]] [.int (effT c m), .int (effP c)]) h1 h2 ?_
  refine ⟨?_, ?_, ?_, ?_, ?_, ?_, ?_, ?_, ?_, ?_, ?_, ?_, ?_, ?_, ?_, ?_, ?_, ?_, ?_, ?_, ?_⟩ <;> exact Is.of e226 (Evt.all fun k => by simp [F226, eqI, effT, effP])
theorem effI {c : Int} (n m : Int) (h1 : 1 ≤ c) (h2 : c ≤ 21) : Rn 218 [.agg [.int c, .int n, .int m]] [.int (effT c m), .int (effP c)] := by
  refine Is.of e218 ((is54 c 1 4).mp2 (is54 c 12 16) fun k q1 q2 => ?_)
  revert q1 q2
  refine codes (p := fun c => ev Try.prog sg k 102 [.int c, .int 1, .int 4] = some [.bool (okR c 1 4)] → ev Try.prog sg k 102 [.int c, .int 12, .int 16] = some [.bool (okR c 12 16)] → F218 (ev Try.prog sg k) k [.agg [.int c, .int n, .int m]] = some [.int (effT c m), .int (effP c)]) h1 h2 ?_
  refine ⟨?_, ?_, ?_, ?_, ?_, ?_, ?_, ?_, ?_, ?_, ?_, ?_, ?_, ?_, ?_, ?_, ?_, ?_, ?_, ?_, ?_⟩ <;> intro q1 q2 <;> simp [okR] at q1 q2 <;> simp [F218, eqI, effT, effP, q1, q2]
theorem nxtI {c : Int} (n m : Int) (at_ : Nat) (ha : at_ ≤ 1048576) (h1 : 1 ≤ c) (h2 : c ≤ 21) : Rn 219 [.agg [.int c, .int n, .int m], .int at_] [.list ((nxt c n m at_).map PV.int)] := by
  have w : IntKind.i64.wrap ((at_ : Int) + 1) = (at_ : Int) + 1 := wrap64 (by omega) (by omega)
  refine codes (p := fun c => Rn 219 [.agg [.int c, .int n, .int m], .int at_] [.list ((nxt c n m at_).map PV.int)]) h1 h2 ?_
  refine ⟨?_, ?_, ?_, ?_, ?_, ?_, ?_, ?_, ?_, ?_, ?_, ?_, ?_, ?_, ?_, ?_, ?_, ?_, ?_, ?_, ?_⟩ <;> exact Is.of e219 (Evt.all fun k => by simp [F219, eqI, nxt, w])
/-! ### Depths: what is forced -/
def gd (D : List Int) (k : Nat) : Int := D.getD k (-1)
theorem gd_set (D : List Int) (s k : Nat) (b : Int) (hs : s < D.length) : gd (D.set s b) k = if k = s then b else gd D k := by
  unfold gd
  simp only [List.getD_eq_getElem?_getD, List.getElem?_set]
  by_cases h : s = k
  · subst h; simp [hs]
  · have : ¬ k = s := fun e => h e.symm
    simp [h, this]
theorem gd_out {D : List Int} {k : Nat} (h : D.length ≤ k) : gd D k = -1 := by
  unfold gd; simp [List.getD_eq_getElem?_getD, List.getElem?_eq_none h]
def unset (D : List Int) : Nat := D.count (-1)
theorem unset_set : ∀ (D : List Int) (s : Nat) (b : Int), s < D.length → gd D s = -1 → b ≠ -1 → unset (D.set s b) + 1 = unset D
  | [], s, b, h, _, _ => by simp at h
  | x :: D, 0, b, _, h2, h3 => by
    have hx : x = -1 := by simpa [gd] using h2
    subst hx
    simp [unset, h3]
  | x :: D, s + 1, b, h1, h2, h3 => by
    have ih := unset_set D s b (by simpa using h1) (by simpa [gd] using h2) h3
    unfold unset at ih ⊢
    rw [List.set_cons_succ, List.count_cons, List.count_cons]
    omega
theorem unset_le (D : List Int) : unset D ≤ D.length := List.count_le_length
theorem nth_map {D : List Int} {k : Nat} (h : k < D.length) : nth (D.map PV.int) k = .int (gd D k) := by
  unfold nth gd
  simp [List.getD_eq_getElem?_getD, h]
theorem set_map (D : List Int) (k : Nat) (b : Int) : (D.map PV.int).set k (.int b) = (D.set k b).map PV.int := by
  rw [List.map_set]

section
variable (N : Nat) (chk : Nat → Int → Prop) (nx : Nat → List Int) (bh : Nat → Int → Int)
structure Sol (E : List Int) : Prop where
  len : E.length = N
  zero : gd E 0 = 1
  ok : ∀ k, k < N → gd E k ≠ -1 → chk k (gd E k) ∧ ∀ s, s ∈ nx k → gd E s.toNat = bh k (gd E k)
structure Base (D : List Int) (T : List Int) : Prop where
  len : D.length = N
  zero : gd D 0 = 1
  rng : ∀ k, k < N → gd D k = -1 ∨ (1 ≤ gd D k ∧ gd D k ≤ 60)
  todo : ∀ t, t ∈ T → ∃ k : Nat, t = (k : Int) ∧ k < N ∧ gd D k ≠ -1
  forced : ∀ E, Sol N chk nx bh E → ∀ k, k < N → gd D k ≠ -1 → gd E k = gd D k
structure Inv (D : List Int) (T : List Int) : Prop extends Base N chk nx bh D T where
  closed : ∀ k, k < N → gd D k ≠ -1 → (k : Int) ∈ T ∨ (chk k (gd D k) ∧ ∀ s, s ∈ nx k → gd D s.toNat = bh k (gd D k))
structure PInv (at_ : Nat) (d : Int) (don : List Int) (D : List Int) (T : List Int) : Prop extends Base N chk nx bh D T where
  at_eq : gd D at_ = d
  closed : ∀ k, k < N → k ≠ at_ → gd D k ≠ -1 → (k : Int) ∈ T ∨ (chk k (gd D k) ∧ ∀ s, s ∈ nx k → gd D s.toNat = bh k (gd D k))
  don : ∀ s, s ∈ don → gd D s.toNat = bh at_ d

variable {N chk nx bh}
variable (hch : ∀ k d, chk k d → 1 ≤ bh k d ∧ bh k d ≤ 60) (hnx : ∀ k s, k < N → s ∈ nx k → 0 ≤ s ∧ s < N)
theorem Inv.sol {D : List Int} (h : Inv N chk nx bh D []) : Sol N chk nx bh D :=
  ⟨h.len, h.zero, fun k hk hd => (h.closed k hk hd).resolve_left (by simp)⟩
theorem Inv.pop {D T : List Int} {at_ : Nat} (h : Inv N chk nx bh D (T ++ [(at_ : Int)])) (ha : at_ < N) : PInv N chk nx bh at_ (gd D at_) [] D T :=
  { h.toBase with
    todo := fun t ht => h.todo t (by simp [ht])
    at_eq := rfl
    closed := fun k hk hne hd => by
      rcases h.closed k hk hd with h1 | h1
      · rcases List.mem_append.1 h1 with h2 | h2
        · exact .inl h2
        · simp only [List.mem_singleton] at h2; exact absurd (by omega) hne
      · exact .inr h1
    don := fun s hs => by cases hs }
theorem PInv.inv {D T : List Int} {at_ : Nat} {d : Int} {don : List Int} (h : PInv N chk nx bh at_ d don D T) (hc : chk at_ d) (hall : ∀ s, s ∈ nx at_ → s ∈ don) : Inv N chk nx bh D T :=
  { h.toBase with
    closed := fun k hk hd => by
      by_cases e : k = at_
      · subst e
        rw [h.at_eq]
        exact .inr ⟨hc, fun s hs => h.don s (hall s hs)⟩
      · exact h.closed k hk e hd }
include hch hnx in
theorem PInv.put {D T : List Int} {at_ : Nat} {d : Int} {don : List Int} {s : Nat} (h : PInv N chk nx bh at_ d don D T) (ha : at_ < N) (hd : d ≠ -1) (hc : chk at_ d) (hs : (s : Int) ∈ nx at_) :
    (gd D s = -1 → PInv N chk nx bh at_ d (don ++ [(s : Int)]) (D.set s (bh at_ d)) (T ++ [(s : Int)])) ∧ (gd D s = bh at_ d → PInv N chk nx bh at_ d (don ++ [(s : Int)]) D T) ∧ (gd D s ≠ -1 → gd D s ≠ bh at_ d → ∀ E, ¬ Sol N chk nx bh E) := by
  obtain ⟨b1, b2⟩ := hch at_ d hc
  have hsN := hnx at_ s ha hs
  have hsl : s < D.length := by rw [h.len]; omega
  have hE : ∀ E, Sol N chk nx bh E → gd E s = bh at_ d := fun E he => by
    have e1 := h.forced E he at_ ha (by rw [h.at_eq]; exact hd)
    rw [h.at_eq] at e1
    have := (he.ok at_ ha (by rw [e1]; exact hd)).2 s hs
    rw [e1, Int.toNat_natCast] at this
    exact this
  refine ⟨fun hu => ?_, fun hb => ?_, fun hn hne E he => ?_⟩
  · have hsa : s ≠ at_ := fun e => by rw [e, h.at_eq] at hu; exact hd hu
    have hg : ∀ k, gd (D.set s (bh at_ d)) k = if k = s then bh at_ d else gd D k := fun k => gd_set D s k _ hsl
    refine
      { len := by rw [List.length_set]; exact h.len
        zero := ?_
        rng := fun k hk => ?_
        todo := fun t ht => ?_
        forced := fun E he k hk hk2 => ?_
        at_eq := by rw [hg, if_neg (Ne.symm hsa)]; exact h.at_eq
        closed := fun k hk hka hk2 => ?_
        don := fun t ht => ?_ }
    · rw [hg]
      by_cases e : (0 : Nat) = s
      · rw [← e, h.zero] at hu; cases hu
      · rw [if_neg e]; exact h.zero
    · rw [hg]
      by_cases e : k = s
      · rw [if_pos e]; exact .inr ⟨b1, b2⟩
      · rw [if_neg e]; exact h.rng k hk
    · rcases List.mem_append.1 ht with h1 | h1
      · obtain ⟨k, e1, e2, e3⟩ := h.todo t h1
        refine ⟨k, e1, e2, ?_⟩
        rw [hg]
        by_cases e : k = s
        · rw [e] at e3; exact absurd hu e3
        · rw [if_neg e]; exact e3
      · simp only [List.mem_singleton] at h1
        refine ⟨s, h1, by omega, ?_⟩
        rw [hg, if_pos rfl]; omega
    · rw [hg] at hk2 ⊢
      by_cases e : k = s
      · rw [if_pos e, e]; exact hE E he
      · rw [if_neg e] at hk2 ⊢; exact h.forced E he k hk hk2
    · rw [hg] at hk2 ⊢
      by_cases e : k = s
      · rw [e]; exact .inl (by simp)
      · rw [if_neg e] at hk2 ⊢
        rcases h.closed k hk hka hk2 with h1 | ⟨h1, h2⟩
        · exact .inl (by simp [h1])
        · refine .inr ⟨h1, fun t ht => ?_⟩
          rw [hg]
          by_cases e2 : t.toNat = s
          · have := h2 t ht
            rw [e2, hu] at this
            have := (hch k _ h1).1
            omega
          · rw [if_neg e2]; exact h2 t ht
    · rw [hg]
      rcases List.mem_append.1 ht with h1 | h1
      · by_cases e : t.toNat = s
        · rw [if_pos e]
        · rw [if_neg e]; exact h.don t h1
      · simp only [List.mem_singleton] at h1
        rw [h1, Int.toNat_natCast, if_pos rfl]
  · refine { h with don := fun t ht => ?_ }
    rcases List.mem_append.1 ht with h1 | h1
    · exact h.don t h1
    · simp only [List.mem_singleton] at h1
      rw [h1, Int.toNat_natCast]; exact hb
  · have e1 := h.forced E he s (by omega) hn
    rw [hE E he] at e1
    exact hne e1.symm
end
theorem Sol.ext_eq {D D' : List Int} (hl : D.length = D'.length) (h : ∀ k, k < D.length → gd D k = gd D' k) : D = D' := by
  refine List.ext_getElem hl fun k h1 h2 => ?_
  have := h k h1
  unfold gd at this
  simpa [List.getD_eq_getElem?_getD, h1, h2] using this
/-- Two that are both forced are the same. -/
theorem Sol.unique {N : Nat} {chk : Nat → Int → Prop} {nx nx' : Nat → List Int} {bh : Nat → Int → Int} (hn : ∀ k s, s ∈ nx k ↔ s ∈ nx' k) {D D' : List Int} (h : Inv N chk nx bh D []) (h' : Inv N chk nx' bh D' []) : D = D' := by
  have conv : ∀ {nx nx' : Nat → List Int} {E : List Int}, (∀ k s, s ∈ nx k ↔ s ∈ nx' k) → Sol N chk nx bh E → Sol N chk nx' bh E := fun hn he => ⟨he.len, he.zero, fun k hk hd => ⟨(he.ok k hk hd).1, fun s hs => (he.ok k hk hd).2 s ((hn k s).2 hs)⟩⟩
  have s1 := h.sol
  have s2 := h'.sol
  refine Sol.ext_eq (by rw [s1.len, s2.len]) fun k hk => ?_
  rw [s1.len] at hk
  by_cases e : gd D k = -1
  · by_cases e' : gd D' k = -1
    · rw [e, e']
    · exact (h'.forced D (conv hn s1) k hk e')
  · exact (h.forced D' (conv (fun k s => (hn k s).symm) s2) k hk e).symm
end Go.Proofs.Ytijgokehlicmnaa.GFnExactVmNew
