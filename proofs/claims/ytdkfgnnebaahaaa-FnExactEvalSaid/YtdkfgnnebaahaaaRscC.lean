/- The compiler: what an operation does to what is known of a frame, and the pure program that it becomes. Definitions alone; no conditions. -/
import Derived.Test.YtdkfgnnebaahaaaRscB
namespace Go.Rsc
open Go.RowKit
set_option linter.unusedVariables false

/-- What two numbers come to. -/
def arith (op : BinOp) (k : IntKind) (x y : Int) : Int := match op with
  | .add => k.wrap (x + y)
  | .sub => k.wrap (x - y)
  | .mul => k.wrap (x * y)
  | .quo => k.wrap (x.tdiv y)
  | .rem => x.tmod y
  | .and => k.wrap ((BitVec.ofInt k.bits x &&& BitVec.ofInt k.bits y).toNat)
  | .or => k.wrap ((BitVec.ofInt k.bits x ||| BitVec.ofInt k.bits y).toNat)
  | .xor => k.wrap ((BitVec.ofInt k.bits x ^^^ BitVec.ofInt k.bits y).toNat)
  | .andNot => k.wrap ((BitVec.ofInt k.bits x &&& ~~~ BitVec.ofInt k.bits y).toNat)
  | .shl => k.wrap (x * 2 ^ (min y.toNat k.bits))
  | .shr => x.fdiv (2 ^ (min y.toNat k.bits))
  | _ => 0
def ltI (x y : Int) : Bool := decide (x < y)
def leI (x y : Int) : Bool := decide (x ≤ y)
def gtI (x y : Int) : Bool := decide (x > y)
def geI (x y : Int) : Bool := decide (x ≥ y)
def eqI (x y : Int) : Bool := x == y
def neI (x y : Int) : Bool := x != y
def cmpI (op : BinOp) (x y : Int) : Bool := match op with
  | .eql => eqI x y
  | .neq => neI x y
  | .lss => ltI x y
  | .leq => leI x y
  | .gtr => gtI x y
  | .geq => geI x y
  | _ => false
def cmpS (op : BinOp) (x y : ByteArray) : Bool :=
  let eq := x.toList == y.toList
  let lt := Op.bytesLess x.toList y.toList
  match op with
  | .eql => eq
  | .neq => !eq
  | .lss => lt
  | .leq => lt || eq
  | .gtr => !(lt || eq)
  | .geq => !lt
  | _ => false

theorem catB_ex : ∃ f : ByteArray → ByteArray → ByteArray, ∀ a b, f a b = a ++ b := ⟨fun a b => a ++ b, fun _ _ => rfl⟩
/-- Two strings, one behind the other: by choice, so that the kernel does not reckon with it. -/
noncomputable def catB : ByteArray → ByteArray → ByteArray := Classical.choose catB_ex
theorem catB_eq (a b : ByteArray) : catB a b = a ++ b := Classical.choose_spec catB_ex a b

inductive PX where
  | k (key : Nat)
  | res (i : Nat)
  | unit
  | int (n : Int)
  | bool (b : Bool)
  | str (s : ByteArray)
  | lnil
  | anil
  | lcons (a b : PX)
  | acons (a b : PX)
  | get (a : PX) (π : List Nat)
  | put (a : PX) (π : List Nat) (b : PX)
  | at (a i : PX)
  | set (a i b : PX)
  | len (a : PX)
  | slen (a : PX)
  | sat (a i : PX)
  | take (a n : PX)
  | sub (a lo hi : PX)
  | ssub (a lo hi : PX)
  | app (a b : PX)
  | rep (n a : PX)
  | splice (a lo hi b : PX)
  | ar (op : BinOp) (kd : IntKind) (a b : PX)
  | cmp (op : BinOp) (a b : PX)
  | scmp (op : BinOp) (a b : PX)
  | bcmp (eq : Bool) (a b : PX)
  | sadd (a b : PX)
  | not (a : PX)
  | wrap (kd : IntKind) (a : PX)
  | dif (a b : PX)
  | ite (c a b : PX)
  | fit (a b : PX) (n : Nat)
  | b2s (a : PX)
  | s2b (a : PX)
  | minl (a b : PX)
  | mget (a k z : PX)
  | mset (a k x : PX)
  | urec (a : PX)
  deriving Inhabited

def spliceL (l : List PV) (lo n : Nat) (b : List PV) : List PV := l.take lo ++ b.take n ++ l.drop (lo + n)

/-- What a map (its pairs, in order) holds for a key; a key's value put in its place, or behind all. -/
def mgetL (z : PV) (k : Int) : List PV → PV
  | [] => z
  | p :: ps => if (p.fld 0).toInt = k then p.fld 1 else mgetL z k ps
def msetL (k : Int) (x : PV) : List PV → List PV
  | [] => [.agg [.int k, x]]
  | p :: ps => if (p.fld 0).toInt = k then .agg [.int k, x] :: ps else p :: msetL k x ps

/-- The value that a name's frame holds: one that knows itself is unfolded. -/
def unrec (q : PV) : PV := match ((q.toList).getD 0 .unit).fld 1 with
  | .agg [v] => .list [v.setFld cycJ q]
  | x => x
noncomputable def PX.eval (σ : Nat → PV) (rs : List PV) : PX → PV
  | .k key => σ key
  | .res i => rs.getD i .unit
  | .unit => .unit
  | .int n => .int n
  | .bool b => .bool b
  | .str s => .str s
  | .lnil => .list []
  | .anil => .agg []
  | .lcons a b => .list (a.eval σ rs :: (b.eval σ rs).toList)
  | .acons a b => .agg (a.eval σ rs :: (b.eval σ rs).toAgg)
  | .get a π => (a.eval σ rs).get π
  | .put a π b => (a.eval σ rs).put π (b.eval σ rs)
  | .at a i => (a.eval σ rs).toList.getD (i.eval σ rs).toInt.toNat .unit
  | .set a i b => .list ((a.eval σ rs).toList.set (i.eval σ rs).toInt.toNat (b.eval σ rs))
  | .len a => .int (a.eval σ rs).toList.length
  | .slen a => .int (a.eval σ rs).toStr.size
  | .sat a i => .int ((a.eval σ rs).toStr.data.getD (i.eval σ rs).toInt.toNat 0).toNat
  | .take a n => .list ((a.eval σ rs).toList.take (n.eval σ rs).toInt.toNat)
  | .sub a lo hi => .list (((a.eval σ rs).toList.drop (lo.eval σ rs).toInt.toNat).take ((hi.eval σ rs).toInt.toNat - (lo.eval σ rs).toInt.toNat))
  | .ssub a lo hi => .str ((a.eval σ rs).toStr.extract (lo.eval σ rs).toInt.toNat (hi.eval σ rs).toInt.toNat)
  | .app a b => .list ((a.eval σ rs).toList ++ (b.eval σ rs).toList)
  | .rep n a => .list (List.replicate (n.eval σ rs).toInt.toNat (a.eval σ rs))
  | .splice a lo hi b => .list (spliceL (a.eval σ rs).toList (lo.eval σ rs).toInt.toNat (min (b.eval σ rs).toList.length ((hi.eval σ rs).toInt.toNat - (lo.eval σ rs).toInt.toNat)) (b.eval σ rs).toList)
  | .ar op kd a b => .int (arith op kd (a.eval σ rs).toInt (b.eval σ rs).toInt)
  | .cmp op a b => .bool (cmpI op (a.eval σ rs).toInt (b.eval σ rs).toInt)
  | .scmp op a b => .bool (cmpS op (a.eval σ rs).toStr (b.eval σ rs).toStr)
  | .bcmp eq a b => .bool (((a.eval σ rs).toBool == (b.eval σ rs).toBool) == eq)
  | .sadd a b => .str (catB (a.eval σ rs).toStr (b.eval σ rs).toStr)
  | .not a => .bool (!(a.eval σ rs).toBool)
  | .wrap kd a => .int (kd.wrap (a.eval σ rs).toInt)
  | .dif a b => .int ((a.eval σ rs).toInt - (b.eval σ rs).toInt)
  | .ite c a b => if (c.eval σ rs).toBool then a.eval σ rs else b.eval σ rs
  | .fit a b n => .bool (decide ((a.eval σ rs).toList.length + (b.eval σ rs).toList.length ≤ n))
  | .b2s a => .str ⟨((a.eval σ rs).toList.map fun p => UInt8.ofNat p.toInt.toNat).toArray⟩
  | .s2b a => .list ((a.eval σ rs).toStr.data.toList.map fun b => .int b.toNat)
  | .minl a b => .int (min (a.eval σ rs).toInt (b.eval σ rs).toInt)
  | .mget a b z => mgetL (z.eval σ rs) (b.eval σ rs).toInt (a.eval σ rs).toList
  | .mset a b x => .list (msetL (b.eval σ rs).toInt (x.eval σ rs) (a.eval σ rs).toList)
  | .urec a => unrec (a.eval σ rs)

/-- A small step: what is known anew, what boxes moved, what is put where. -/
structure MS where
  upd : List (Nat × D)
  kw : List Nat := []
  so : List Nat := []
  sets : List (Nat × PX)
  deriving Inhabited
def apm (Γ : Nat → D) (m : MS) : Nat → D := ap Γ m.upd m.kw m.so

structure SR where
  chk : List PX := []
  pre : List MS := []
  call : Option (FuncId × List PX) := none
  main : MS
  deriving Inhabited

def lookS (U : List (Nat × PX)) (k : Nat) : Option PX := match U with
  | [] => none
  | (j, d) :: U => if Nat.beq k j then some d else lookS U k
noncomputable def setAll (σ : Nat → PV) (rs : List PV) (l : List (Nat × PX)) (k : Nat) : PV := match lookS l k with
  | some x => x.eval σ rs
  | none => σ k

abbrev Interp := FuncId → List PV → Option (List PV)

noncomputable def preRun (pre : List MS) (σ : Nat → PV) : Nat → PV := pre.foldl (fun σ m => setAll σ [] m.sets) σ
noncomputable def SR.run (I : Interp) (r : SR) (σ : Nat → PV) : Option (Nat → PV) :=
  let σ1 := preRun r.pre σ
  if r.chk.all (fun c => (c.eval σ1 []).toBool) then
    match r.call with
    | none => some (setAll σ1 [] r.main.sets)
    | some (f, args) => (I f (args.map fun x => x.eval σ1 [])).map fun rs => setAll σ1 rs r.main.sets
  else none
def apS (Γ : Nat → D) (r : SR) : Nat → D := apm (r.pre.foldl apm Γ) r.main

/-! ### What a function asks for -/
/-- What a closure caught: a pointer that is read, or lent. -/
inductive CM where
  | rp (d : SD)
  | ref (t : TypeId) (d d' : SD)
  deriving DecidableEq, Repr, Inhabited
inductive PM where
  | ro (d : SD)
  | rp (d : SD)
  | mv (d : SD)
  | ref (t : TypeId) (d d' : SD)
  | mut (d : SD)
  | clo (f : FuncId) (caps : List CM)
  deriving DecidableEq, Repr, Inhabited
/-- A result: a value; a pointer to a box of its own. -/
inductive RM where
  | v (d : SD)
  | bx (t : TypeId) (d : SD)
  deriving DecidableEq, Repr, Inhabited
/-- Functions of the library that are taken by their contract. -/
inductive Orc where
  | itoa
  | join
  | sort
  | atoi
  | index
  | compact
  | delneg
  | grow
  deriving DecidableEq, Repr, Inhabited
structure Sig where
  ps : List PM
  rs : List RM
  orc : Option Orc := none
  deriving DecidableEq, Repr, Inhabited

/-! ### Operands -/
def vk (i : Nat) : Nat := 64 * i + 63
def pk (i : Nat) : Nat := 64 * i + 62

/-- The key under which a caught pointer comes to a function that is handed a closure. -/
def hk (i : Nat) : Nat := 64 * i + 61

def constOf : Value → Option (SD × PX)
  | .int k n => some (.int k, .int n)
  | .bool b => some (.bool, .bool b)
  | .string s => some (.str, .str s)
  | .slice none 0 0 => some (.nl, .lnil)
  | .pointer none => some (.np, .lnil)
  | _ => none

def rootSD (Γ : Nat → D) (o : Nat) : Option SD := match Γ o with
  | .v d | .box _ d => some d
  | _ => none
/-- The root once a part of it has gone elsewhere. -/
def gone (Γ : Nat → D) (o : Nat) (π : List Nat) : D := match Γ o with
  | .v d => if π.isEmpty then .none else match d.get π with
    | some x => .v (d.put π (.dead x.sz))
    | none => .none
  | .box t d => match d.get π with
    | some x => .box t (d.put π (.dead x.sz))
    | none => .none
  | _ => .none

def shapeAt (P : Program) (Γ : Nat → D) (o : Nat) (π : Pth) : Option SD := match rootSD Γ o with
  | none => none
  | some d => match π.post with
    | none => d.get π.pre
    | some φ => match d.get π.pre with
      | some (.own e m) => (el P m e).get φ
      | _ => none
def getPX (o : Nat) (π : Pth) (dyn : PX) : PX := match π.post with
  | none => .get (.k o) π.pre
  | some φ => .get (.at (.get (.k o) π.pre) dyn) φ
def putPX (o : Nat) (π : Pth) (dyn q : PX) : PX := match π.post with
  | none => .put (.k o) π.pre q
  | some φ => .put (.k o) π.pre (.set (.get (.k o) π.pre) dyn (.put (.at (.get (.k o) π.pre) dyn) φ q))

/-- A value is taken to be kept elsewhere: it goes under the key kv. -/
def take (Γ : Nat → D) (x : Operand) (kv : Nat) : Option (SD × MS) := match x with
  | .const c => (constOf c).map fun (d, px) => (d, { upd := [(kv, .v d)], kw := [kv], sets := [(kv, px)] })
  | .tmp t => match Γ (tk t) with
    | .v d => if d.plain then some (d, { upd := [(kv, .v d)], kw := [kv], sets := [(kv, .k (tk t))] })
      else some (d, { upd := [(kv, .v d), (tk t, .none)], kw := [kv], sets := [(kv, .k (tk t)), (tk t, .unit)] })
    | .view o π => if π.post.isNone && !Nat.beq o kv then match rootSD Γ o with
        | some d => (d.get π.pre).map fun x => (x, { upd := [(kv, .v x), (o, gone Γ o π.pre)], kw := [kv], sets := [(kv, .get (.k o) π.pre), (o, .put (.k o) π.pre .unit)] })
        | none => none
      else none
    | .tr o π => if Nat.beq o kv then none else match rootSD Γ o with
      | some d => match d.get π with
        | some (.own e m) => some (.own e m, { upd := [(kv, .v (.own e m)), (o, gone Γ o π)], kw := [kv], sets := [(kv, .take (.get (.k o) π) (.k (tk t))), (o, .put (.k o) π .unit)] })
        | _ => none
      | none => none
    | _ => none
  | _ => none

/-- A shape that serves where another one is wanted. -/
def coe : SD → SD → Bool
  | .nl, .own _ _ => true
  | .nl, .bor _ => true
  | .np, .fp _ => true
  | .sc a b, .sc c d => coe a c && coe b d
  | a, b => a == b

/-- A value is lent to be read: its shape for reading. -/
def lend (P : Program) (Γ : Nat → D) (x : Operand) : Option (SD × PX) := match x with
  | .const c => constOf c
  | .tmp t => match Γ (tk t) with
    | .v d => some (d.ro, .k (tk t))
    | .view o π => (shapeAt P Γ o π).map fun d => (d.ro, getPX o π (.k (tk t)))
    | .tr o π => match shapeAt P Γ o ⟨π, none⟩ with
      | some (.own e m) => some (.bor e, .take (.get (.k o) π) (.k (tk t)))
      | _ => none
    | .sl o π => match shapeAt P Γ o ⟨π, none⟩ with
      | some (.own e m) => some (.bor e, .sub (.get (.k o) π) (.get (.k (tk t)) [0]) (.get (.k (tk t)) [1]))
      | _ => none
    | _ => none
  | _ => none

/-- The keys whose memory is lent. -/
def lendKeys (Γ : Nat → D) (x : Operand) : List Nat := match x with
  | .tmp t => match Γ (tk t) with
    | .v d => if d.plain then [] else [tk t]
    | .view o _ | .tr o _ | .sl o _ => [o]
    | _ => []
  | _ => []
/-- A plain value that may be copied. -/
def plainOf (Γ : Nat → D) (x : Operand) : Option (SD × PX) := match x with
  | .const c => constOf c
  | .tmp t => match Γ (tk t) with
    | .v d => if d.plain then some (d, .k (tk t)) else none
    | _ => none
  | _ => none
def intOf (Γ : Nat → D) (x : Operand) : Option (IntKind × PX) := match plainOf Γ x with
  | some (.int k, px) => some (k, px)
  | _ => none

/-- A type's shape in a temporary or a cell. -/
def tyOk (P : Program) (t : TypeId) (d : SD) : Bool := (match P.underlying t with
  | some (.struct _) => d.isAgg
  | some (.int _) | some .bool | some .string | some (.slice _) | some (.map _ _) | some (.pointer _) => !d.isAgg
  | _ => false) && Nat.beq (P.cellsOf t) d.sz

def zeroSD (P : Program) : Nat → TypeId → SD
  | 0, t => .dead (P.cellsOf t)
  | n + 1, t => match P.underlying t with
    | some (.int k) => .int k
    | some .bool => .bool
    | some .string => .str
    | some (.slice _) => .nl
    | some (.map _ _) => .mz
    | some (.pointer e) => if isFp e then .np else .dead (P.cellsOf t)
    | some (.struct fs) => fs.toList.foldr (fun f acc => .sc (zeroSD P n f.type) acc) .sn
    | _ => .dead (P.cellsOf t)
def zeroPX : SD → PX
  | .int _ => .int 0
  | .bool => .bool false
  | .str => .str .empty
  | .nl | .mz | .np => .lnil
  | .sc d ds => .acons (zeroPX d) (zeroPX ds)
  | .sn => .anil
  | _ => .unit
def beqK : IntKind → IntKind → Bool := fun a b => decide (a = b)
/-- These cells are a shape's zero. -/
def zeroR : SD → List Value → Bool
  | .int k, [.int k' n] => beqK k k' && n == 0
  | .bool, [.bool b] => !b
  | .str, [.string s] => s.size == 0
  | .nl, [.slice none 0 0] => true
  | .mz, [.map none] => true
  | .np, [.pointer none] => true
  | .sc d ds, cs => zeroR d (cs.take d.sz) && (zeroR ds (cs.drop d.sz) && ds.isAgg)
  | .sn, [] => true
  | _, _ => false
def zeroOf (P : Program) (t : TypeId) : Option (SD × PX) := match (P.info? t).bind (·.zero) with
  | some z =>
    let d := zeroSD P 8 t
    if zeroR d z.cells.toList && tyOk P t d then some (d, zeroPX d) else none
  | none => none

/-- Most elements of a row. -/
def most (P : Program) (e : TypeId) : Nat := 140737488355328 / P.bytesOf e

def mk1 (dst : Nat) (d : D) (x : PX) : SR := { main := { upd := [(tk dst, d)], kw := [tk dst], sets := [(tk dst, x)] } }

/-! ### Operations -/
def cMove (Γ : Nat → D) (dst : Nat) (x : Operand) : Option SR := match x with
  | .const c => match constOf c with
    | some (d, px) => some (mk1 dst (.v d) px)
    | none => some (mk1 dst .none .unit)
  | .func f => if Nat.blt f 4096 then some (mk1 dst (.clo f []) .unit) else none
  | .tmp t => match Γ (tk t) with
    | .v d => if d.plain then some (mk1 dst (.v d) (.k (tk t))) else if Nat.beq t dst then none else some (mk1 dst (.view (tk t) ⟨[], none⟩) .unit)
    | .view o π => if Nat.beq o (tk dst) then none else some (mk1 dst (.view o π) (.k (tk t)))
    | .tr o π => if Nat.beq o (tk dst) then none else some (mk1 dst (.tr o π) (.k (tk t)))
    | .sl o π => if Nat.beq o (tk dst) then none else some (mk1 dst (.sl o π) (.k (tk t)))
    | .ptr o π => if Nat.beq o (tk dst) then none else some (mk1 dst (.ptr o π) (.k (tk t)))
    | .bp o => if Nat.beq o (tk dst) then none else some (mk1 dst (.bp o) (.k (tk t)))
    | .cptr o r ty π => if Nat.beq o (tk dst) || Nat.beq r (tk dst) then none else some (mk1 dst (.cptr o r ty π) (.k (tk t)))
    | .rp d => some (mk1 dst (.rp d) (.k (tk t)))
    | .clo f ks => if ks.any (Nat.beq (tk dst)) then none else some (mk1 dst (.clo f ks) (.k (tk t)))
    | .tup ks => if ks.any (Nat.beq (tk dst)) then none else some (mk1 dst (.tup ks) (.k (tk t)))
    | _ => none
  | _ => none

/-- What an operand hangs on is known. -/
def known (Γ : Nat → D) (x : Operand) : Bool := match x with
  | .tmp t => match Γ (tk t) with
    | .view o _ | .tr o _ => (rootSD Γ o).isSome
    | _ => true
  | _ => true
def cAssign (b : Nat) (Γ : Nat → D) (dst : Nat) (x : Operand) : Option SR := match take Γ x (vk b) with
  | some (d, m) => some { pre := [m], main := { upd := [(tk dst, .v d), (vk b, .none)], kw := [tk dst], sets := [(tk dst, .k (vk b))] } }
  | none => if known Γ x then cMove Γ dst x else none

def placeOf (P : Program) (Γ : Nat → D) (t : Nat) : Option (Nat × Pth × SD) := match Γ (tk t) with
  | .bp o => match Γ o with
    | .box _ d => some (o, ⟨[], none⟩, d)
    | _ => none
  | .ptr o π => (shapeAt P Γ o π).map fun d => (o, π, d)
  | _ => none

def hasDead : SD → Bool
  | .dead _ => true
  | .sc a b => hasDead a || hasDead b
  | _ => false

/-- A place in a copy of a root's cells: the root, the fields. -/
def copyPlace (Γ : Nat → D) (t : Nat) : Option (Nat × Nat × TypeId × List Nat) := match Γ (tk t) with
  | .bp o => match Γ o with
    | .cb r t => some (o, r, t, [])
    | _ => none
  | .cptr o r t π => some (o, r, t, π)
  | _ => none

def cLoad (P : Program) (Γ : Nat → D) (dst : Nat) (t : TypeId) (a : Operand) : Option SR := match a with
  | .tmp p => match copyPlace Γ p with
   | some (o, r, bt, π) => match shapeAt P Γ r ⟨π, none⟩ with
     | some d => if !tyOk P t d || hasDead d || Nat.beq r (tk dst) then none else
        if d.plain then some (mk1 dst (.v d) (.get (.k r) π)) else some (mk1 dst (.view r ⟨π, none⟩) .unit)
     | none => none
   | none => match Γ (tk p) with
    | .rp d => if tyOk P t d && !hasDead d && d.plain then some (mk1 dst (.v d) (.k (tk p))) else none
    | _ => match placeOf P Γ p with
      | some (o, π, d) => if !tyOk P t d || hasDead d then none else
        if d.plain then some (mk1 dst (.v d) (getPX o π (.k (tk p)))) else if Nat.beq o (tk dst) then none else some (mk1 dst (.view o π) (.k (tk p)))
      | none => none
  | _ => none

def setRoot (Γ : Nat → D) (o : Nat) (π : List Nat) (d' : SD) : D := match Γ o with
  | .v d => .v (d.put π d')
  | .box t d => .box t (d.put π d')
  | x => x

/-- Where a pointer leads. -/
def ptrOf (Γ : Nat → D) (t : Nat) : Option (Nat × Pth) := match Γ (tk t) with
  | .bp o => some (o, ⟨[], none⟩)
  | .ptr o π => some (o, π)
  | _ => none

/-- Where a store goes: seen once the value is taken, or (a value out of the same box) before. -/
def storePlace (P : Program) (Γ Γ1 : Nat → D) (p : Nat) : Option (Nat × Pth × SD) := match placeOf P Γ1 p with
  | some r => some r
  | none => if Γ1 (tk p) == .none then match ptrOf Γ p with
    | some (o, π) => if π.post.isSome then none else match Γ o, Γ1 o with
      | .box _ d0, .box _ d1 => if Nat.beq (d0.off π.pre) (d1.off π.pre) then (d1.get π.pre).map fun d => (o, ⟨π.pre, none⟩, d) else none
      | _, _ => none
    | none => none
    else none
def cStore (b : Nat) (P : Program) (Γ : Nat → D) (t : TypeId) (a x : Operand) : Option SR := match take Γ x (vk b), a with
  | some (d', m), .tmp p =>
    let Γ1 := apm Γ m
    match storePlace P Γ Γ1 p with
    | some (o, π, d) => if Nat.beq o (vk b) || !Nat.beq d'.sz d.sz || !tyOk P t d' || hasDead d' then none else
        match π.post with
        | none => some { pre := [m], main := { upd := [(o, setRoot Γ1 o π.pre d'), (vk b, .none)], sets := [(o, putPX o π .unit (.k (vk b)))] } }
        | some _ => if coe d' d then some { pre := [m], main := { upd := [(o, Γ1 o), (vk b, .none)], so := [o], sets := [(o, putPX o π (.k (tk p)) (.k (vk b)))] } } else none
    | none => none
  | _, _ => none

def fieldOk (P : Program) (t : TypeId) (f : Nat) (d : SD) : Bool := match P.underlying t with
  | some (.struct fs) => match fs[f]?, d.nth f with
    | some fd, some x => Nat.beq fd.offset (d.offN f) && tyOk P fd.type x && !Nat.beq x.sz 0
    | _, _ => false
  | _ => false

/-- A pointer leads somewhere. -/
def nonNil (k : Nat) : List PX := [.cmp .gtr (.len (.k k)) (.int 0)]
/-- A field behind a pointer that is shared. -/
def cFieldF (P : Program) (dst : Nat) (t : TypeId) (f : Nat) (t' : TypeId) (k : Nat) : Option SR := match (sdOf P t).nth f with
  | some y => if Nat.beq t t' && fieldOk P t f (sdOf P t) && (!(Nat.beq t cycE && Nat.beq f 1) || decide (y = .fp cycV)) then some { mk1 dst (.rp y) (if Nat.beq t cycE && Nat.beq f 1 then .urec (.k k) else .get (.at (.k k) (.int 0)) [f]) with chk := nonNil k } else none
  | none => none
/-- Where a shared pointer is, that a temporary holds. -/
def fpPlace (Γ : Nat → D) (p : Nat) : Option (TypeId × Nat) := match Γ (tk p) with
  | .v (.fp t) => some (t, tk p)
  | .bp o => match Γ o with
    | .fb t => some (t, o)
    | _ => none
  | _ => none
def cFieldAddr (P : Program) (Γ : Nat → D) (dst : Nat) (t : TypeId) (x : Operand) (f : Nat) : Option SR := match x with
  | .tmp p => match fpPlace Γ p with
   | some (t', k) => cFieldF P dst t f t' k
   | none => match copyPlace Γ p with
   | some (o, r, bt, π) => match shapeAt P Γ r ⟨π, none⟩ with
     | some d => if fieldOk P t f d && !Nat.beq o (tk dst) && !Nat.beq r (tk dst) then some (mk1 dst (.cptr o r bt (π ++ [f])) .unit) else none
     | none => none
   | none => match Γ (tk p) with
    | .rp d => match d.nth f with
      | some y => if fieldOk P t f d then some (mk1 dst (.rp y) (.get (.k (tk p)) [f])) else none
      | none => none
    | _ => match placeOf P Γ p with
      | some (o, π, d) => if !fieldOk P t f d || Nat.beq o (tk dst) then none else match π.post with
        | none => some (mk1 dst (.ptr o ⟨π.pre ++ [f], none⟩) (.k (tk p)))
        | some φ => some (mk1 dst (.ptr o ⟨π.pre, some (φ ++ [f])⟩) (.k (tk p)))
      | none => none
  | _ => none

def cField (P : Program) (Γ : Nat → D) (dst : Nat) (t : TypeId) (x : Operand) (f : Nat) : Option SR := match x with
  | .tmp p => match Γ (tk p) with
    | .v d => match d.nth f with
      | some y => if !fieldOk P t f d || hasDead y then none else if y.plain then some (mk1 dst (.v y) (.get (.k (tk p)) [f])) else if Nat.beq p dst then none else some (mk1 dst (.view (tk p) ⟨[f], none⟩) .unit)
      | none => none
    | .view o π => match shapeAt P Γ o π with
      | some d => match d.nth f with
        | some y => if !fieldOk P t f d || Nat.beq o (tk dst) || hasDead y then none else match π.post with
          | none => if y.plain then some (mk1 dst (.v y) (.get (.k o) (π.pre ++ [f]))) else some (mk1 dst (.view o ⟨π.pre ++ [f], none⟩) .unit)
          | some φ => none
        | none => none
      | none => none
    | _ => none
  | _ => none

def inRange (i n : PX) : List PX := [.cmp .geq i (.int 0), .cmp .lss i n]

/-- An element of a row that has none: never reached. -/
def nlAt (P : Program) (j dst e : Nat) : SR := if Nat.beq j 0 then { chk := [.bool false], main := { upd := [(tk dst, .bp (bk dst)), (bk dst, .box e (el P true e))], kw := [tk dst, bk dst], sets := [] } } else { chk := [.bool false], main := { upd := [(tk dst, .none)], kw := [tk dst], sets := [] } }
def cIndexAddr (j : Nat) (P : Program) (Γ : Nat → D) (dst : Nat) (t : TypeId) (x i : Operand) : Option SR := match P.underlying t, intOf Γ i with
  | some (.slice e), some (_, pi) => match x with
    | .const (.slice none 0 0) => some (nlAt P j dst e)
    | .tmp p => match Γ (tk p) with
      | .v .nl => some (nlAt P j dst e)
      | .v (.bor e') => if Nat.beq e e' && Nat.beq (P.cellsOf e) (sdOf P e).sz && !Nat.beq (P.cellsOf e) 0 then some { mk1 dst (.rp (sdOf P e)) (.at (.k (tk p)) pi) with chk := inRange pi (.len (.k (tk p))) } else none
      | .v (.own e' m) => if Nat.beq e e' && Nat.beq (P.cellsOf e) (el P m e).sz && !Nat.beq p dst then some { mk1 dst (.ptr (tk p) ⟨[], some []⟩) pi with chk := inRange pi (.len (.k (tk p))) } else none
      | .view o π => if π.post.isSome || Nat.beq o (tk dst) then none else match shapeAt P Γ o π with
        | some .nl => some (nlAt P j dst e)
        | some (.own e' m) => if Nat.beq e e' && Nat.beq (P.cellsOf e) (el P m e).sz then some { mk1 dst (.ptr o ⟨π.pre, some []⟩) pi with chk := inRange pi (.len (.get (.k o) π.pre)) } else none
        | _ => none
      | _ => none
    | _ => none
  | _, _ => none

def cIndex (P : Program) (Γ : Nat → D) (dst : Nat) (t : TypeId) (x i : Operand) : Option SR := match P.underlying t, plainOf Γ x, intOf Γ i with
  | some .string, some (.str, px), some (_, pi) => some { mk1 dst (.v (.int .u8)) (.sat px pi) with chk := inRange pi (.slen px) }
  | _, _, _ => none

/-- The length of a string (true) or of a slice. -/
def lenPX (P : Program) (Γ : Nat → D) (x : Operand) : Bool → Option PX
  | true => match plainOf Γ x with
    | some (.str, px) => some (.slen px)
    | _ => none
  | false => match x with
    | .const (.slice none 0 0) => some (.int 0)
    | .tmp t => match Γ (tk t) with
      | .v (.bor _) | .v (.own _ _) | .v .nl => some (.len (.k (tk t)))
      | .view o π => match shapeAt P Γ o π with
        | some (.own _ _) | some .nl | some (.bor _) => some (.len (getPX o π (.k (tk t))))
        | _ => none
      | .tr o π => some (.k (tk t))
      | .sl o π => some (.dif (.get (.k (tk t)) [1]) (.get (.k (tk t)) [0]))
      | _ => none
    | _ => none
def isStrTy (P : Program) (t : TypeId) : Option Bool := match P.underlying t with
  | some .string => some true
  | some (.slice _) => some false
  | _ => none

def boundOf (Γ : Nat → D) (x : Option Operand) (z : PX) : Option PX := match x with
  | none => some z
  | some o => (intOf Γ o).map (·.2)
def within (lo hi n : PX) : List PX := [.cmp .geq lo (.int 0), .cmp .leq lo hi, .cmp .leq hi n]

def cSlice (P : Program) (Γ : Nat → D) (dst : Nat) (t : TypeId) (x : Operand) (lo hi mx : Option Operand) : Option SR :=
  if mx.isSome then none else
  match (isStrTy P t).bind (lenPX P Γ x) with
  | none => none
  | some n => match boundOf Γ lo (.int 0), boundOf Γ hi n with
    | some l, some h => match plainOf Γ x with
      | some (.str, px) => match P.underlying t with
        | some .string => some { mk1 dst (.v .str) (.ssub px l h) with chk := within l h n }
        | _ => none
      | some (.bor e, px) => match P.underlying t with
        | some (.slice e') => if Nat.beq e e' && Nat.beq (P.cellsOf e) (sdOf P e).sz && !Nat.beq (P.cellsOf e) 0 then some { mk1 dst (.v (.bor e)) (.sub px l h) with chk := within l h n } else none
        | _ => none
      | some (.nl, px) => match P.underlying t with
        | some (.slice e) => if !Nat.beq (P.cellsOf e) 0 then some { mk1 dst (.v .nl) .lnil with chk := within l h n } else none
        | _ => none
      | _ => match x with
        | .tmp p =>
          let at_ (o : Nat) (π : List Nat) : Option SR := if Nat.beq o (tk dst) then none else match shapeAt P Γ o ⟨π, none⟩, P.underlying t with
            | some (.own e m), some (.slice e') => if !Nat.beq e e' || !Nat.beq (P.cellsOf e) (el P m e).sz || Nat.beq (P.cellsOf e) 0 then none else match lo with
              | none => some { mk1 dst (.tr o π) h with chk := within l h n }
              | some _ => some { mk1 dst (.sl o π) (.acons l (.acons h .anil)) with chk := within l h n }
            | _, _ => none
          match Γ (tk p) with
          | .v (.own _ _) => at_ (tk p) []
          | .view o π => if π.post.isSome then none else at_ o π.pre
          | _ => none
        | _ => none
    | _, _ => none

def cBin (P : Program) (Γ : Nat → D) (dst : Nat) (op : BinOp) (xt : TypeId) (x y : Operand) : Option SR := match plainOf Γ x, plainOf Γ y with
  | some (.int k, a), some (.int k', b) => match op with
    | .shl | .shr => some { mk1 dst (.v (.int k)) (.ar op k a b) with chk := [.cmp .geq b (.int 0)] }
    | .add | .sub | .mul | .and | .or | .xor | .andNot => if k = k' then some (mk1 dst (.v (.int k)) (.ar op k a b)) else none
    | .quo | .rem => if k = k' then some { mk1 dst (.v (.int k)) (.ar op k a b) with chk := [.cmp .neq b (.int 0)] } else none
    | .eql | .neq | .lss | .leq | .gtr | .geq => if k = k' then some (mk1 dst (.v .bool) (.cmp op a b)) else none
  | some (.str, a), some (.str, b) => match op with
    | .add => some { mk1 dst (.v .str) (.sadd a b) with chk := [.cmp .leq (.slen (.sadd a b)) (.int 9223372036854775807)] }
    | .eql | .neq | .lss | .leq | .gtr | .geq => some (mk1 dst (.v .bool) (.scmp op a b))
    | _ => none
  | some (.bool, a), some (.bool, b) => match op, P.underlying xt with
    | .eql, some .bool => some (mk1 dst (.v .bool) (.bcmp true a b))
    | .neq, some .bool => some (mk1 dst (.v .bool) (.bcmp false a b))
    | _, _ => none
  | _, _ => none

/-- The less of two. -/
def cMin (Γ : Nat → D) (dst : Nat) (x y : Operand) : Option SR := match intOf Γ x, intOf Γ y with
  | some (k, a), some (_, b) => some (mk1 dst (.v (.int k)) (.ite (.cmp .lss b a) b a))
  | _, _ => none

/-- Whether a value of an interface type is nil. -/
def isNilC : Operand → Bool
  | .const .nilIface => true
  | _ => false
def cIsNil (P : Program) (Γ : Nat → D) (dst : Nat) (op : BinOp) (xt : TypeId) (x : Operand) : Option SR := match op, P.underlying xt, plainOf Γ x with
  | .eql, some (.interface _), some (.ifc, a) => some (mk1 dst (.v .bool) a)
  | .neq, some (.interface _), some (.ifc, a) => some (mk1 dst (.v .bool) (.not a))
  | _, _, _ => none

/-- Whether a shared pointer is nil. -/
def isNilP : Operand → Bool
  | .const (.pointer none) => true
  | _ => false
def cNilP (P : Program) (Γ : Nat → D) (dst : Nat) (op : BinOp) (xt : TypeId) (x : Operand) : Option SR := match op, P.underlying xt, plainOf Γ x with
  | .eql, some (.pointer _), some (.fp _, a) => some (mk1 dst (.v .bool) (.cmp .leq (.len a) (.int 0)))
  | .neq, some (.pointer _), some (.fp _, a) => some (mk1 dst (.v .bool) (.cmp .gtr (.len a) (.int 0)))
  | _, _, _ => none
/-- A struct of three cells. -/
def three (P : Program) (t : TypeId) : Bool := match P.underlying t, (P.info? t).bind (·.zero) with
  | some (.struct fs), some (.agg z) => Nat.beq z.size 3 && (match fs.toList with
    | [f, g, h] => Nat.beq f.offset 0 && Nat.beq g.offset 1 && Nat.beq h.offset 2 && [f, g, h].all fun x => match P.info? x.type with
      | some i => Nat.beq i.size 1
      | none => false
    | _ => false)
  | _, _ => false
/-- A frame's names that a value of one's own is to know. -/
def cBuildE (P : Program) (Γ : Nat → D) (dst : Nat) (t : TypeId) (parts : List (Nat × Operand)) : Option SR := match parts with
  | [(0, a), (1, .tmp p), (2, c)] => match plainOf Γ a, Γ (tk p), plainOf Γ c with
    | some (.str, pa), .bp o, some (dc, pc) => if Nat.beq t cycE && coe dc (.fp cycE) && decide (sdOf P cycE = .sc .str (.sc (.fp cycV) (.sc (.fp cycE) .sn))) && three P t && !Nat.beq o (tk dst) then
        some (mk1 dst (.eb o) (.acons pa (.acons .unit (.acons pc .anil)))) else none
    | _, _, _ => none
  | _ => none
def cBoxE (Γ : Nat → D) (dst : Nat) (t : TypeId) (x : Operand) : Option SR := match x with
  | .tmp p => match Γ (tk p) with
    | .eb o => if Nat.beq t cycE && !Nat.beq o (tk dst) && !Nat.beq o (bk dst) then some { main := { upd := [(bk dst, .ebx o), (tk dst, .bp (bk dst))], kw := [bk dst, tk dst], sets := [(bk dst, .k (tk p)), (tk dst, .unit)] } } else none
    | _ => none
  | _ => none
/-- The frame is put into the value: from here on both are shared. -/
def recE (oe o : Nat) : PX := .lcons (.put (.k oe) [1] (.acons (.put (.k o) [cycJ] .unit) .anil)) .lnil
def cStoreR (P : Program) (Γ : Nat → D) (t : TypeId) (a x : Operand) : Option SR := match a, x with
  | .tmp p, .tmp q => match Γ (tk p), Γ (tk q) with
    | .ptr o ⟨[j], none⟩, .bp oe => match Γ o, Γ oe with
      | .box t' d, .ebx o' => if Nat.beq j cycJ && Nat.beq t' cycV && Nat.beq o o' && tyOk P t (.fp cycE) && coe (d.put [cycJ] (.dead 1)).ro ((sdOf P cycV).put [cycJ] (.dead 1)) && decide ((d.nth cycJ).map SD.sz = some 1) && Nat.beq (d.offN cycJ) ((sdOf P cycV).offN cycJ) && decide (sdOf P cycE = .sc .str (.sc (.fp cycV) (.sc (.fp cycE) .sn))) && decide ((sdOf P cycV).nth cycJ = some (.fp cycE)) && !Nat.beq o oe && !Nat.beq o (tk q) && !Nat.beq oe (tk q) then
          some { main := { upd := [(tk q, .v (.fp cycE)), (oe, .none), (o, .fb cycV)], sets := [(tk q, recE oe o), (o, .lcons (.put (.put (.k o) [cycJ] .unit) [cycJ] (recE oe o)) .lnil)] } }
        else none
      | _, _ => none
    | _, _ => none
  | _, _ => none
/-- What is never reached. -/
def cPanic : SR := { chk := [.bool false], main := { upd := [], sets := [] } }
def cIface (P : Program) (Γ : Nat → D) (dst : Nat) (t : TypeId) (x : Operand) : Option SR := match x, P.underlying t with
  | .const (.string _), some .string => some (mk1 dst (.v .ifc) (.bool false))
  | _, _ => none
def cUn (Γ : Nat → D) (dst : Nat) (op : UnOp) (x : Operand) : Option SR := match op, plainOf Γ x with
  | .not, some (.bool, a) => some (mk1 dst (.v .bool) (.not a))
  | .neg, some (.int k, a) => some (mk1 dst (.v (.int k)) (.ar .sub k (.int 0) a))
  | _, _ => none

def cConvert (P : Program) (Γ : Nat → D) (dst : Nat) (s d : TypeId) (x : Operand) : Option SR := match P.underlying s, P.underlying d with
  | some (.int _), some (.int k) => (intOf Γ x).map fun (_, a) => mk1 dst (.v (.int k)) (.wrap k a)
  | some .string, some .string => match plainOf Γ x with
    | some (.str, a) => some (mk1 dst (.v .str) a)
    | _ => none
  | some (.slice e), some .string => match P.underlying e, lend P Γ x with
    | some (.int .u8), some (.bor e', a) => if Nat.beq e e' then some (mk1 dst (.v .str) (.b2s a)) else none
    | some (.int .u8), some (.nl, a) => some (mk1 dst (.v .str) (.b2s a))
    | _, _ => none
  | _, _ => none

/-- A parameter that is to stay as it came: its root. -/
def pinned (Γ : Nat → D) (x : Operand) : Option Nat := match x with
  | .tmp t => match Γ (tk t) with
    | .view o π => if Nat.beq (o % 64) 62 && π = ⟨[], none⟩ then match Γ o with
      | .v d => if d.isAgg then some o else none
      | _ => none
      else none
    | _ => none
  | _ => none
def cAlloc (P : Program) (dst : Nat) (t : TypeId) : Option SR := (zeroOf P t).map fun (d, px) =>
  { main := { upd := [(bk dst, .box t d), (tk dst, .bp (bk dst))], kw := [bk dst, tk dst], sets := [(bk dst, px), (tk dst, .unit)] } }
def cBox (b : Nat) (P : Program) (Γ : Nat → D) (dst : Nat) (t : TypeId) (x : Operand) : Option SR := match pinned Γ x with
 | some r => match shapeAt P Γ r ⟨[], none⟩ with
   | some d => if tyOk P t d then some { main := { upd := [(bk dst, .cb r t), (tk dst, .bp (bk dst))], kw := [bk dst, tk dst], sets := [(bk dst, .unit), (tk dst, .unit)] } } else none
   | none => none
 | none => (take Γ x (vk b)).bind fun (d, m) =>
  if tyOk P t d && !hasDead d then some { pre := [m], main := { upd := [(bk dst, .box t d), (tk dst, .bp (bk dst)), (vk b, .none)], kw := [bk dst, tk dst], sets := [(bk dst, .k (vk b)), (tk dst, .unit)] } } else none

/-- Values one behind the other, each under a key of its own. -/
def takes (Γ : Nat → D) : List Operand → Nat → Option (List SD × List MS)
  | [], _ => some ([], [])
  | x :: xs, i => match take Γ x (vk i) with
    | some (d, m) => (takes (apm Γ m) xs (i + 1)).map fun (ds, ms) => (d :: ds, m :: ms)
    | none => none

def distinct : List Nat → Bool
  | [] => true
  | k :: ks => !ks.any (Nat.beq k) && distinct ks
def cBuildGo (b : Nat) (P : Program) (z : List Value) (parts : List Nat) (ds : List SD) : List Field → Nat → Nat → Option (SD × PX)
  | [], _, _ => some (.sn, .anil)
  | f :: fs, i, off =>
    let rest (d : SD) (x : PX) : Option (SD × PX) := if Nat.beq f.offset off && Nat.beq (P.cellsOf f.type) d.sz && tyOk P f.type d then (cBuildGo b P z parts ds fs (i + 1) (off + d.sz)).map fun (y, ys) => (.sc d y, .acons x ys) else none
    match parts.findIdx? (Nat.beq i) with
    | some j => match ds[j]? with
      | some d => if hasDead d then none else rest d (.k (vk (b + j)))
      | none => none
    | none => let d := zeroSD P 8 f.type
      if zeroR d ((z.drop off).take d.sz) then rest d (zeroPX d) else none
def drops (b n : Nat) : List (Nat × D) := (List.range n).map fun i => (vk (b + i), .none)
/-- What was taken stands yet. -/
def kept (Γ : Nat → D) (b : Nat) : List SD → Nat → Bool
  | [], _ => true
  | d :: ds, i => Γ (vk (b + i)) == .v d && kept Γ b ds (i + 1)
def cBuild (b : Nat) (P : Program) (Γ : Nat → D) (dst : Nat) (t : TypeId) (parts : Array (Nat × Operand)) : Option SR := match P.underlying t, (P.info? t).bind (·.zero) with
  | some (.struct fs), some z => match takes Γ (parts.toList.map (·.2)) b with
    | some (ds, ms) => match cBuildGo b P z.cells.toList (parts.toList.map (·.1)) ds fs.toList 0 0 with
      | some (d, x) => if Nat.beq z.cells.size d.sz && distinct (parts.toList.map (·.1)) && (parts.toList.map (·.1)).all (fun i => Nat.blt i fs.size) && kept (ms.foldl apm Γ) b ds 0 then some { pre := ms, main := { upd := (tk dst, .v d) :: drops b ds.length, kw := [tk dst], sets := [(tk dst, x)] } } else none
      | none => none
    | none => none
  | _, _ => none

def inOrder : List (Nat × Operand) → Nat → Bool
  | [], _ => true
  | (i, _) :: l, j => Nat.beq i j && inOrder l (j + 1)
def listPX : Nat → Nat → PX
  | 0, _ => .lnil
  | n + 1, i => .lcons (.k (vk i)) (listPX n (i + 1))
def cBuildSlice (b : Nat) (P : Program) (Γ : Nat → D) (dst : Nat) (t : TypeId) (n : Nat) (parts : Array (Nat × Operand)) : Option SR := match P.underlying t with
  | some (.slice e) => if !inOrder parts.toList 0 || !Nat.beq parts.size n then none else match takes Γ (parts.toList.map (·.2)) b with
    | some (ds, ms) =>
      let m := if hasSl P 8 e then (if ds.all fun d => coe d (el P true e) then some true else if ds.all fun d => coe d (el P false e) then some false else none) else if ds.all fun d => coe d (el P false e) then some false else none
      match m with
      | some m => if Nat.beq (P.cellsOf e) (el P m e).sz && !Nat.beq (P.cellsOf e) 0 && Nat.ble (n * P.cellsOf e) 16777216 && kept (ms.foldl apm Γ) b ds 0 && ((P.info? e).bind (·.zero)).isSome && !hasDead (el P m e) then some { pre := ms, main := { upd := (tk dst, .v (.own e m)) :: drops b ds.length, kw := [tk dst], sets := [(tk dst, listPX ds.length b)] } } else none
      | none => none
    | none => none
  | _ => none

def cMakeSlice (P : Program) (Γ : Nat → D) (dst : Nat) (t : TypeId) (l c : Operand) : Option SR := match P.underlying t with
  | some (.slice e) => match intOf Γ l, intOf Γ c, zeroOf P e with
    | some (.i64, a), some (.i64, b), some (z, zx) =>
      let m := hasSl P 8 e
      if coe z (el P m e) && Nat.beq (P.cellsOf e) (el P m e).sz && !Nat.beq (P.cellsOf e) 0 && !Nat.beq (P.bytesOf e) 0 then
        some { mk1 dst (.v (.own e m)) (.rep a zx) with chk := [.cmp .geq a (.int 0), .cmp .leq a b, .cmp .leq b (.int (most P e))] }
      else none
    | _, _, _ => none
  | _ => none

/-- Nothing lies behind it. -/
def flatS : SD → Bool
  | .fp _ | .bor _ | .own _ _ | .dead _ | .mp _ | .sb _ => false
  | .sc d ds => flatS d && flatS ds
  | _ => true
def sameTwo (ts : Array TypeId) : Option TypeId := match ts.toList with
  | [t, u] => if Nat.beq t u then some t else none
  | _ => none
def apGood (P : Program) (e : TypeId) (m : Bool) : Bool := Nat.beq (P.cellsOf e) (el P m e).sz && !Nat.beq (P.cellsOf e) 0 && !Nat.beq (P.bytesOf e) 0 && !hasDead (el P m e) && (match (P.info? e).bind (·.zero) with
  | some z => Nat.beq z.cells.size (P.cellsOf e)
  | none => false)
def apOwn0 (d0 : SD) (e : TypeId) (m : Bool) : Bool := match d0 with
  | .nl => true
  | .own e0 m' => Nat.beq e0 e && m == m'
  | _ => false
def apM (d0 : SD) : Bool := match d0 with
  | .own _ m => m
  | _ => false
def apMv (Γ : Nat → D) (x : Operand) (k : Nat) : Option (SD × MS) := match x with
  | .tmp t => match Γ (tk t) with
    | .v (.own _ _) => take Γ x k
    | _ => none
  | _ => none
def apFin (b : Nat) (P : Program) (e : TypeId) (dst : Nat) (m0 : MS) (d : SD) (pre : List MS) (y : PX) : SR :=
  { chk := [.fit (.k (vk b)) y (most P e)], pre := m0 :: pre, main := { upd := [(tk dst, .v d), (vk b, .none), (vk (b + 1), .none)], kw := [tk dst], sets := [(tk dst, .app (.k (vk b)) y)] } }
def cAppend (b : Nat) (P : Program) (Γ : Nat → D) (dst : Nat) (ts : Array TypeId) (s x : Operand) : Option SR := match (sameTwo ts).bind P.underlying, take Γ s (vk b) with
  | some (.slice e), some (d0, m0) => match apMv (apm Γ m0) x (vk (b + 1)) with
    | some (.own e1 m, m1) => if Nat.beq e1 e && apOwn0 d0 e m && apGood P e m && apm (apm Γ m0) m1 (vk b) == .v d0 then some (apFin b P e dst m0 (.own e m) [m1] (.k (vk (b + 1)))) else none
    | some _ => none
    | none => match lend P (apm Γ m0) x with
      | some (.bor e1, y) => if Nat.beq e1 e && apOwn0 d0 e (apM d0) && apGood P e (apM d0) && (flatS (el P (apM d0) e) || (el P (apM d0) e).plain && (lendKeys (apm Γ m0) x).isEmpty) then some (apFin b P e dst m0 (.own e (apM d0)) [] y) else none
      | some (.nl, _) => if apOwn0 d0 e (apM d0) && apGood P e (apM d0) then some (apFin b P e dst m0 d0 [] .lnil) else none
      | _ => none
  | _, _ => none

/-- Behind bytes of one's own, a string's; bytes of a string. -/
def cAppendS (b : Nat) (P : Program) (Γ : Nat → D) (dst : Nat) (ts : Array TypeId) (s x : Operand) : Option SR := match ts.toList with
  | [t, u] => match P.underlying t, P.underlying u, take Γ s (vk b) with
    | some (.slice e), some .string, some (d0, m0) => match plainOf (apm Γ m0) x with
      | some (.str, y) => if apGood P e false && decide (el P false e = .int .u8) then
          (if d0 = .sb e then some (apFin b P e dst m0 (.sb e) [] (.s2b y)) else if apOwn0 d0 e false then some (apFin b P e dst m0 (.own e false) [] (.s2b y)) else none)
        else none
      | _ => none
    | _, _, _ => none
  | _ => none
/-- Behind an element of an owned row, to be stored there again. -/
def cAppE (P : Program) (Γ : Nat → D) (dst : Nat) (ts : Array TypeId) (s x : Operand) : Option SR := match (sameTwo ts).bind P.underlying, s, lend P Γ x with
  | some (.slice e), .tmp t, some (.bor e1, y) => match Γ (tk t) with
    | .view o π => if π.post.isNone then none else match shapeAt P Γ o π with
      | some (.own e2 m) => match el P m e with
        | .int _ => if Nat.beq e1 e && Nat.beq e2 e && apGood P e m && !Nat.beq o (tk dst) then
            some { chk := [.fit (getPX o π (.k (tk t))) y (most P e)], main := { upd := [(tk dst, .ap o π), (o, Γ o)], kw := [tk dst], so := [o], sets := [(tk dst, .acons (.k (tk t)) (.acons (.app (getPX o π (.k (tk t))) y) .anil))] } }
          else none
        | _ => none
      | _ => none
    | _ => none
  | _, _, _ => none
def cStoreE (P : Program) (Γ : Nat → D) (t : TypeId) (a x : Operand) : Option SR := match a, x with
  | .tmp p, .tmp q => match Γ (tk q), Γ (tk p) with
    | .ap o π, .ptr o' π' => if Nat.beq o o' && decide (π = π') && !Nat.beq o (tk q) && π.post.isSome then match shapeAt P Γ o π with
      | some (.own e m) => if tyOk P t (.own e m) then
          some { chk := [.cmp .eql (.k (tk p)) (.get (.k (tk q)) [0])], main := { upd := [(o, Γ o), (tk q, .none)], so := [o], sets := [(o, putPX o π (.k (tk p)) (.get (.k (tk q)) [1]))] } }
        else none
      | _ => none
      else none
    | _, _ => none
  | _, _ => none
def isS2B (P : Program) (s t : TypeId) : Bool := match P.underlying s, P.underlying t with
  | some .string, some (.slice _) => true
  | _, _ => false
def cS2B (P : Program) (Γ : Nat → D) (dst : Nat) (s t : TypeId) (x : Operand) : Option SR := match P.underlying s, P.underlying t with
  | some .string, some (.slice e) => match P.underlying e, plainOf Γ x with
    | some (.int .u8), some (.str, y) => if decide (sdOf P e = .int .u8) then some { mk1 dst (.v (.sb e)) (.s2b y) with chk := [.cmp .leq (.slen y) (.int 140737488355328)] } else none
    | _, _ => none
  | _, _ => none

def cCopy (b : Nat) (P : Program) (Γ : Nat → D) (dst : Nat) (ts : Array TypeId) (d s : Operand) : Option SR := match (sameTwo ts).bind P.underlying, d, lend P Γ s with
  | some (.slice e), .tmp p, some (.bor e', y) => match Γ (tk p) with
    | .sl o π => match shapeAt P Γ o ⟨π, none⟩ with
      | some (.own e2 m) => match el P m e with
        | .int _ => if Nat.beq e e' && Nat.beq e e2 && !Nat.beq o (vk b) && Nat.beq (P.cellsOf e) 1 then
            some { pre := [{ upd := [(o, Γ o), (vk b, .none)], so := [o], sets := [(o, .put (.k o) π (.splice (.get (.k o) π) (.get (.k (tk p)) [0]) (.get (.k (tk p)) [1]) y))] }], main := { upd := [(tk dst, .none)], kw := [tk dst], sets := [(tk dst, .unit)] } }
          else none
        | _ => none
      | _ => none
    | _ => none
  | _, _, _ => none

/-- Maps from whole numbers to truth values (true) or whole numbers, with their zeros. -/
def mapKind (P : Program) (t : TypeId) : Option Bool := match P.underlying t with
  | some (.map kt vt) => match P.underlying kt, P.underlying vt, (P.info? vt).bind (·.zero) with
    | some (.int .i64), some .bool, some (.bool false) => some true
    | some (.int .i64), some (.int .i64), some (.int .i64 0) => some false
    | _, _, _ => none
  | _ => none
def cMakeMap (P : Program) (dst : Nat) (t : TypeId) (rsv : Option Operand) : Option SR := match mapKind P t, rsv with
  | some vb, none => some (mk1 dst (.v (.mp vb)) .lnil)
  | _, _ => none
/-- The root and the place of a map that is seen. -/
def mapOf (Γ : Nat → D) (m : Operand) : Option (Nat × List Nat × Bool) := match m with
  | .tmp t => match Γ (tk t) with
    | .view o ⟨π, none⟩ => match (rootSD Γ o).bind (·.get π) with
      | some (.mp vb) => some (o, π, vb)
      | _ => none
    | _ => none
  | _ => none
def mapEl (vb : Bool) : SD := if vb then .bool else .int .i64
def mapZ (vb : Bool) : PX := if vb then .bool false else .int 0
def cLookup (P : Program) (Γ : Nat → D) (dst : Nat) (t : TypeId) (m x : Operand) (ok : Bool) : Option SR := match mapKind P t, mapOf Γ m, intOf Γ x with
  | some vb, some (o, π, vb'), some (.i64, k) => if vb == vb' && !ok then some (mk1 dst (.v (mapEl vb)) (.mget (.get (.k o) π) k (mapZ vb))) else none
  | _, _, _ => none
def cMapUpd (b : Nat) (P : Program) (Γ : Nat → D) (t : TypeId) (m x y : Operand) : Option SR := match mapKind P t, mapOf Γ m, intOf Γ x, plainOf Γ y with
  | some vb, some (o, π, vb'), some (.i64, k), some (d, v) => if vb == vb' && d == mapEl vb && !Nat.beq o (vk b) then
      some { main := { upd := [(o, Γ o), (vk b, .none)], so := [o], sets := [(o, .put (.k o) π (.mset (.get (.k o) π) k v))] } }
    else none
  | _, _, _, _ => none

def tmpKeys : List Operand → Option (List Nat)
  | [] => some []
  | .tmp t :: xs => (tmpKeys xs).map fun l => tk t :: l
  | _ => none

def cMakeFunc (Γ : Nat → D) (dst : Nat) (f : Fn) (first caps : Array Operand) : Option SR := match f, first.isEmpty, tmpKeys caps.toList with
  | .func g, true, some ks => if ks.any (Nat.beq (tk dst)) || !Nat.blt g 4096 then none else some (mk1 dst (.clo g ks) .unit)
  | _, _, _ => none

def cNil (Γ : Nat → D) (dst : Nat) (x : Operand) : Option SR := match x with
  | .tmp t => match Γ (tk t) with
    | .bp _ | .ptr _ _ | .rp _ | .cptr _ _ _ _ => cMove Γ dst x
    | .v (.fp t') => some { mk1 dst (.v (.fp t')) (.k (tk t)) with chk := nonNil (tk t) }
    | _ => none
  | _ => none

def cExtract (Γ : Nat → D) (dst : Nat) (x : Operand) (i : Nat) : Option SR := match x with
  | .tmp t => match Γ (tk t) with
    | .tup ks => match ks[i]? with
      | some k => if Nat.beq k (tk dst) then none else match Γ k with
        | .v d => if d.plain then some (mk1 dst (.v d) (.k k)) else some (mk1 dst (.view k ⟨[], none⟩) .unit)
        | _ => none
      | none => none
    | _ => none
  | _ => none

/-- What an operand is where the guard (g, b) holds. -/
def under (Γ : Nat → D) (g : Nat) (b : Bool) (k : Nat) : D := match Γ k with
  | .gv g' b' d => if Nat.beq g g' && b == b' then d else .gv g' b' d
  | d => d

def cPick (Γ : Nat → D) (dst : Nat) (c x y : Operand) : Option SR := match c with
  | .tmp t => match Γ (tk t), plainOf (under Γ (tk t) true) x, plainOf (under Γ (tk t) false) y with
    | .v .bool, some (d1, a), some (d2, b) => if d1 = d2 then some (mk1 dst (.v d1) (.ite (.k (tk t)) a b)) else none
    | _, _, _ => none
  | _ => none

/-- What is handed on comes out of an operand, or from under a key that a closure caught. -/
inductive Src where
  | op (x : Operand)
  | key (k : Nat)
  deriving Inhabited
def srcD (Γ : Nat → D) : Src → D
  | .op (.tmp t) => Γ (tk t)
  | .key k => Γ k
  | _ => .none
def srcPX : Src → PX
  | .op (.tmp t) => .k (tk t)
  | .key k => .k k
  | _ => .unit

/-- Numbers: a parameter's is its place; what a closure at i caught has capN i, capN i + 1, .. -/
def capN (i : Nat) : Nat := 2000 + 16 * i
def flatC : List CM → Nat → List (Nat × PM)
  | [], _ => []
  | .rp d :: cs, n => (n, .rp d) :: flatC cs (n + 1)
  | .ref t d d' :: cs, n => (n, .ref t d d') :: flatC cs (n + 1)
def flatP : List PM → Nat → List (Nat × PM)
  | [], _ => []
  | .clo _ cs :: ps, i => flatC cs (capN i) ++ flatP ps (i + 1)
  | p :: ps, i => (i, p) :: flatP ps (i + 1)
/-- What a function is, that is handed on: its number, the keys that it caught. -/
def cloOf (Γ : Nat → D) : Src → Option (FuncId × List Nat)
  | .op (.func g) => some (g, [])
  | s => match srcD Γ s with
    | .clo g ks => some (g, ks)
    | _ => none
def flatS0 (Γ : Nat → D) : List PM → List Src → Option (List Src)
  | [], [] => some []
  | .clo f cs :: ps, s :: ss => match cloOf Γ s, flatS0 Γ ps ss with
    | some (g, ks), some l => if Nat.beq (f % 4096) g && Nat.beq ks.length cs.length && ks.all (fun k => !Nat.beq (k % 64) 63) && Nat.ble cs.length 16 then some (ks.map .key ++ l) else none
    | _, _ => none
  | _ :: ps, s :: ss => (flatS0 Γ ps ss).map fun l => s :: l
  | _, _ => none

/-- An argument: its tree; what it takes; what is lent to be read; what is lent to be written (the root, what is known of it then, where in it). -/
structure AR where
  arg : PX
  own : List Nat := []
  lent : List Nat := []
  root : Option (Nat × D × Option (Pth × PX)) := none
  soft : Bool := false
  deriving Inhabited

/-- What it takes or is lent to be written. -/
def AR.keys (a : AR) : List Nat := (match a.root with
  | some (o, _, _) => [o]
  | none => []) ++ a.own
def keyOk : Src → Bool
  | .key k => !Nat.beq (k % 64) 63
  | _ => true
/-- All that is taken. -/
def takeAs (Γ : Nat → D) (b : Nat) : List ((Nat × PM) × Src) → Option (List MS)
  | [] => some []
  | ((m, .mv d), .op x) :: l => match take Γ x (vk (b + m)) with
    | some (_, ms) => (takeAs (apm Γ ms) b l).map fun r => ms :: r
    | none => none
  | ((_, .mv _), _) :: _ => none
  | _ :: l => takeAs Γ b l

/-- A pointer that is handed on to be read. -/
def cRp (P : Program) (Γ : Nat → D) (d : SD) (s : Src) : Option AR := match srcD Γ s with
  | .rp d' => if coe d' d then some { arg := srcPX s } else none
  | .bp o => match Γ o with
    | .box _ x => if coe x.ro d then some { arg := .get (.k o) [], lent := [o] } else none
    | _ => none
  | .ptr o π => match shapeAt P Γ o π with
    | some x => if coe x.ro d then some { arg := getPX o π (srcPX s), lent := [o] } else none
    | none => none
  | _ => none
def cArg (P : Program) (Γ : Nat → D) (b m : Nat) : PM → Src → Option AR
  | .ro d, .op x => match lend P Γ x with
    | some (d', a) => if coe d' d then some { arg := a, lent := lendKeys Γ x } else none
    | none => none
  | .rp d, s => cRp P Γ d s
  | .ref t d d', s => match srcD Γ s with
    | .bp o => match Γ o with
      | .box t' x => if Nat.beq t t' && coe x d then some { arg := .k o, root := some (o, .box t d', none) } else none
      | _ => none
    | _ => none
  | .mv d, .op _ => match Γ (vk (b + m)) with
    | .v d' => if coe d' d then some { arg := .k (vk (b + m)), own := [vk (b + m)] } else none
    | _ => none
  | .mut d, .op (.tmp p) => match Γ (tk p) with
    | .v d' => if d' = d then some { arg := .k (tk p), root := some (tk p, .v d', none), soft := true } else none
    | .view o π => if shapeAt P Γ o π = some d then some { arg := getPX o π (.k (tk p)), root := some (o, Γ o, some (π, .k (tk p))), soft := true } else none
    | _ => none
  | _, _ => none
def cArgs (P : Program) (Γ : Nat → D) (b : Nat) : List ((Nat × PM) × Src) → Option (List AR)
  | [] => some []
  | ((m, p), s) :: l => match cArg P Γ b m p s, cArgs P Γ b l with
    | some a, some r => some (a :: r)
    | _, _ => none

/-- Nothing that is only read lies in it. -/
def noB (P : Program) : SD → Bool
  | .bor _ | .fp _ => false
  | .own e m => (m || !hasSl P 8 e) && (inPt e && ptOk P)
  | .sc a b => noB P a && noB P b
  | _ => true
def RM.sd : RM → SD
  | .v d | .bx _ d => d
def outOk (P : Program) : PM → Bool
  | .ref _ _ d' => noB P d'
  | .mut d => noB P d
  | _ => true
def outs : List AR → Nat → List (Nat × PX)
  | [], _ => []
  | a :: l, i => match a.root with
    | none => outs l i
    | some (o, _, none) => (o, .res i) :: outs l (i + 1)
    | some (o, _, some (π, dyn)) => (o, putPX o π dyn (.res i)) :: outs l (i + 1)
def rootUpd : List AR → List (Nat × D)
  | [] => []
  | a :: l => match a.root with
    | none => rootUpd l
    | some (o, d, _) => (o, d) :: rootUpd l
def softs (l : List AR) : List Nat := l.filterMap fun a => if a.soft then a.root.map (·.1) else none
def resKeys (dst : Nat) : List RM → Nat → List (Nat × D × PX)
  | [], _ => []
  | .v d :: ds, j => (ek dst j, .v d, .res j) :: resKeys dst ds (j + 1)
  | .bx _ _ :: ds, j => (ek dst j, .none, .unit) :: resKeys dst ds (j + 1)

/-- What a slot takes of results. -/
def cResults (dst : Option Nat) (rs : List RM) : List (Nat × D × PX) := match dst, rs with
  | none, _ => []
  | some d, [] => [(tk d, .none, .unit)]
  | some d, [.v r] => [(tk d, .v r, .res 0)]
  | some d, [.bx t r] => [(tk d, .bp (bk d), .unit), (bk d, .box t r, .res 0)]
  | some d, rs => (tk d, .tup ((List.range rs.length).map fun j => ek d j), .unit) :: resKeys d rs 0

def bodyOk (P : Program) (f : FuncId) : Bool := match P.funcs[f % 4096]? with
  | some fn => fn.body.isSome && fn.name != "runtime.NumGoroutine"
  | none => false
def cCall1 (b : Nat) (P : Program) (s : Sig) (Γ : Nat → D) (dst : Option Nat) (f : FuncId) (args : List Src) : Option SR := match flatS0 Γ s.ps args with
  | none => none
  | some ss =>
    let es := (flatP s.ps 0).zip ss
    match takeAs Γ b es with
    | none => none
    | some pre =>
      let Γ1 := pre.foldl apm Γ
      match cArgs P Γ1 b es with
      | none => none
      | some as =>
        let res := cResults dst s.rs
        let own := as.flatMap (·.own)
        let lent := as.flatMap (·.lent)
        let roots := rootUpd as
        let keys := as.flatMap AR.keys
        if distinct keys && args.all keyOk && lent.all (fun k => !mem k keys) && (roots.map (·.1)).all (fun k => !mem k (res.map (·.1)) && (Γ1 k).isRoot) && (lent.isEmpty || (s.rs.all (fun r => noB P r.sd) && (flatP s.ps 0).all fun q => outOk P q.2)) && bodyOk P f &&
            Nat.blt s.ps.length 63 && Nat.beq ss.length (flatP s.ps 0).length && Nat.blt s.rs.length 48 && distinct ((flatP s.ps 0).map (·.1)) && s.ps.all (fun p => match p with
              | .clo _ cs => Nat.ble cs.length 16
              | _ => true) then
          some { pre := pre, call := some (f, as.map (·.arg)), main := { upd := res.map (fun x => (x.1, x.2.1)) ++ (roots ++ own.map fun k => (k, .none)), kw := res.map (·.1), so := softs as, sets := res.map (fun x => (x.1, x.2.2)) ++ outs as s.rs.length } }
        else none

/-- Kinds of one function: f, f + 4096, .. -/
def cCall (j b : Nat) (P : Program) (sg : FuncId → Option Sig) (Γ : Nat → D) (dst : Option Nat) (f : FuncId) (args : List Src) : Option SR := match sg (f + 4096 * j) with
  | some s => cCall1 b P s Γ dst (f + 4096 * j) args
  | none => none

/-- One operation; a call is of the kind j. -/
def cop (j b : Nat) (P : Program) (sg : FuncId → Option Sig) (Γ : Nat → D) (o : Oper) : Option SR := match o.op, o.dst with
  | .move x, some d => cMove Γ d x
  | .assign x, some d => cAssign b Γ d x
  | .pick c a b, some d => cPick Γ d c a b
  | .alloc t, some d => cAlloc P d t
  | .box t x, some d => match cBox b P Γ d t x with
    | some r => some r
    | none => cBoxE Γ d t x
  | .build t ps, some d => match cBuild b P Γ d t ps with
    | some r => some r
    | none => cBuildE P Γ d t ps.toList
  | .makeInterface t x, some d => cIface P Γ d t x
  | .panic _, none => some cPanic
  | .buildSlice t n ps, some d => cBuildSlice b P Γ d t n ps
  | .load t a, some d => cLoad P Γ d t a
  | .store t a x, none => match cStoreE P Γ t a x with
    | some r => some r
    | none => match cStore b P Γ t a x with
      | some r => some r
      | none => cStoreR P Γ t a x
  | .nilCheck x, some d => cNil Γ d x
  | .binOp op t x y _, some d => if isNilC y then cIsNil P Γ d op t x else if isNilP y then cNilP P Γ d op t x else cBin P Γ d op t x y
  | .unOp op _ x, some d => cUn Γ d op x
  | .convert s t x, some d => if isS2B P s t then cS2B P Γ d s t x else cConvert P Γ d s t x
  | .makeFunc f a c, some d => cMakeFunc Γ d f a c
  | .makeSlice t l c, some d => cMakeSlice P Γ d t l c
  | .makeMap t rsv, some d => cMakeMap P d t rsv
  | .lookup t m x ok, some d => cLookup P Γ d t m x ok
  | .mapUpdate t m x y, none => cMapUpd b P Γ t m x y
  | .slice t x lo hi mx, some d => cSlice P Γ d t x lo hi mx
  | .fieldAddr t x f, some d => cFieldAddr P Γ d t x f
  | .field t x f, some d => cField P Γ d t x f
  | .indexAddr t x i, some d => cIndexAddr j P Γ d t x i
  | .index t x i, some d => cIndex P Γ d t x i
  | .extract x i, some d => cExtract Γ d x i
  | .call c, dst => match c.callee, c.args.toList with
    | .builtin .len, [x] => match dst with
      | some d => ((c.argTypes[0]?.bind (isStrTy P)).bind (lenPX P Γ x)).map fun n => mk1 d (.v (.int .i64)) n
      | none => none
    | .builtin .append, [s, x] => match dst with
      | some d => match cAppE P Γ d c.argTypes s x with
        | some r => some r
        | none => if (sameTwo c.argTypes).isSome then cAppend b P Γ d c.argTypes s x else cAppendS b P Γ d c.argTypes s x
      | none => none
    | .builtin .copy, [t, x] => match dst with
      | some d => cCopy b P Γ d c.argTypes t x
      | none => none
    | .builtin .min, [x, y] => match dst with
      | some d => cMin Γ d x y
      | none => none
    | .value (.func f), args => if Nat.blt f 4096 then cCall j b P sg Γ dst f (args.map .op) else none
    | .value (.tmp t), args => match Γ (tk t) with
      | .clo f ks => if Nat.blt f 4096 then cCall j b P sg Γ dst f (args.map .op ++ ks.map .key) else none
      | _ => none
    | _, _ => none
  | _, _ => none

end Go.Rsc
