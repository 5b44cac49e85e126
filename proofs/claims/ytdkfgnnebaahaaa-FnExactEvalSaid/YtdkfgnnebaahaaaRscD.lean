/- The compiler, over: regions, code and functions. Definitions alone; no conditions. -/
import Derived.Test.YtdkfgnnebaahaaaRscC
import Derived.Lib.Join
import Derived.Lib.AtoiAll
import Derived.Lib.Bytealg
import Derived.Lib.SlicesCompact
namespace Go.Rsc
open Go.RowKit
set_option linter.unusedVariables false

/-- What is known of all keys, as a list. -/
abbrev GL := List (Nat × D)
/-- An operation of a region: its guard, what it does, the keys that it looks at and writes, the boxes that it moves, what is said of what it looks at and says anew. -/
structure GS where
  g : Option (Nat × Bool)
  dst : Option Nat
  r : SR
  rd : List Nat
  wr : List Nat
  kw : List Nat
  hs : List D
  kn : GL
  deriving Inhabited

noncomputable def GS.run (I : Interp) (s : GS) (σ : Nat → PV) : Option (Nat → PV) := match s.g with
  | none => s.r.run I σ
  | some (g, b) => if (σ g).isB b then s.r.run I σ else match s.dst with
    | some d => some (setAll σ [] [(tk d, .unit)])
    | none => some σ

/-- What a guarded operation says anew. -/
def guardUpd (g : Nat) (b : Bool) (d : Option Nat) : List (Nat × D) → List (Nat × D)
  | [] => []
  | (k, x) :: l => (if d.any (fun d => Nat.beq k (tk d)) then (k, .gv g b x) else (k, x)) :: guardUpd g b d l

def opKeys (o : Oper) : List Nat := o.op.operands.toList.filterMap fun
  | .tmp t => some (tk t)
  | _ => none
/-- All that an operation may look at: what it names, and what that hangs on (of a tuple, the one element that is taken out). -/
def rdKeys (Γ : Nat → D) (o : Oper) : List Nat := match o.op with
  | .extract (.tmp t) i => match Γ (tk t) with
    | .tup ks => tk t :: (match ks[i]? with
      | some k => [k]
      | none => [])
    | _ => [tk t]
  | .move _ | .nilCheck _ =>
    let ks := opKeys o
    ks ++ ks.flatMap fun k => (Γ k).roots ++ (Γ k).deep
  | _ =>
    let ks := opKeys o
    let hang (ks : List Nat) : List Nat := ks.flatMap fun k => (Γ k).roots ++ (Γ k).deep ++ (match Γ k with
      | .tup _ => []
      | d => d.weak)
    ks ++ hang ks ++ hang (hang ks)

def PX.keys : PX → List Nat
  | .k key => [key]
  | .lcons a b | .acons a b | .at a b | .sat a b | .take a b | .app a b | .rep a b | .ar _ _ a b | .cmp _ a b | .scmp _ a b | .bcmp _ a b | .sadd a b | .fit a b _ | .minl a b | .dif a b => a.keys ++ b.keys
  | .get a _ | .urec a | .len a | .slen a | .not a | .wrap _ a | .b2s a | .s2b a => a.keys
  | .put a _ b => a.keys ++ b.keys
  | .set a i b | .sub a i b | .ssub a i b | .ite a i b | .mget a i b | .mset a i b => a.keys ++ i.keys ++ b.keys
  | .splice a lo hi b => a.keys ++ lo.keys ++ hi.keys ++ b.keys
  | _ => []

def updKeys (U : List (Nat × D)) : List Nat := U.map (·.1)
def SR.wr (r : SR) : List Nat := r.pre.flatMap (fun m => updKeys m.upd) ++ updKeys r.main.upd
def setKeysOk (m : MS) : Bool := m.sets.all fun x => (look m.upd x.1).isSome
def pxIn (ks : List Nat) (x : PX) : Bool := x.keys.all fun k => ks.any (Nat.beq k)
def SR.ok (r : SR) (rd : List Nat) : Bool :=
  let ks := rd ++ r.wr
  r.pre.all (fun m => setKeysOk m && m.sets.all fun x => pxIn ks x.2) && setKeysOk r.main && r.main.sets.all (fun x => pxIn ks x.2) && r.chk.all (pxIn ks) && (match r.call with
    | none => true
    | some (_, as_) => as_.all (pxIn ks))

def gf (G : GL) (k : Nat) : D := (look G k).getD .none
/-- A function on keys, written out on some. -/
def tab (Γ : Nat → D) : List Nat → GL
  | [] => []
  | k :: ks => match Γ k with
    | .none => tab Γ ks
    | d => (k, d) :: tab Γ ks

/-- What an operation under a guard may say. -/
def gcond (Γ : Nat → D) (g : Nat) (o : Oper) (r : SR) : Bool := r.pre.isEmpty && (match Γ g with
  | .v .bool | .gv _ _ (.v .bool) => true
  | _ => false) && r.main.upd.all (fun x => (o.dst.any (fun d => Nat.beq x.1 (tk d)) && x.2.roots.all (fun q => !o.dst.any (fun d => Nat.beq q (tk d)) && ((Γ q).isRoot || (look r.main.upd q).isSome))) || (Γ x.1 == x.2 && (x.2.isRoot && !o.dst.any (fun d => Nat.beq x.1 (tk d))))) &&
  r.main.so.all (fun q => !o.dst.any (fun d => Nat.beq q (tk d))) && !(look r.main.upd g).isSome && (match o.dst with
    | some d => (look r.main.upd (tk d)).isSome && mem (tk d) r.main.kw
    | none => true)
/-- Rows are owned yet; what lies in their elements is only read. -/
def SD.lo : SD → SD
  | .own e _ => .own e false
  | .sc d ds => .sc d.lo ds.lo
  | d => d
/-- .. half of it. -/
def loOne (Γ : Nat → D) (x : Operand) : Option (List MS) := match x with
  | .tmp t => match Γ (tk t) with
    | .none => none
    | .v d => if d.lo = d then some [] else some [{ upd := [(tk t, .v d.lo)], sets := [] }]
    | .view o π => if Nat.beq o (tk t) || π.post.isSome then some [] else match Γ o with
      | .none => none
      | .v d => if d.lo = d then some [] else some [{ upd := [(tk t, .view o π), (o, .v d.lo)], sets := [] }]
      | _ => some []
    | _ => some []
  | _ => some []
/-- What an operand hangs on is frozen: from here on it is only read. -/
def fzOne (P : Program) (Γ : Nat → D) (x : Operand) : Option (List MS) := match x with
  | .tmp t => match Γ (tk t) with
    | .none => none
    | .v d => if d.plain then some [] else some [{ upd := [(tk t, .v d.ro)], sets := [] }]
    | .view o _ | .tr o _ | .sl o _ => if Nat.beq o (tk t) then some [] else match Γ o with
      | .none => none
      | .v d => (lend P Γ x).map fun (d', px) => [{ upd := [(tk t, .v d'), (o, .v d.ro)], sets := [(tk t, px)] }]
      | _ => some []
    | .bp o => match Γ o with
      | .none => none
      | .box ty d => if isFp ty && coe d.ro (sdOf P ty) && !Nat.beq o (tk t) then some [{ upd := [(tk t, .v (.fp ty)), (o, .none)], sets := [(tk t, .lcons (.k o) .lnil)] }] else some []
      | _ => some []
    | _ => some []
  | _ => some []
def fzMS (lo : Bool) (P : Program) : (Nat → D) → List Operand → Option (List MS)
  | _, [] => some []
  | Γ, x :: xs => match (if lo then loOne Γ x else fzOne P Γ x) with
    | none => none
    | some m => (fzMS lo P (m.foldl apm Γ) xs).map fun l => m ++ l
def copZ (lo : Bool) (j b : Nat) (P : Program) (sg : FuncId → Option Sig) (Γ : Nat → D) (o : Oper) : Option SR := match fzMS lo P Γ o.op.operands.toList with
  | some (m :: ms) => (cop j b P sg ((m :: ms).foldl apm Γ) o).map fun r => { r with pre := (m :: ms) ++ r.pre }
  | _ => none
/-- An operation (from 12 on: behind a freezing of what it hangs on; from 24 on: of half of it). -/
def copF (j b : Nat) (P : Program) (sg : FuncId → Option Sig) (Γ : Nat → D) (o : Oper) : Option SR := if Nat.blt j 12 then cop j b P sg Γ o else if Nat.blt j 24 then copZ false (j - 12) b P sg Γ o else copZ true (j - 24) b P sg Γ o

/-- An operation with its guard, at what is known. -/
def gopK (j i : Nat) (P : Program) (sg : FuncId → Option Sig) (ops : Array Oper) (Γ : Nat → D) (o : Oper) : Option (Option (Nat × Bool) × SR) := match o.guard with
  | none => (copF j (64 * i) P sg Γ o).map fun r => (none, r)
  | some (n, b) => match (ops[n]?).bind (·.dst) with
    | none => none
    | some t => match cop j (64 * i) P sg (under Γ (tk t) b) o with
      | some r => if gcond Γ (tk t) o r then some (some (tk t, b), { r with main := { r.main with upd := guardUpd (tk t) b o.dst r.main.upd } }) else none
      | none => none

def gopRd (ops : Array Oper) (Γ : Nat → D) (o : Oper) : List Nat := match o.guard with
  | none => rdKeys Γ o
  | some (n, b) => match (ops[n]?).bind (·.dst) with
    | none => []
    | some t => tk t :: rdKeys (under Γ (tk t) b) o
def SR.kw (r : SR) : List Nat := r.pre.flatMap (·.kw) ++ r.main.kw
def SR.upds (r : SR) : List (Nat × D) := r.pre.flatMap (·.upd) ++ r.main.upd
def gsOf (G : GL) (rd : List Nat) (o : Oper) (x : Option (Nat × Bool) × SR) : GS := { g := x.1, dst := o.dst, r := x.2, rd := rd, wr := x.2.wr, kw := x.2.kw, hs := G.map (·.2) ++ x.2.upds.map (·.2), kn := G }
/-- What is used later of an operation's operands is not lost. -/
def keepsAll (z : List Nat) (Γ : Nat → D) (o : Oper) (r : SR) : Bool := o.op.operands.all fun
  | .tmp t => !z.any (Nat.beq t) || Γ (tk t) == .none || !(apS Γ r (tk t) == .none)
  | _ => true
def pickK (z : List Nat) (P : Program) (sg : FuncId → Option Sig) (ops : Array Oper) (Γ : Nat → D) (i : Nat) (o : Oper) : Option (Option (Nat × Bool) × SR) :=
  match (List.range 36).findSome? fun j => match gopK j i P sg ops Γ o with
    | some x => if keepsAll z Γ o x.2 then some x else none
    | none => none with
  | some x => some x
  | none => (List.range 36).findSome? fun j => gopK j i P sg ops Γ o
def gop (z : List Nat) (P : Program) (sg : FuncId → Option Sig) (nt : Nat) (ops : Array Oper) (Γ : Nat → D) (i : Nat) (o : Oper) : Option GS := if o.dst.any (fun d => !Nat.blt d nt) then none else
  let rd := gopRd ops Γ o
  let G := tab Γ rd
  match pickK z P sg ops (gf G) i o with
  | some x => if x.2.ok rd then some (gsOf G rd o x) else none
  | none => none

/-- The temporaries that operations look at. -/
def usesOf (l : List Oper) : List Nat := l.flatMap fun o => o.op.operands.toList.filterMap fun
  | .tmp t => some t
  | _ => none
def regionGo (z : List Nat) (P : Program) (sg : FuncId → Option Sig) (nt : Nat) (ops : Array Oper) : List Oper → Nat → (Nat → D) → List GS → Option (List GS × (Nat → D))
  | [], _, Γ, acc => some (acc.reverse, Γ)
  | o :: l, i, Γ, acc => match gop (usesOf l ++ z) P sg nt ops Γ i o with
    | some s => regionGo z P sg nt ops l (i + 1) (apS Γ s.r) (s :: acc)
    | none => none

/-- What b looks at or says hangs on what a turns. -/
def hits (a b : GS) : Bool := b.hs.any fun d => d.roots.any (fun k => mem k a.wr) || d.deep.any (fun k => mem k a.wr) || d.weak.any (fun k => mem k a.kw)
def clash (a b : GS) : Bool := a.wr.any (fun k => mem k b.wr || mem k b.rd) || b.wr.any (fun k => mem k a.rd) || hits a b || hits b a

/-- What comes ahead of each operation, whatever the order. -/
def edgesOf (o : Oper) : List Nat := (o.after.toList.filter (Region.binds .any)).map (·.on)
def dedup : List Nat → List Nat
  | [] => []
  | k :: ks => if ks.any (Nat.beq k) then dedup ks else k :: dedup ks
def ancestors (ops : List Oper) : List (List Nat) := ops.foldl (fun acc o => acc ++ [dedup ((edgesOf o).flatMap fun e => e :: acc.getD e [])]) []
def ancOk (anc : List (List Nat)) (ops : List Oper) : Bool := (List.range ops.length).all fun i => match ops[i]? with
  | some o => (edgesOf o).all (fun e => Nat.blt e i) && (anc.getD i []).all fun j => (edgesOf o).any fun e => Nat.beq e j || mem j (anc.getD e [])
  | none => false
def forg (U : List (Nat × D)) (kw so : List Nat) (x : D) : Bool := x.roots.any (fun o => (look U o).isSome && !mem o so) || x.deep.any (fun o => (look U o).isSome) || x.weak.any (fun o => mem o kw)
def forgs (l : List MS) (x : D) : Bool := l.any fun m => forg m.upd m.kw m.so x
def SR.fgs (r : SR) (d : D) : Bool := forgs (r.pre ++ [r.main]) d
/-- b turns what a only names, and says the same of it. -/
def lo (a b : GS) : Bool := b.r.pre.isEmpty && !a.wr.any (fun k => mem k b.wr || mem k b.rd) && a.r.ok (a.rd.filter fun k => !mem k b.wr) && (match a.g with
  | some (g, _) => !mem g b.wr
  | none => true) && b.wr.all (fun k => !mem k a.rd || (match look b.r.main.upd k, look b.kn k with
  | some d, some d' => decide (d = d')
  | _, _ => false)) && a.hs.all (fun d => !b.r.fgs d) && b.hs.all (fun d => !a.r.fgs d)
def freeOk (ops : List Oper) (gs : List GS) : Bool :=
  let anc := ancestors ops
  ancOk anc ops && (List.range gs.length).all fun i => (List.range i).all fun j => mem j (anc.getD i []) || match gs[j]?, gs[i]? with
    | some a, some b => !clash a b || lo a b || lo b a
    | _, _ => false

def keysOf (G : GL) : List Nat := G.map (·.1)

inductive PC where
  | skip
  | reg (l : List GS)
  | seq (a b : PC)
  | join (a : PC) (ks : List Nat) (b : PC)
  | cond (c : PX) (a b : PC)
  | block (id : Nat) (ks : List Nat) (a : PC)
  | loop (ks : List Nat) (a : PC)
  | exit (id : Nat)
  | ret
  deriving Inhabited
/-- How many ways lead on. -/
def PC.ways : PC → Nat
  | .skip | .reg _ | .block _ _ _ => 1
  | .seq a b => if Nat.beq a.ways 0 then 0 else b.ways
  | .join _ _ b => b.ways
  | .cond _ a b => a.ways + b.ways
  | _ => 0

inductive Ex where
  | n
  | x (id : Nat)
  | r
  deriving DecidableEq, Repr, Inhabited

noncomputable def regRun (I : Interp) : List GS → (Nat → PV) → Option (Nat → PV)
  | [], σ => some σ
  | s :: l, σ => (s.run I σ).bind (regRun I l)

def cut (ks : List Nat) (σ : Nat → PV) : List PV := ks.map σ
def fillAt : List Nat → Nat → List PV → Nat → PV
  | [], _, _, _ => .unit
  | k :: ks, i, ps, j => if Nat.beq j k then ps.getD i .unit else fillAt ks (i + 1) ps j
def fill (ks : List Nat) (ps : List PV) (j : Nat) : PV := fillAt ks 0 ps j

def loopRun (body : (Nat → PV) → Option (Ex × (Nat → PV))) (ks : List Nat) : Nat → List PV → Option (Ex × (Nat → PV))
  | 0, _ => none
  | n + 1, ps => (body (fill ks ps)).bind fun (e, σ) => match e with
    | .n => loopRun body ks n (cut ks σ)
    | e => some (e, σ)

noncomputable def PC.run (I : Interp) (n : Nat) : PC → (Nat → PV) → Option (Ex × (Nat → PV))
  | .skip, σ => some (.n, σ)
  | .reg l, σ => (regRun I l σ).map fun σ => (.n, σ)
  | .seq a b, σ => (a.run I n σ).bind fun (e, σ) => match e with
    | .n => b.run I n σ
    | e => some (e, σ)
  | .join a ks b, σ => (a.run I n σ).bind fun (e, σ) => match e with
    | .n => b.run I n (fill ks (cut ks σ))
    | e => some (e, σ)
  | .cond c a b, σ => if (c.eval σ []).toBool then a.run I n σ else b.run I n σ
  | .block id ks a, σ => (a.run I n σ).map fun (e, σ) => if e = .x id ∨ e = .n then (.n, fill ks (cut ks σ)) else (e, σ)
  | .loop ks a, σ => loopRun (fun σ => a.run I n σ) ks n (cut ks σ)
  | .exit id, σ => some (.x id, σ)
  | .ret, σ => some (.r, σ)

structure Post where
  n : Option GL := none
  ex : List (Nat × GL) := []
  r : Option GL := none
  deriving Inhabited

def joinSD : SD → SD → Option SD
  | .sc a b, .sc c d => match joinSD a c, joinSD b d with
    | some x, some y => some (.sc x y)
    | _, _ => none
  | a, b => if coe a b then some b else if coe b a then some a else none
def joinD : D → D → D
  | .v a, .v b => match joinSD a b with
    | some d => .v d
    | none => match joinSD a.lo b.lo with
      | some d => .v d
      | none => match joinSD a.ro b.ro with
        | some d => .v d
        | none => .none
  | .box t a, .box u b => if Nat.beq t u then match joinSD a b with
    | some d => .box t d
    | none => match joinSD a.lo b.lo with
      | some d => .box t d
      | none => match joinSD a.ro b.ro with
        | some d => .box t d
        | none => .none
    else .none
  | a, b => if a = b then a else .none
/-- Of what is said of keys, what doesn't hang on what isn't said alike. -/
def stands (G : GL) (as_ : List GL) : GL := G.filter fun (k, d) => (d.roots ++ d.deep).all (fun o => as_.all fun A => gf A o == gf G o)
def joinGL (a b : GL) : GL :=
  let j := tab (fun k => joinD (gf a k) (gf b k)) (dedup (keysOf a))
  stands (stands j [a, b]) [a, b]
def joinO : Option GL → Option GL → Option GL
  | none, b => b
  | a, none => a
  | some a, some b => some (joinGL a b)
def joinX : List (Nat × GL) → Nat → GL → List (Nat × GL)
  | [], i, G => [(i, G)]
  | (j, H) :: l, i, G => if Nat.beq i j then (j, joinGL H G) :: l else (j, H) :: joinX l i G
def Post.join (a b : Post) : Post := { n := joinO a.n b.n, ex := b.ex.foldl (fun l x => joinX l x.1 x.2) a.ex, r := joinO a.r b.r }

/-- All that H says holds where G does. -/
def coeD : D → D → Bool
  | .v a, .v b => coe a b
  | .box t a, .box u b => Nat.beq t u && coe a b
  | a, b => a == b
def wk0 (G H : GL) : Bool := H.all fun (k, d) => coeD (gf G k) d && (d.roots ++ d.deep).all (fun o => gf G o == gf H o)
/-- What is frozen, wholly or half, so that it is alike. -/
def frz1 : D → D → Option D
  | .v a, .v b => if coe a b then none else if coe a.lo b then some (.v a.lo) else if coe a.ro b then some (.v a.ro) else none
  | .box t a, .box u b => if !Nat.beq t u || coe a b then none else if coe a.lo b then some (.box t a.lo) else if coe a.ro b then some (.box t a.ro) else none
  | _, _ => none
def frzKeys (G H : GL) : List (Nat × D) := G.filterMap fun x => (frz1 (gf G x.1) (gf H x.1)).map fun d => (x.1, d)
def frzG (G H : GL) : GL := match frzKeys G H with
  | [] => G
  | l => tab (l.foldl (fun Γ x => ap Γ [x] [] []) (gf G)) (keysOf G)
def wk (G H : GL) : Bool := wk0 (frzG G H) H
def wkO : Option GL → Option GL → Bool
  | none, _ => true
  | some G, some H => wk G H
  | _, _ => false
def wkP (a b : Post) : Bool := wkO a.n b.n && wkO a.r b.r && a.ex.all fun (i, G) => match b.ex.find? (fun y => Nat.beq y.1 i) with
  | some (_, H) => wk G H
  | none => false

def regReads (ops : List Oper) : List Nat × List Nat := ops.foldl (fun (rd, wr) o =>
  (rd ++ (o.op.operands.toList.filterMap fun | .tmp t => if wr.any (Nat.beq t) then none else some t | _ => none), match o.dst with | some d => d :: wr | none => wr)) ([], [])
/-- What is used later: behind this code, at the ends of blocks, at the end. -/
structure LV where
  n : List Nat := []
  ex : List (Nat × List Nat) := []
  r : List Nat := []
def minus (a b : List Nat) : List Nat := a.filter fun k => !b.any (Nat.beq k)
def LV.at : List (Nat × List Nat) → Nat → List Nat
  | [], _ => []
  | (j, l) :: ex, id => if Nat.beq id j then l else LV.at ex id
/-- What code uses of what was. -/
def lvC : Code → LV → List Nat
  | .skip, L | .label _, L => L.n
  | .region _ ops _, L => let (rd, wr) := regReads ops.toList; dedup (rd ++ minus L.n wr)
  | .seq a b, L => lvC a { L with n := lvC b L }
  | .cond c a b, L => dedup ((match c with | .tmp t => [t] | _ => []) ++ lvC a L ++ lvC b L)
  | .block id a, L => lvC a { L with ex := (id, L.n) :: L.ex }
  | .loop a, L => lvC a { L with n := lvC a { L with n := [] } }
  | .scope a, L => lvC a L
  | .exit id, L => LV.at L.ex id
  | .ret, L => L.r
  | _, _ => []

def isPk (k : Nat) : Bool := Nat.beq (k % 64) 62
def hang (G : GL) (ks : List Nat) : List Nat := dedup (ks ++ ks.flatMap fun k => (gf G k).roots ++ (gf G k).weak)
def restrict (live : List Nat) (G : GL) : GL :=
  let k0 := dedup ((keysOf G).filter isPk ++ live.map tk)
  let k1 := hang G (hang G k0)
  (tab (gf G) k1).filter fun (_, d) => match d with
    | .gv _ _ _ | .ptr _ _ | .ap _ _ => false
    | _ => true
/-- The keys whose trees a loop carries. -/
def carried : GL → List Nat
  | [] => []
  | (k, d) :: G => match d with
    | .v _ | .box _ _ | .rp _ | .tr _ _ | .sl _ _ | .ap _ _ | .eb _ | .ebx _ | .fb _ => k :: carried G
    | .view _ π | .ptr _ π => if π.post.isSome then k :: carried G else carried G
    | _ => carried G

def compReg (z : List Nat) (P : Program) (sg : FuncId → Option Sig) (nt : Nat) (ops : Array Oper) (draw : Bool) (G : GL) : Option (PC × Post) := match regionGo z P sg nt ops ops.toList 0 (gf G) [] with
  | some (gs, Γ) => if draw && !freeOk ops.toList gs then none else
    some (.reg gs, { n := some (tab Γ (dedup (gs.flatMap (·.wr) ++ keysOf G))) })
  | none => none

/-- Boxes that are handed back as shared pointers. -/
def retMS (P : Program) : (Nat → D) → List Nat → List MS
  | _, [] => []
  | Γ, t :: ts => match Γ (tk t) with
    | .bp _ => match fzOne P Γ (.tmp t) with
      | some m => m ++ retMS P (m.foldl apm Γ) ts
      | none => retMS P Γ ts
    | _ => retMS P Γ ts
def retGS (G : GL) (ms : List MS) : GS := { g := none, dst := none, r := { pre := ms, main := { upd := [], sets := [] } }, rd := [], wr := [], kw := [], hs := [], kn := [] }
def compRet (P : Program) (ts : List Nat) (G : GL) : PC × Post := match retMS P (gf G) ts with
  | [] => (.ret, { r := some G })
  | ms => (.seq (.reg [retGS G ms]) .ret, { r := some (tab (ms.foldl apm (gf G)) (dedup (ms.flatMap (fun m => updKeys m.upd) ++ keysOf G))) })
def noGv (G : GL) : Bool := G.all fun x => match x.2 with
  | .gv _ _ _ => false
  | _ => true
/-- What holds at a loop's head: weaker, until a round keeps it. -/
def loopGo (f : GL → Option (PC × Post)) : Nat → GL → Option (PC × Post)
  | 0, _ => none
  | n + 1, H => if !noGv H then none else match f H with
    | none => none
    | some (pa, qa) => match qa.n with
      | none => some (.loop (carried H) pa, { qa with n := none })
      | some B => if wk B H then some (.loop (carried H) pa, { qa with n := none }) else
        if wk H (joinGL H B) then loopGo f n (joinGL H B) else none

def comp (P : Program) (sg : FuncId → Option Sig) (nt : Nat) : Code → LV → GL → Option (PC × Post)
  | .skip, _, G | .label _, _, G => some (.skip, { n := some G })
  | .region _ ops draw, live, G => compReg live.n P sg nt ops draw G
  | .seq a b, live, G => match comp P sg nt a { live with n := lvC b live } G with
    | none => none
    | some (pa, qa) => match qa.n with
      | none => some (pa, qa)
      | some G1 =>
        let H := restrict (lvC b live) G1
        match (if Nat.ble pa.ways 1 then none else if wk G1 H && noGv H then comp P sg nt b live H else none) with
        | some (pb, qb) =>
          let q := Post.join { qa with n := none } qb
          if wkP { qa with n := none } q && wkP qb q then some (.join pa (carried H) pb, q) else none
        | none => match comp P sg nt b live G1 with
          | none => none
          | some (pb, qb) =>
            let q := Post.join { qa with n := none } qb
            if wkP { qa with n := none } q && wkP qb q then some (.seq pa pb, q) else none
  | .cond c a b, live, G => match plainOf (gf G) c, comp P sg nt a live G, comp P sg nt b live G with
    | some (.bool, px), some (pa, qa), some (pb, qb) =>
      let q := Post.join qa qb
      if wkP qa q && wkP qb q then some (.cond px pa pb, q) else none
    | _, _, _ => none
  | .block id a, live, G => match comp P sg nt a { live with ex := (id, live.n) :: live.ex } G with
    | none => none
    | some (pa, qa) => match qa.ex.find? (fun y => Nat.beq y.1 id) with
      | none => some (pa, qa)
      | some (_, H) => match joinO qa.n (some H) with
        | none => none
        | some n =>
          let n' := restrict live.n n
          if wkO qa.n (some n) && wk H n && wk n n' && noGv n' then some (.block id (carried n') pa, { qa with n := some n', ex := qa.ex.filter fun y => !Nat.beq y.1 id }) else none
  | .loop a, live, G =>
    let l := lvC (.loop a) live
    let H := restrict l G
    if wk G H then loopGo (fun H => comp P sg nt a { live with n := l } H) 4 H else none
  | .exit id, _, G => some (.exit id, { ex := [(id, G)] })
  | .ret, live, G => some (compRet P live.r G)
  | .scope a, live, G => comp P sg nt a live G
  | _, _, _ => none

/-! ### Functions -/
/-- What is known of a parameter: the pointer's or value's own key; the key of what is behind it. -/
def entryCaps : List CM → Nat → GL
  | [], _ => []
  | .ref t d _ :: ps, n => (pk n, .box t d) :: (hk n, .bp (pk n)) :: entryCaps ps (n + 1)
  | .rp d :: ps, n => (hk n, .rp d) :: entryCaps ps (n + 1)
def entry : List PM → Nat → GL
  | [], _ => []
  | .ro d :: ps, i | .mv d :: ps, i => (tk i, .v d) :: entry ps (i + 1)
  | .rp d :: ps, i => (tk i, .rp d) :: entry ps (i + 1)
  | .ref t d _ :: ps, i => (pk i, .box t d) :: (tk i, .bp (pk i)) :: entry ps (i + 1)
  | .mut d :: ps, i => (pk i, .v d) :: (tk i, .view (pk i) ⟨[], none⟩) :: entry ps (i + 1)
  | .clo f cs :: ps, i => (tk i, .clo (f % 4096) ((List.range cs.length).map fun j => hk (capN i + j))) :: entryCaps cs (capN i) ++ entry ps (i + 1)
/-- The keys under which arguments come. -/
def argCaps : List CM → Nat → List Nat
  | [], _ => []
  | .ref _ _ _ :: ps, n => pk n :: argCaps ps (n + 1)
  | .rp _ :: ps, n => hk n :: argCaps ps (n + 1)
def argKeys : List PM → Nat → List Nat
  | [], _ => []
  | .ro _ :: ps, i | .mv _ :: ps, i | .rp _ :: ps, i => tk i :: argKeys ps (i + 1)
  | .ref _ _ _ :: ps, i | .mut _ :: ps, i => pk i :: argKeys ps (i + 1)
  | .clo _ cs :: ps, i => argCaps cs (capN i) ++ argKeys ps (i + 1)
def outCaps : List CM → Nat → List (Nat × D)
  | [], _ => []
  | .ref t _ d' :: ps, n => (pk n, .box t d') :: outCaps ps (n + 1)
  | .rp _ :: ps, n => outCaps ps (n + 1)
def outKeys : List PM → Nat → List (Nat × D)
  | [], _ => []
  | .ref t _ d' :: ps, i => (pk i, .box t d') :: outKeys ps (i + 1)
  | .mut d :: ps, i => (pk i, .v d) :: outKeys ps (i + 1)
  | .clo _ cs :: ps, i => outCaps cs (capN i) ++ outKeys ps (i + 1)
  | _ :: ps, i => outKeys ps (i + 1)

structure FD where
  sig : Sig
  keys : List Nat
  pc : PC
  rk : List Nat
  pre : List MS
  outs : List Nat
  deriving Inhabited

/-- A result is taken. -/
def takeOne (P : Program) (Γ : Nat → D) (r : ResultVar) (i : Nat) : Option (RM × MS) := match r with
  | .tmp t => match Γ (tk t) with
    | .bp o => match Γ o with
      | .box ty d => if Nat.beq o (vk i) then none else some (.bx ty d, { upd := [(vk i, .box ty d), (o, .none)], kw := [vk i, o], sets := [(vk i, .k o)] })
      | _ => none
    | _ => (take Γ (.tmp t) (vk i)).map fun (d, m) => (.v d, m)
  | .cell a ty => match Γ (tk a) with
    | .bp o => match Γ o with
      | .box _ d => if Nat.beq o (vk i) || !tyOk P ty d || hasDead d then none else some (.v d, { upd := [(vk i, .v d), (o, .none)], kw := [vk i, o], sets := [(vk i, .k o)] })
      | _ => none
    | _ => none
/-- A result is frozen, where that is wanted. -/
def adj (i : Nat) : RM → Option RM → RM × List MS
  | .v d, some (.v w) => if coe d w then (.v d, []) else if coe d.ro w then (.v d.ro, [{ upd := [(vk i, .v d.ro)], sets := [] }]) else (.v d, [])
  | r, _ => (r, [])
/-- The results are taken, one by one. -/
def takeRes (P : Program) (Γ : Nat → D) : List ResultVar → List RM → Nat → Option (List RM × List MS)
  | [], _, _ => some ([], [])
  | r :: rs, ws, i => match takeOne P Γ r i with
    | some (d, m) =>
      let q := adj i d ws.head?
      (takeRes P (q.2.foldl apm (apm Γ m)) rs ws.tail (i + 1)).map fun (ds, ms) => (q.1 :: ds, m :: (q.2 ++ ms))
    | none => none

def resTmps (fn : Func) : List Nat := fn.results.toList.map fun
  | .tmp t => t
  | .cell a _ => a

def entryOf (s : Sig) : GL := entry s.ps 0
def coeR : RM → RM → Bool
  | .v a, .v b => coe a b
  | .bx t a, .bx u b => Nat.beq t u && coe a b
  | _, _ => false
def coeAll : List RM → List RM → Bool
  | [], [] => true
  | a :: as_, b :: bs => coeR a b && coeAll as_ bs
  | _, _ => false

/-- What a function leaves: what is carried to its end, the shapes of its results, what is known then. -/
def leave (P : Program) (sg : FuncId → Option Sig) (s : Sig) (fn : Func) : Option (PC × List Nat × List RM × List MS × (Nat → D)) := match fn.body with
  | none => none
  | some c => match comp P sg fn.ntmps c { n := resTmps fn, r := resTmps fn } (entryOf s) with
    | none => none
    | some (pc, q) => if !q.ex.isEmpty then none else
      match joinO q.n q.r with
      | none => none
      | some G => let H := restrict (resTmps fn) G
        if !wkO q.n (some G) || !wkO q.r (some G) || !wk G H || !noGv H then none else match takeRes P (gf H) fn.results.toList s.rs 0 with
        | some (ds, ms) => some (pc, carried H, ds, ms, ms.foldl (apm) (gf H))
        | none => none

/-- Whether a tree goes with it. -/
def carr : D → Bool
  | .v _ | .box _ _ | .rp _ | .tr _ _ | .sl _ _ | .ap _ _ | .eb _ | .ebx _ | .fb _ => true
  | .view _ π | .ptr _ π => π.post.isSome
  | _ => false
def keyOf (q : Nat × PM) : Nat := match q.2 with
  | .ref _ _ _ | .mut _ => pk q.1
  | .rp _ => if Nat.blt q.1 2000 then tk q.1 else hk q.1
  | _ => tk q.1
/-- What a function is entered with is in order. -/
def entryOk (s : Sig) : Bool :=
  let E := entryOf s
  let K := argKeys s.ps 0
  E.all (fun x => gf E x.1 == x.2 && (carr x.2 || !mem x.1 K)) && distinct K && K == (flatP s.ps 0).map keyOf && distinct ((flatP s.ps 0).map (·.1)) && Nat.blt s.ps.length 63 && s.ps.all fun p => match p with
    | .clo _ cs => Nat.ble cs.length 16
    | _ => true
/-- What was taken stands yet. -/
def keptR (Γ : Nat → D) : List RM → Nat → Bool
  | [], _ => true
  | .v d :: ds, i => Γ (vk i) == .v d && keptR Γ ds (i + 1)
  | .bx t d :: ds, i => Γ (vk i) == .box t d && keptR Γ ds (i + 1)
def compF (P : Program) (sg : FuncId → Option Sig) (f : FuncId) : Option FD := match sg f, P.funcs[f % 4096]? with
  | some s, some fn => if s.orc.isSome then none else match leave P sg s fn with
    | none => none
    | some (pc, rk, ds, ms, Γ) =>
      let os := outKeys s.ps 0
      if coeAll ds s.rs && os.all (fun x => coeD (Γ x.1) x.2) && Nat.ble s.ps.length fn.ntmps && entryOk s && keptR Γ ds 0 then
        some { sig := s, keys := argKeys s.ps 0, pc := pc, rk := rk, pre := ms, outs := (List.range ds.length).map vk ++ os.map (·.1) }
      else none
  | _, _ => none

noncomputable def FD.run (d : FD) (I : Interp) (n : Nat) (args : List PV) : Option (List PV) := (d.pc.run I n (fill d.keys args)).bind fun (e, σ) => match e with
  | .x _ => none
  | _ => some (cut d.outs (preRun d.pre (fill d.rk (cut d.rk σ))))

/-- What the library's functions give. -/
def strsL (p : PV) : List (List UInt8) := p.toList.map fun x => x.toStr.data.toList
def sortL (l : List PV) : List PV := ((l.map PV.toInt).mergeSort fun x y => decide (x ≤ y)).map PV.int
/-- A row without what repeats the element before it; without what is below 0. -/
def cptL (l : List PV) : List PV := (Lib.compact (l.map PV.toInt)).map PV.int
def posL (l : List PV) : List PV := l.filter fun p => decide (0 ≤ p.toInt)
def atoiR (l : List UInt8) : List PV := match Lib.atoiAll l with
  | .ok v => [.int v, .bool true]
  | .syntax => [.int 0, .bool false]
  | .range => [.int (Lib.atoiSat l), .bool false]
def Orc.run : Orc → List PV → Option (List PV)
  | .itoa, [x] => if decide (-9223372036854775808 ≤ x.toInt) && decide (x.toInt ≤ 9223372036854775807) then some [.str ⟨(Lib.itoa x.toInt).toArray⟩] else none
  | .join, [l, s] => if Nat.ble l.toList.length 140737488355328 && Nat.ble (Lib.join (strsL l) s.toStr.data.toList).length 140737488355328 then some [.str ⟨(Lib.join (strsL l) s.toStr.data.toList).toArray⟩, l] else none
  | .atoi, [s] => if Nat.ble s.toStr.size 281474976710656 then some (atoiR s.toStr.data.toList) else none
  | .index, [s, c] => some [.int (Lib.indexByte s.toStr.data.toList c.toInt.toNat.toUInt8)]
  | .compact, [l] => if Nat.ble l.toList.length 140737488355328 then some [.list (cptL l.toList)] else none
  | .delneg, [l] => if Nat.ble l.toList.length 140737488355328 then some [.list (posL l.toList)] else none
  | .grow, [_, n] => if decide (0 ≤ n.toInt) && decide (n.toInt ≤ 1073741824) then some [.list []] else none
  | .sort, [l] => if Nat.ble l.toList.length 140737488355328 then some [.list (sortL l.toList)] else none
  | _, _ => none
def orcI (sg : FuncId → Option Sig) : Interp := fun f args => match sg f with
  | some s => match s.orc with
    | some o => o.run args
    | none => none
  | none => none

/-- A table of functions, run. -/
noncomputable def prun (T : FuncId → Option FD) (X : Interp) : Nat → Interp
  | 0, _, _ => none
  | n + 1, f, args => match T f with
    | some d => d.run (prun T X n) n args
    | none => X f args

end Go.Rsc
