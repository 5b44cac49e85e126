/- The pure programs, evaluated to a form that can be read: with what is carried as lists. No conditions. -/
import Derived.Test.YtdkfgnnebaahaaaRscZm
namespace Go.Rsc
open Go.RowKit
set_option linter.unusedVariables false
set_option linter.unusedSimpArgs false

section
variable {β : Type}
def thenN (x : Option (Ex × List PV)) (B : List PV → Option β) (E : Ex → List PV → Option β) : Option β := x.bind fun x => match x.1 with
  | .n => B x.2
  | e => E e x.2
def thenE (x : Option (Ex × List PV)) (E : Ex → List PV → Option β) : Option β := x.bind fun x => E x.1 x.2
def passN (ps : List PV) : Option (Ex × List PV) := some (.n, ps)
def passE (e : Ex) (ps : List PV) : Option (Ex × List PV) := some (e, ps)
def passB (id : Nat) (e : Ex) (ps : List PV) : Option (Ex × List PV) := match e with
  | .x i => if Nat.beq i id then some (.n, ps) else some (.x i, ps)
  | e => some (e, ps)
def retE (fin : List PV → List PV) (e : Ex) (ps : List PV) : Option (List PV) := match e with
  | .r => some (fin ps)
  | _ => none
def iff (c : Bool) (a b : Option β) : Option β := if c then a else b

def leN (m n : Nat) : Bool := decide (m ≤ n)
def selB (c : Bool) (a b : PV) : PV := if c then a else b
def nth (l : List PV) (i : Nat) : PV := l.getD i .unit
def b2sL (l : List PV) : ByteArray := ⟨(l.map fun p => UInt8.ofNat p.toInt.toNat).toArray⟩
def s2bL (s : ByteArray) : List PV := s.data.toList.map fun b => .int b.toNat
noncomputable def chkK (σ : Nat → PV) : List PX → Option β → Option β
  | [], k => k
  | c :: cs, k => iff (c.eval σ []).toBool (chkK σ cs k) none
noncomputable def SR.ev (I : Interp) (r : SR) (σ : Nat → PV) (N : (Nat → PV) → Option β) : Option β :=
  chkK (preRun r.pre σ) r.chk (match r.call with
    | none => N (setAll (preRun r.pre σ) [] r.main.sets)
    | some (f, args) => (I f (args.map fun x => x.eval (preRun r.pre σ) [])).bind fun rs => N (setAll (preRun r.pre σ) rs r.main.sets))
def overAt : List Nat → Nat → List PV → (Nat → PV) → Nat → PV
  | [], _, _, σ, k => σ k
  | j :: ks, i, ps, σ, k => if Nat.beq k j then ps.getD i .unit else overAt ks (i + 1) ps σ k
def GS.setKeys (s : GS) : List Nat := (match s.dst with
  | some d => [tk d]
  | none => []) ++ (s.r.main.sets.map (·.1) ++ s.r.pre.flatMap fun m => m.sets.map (·.1))
noncomputable def GS.off (s : GS) (σ : Nat → PV) : Nat → PV := match s.dst with
  | some d => setAll σ [] [(tk d, .unit)]
  | none => σ
/-- Of some keys one or the other. -/
def selAt (ks : List Nat) (c : Bool) (σ1 σ0 σ : Nat → PV) (k : Nat) : PV := if mem k ks then (if c then σ1 k else σ0 k) else σ k
noncomputable def GS.ev (I : Interp) (s : GS) (σ : Nat → PV) (N : (Nat → PV) → Option β) : Option β := match s.g with
  | none => s.r.ev I σ N
  | some (g, b) => if s.r.chk.isEmpty && (s.r.call.isNone && s.r.pre.isEmpty) then N (selAt s.setKeys ((σ g).isB b) (setAll σ [] s.r.main.sets) (s.off σ) σ)
    else (iff ((σ g).isB b) (s.r.ev I σ fun σ' => some (cut s.setKeys σ')) (some (cut s.setKeys (s.off σ)))).bind fun ps => N (overAt s.setKeys 0 ps σ)
noncomputable def regEv (I : Interp) : List GS → (Nat → PV) → ((Nat → PV) → Option β) → Option β
  | [], σ, N => N σ
  | s :: l, σ, N => s.ev I σ fun σ' => regEv I l σ' N
end
def keysX : List (Nat × List Nat) → Nat → List Nat
  | [], _ => []
  | (j, ks) :: l, id => if Nat.beq id j then ks else keysX l id
def loopEv (body : List PV → Option (Ex × List PV)) : Nat → List PV → Option (Ex × List PV)
  | 0, _ => none
  | n + 1, ps => thenN (body ps) (loopEv body n) passE

noncomputable def PC.ev (I : Interp) (n : Nat) (rk : List Nat) : PC → {β : Type} → List (Nat × List Nat) → (Nat → PV) → ((Nat → PV) → Option β) → (Ex → List PV → Option β) → Option β
  | .skip, _, kx, σ, N, E => N σ
  | .reg l, _, kx, σ, N, E => regEv I l σ N
  | .seq a b, _, kx, σ, N, E => a.ev I n rk kx σ (fun σ => b.ev I n rk kx σ N E) E
  | .join a ks b, _, kx, σ, N, E => thenN (a.ev I n rk kx σ (fun σ => passN (cut ks σ)) passE) (fun ps => b.ev I n rk kx (fill ks ps) N E) E
  | .cond c a b, _, kx, σ, N, E => iff (c.eval σ []).toBool (a.ev I n rk kx σ N E) (b.ev I n rk kx σ N E)
  | .block id ks a, _, kx, σ, N, E => thenN (a.ev I n rk ((id, ks) :: kx) σ (fun σ => passN (cut ks σ)) (passB id)) (fun ps => N (fill ks ps)) E
  | .loop ks a, _, kx, σ, N, E => thenE (loopEv (fun ps => a.ev I n rk kx (fill ks ps) (fun σ => passN (cut ks σ)) passE) n (cut ks σ)) E
  | .exit id, _, kx, σ, N, E => E (.x id) (cut (keysX kx id) σ)
  | .ret, _, kx, σ, N, E => E .r (cut rk σ)

noncomputable def FD.fin (d : FD) (ps : List PV) : List PV := cut d.outs (preRun d.pre (fill d.rk ps))
noncomputable def FD.ev (d : FD) (I : Interp) (n : Nat) (args : List PV) : Option (List PV) := d.pc.ev I n d.rk [] (fill d.keys args) (fun σ => some (d.fin (cut d.rk σ))) (retE d.fin)

section
variable {β : Type} {I : Interp} {n : Nat} {rk : List Nat} {σ : Nat → PV} {r : SR} {s : GS}

theorem chkK_eq : ∀ (l : List PX) (k : Option β), chkK σ l k = if l.all (fun c => (c.eval σ []).toBool) then k else none
  | [], k => by simp [chkK]
  | c :: cs, k => by
    simp only [chkK, iff, chkK_eq cs k, List.all_cons]
    by_cases h : (c.eval σ []).toBool = true
    · simp [h]
    · simp [h]
theorem SR.ev_eq (N : (Nat → PV) → Option β) : r.ev I σ N = (r.run I σ).bind N := by
  unfold SR.ev SR.run
  rw [chkK_eq]
  simp only
  split
  · cases r.call with
    | none => rfl
    | some q =>
      obtain ⟨f, args⟩ := q
      simp only
      cases I f (args.map fun x => x.eval (preRun r.pre σ) []) <;> rfl
  · rfl
theorem overAt_cut (σ' : Nat → PV) (k : Nat) : ∀ (ks ls : List Nat), (k ∉ ks → σ' k = σ k) → overAt ks ls.length (cut (ls ++ ks) σ') σ k = σ' k
  | [], ls, h => by simp only [overAt]; exact (h (by simp)).symm
  | j :: ks, ls, h => by
    simp only [overAt]
    by_cases hj : k = j
    · subst hj
      simp [cut, List.getD_eq_getElem?_getD]
    · rw [beq_false.2 hj]
      simp only [Bool.false_eq_true, if_false]
      have ih := overAt_cut σ' k ks (ls ++ [j]) fun hk => h (by simp [hj, hk])
      simp only [List.append_assoc, List.singleton_append, List.length_append, List.length_singleton] at ih
      exact ih
theorem over_cut {ks : List Nat} {σ' : Nat → PV} (h : ∀ k, k ∉ ks → σ' k = σ k) : overAt ks 0 (cut ks σ') σ = σ' := by
  funext k
  exact overAt_cut σ' k ks [] (h k)
theorem SR.run_sets {σ' : Nat → PV} (hr : r.run I σ = some σ') {k : Nat} (h1 : k ∉ r.main.sets.map (·.1)) (h2 : k ∉ r.pre.flatMap fun m => m.sets.map (·.1)) : σ' k = σ k := by
  have hp : ∀ (l : List MS) (σ : Nat → PV), (k ∉ l.flatMap fun m => m.sets.map (·.1)) → preRun l σ k = σ k := by
    intro l
    induction l with
    | nil => intros; rfl
    | cons m l ih =>
      intro σ hk
      simp only [List.flatMap_cons, List.mem_append, not_or] at hk
      refine (ih (setAll σ [] m.sets) hk.2).trans (setAll_out fun x hx => hk.1 (List.mem_map.2 ⟨_, hx, rfl⟩))
  have hs : ∀ x, (k, x) ∉ r.main.sets := fun x hx => h1 (List.mem_map.2 ⟨_, hx, rfl⟩)
  unfold SR.run at hr
  simp only at hr
  split at hr
  · split at hr
    · simp only [Option.some.injEq] at hr
      subst hr
      rw [setAll_out hs, hp _ _ h2]
    · obtain ⟨rs, _, rfl⟩ := Option.map_eq_some_iff.1 hr
      rw [setAll_out hs, hp _ _ h2]
  · cases hr
theorem GS.off_out {k : Nat} (hk : k ∉ s.setKeys) : s.off σ k = σ k := by
  unfold GS.setKeys at hk
  unfold GS.off
  cases hd : s.dst with
  | none => rfl
  | some d =>
    simp only [hd, List.mem_append, List.mem_singleton, not_or] at hk
    exact setAll_out fun x hx => by simp only [List.mem_singleton, Prod.mk.injEq] at hx; exact hk.1 hx.1
theorem GS.run_g {g : Nat} {b : Bool} (hg : s.g = some (g, b)) : s.run I σ = if (σ g).isB b then s.r.run I σ else some (s.off σ) := by
  unfold GS.run GS.off
  rw [hg]
  cases hd : s.dst <;> rfl
theorem GS.ev_eq (N : (Nat → PV) → Option β) : s.ev I σ N = (s.run I σ).bind N := by
  have hset : ∀ k, k ∉ s.setKeys → k ∉ s.r.main.sets.map (·.1) ∧ k ∉ s.r.pre.flatMap fun m => m.sets.map (·.1) := by
    intro k hk
    unfold GS.setKeys at hk
    simp only [List.mem_append, not_or] at hk
    exact ⟨hk.2.1, hk.2.2⟩
  cases hg : s.g with
  | none =>
    unfold GS.ev GS.run
    rw [hg]
    exact SR.ev_eq N
  | some q =>
    obtain ⟨g, b⟩ := q
    rw [GS.run_g hg]
    unfold GS.ev
    rw [hg]
    simp only [iff]
    split
    · rename_i hc
      simp only [Bool.and_eq_true, List.isEmpty_iff, Option.isNone_iff_eq_none] at hc
      obtain ⟨h1, h2, h3⟩ := hc
      have hr : s.r.run I σ = some (setAll σ [] s.r.main.sets) := by
        unfold SR.run
        simp [h1, h2, h3, preRun]
      have hsel : ∀ σ2, (∀ k, k ∉ s.setKeys → σ2 k = σ k) → ∀ c, (∀ k, (if c then setAll σ [] s.r.main.sets k else s.off σ k) = σ2 k) → selAt s.setKeys c (setAll σ [] s.r.main.sets) (s.off σ) σ = σ2 := by
        intro σ2 ho c hc
        funext k
        unfold selAt
        split
        · exact hc k
        · rename_i hk
          exact (ho k fun hm => hk (mem_iff.2 hm)).symm
      by_cases hb : (σ g).isB b = true
      · rw [if_pos hb, hr, Option.bind_some, hb]
        rw [hsel (setAll σ [] s.r.main.sets) (fun k hk => SR.run_sets hr (hset k hk).1 (hset k hk).2) true fun k => rfl]
      · rw [if_neg hb, Option.bind_some]
        have hb : (σ g).isB b = false := by simpa using hb
        rw [hb, hsel (s.off σ) (fun k hk => GS.off_out hk) false fun k => rfl]
    · split
      · rw [SR.ev_eq]
        cases hr : s.r.run I σ with
        | none => rfl
        | some σ' =>
          simp only [Option.bind_some]
          rw [over_cut]
          intro k hk
          exact SR.run_sets hr (hset k hk).1 (hset k hk).2
      · simp only [Option.bind_some]
        rw [over_cut fun k hk => GS.off_out hk]
theorem regEv_eq (N : (Nat → PV) → Option β) : ∀ (l : List GS) (σ : Nat → PV), regEv I l σ N = (regRun I l σ).bind N
  | [], σ => rfl
  | s :: l, σ => by
    simp only [regEv, GS.ev_eq, regRun, regEv_eq N l]
    cases s.run I σ <;> rfl

theorem loopEv_eq {body : List PV → Option (Ex × List PV)} {brun : (Nat → PV) → Option (Ex × (Nat → PV))} {ks : List Nat} {cx : Ex → List Nat} (hb : ∀ ps, body ps = (brun (fill ks ps)).bind fun x => match x.1 with
      | .n => some (.n, cut ks x.2)
      | e => some (e, cut (cx e) x.2)) : ∀ (m : Nat) (ps : List PV), loopEv body m ps = (loopRun brun ks m ps).bind fun x => some (x.1, cut (cx x.1) x.2)
  | 0, ps => rfl
  | m + 1, ps => by
    simp only [loopEv, loopRun, hb ps]
    cases hr : brun (fill ks ps) with
    | none => rfl
    | some x =>
      obtain ⟨e, σ'⟩ := x
      cases e with
      | n => simp only [Option.bind_some, thenN]; exact loopEv_eq hb m _
      | x id => rfl
      | r => rfl

def cutX (kx : List (Nat × List Nat)) (rk : List Nat) : Ex → List Nat
  | .x id => keysX kx id
  | .r => rk
  | .n => []
theorem loopRun_not_n {brun : (Nat → PV) → Option (Ex × (Nat → PV))} {ks : List Nat} : ∀ (m : Nat) (ps : List PV) {e : Ex} {σ' : Nat → PV}, loopRun brun ks m ps = some (e, σ') → e ≠ .n
  | 0, ps, e, σ', h => by cases h
  | m + 1, ps, e, σ', h => by
    simp only [loopRun] at h
    obtain ⟨⟨e1, σ1⟩, h1, h2⟩ := Option.bind_eq_some_iff.1 h
    cases e1 with
    | n => exact loopRun_not_n m _ h2
    | x id => simp only [Option.some.injEq, Prod.mk.injEq] at h2; rw [← h2.1]; exact fun e => by cases e
    | r => simp only [Option.some.injEq, Prod.mk.injEq] at h2; rw [← h2.1]; exact fun e => by cases e

/-- Where a run leads. -/
def goOn {β : Type} (kx : List (Nat × List Nat)) (rk : List Nat) (N : (Nat → PV) → Option β) (E : Ex → List PV → Option β) (x : Ex × (Nat → PV)) : Option β := match x.1 with
  | .n => N x.2
  | e => E e (cut (cutX kx rk e) x.2)
theorem PC.ev_eq : ∀ (pc : PC) {β : Type} (kx : List (Nat × List Nat)) (σ : Nat → PV) (N : (Nat → PV) → Option β) (E : Ex → List PV → Option β),
    pc.ev I n rk kx σ N E = (pc.run I n σ).bind (goOn kx rk N E) := by
  intro pc
  induction pc with
  | skip => intros; rfl
  | reg l =>
    intro β kx σ N E
    simp only [PC.ev, regEv_eq, PC.run]
    cases regRun I l σ <;> rfl
  | seq a b iha ihb =>
    intro β kx σ N E
    simp only [PC.ev, PC.run, iha, ihb]
    cases a.run I n σ with
    | none => rfl
    | some x => obtain ⟨e, σ'⟩ := x; cases e <;> rfl
  | join a ks b iha ihb =>
    intro β kx σ N E
    simp only [PC.ev, PC.run, iha, ihb]
    cases a.run I n σ with
    | none => rfl
    | some x => obtain ⟨e, σ'⟩ := x; cases e <;> rfl
  | cond c a b iha ihb =>
    intro β kx σ N E
    simp only [PC.ev, PC.run, iha, ihb, iff]
    split <;> rfl
  | block id ks a iha =>
    intro β kx σ N E
    simp only [PC.ev, PC.run, iha]
    cases a.run I n σ with
    | none => rfl
    | some x =>
      obtain ⟨e, σ'⟩ := x
      cases e with
      | n => simp only [Option.map_some, Option.bind_some, goOn, passN, thenN, or_true, if_true]
      | r => simp only [Option.map_some, Option.bind_some, goOn, cutX, passB, thenN, reduceCtorEq, or_self, if_false]
      | x i =>
        by_cases h : i = id
        · subst h
          simp [goOn, cutX, passB, thenN, keysX]
        · have h' := beq_false.2 h
          simp [goOn, cutX, passB, thenN, keysX, h, h']
  | loop ks a iha =>
    intro β kx σ N E
    simp only [PC.ev, PC.run]
    rw [loopEv_eq (brun := fun σ => a.run I n σ) (cx := cutX kx rk) fun ps => ?_]
    · cases hr : loopRun (fun σ => a.run I n σ) ks n (cut ks σ) with
      | none => rfl
      | some x =>
        obtain ⟨e, σ'⟩ := x
        have := loopRun_not_n _ _ hr
        cases e with
        | n => exact absurd rfl this
        | x id => rfl
        | r => rfl
    · rw [iha]
      cases a.run I n (fill ks ps) with
      | none => rfl
      | some x => obtain ⟨e, σ'⟩ := x; cases e <;> rfl
  | exit id => intros; rfl
  | ret => intros; rfl

theorem FD.ev_eq (d : FD) (args : List PV) : d.ev I n args = d.run I n args := by
  unfold FD.ev FD.run
  rw [PC.ev_eq]
  cases d.pc.run I n (fill d.keys args) with
  | none => rfl
  | some x => obtain ⟨e, σ'⟩ := x; cases e <;> rfl
end

/-- The pure program of a program's functions; n bounds all rounds and all depths. -/
noncomputable def ev (P : Program) (sg : FuncId → Option Sig) : Nat → Interp := prun (compF P sg) (orcI sg)
theorem ev_succ {P : Program} {sg : FuncId → Option Sig} {f : FuncId} {g : Interp → Nat → List PV → Option (List PV)} (h : ∀ I n args, (compF P sg f).map (fun d => d.ev I n args) = some (g I n args)) (n : Nat) (args : List PV) : ev P sg (n + 1) f args = g (ev P sg n) n args := by
  have := h (ev P sg n) n args
  show prun (compF P sg) _ (n + 1) f args = _
  simp only [prun]
  cases hd : compF P sg f with
  | none => rw [hd] at this; cases this
  | some d =>
    rw [hd] at this
    simp only [Option.map_some, Option.some.injEq] at this
    simp only
    rw [← FD.ev_eq]
    exact this
end Go.Rsc
