/- The pure programs, evaluated to a form that can be read: what is picked under a condition has a name. No conditions. -/
import Derived.Test.YtdkfgnnebaahaaaRscZn
namespace Go.Rsc
open Go.RowKit
set_option linter.unusedVariables false
set_option linter.unusedSimpArgs false

def letB {β : Type} (v : PV) (f : PV → Option β) : Option β := f v
@[simp] theorem letB_eq {β : Type} (v : PV) (f : PV → Option β) : letB v f = f v := rfl
def set1 (σ : Nat → PV) (k : Nat) (v : PV) (j : Nat) : PV := if Nat.beq j k then v else σ j
def isIte : PX → Bool
  | .ite _ _ _ => true
  | _ => false
def dstIs (o : Option Nat) (k : Nat) : Bool := match o with
  | some d => Nat.beq (tk d) k
  | none => false
def GS.ltOk (s : GS) (k : Nat) (x : PX) : Bool := isIte x && (s.r.chk.isEmpty && (s.r.call.isNone && (s.r.pre.isEmpty && dstIs s.dst k)))
def GS.lt (s : GS) : Option (Nat × PX) := match s.r.main.sets with
  | [(k, x)] => if s.ltOk k x then some (k, x) else none
  | _ => none
section
variable {β : Type}
noncomputable def GS.ew (I : Interp) (s : GS) (σ : Nat → PV) (N : (Nat → PV) → Option β) : Option β := match s.lt with
  | some (k, x) => letB (match s.g with
    | none => x.eval σ []
    | some (g, b) => selB ((σ g).isB b) (x.eval σ []) .unit) fun v => N (set1 σ k v)
  | none => s.ev I σ N
noncomputable def regEw (I : Interp) : List GS → (Nat → PV) → ((Nat → PV) → Option β) → Option β
  | [], σ, N => N σ
  | s :: l, σ, N => s.ew I σ fun σ' => regEw I l σ' N
end
noncomputable def PC.ew (I : Interp) (n : Nat) (rk : List Nat) : PC → {β : Type} → List (Nat × List Nat) → (Nat → PV) → ((Nat → PV) → Option β) → (Ex → List PV → Option β) → Option β
  | .skip, _, kx, σ, N, E => N σ
  | .reg l, _, kx, σ, N, E => regEw I l σ N
  | .seq a b, _, kx, σ, N, E => a.ew I n rk kx σ (fun σ => b.ew I n rk kx σ N E) E
  | .join a ks b, _, kx, σ, N, E => thenN (a.ew I n rk kx σ (fun σ => passN (cut ks σ)) passE) (fun ps => b.ew I n rk kx (fill ks ps) N E) E
  | .cond c a b, _, kx, σ, N, E => iff (c.eval σ []).toBool (a.ew I n rk kx σ N E) (b.ew I n rk kx σ N E)
  | .block id ks a, _, kx, σ, N, E => thenN (a.ew I n rk ((id, ks) :: kx) σ (fun σ => passN (cut ks σ)) (passB id)) (fun ps => N (fill ks ps)) E
  | .loop ks a, _, kx, σ, N, E => thenE (loopEv (fun ps => a.ew I n rk kx (fill ks ps) (fun σ => passN (cut ks σ)) passE) n (cut ks σ)) E
  | .exit id, _, kx, σ, N, E => E (.x id) (cut (keysX kx id) σ)
  | .ret, _, kx, σ, N, E => E .r (cut rk σ)
noncomputable def FD.ew (d : FD) (I : Interp) (n : Nat) (args : List PV) : Option (List PV) := d.pc.ew I n d.rk [] (fill d.keys args) (fun σ => some (d.fin (cut d.rk σ))) (retE d.fin)

section
variable {β : Type} {I : Interp} {n : Nat} {rk : List Nat} {σ : Nat → PV} {s : GS}
theorem set1_eq (σ : Nat → PV) (k : Nat) (x : PX) : setAll σ [] [(k, x)] = set1 σ k (x.eval σ []) := by
  funext j
  unfold setAll set1
  cases h : Nat.beq j k <;> simp [lookS, h]
theorem GS.ew_eq (N : (Nat → PV) → Option β) : s.ew I σ N = s.ev I σ N := by
  unfold GS.ew
  cases hl : s.lt with
  | none => rfl
  | some q =>
    obtain ⟨k, x⟩ := q
    rw [GS.ev_eq]
    have key : s.r.main.sets = [(k, x)] ∧ s.ltOk k x = true := by
      unfold GS.lt at hl
      split at hl
      · rename_i k' x' hs
        by_cases hc : s.ltOk k' x' = true
        · rw [if_pos hc] at hl
          simp only [Option.some.injEq, Prod.mk.injEq] at hl
          obtain ⟨rfl, rfl⟩ := hl
          exact ⟨hs, hc⟩
        · rw [if_neg hc] at hl; cases hl
      · cases hl
    obtain ⟨hs, hc⟩ := key
    simp only [GS.ltOk, Bool.and_eq_true, List.isEmpty_iff, Option.isNone_iff_eq_none] at hc
    obtain ⟨_, h1, h2, h3, h4⟩ := hc
    cases hd : s.dst with
    | none => rw [hd] at h4; cases h4
    | some d =>
      rw [hd] at h4
      have hk : tk d = k := beq_iff.1 h4
      have hr : s.r.run I σ = some (set1 σ k (x.eval σ [])) := by
        unfold SR.run
        simp only [h1, h2, h3, preRun, List.foldl_nil, List.all_nil, if_true, hs, set1_eq]
      cases hg : s.g with
      | none =>
        have : s.run I σ = s.r.run I σ := by
          unfold GS.run
          rw [hg]
        rw [this, hr]
        rfl
      | some q =>
        obtain ⟨g, b⟩ := q
        rw [GS.run_g hg, hr]
        unfold GS.off
        rw [hd]
        simp only [set1_eq, hk]
        by_cases hb : (σ g).isB b = true
        · simp only [hb, if_true, selB_t, letB_eq, Option.bind_some]
        · have hb : (σ g).isB b = false := by simpa using hb
          simp only [hb, Bool.false_eq_true, if_false, selB_f, letB_eq, Option.bind_some]
          rfl
  where
    selB_t (a b : PV) : selB true a b = a := rfl
    selB_f (a b : PV) : selB false a b = b := rfl
theorem regEw_eq (N : (Nat → PV) → Option β) : ∀ (l : List GS) (σ : Nat → PV), regEw I l σ N = regEv I l σ N
  | [], σ => rfl
  | s :: l, σ => by simp only [regEw, regEv, GS.ew_eq, regEw_eq N l]
theorem PC.ew_eq : ∀ (pc : PC) {β : Type} (kx : List (Nat × List Nat)) (σ : Nat → PV) (N : (Nat → PV) → Option β) (E : Ex → List PV → Option β),
    pc.ew I n rk kx σ N E = pc.ev I n rk kx σ N E := by
  intro pc
  induction pc with
  | skip => intros; rfl
  | reg l => intros; simp only [PC.ew, PC.ev, regEw_eq]
  | seq a b iha ihb => intros; simp only [PC.ew, PC.ev, iha, ihb]
  | join a ks b iha ihb => intros; simp only [PC.ew, PC.ev, iha, ihb]
  | cond c a b iha ihb => intros; simp only [PC.ew, PC.ev, iha, ihb]
  | block id ks a iha => intros; simp only [PC.ew, PC.ev, iha]
  | loop ks a iha => intros; simp only [PC.ew, PC.ev, iha]
  | exit id => intros; rfl
  | ret => intros; rfl
theorem FD.ew_eq (d : FD) (args : List PV) : d.ew I n args = d.ev I n args := by
  unfold FD.ew FD.ev
  rw [PC.ew_eq]
end
theorem ew_ev {P : Program} {sg : FuncId → Option Sig} {f : FuncId} {g : Interp → Nat → List PV → Option (List PV)} (h : ∀ I n a, (compF P sg f).map (fun d => d.ew I n a) = some (g I n a)) (I : Interp) (n : Nat) (a : List PV) : (compF P sg f).map (fun d => d.ev I n a) = some (g I n a) := by
  rw [← h I n a]
  cases compF P sg f with
  | none => rfl
  | some d => simp only [Option.map_some, FD.ew_eq]
end Go.Rsc
