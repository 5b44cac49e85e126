/- Regions, in order and in any order. No conditions. -/
import Derived.Test.YtdkfgnnebaahaaaRscZh
import Derived.Orders
namespace Go.Rsc
open Go.RowKit
set_option linter.unusedVariables false
set_option linter.unusedSimpArgs false

abbrev El := Nat × Oper × GS

section
variable {P : Program} {sg : FuncId → Option Sig} {ops : Array Oper} {nt : Nat} {I : Interp} {Γ Γ' Γe : Nat → D} {σ σ' σe : Nat → PV} {a b x : El}

def OpOk (P : Program) (sg : FuncId → Option Sig) (ops : Array Oper) (Γ : Nat → D) (x : El) : Prop :=
  ∃ Γ0 j, (∀ k, Γ0 k ≠ .none → Γ k = Γ0 k ∧ k ∈ x.2.2.rd ∧ Γ0 k ∈ x.2.2.hs) ∧ (∀ k d, look x.2.2.kn k = some d → Γ0 k = d ∧ d ≠ .none) ∧ gopK j x.1 P sg ops Γ0 x.2.1 = some (x.2.2.g, x.2.2.r)
structure St (nt : Nat) (x : El) : Prop where
  gs : GsOk x.2.2
  dst : x.2.2.dst = x.2.1.dst
  lt : ∀ d, x.2.1.dst = some d → d < nt
theorem St.main (h : St nt x) : setKeysOk x.2.2.r.main = true := h.gs.r.main

theorem gf_tab (Γ : Nat → D) (ks : List Nat) (k : Nat) : gf (tab Γ ks) k = if k ∈ ks then Γ k else .none := by
  induction ks with
  | nil => rfl
  | cons j ks ih =>
    unfold tab
    by_cases hj : k = j
    · subst hj
      cases hΓ : Γ k <;> simp only [gf, look_cons] at ih ⊢ <;> simp [hΓ] at ih ⊢
      exact ih
    · cases hΓ : Γ j <;> simp only [gf, look_cons, hj, if_false] at ih ⊢ <;> simp [hj] at ih ⊢ <;> exact ih

theorem tab_ne {Γ : Nat → D} {k : Nat} {d : D} : ∀ {ks : List Nat}, look (tab Γ ks) k = some d → d ≠ .none
  | [], h => by cases h
  | j :: ks, h => by
    unfold tab at h
    split at h
    · exact tab_ne h
    · rename_i hd
      rw [look_cons] at h
      split at h
      · intro e
        simp only [Option.some.injEq] at h
        subst h
        exact hd e
      · exact tab_ne h
theorem gf_mem {G : GL} {k : Nat} (h : gf G k ≠ .none) : (k, gf G k) ∈ G := by
  unfold gf at h ⊢
  cases hl : look G k with
  | none => simp [hl] at h
  | some d => simpa using look_mem hl

theorem pickK_spec {z : List Nat} {Γ : Nat → D} {i : Nat} {o : Oper} {y : Option (Nat × Bool) × SR} (h : pickK z P sg ops Γ i o = some y) : ∃ j, gopK j i P sg ops Γ o = some y := by
  unfold pickK at h
  split at h
  · rename_i x hx
    simp only [Option.some.injEq] at h
    subst h
    obtain ⟨j, _, hj⟩ := List.exists_of_findSome?_eq_some hx
    split at hj
    · rename_i x' hx'
      split at hj
      · simp only [Option.some.injEq] at hj
        subst hj
        exact ⟨j, hx'⟩
      · cases hj
    · cases hj
  · obtain ⟨j, _, hj⟩ := List.exists_of_findSome?_eq_some h
    exact ⟨j, hj⟩
theorem gop_spec {z : List Nat} {i : Nat} {o : Oper} {s : GS} (h : gop z P sg nt ops Γ i o = some s) : OpOk P sg ops Γ (i, o, s) ∧ St nt (i, o, s) := by
  unfold gop at h
  split at h
  · cases h
  · rename_i hd
    simp only at h
    split at h
    · rename_i y hy
      split at h
      · rename_i hok
        simp only [Option.some.injEq] at h
        subst h
        obtain ⟨j, hj⟩ := pickK_spec hy
        refine ⟨⟨_, j, fun k hk => ?_, fun k d hd => ⟨by unfold gf; exact congrArg (fun x => x.getD D.none) hd, tab_ne hd⟩, hj⟩, ⟨⟨SR.ok_spec hok, rfl, rfl, fun g b hg => ?_, fun q hq => ?_⟩, rfl, fun d hd' => ?_⟩⟩
        · have hk2 := hk
          rw [gf_tab] at hk
          split at hk
          · rename_i hm
            refine ⟨by rw [gf_tab, if_pos hm], hm, ?_⟩
            exact List.mem_append_left _ (List.mem_map.2 ⟨_, gf_mem hk2, rfl⟩)
          · exact absurd rfl hk
        · -- the guard
          change y.1 = some (g, b) at hg
          show g ∈ gopRd ops Γ o ∧ ∀ d, o.dst = some d → tk d ∈ y.2.wr
          unfold gopK at hj
          split at hj
          · obtain ⟨r, _, rfl⟩ := Option.map_eq_some_iff.1 hj
            cases hg
          · rename_i n b' hg'
            split at hj
            · cases hj
            · rename_i t ht
              cases hr : cop j (64 * i) P sg (under (gf (tab Γ (gopRd ops Γ o))) (tk t) b') o with
              | none => simp only [hr] at hj; cases hj
              | some r =>
                simp only [hr] at hj
                split at hj
                · rename_i hcond
                  simp only [Option.some.injEq] at hj
                  subst hj
                  simp only [Option.some.injEq, Prod.mk.injEq] at hg
                  obtain ⟨rfl, rfl⟩ := hg
                  refine ⟨?_, fun d hd' => ?_⟩
                  · unfold gopRd
                    simp only [hg', ht]
                    simp
                  · unfold gcond at hcond
                    simp only [Bool.and_eq_true] at hcond
                    have := hcond.2
                    rw [hd'] at this
                    simp only [Bool.and_eq_true] at this
                    refine List.mem_append_right _ (look_key ?_)
                    rw [look_guardUpd]
                    simp [this.1]
                · cases hj
        · exact List.mem_append_right _ (List.mem_map.2 ⟨q, hq, rfl⟩)
        · have hd' : o.dst = some d := hd'
          rw [hd'] at hd
          simp only [Option.any_some, Bool.not_eq_true', Bool.not_eq_false] at hd
          exact Nat.le_of_ble_eq_true hd
      · cases h
    · cases h

/-- A run through a list of operations, each of which compiles where it comes. -/
def Seq (P : Program) (sg : FuncId → Option Sig) (ops : Array Oper) (I : Interp) : List El → (Nat → D) → (Nat → PV) → (Nat → D) → (Nat → PV) → Prop
  | [], Γ, σ, Γe, σe => Γ = Γe ∧ σ = σe
  | x :: l, Γ, σ, Γe, σe => OpOk P sg ops Γ x ∧ ∃ σ1, x.2.2.run I σ = some σ1 ∧ Seq P sg ops I l (apS Γ x.2.2.r) σ1 Γe σe

theorem OpOk.fwd (hx : GsOk a.2.2) (h : Sep a.2.2 b.2.2) (hb : OpOk P sg ops Γ b) : OpOk P sg ops (apS Γ a.2.2.r) b := by
  obtain ⟨Γ0, j, h1, h3, h2⟩ := hb
  refine ⟨Γ0, j, fun k hk => ?_, h3, h2⟩
  obtain ⟨g1, g2, g3⟩ := h1 k hk
  refine ⟨?_, g2, g3⟩
  rw [apS_out hx (fun hw => h.wr k hw g2), g1, not_forgs hx h.h1 g3]
  simp
theorem OpOk.bwd (hx : GsOk a.2.2) (h : Sep a.2.2 b.2.2) (hb : OpOk P sg ops (apS Γ a.2.2.r) b) : OpOk P sg ops Γ b := by
  obtain ⟨Γ0, j, h1, h3, h2⟩ := hb
  refine ⟨Γ0, j, fun k hk => ?_, h3, h2⟩
  obtain ⟨g1, g2, g3⟩ := h1 k hk
  refine ⟨?_, g2, g3⟩
  rw [apS_out hx (fun hw => h.wr k hw g2)] at g1
  split at g1
  · exact absurd g1.symm hk
  · exact g1
theorem OpOk.fwdK (hx : GsOk b.2.2) (hk : ∀ k ∈ b.2.2.wr, k ∈ a.2.2.rd → apS Γ b.2.2.r k = Γ k) (hf : ∀ x ∈ a.2.2.hs, forgs (b.2.2.r.pre ++ [b.2.2.r.main]) x = false) (ha : OpOk P sg ops Γ a) : OpOk P sg ops (apS Γ b.2.2.r) a := by
  obtain ⟨Γ0, j, h1, h3, h2⟩ := ha
  refine ⟨Γ0, j, fun k hk' => ?_, h3, h2⟩
  obtain ⟨g1, g2, g3⟩ := h1 k hk'
  refine ⟨?_, g2, g3⟩
  by_cases hw : k ∈ b.2.2.wr
  · rw [hk k hw g2, g1]
  · rw [apS_out hx hw, g1, hf _ g3]
    simp
theorem OpOk.bwdK (hx : GsOk b.2.2) (hk : ∀ k ∈ b.2.2.wr, k ∈ a.2.2.rd → apS Γ b.2.2.r k = Γ k) (ha : OpOk P sg ops (apS Γ b.2.2.r) a) : OpOk P sg ops Γ a := by
  obtain ⟨Γ0, j, h1, h3, h2⟩ := ha
  refine ⟨Γ0, j, fun k hk' => ?_, h3, h2⟩
  obtain ⟨g1, g2, g3⟩ := h1 k hk'
  refine ⟨?_, g2, g3⟩
  by_cases hw : k ∈ b.2.2.wr
  · rw [← hk k hw g2, g1]
  · rw [apS_out hx hw] at g1
    split at g1
    · exact absurd g1.symm hk'
    · exact g1
/-- What is said again is as it was. -/
theorem keep_upd {a : GS} (h : LoS a b.2.2) (hb : OpOk P sg ops Γ b) {Γ1 : Nat → D} {k : Nat} (hk : k ∈ b.2.2.wr) (hr : k ∈ a.rd) : apS Γ1 b.2.2.r k = Γ k := by
  obtain ⟨Γ0, j, h1, h3, h2⟩ := hb
  obtain ⟨d, e1, e2⟩ := h.kp k hk hr
  obtain ⟨e3, e4⟩ := h3 k d e2
  rw [apS_eq, h.pe]
  show ap Γ1 _ _ _ k = _
  rw [ap_at e1, (h1 k (by rw [e3]; exact e4)).1, e3]
def Swp (a b : El) : Prop := Sep a.2.2 b.2.2 ∨ LoS a.2.2 b.2.2 ∨ LoS b.2.2 a.2.2
theorem Seq.swap {l : List El} (ha : St nt a) (hb : St nt b) (h : Swp a b) (hs : Seq P sg ops I (a :: b :: l) Γ σ Γe σe) : Seq P sg ops I (b :: a :: l) Γ σ Γe σe := by
  obtain ⟨h1, σ1, h2, h3, σ2, h4, h5⟩ := hs
  rcases h with h | h | h
  · obtain ⟨τ1, g1, g2⟩ := run_swap ha.gs hb.gs h h2 h4
    refine ⟨OpOk.bwd ha.gs h h3, τ1, g1, OpOk.fwd hb.gs h.symm h1, σ2, g2, ?_⟩
    rw [known_swap hb.gs ha.gs h.symm]
    exact h5
  · obtain ⟨τ1, g1, g2⟩ := lo_run1 hb.gs h h2 h4
    have hb1 : OpOk P sg ops Γ b := OpOk.bwdK ha.gs (fun k hk hr => absurd hr (h.wr k hk)) h3
    refine ⟨hb1, τ1, g1, OpOk.fwdK hb.gs (fun k hk hr => keep_upd h hb1 hk hr) h.fa h1, σ2, g2, ?_⟩
    rw [← known_swap' ha.gs hb.gs h.ww h.fa h.fb]
    exact h5
  · obtain ⟨τ1, g1, g2⟩ := lo_run2 ha.gs h h2 h4
    have hb1 : OpOk P sg ops Γ b := OpOk.bwdK ha.gs (fun k hk hr => keep_upd h h1 hk hr) h3
    refine ⟨hb1, τ1, g1, OpOk.fwdK hb.gs (fun k hk hr => absurd hr (h.wr k hk)) h.fb h1, σ2, g2, ?_⟩
    rw [known_swap' hb.gs ha.gs h.ww h.fa h.fb]
    exact h5
theorem Seq.pull : ∀ (l1 : List El) {l2 : List El} {Γ : Nat → D} {σ : Nat → PV}, (∀ y ∈ l1, St nt y) → St nt b → (∀ y ∈ l1, Swp y b) → Seq P sg ops I (l1 ++ b :: l2) Γ σ Γe σe → Seq P sg ops I (b :: (l1 ++ l2)) Γ σ Γe σe
  | [], l2, Γ, σ, _, _, _, h => h
  | y :: l1, l2, Γ, σ, hst, hb, hsep, h => by
    obtain ⟨h1, σ1, h2, h3⟩ := h
    have h4 := Seq.pull l1 (fun z hz => hst z (by simp [hz])) hb (fun z hz => hsep z (by simp [hz])) h3
    exact Seq.swap (hst y (by simp)) hb (hsep y (by simp)) ⟨h1, σ1, h2, h4⟩

/-- The elements of a region's list. -/
def els : Nat → List Oper → List GS → List El
  | i, o :: os, s :: ss => (i, o, s) :: els (i + 1) os ss
  | _, _, _ => []
theorem regionGo_spec {z : List Nat} : ∀ {l : List Oper} {i : Nat} {Γ : Nat → D} {acc gs : List GS} {Γe : Nat → D}, regionGo z P sg nt ops l i Γ acc = some (gs, Γe) →
    ∃ gs', gs = acc.reverse ++ gs' ∧ gs'.length = l.length ∧ (∀ x ∈ els i l gs', St nt x) ∧ ∀ σ σe, regRun I gs' σ = some σe → Seq P sg ops I (els i l gs') Γ σ Γe σe
  | [], i, Γ, acc, gs, Γe, h => by
    simp only [regionGo, Option.some.injEq, Prod.mk.injEq] at h
    obtain ⟨rfl, rfl⟩ := h
    exact ⟨[], by simp, rfl, fun x hx => by simp [els] at hx, fun σ σe hr => ⟨rfl, by simpa [regRun] using hr⟩⟩
  | o :: l, i, Γ, acc, gs, Γe, h => by
    simp only [regionGo] at h
    split at h
    · rename_i s hs
      obtain ⟨gs', h1, h2, h3, h4⟩ := regionGo_spec h
      obtain ⟨g1, g2⟩ := gop_spec hs
      refine ⟨s :: gs', by simp [h1], by simp [h2], fun x hx => ?_, fun σ σe hr => ?_⟩
      · rcases List.mem_cons.1 hx with e | e
        · rw [e]; exact g2
        · exact h3 x e
      · simp only [regRun] at hr
        obtain ⟨σ1, hr1, hr2⟩ := Option.bind_eq_some_iff.1 hr
        exact ⟨g1, σ1, hr1, h4 σ1 σe hr2⟩
    · cases h
theorem els_mem : ∀ {i : Nat} {os : List Oper} {ss : List GS} {x : El}, x ∈ els i os ss → ∃ n, x.1 = i + n ∧ os[n]? = some x.2.1 ∧ ss[n]? = some x.2.2
  | i, o :: os, s :: ss, x, h => by
    rcases List.mem_cons.1 h with e | e
    · subst e; exact ⟨0, rfl, rfl, rfl⟩
    · obtain ⟨n, h1, h2, h3⟩ := els_mem e
      exact ⟨n + 1, by omega, h2, h3⟩
  | _, [], _, _, h => by simp [els] at h
  | _, _ :: _, [], _, h => by simp [els] at h
theorem mem_els : ∀ {i n : Nat} {os : List Oper} {ss : List GS}, n < os.length → ss.length = os.length → ∃ x ∈ els i os ss, x.1 = i + n
  | i, 0, o :: os, s :: ss, _, _ => ⟨(i, o, s), by simp [els], rfl⟩
  | i, n + 1, o :: os, s :: ss, h, hl => by
    obtain ⟨x, h1, h2⟩ := mem_els (i := i + 1) (n := n) (os := os) (ss := ss) (by simpa using h) (by simpa using hl)
    exact ⟨x, by simp [els, h1], by omega⟩
  | _, _, o :: os, [], h, hl => by simp at hl
  | _, _, [], _, h, _ => by simp at h
theorem els_len : ∀ {i : Nat} {os : List Oper} {ss : List GS}, ss.length = os.length → (els i os ss).length = os.length
  | _, [], [], _ => rfl
  | i, o :: os, s :: ss, h => by simp [els, els_len (i := i + 1) (os := os) (ss := ss) (by simpa using h)]
  | _, [], _ :: _, h => by simp at h
  | _, _ :: _, [], h => by simp at h
theorem els_pair {R : El → El → Prop} : ∀ {i : Nat} {os : List Oper} {ss : List GS}, (∀ x y, x ∈ els i os ss → y ∈ els i os ss → x.1 < y.1 → R x y) → List.Pairwise (fun x y => x.1 < y.1 ∧ R x y) (els i os ss)
  | _, [], _, _ => by simp [els]
  | _, _ :: _, [], _ => by simp [els]
  | i, o :: os, s :: ss, h => by
    have hlt : ∀ y ∈ els (i + 1) os ss, i < y.1 := fun y hy => by
      obtain ⟨n, h1, _⟩ := els_mem hy
      omega
    refine List.Pairwise.cons (fun y hy => ⟨hlt y hy, h _ _ (by simp [els]) (by simp [els, hy]) (hlt y hy)⟩) (els_pair fun x y hx hy => h x y (by simp [els, hx]) (by simp [els, hy]))

end

section
variable {C : Cx} {sg : FuncId → Option Sig} {ops : Array Oper} {I : Interp} {Γ Γe : Nat → D} {σ σe : Nat → PV} {Q : Exit → Act → World → Prop} {a : Act} {w : World} {F : Set} {val : Nat → Value} {loc : Nat → Nat} {S : Nat → Set} {tmps : Array Value}

theorem RelX.drew (h : RelX C Γ σ val loc S F tmps w) : RelX C Γ σ val loc S F tmps { w with drawn := w.drawn + 1 } :=
  { h with ok := fun k => (h.ok k).keep rfl rfl (fun _ => ⟨rfl, fun _ hb => hb, fun _ _ => rfl⟩) (fun _ hb => hb) (fun _ _ => rfl) (fun _ _ => ⟨fun _ => rfl, rfl, rfl, fun _ hs => ⟨hs, rfl⟩⟩) (fun _ _ => ⟨rfl, fun _ hb => hb, fun _ _ => rfl⟩) (fun _ _ => ⟨rfl, rfl⟩)
           sz := h.sz, fz := h.fz, ext := h.ext.drew }

theorem el_ok {x : El} {K : Act → World → Prop} (hI : Good C.P sg I) (hst : St C.nt x) (hop : OpOk C.P sg ops Γ x) {σ1 : Nat → PV} (hrun : x.2.2.run I σ = some σ1) (hrel : Rel C Γ σ a.tmps w) (hK : Cont C (apS Γ x.2.2.r) σ1 a K) :
    if Region.wanted x.2.1 (yielded ops a.tmps) then x.2.1.wp C.P a w K Q else K (a.put x.2.1.dst undef) w := by
  obtain ⟨Γ0, j, h1, _, h2⟩ := hop
  obtain ⟨val, loc, S, F, h⟩ := hrel
  have h3 : gopK j x.1 C.P sg ops Γ x.2.1 = some (x.2.2.g, x.2.2.r) := gopK_mono (fun k hk => (h1 k hk).1) h2
  refine gopK_ok (I := I) (σ' := σ1) h hst.lt h3 hst.main hI ?_ hK
  unfold GS.run at hrun
  rw [hst.dst] at hrun
  exact hrun

theorem list_ok {df : _} (hI : Good C.P sg I) : ∀ {l : List El} {Γ : Nat → D} {σ : Nat → PV} {a : Act} {w : World}, (∀ x ∈ l, St C.nt x) → Seq C.P sg ops I l Γ σ Γe σe → Rel C Γ σ a.tmps w → a.defers = df → (∀ a' w', Rel C Γe σe a'.tmps w' → a'.defers = df → Q .normal a' w') →
    wpList C.P ops Q (l.map fun x => x.2.1) a w
  | [], Γ, σ, a, w, _, hs, hrel, hdf, hQ => by
    obtain ⟨rfl, rfl⟩ := hs
    exact hQ a w hrel hdf
  | x :: l, Γ, σ, a, w, hst, hs, hrel, hdf, hQ => by
    obtain ⟨h1, σ1, h2, h3⟩ := hs
    refine wpList_step fun K hK => ?_
    exact el_ok hI (hst x (by simp)) h1 h2 hrel fun a' w' hr hd => hK _ _ (list_ok hI (fun y hy => hst y (by simp [hy])) h3 hr (hd.trans hdf) hQ)

theorem els_map : ∀ {i : Nat} {os : List Oper} {ss : List GS}, ss.length = os.length → (els i os ss).map (fun x => x.2.1) = os
  | _, [], [], _ => rfl
  | i, o :: os, s :: ss, h => by simp [els, els_map (i := i + 1) (os := os) (ss := ss) (by simpa using h)]
  | _, [], _ :: _, h => by simp at h
  | _, _ :: _, [], h => by simp at h

theorem set_getD (l : Array Bool) (i k : Nat) (hi : i < l.size) : (l.setIfInBounds i true).getD k true = if k = i then true else l.getD k true := by
  simp only [Array.getD_eq_getD_getElem?, Array.getElem?_setIfInBounds]
  by_cases h : k = i
  · subst h; simp [hi]
  · have : i ≠ k := fun e => h e.symm
    simp [h, this]

theorem any_ok {df : _} {anc : Nat → List Nat} (hI : Good C.P sg I) (hanc : ∀ i o, ops[i]? = some o → (∀ e ∈ edgesOf o, e < i) ∧ ∀ j ∈ anc i, ∃ e ∈ edgesOf o, e = j ∨ j ∈ anc e) (hQ : ∀ a' w', Rel C Γe σe a'.tmps w' → a'.defers = df → Q .normal a' w') :
    ∀ (n : Nat) (rem : List El) (listed : Array Bool) (Γ : Nat → D) (σ : Nat → PV) (a : Act) (w : World), rem.length = n → listed.size = ops.size → (∀ i, i < ops.size → (listed.getD i true = false ↔ ∃ x ∈ rem, x.1 = i)) →
      (∀ x ∈ rem, ops[x.1]? = some x.2.1 ∧ St C.nt x) → List.Pairwise (fun x y => x.1 < y.1 ∧ (x.1 ∈ anc y.1 ∨ Swp x y)) rem → (∀ i, i < ops.size → listed.getD i true = true → ∀ j ∈ anc i, listed.getD j true = true) →
      Rel C Γ σ a.tmps w → a.defers = df → Seq C.P sg ops I rem Γ σ Γe σe → wpAny C.P .any ops Q n listed a w := by
  have hready : ∀ (listed : Array Bool) i, i ∈ Region.ready .any ops listed ↔ ∃ o, ops[i]? = some o ∧ listed.getD i true = false ∧ ∀ e ∈ edgesOf o, listed.getD e false = true := by
    intro listed i
    unfold Region.ready
    simp only [List.mem_filter, List.mem_range, Bool.and_eq_true, Bool.not_eq_true']
    constructor
    · rintro ⟨h1, h2, h3⟩
      refine ⟨ops[i], by simp [h1], h2, fun e he => ?_⟩
      simp only [h1, getElem?_pos, Option.map_some, Option.getD_some, Array.all_eq_true_iff_forall_mem, Bool.or_eq_true, Bool.not_eq_true'] at h3
      unfold edgesOf at he
      obtain ⟨ed, h4, rfl⟩ := List.mem_map.1 he
      obtain ⟨h5, h6⟩ := List.mem_filter.1 h4
      rcases h3 ed (by simpa using h5) with h7 | h7
      · rw [h6] at h7; cases h7
      · exact h7
    · rintro ⟨o, h1, h2, h3⟩
      have hlt : i < ops.size := (Array.getElem?_eq_some_iff.1 h1).1
      refine ⟨hlt, h2, ?_⟩
      simp only [h1, Option.map_some, Option.getD_some, Array.all_eq_true_iff_forall_mem, Bool.or_eq_true, Bool.not_eq_true']
      intro e he
      cases hb : Region.binds .any e with
      | false => exact .inl rfl
      | true => exact .inr (h3 e.on (List.mem_map.2 ⟨e, List.mem_filter.2 ⟨by simpa using he, hb⟩, rfl⟩))
  have hff : ∀ (listed : Array Bool) e, e < listed.size → listed.getD e false = listed.getD e true := by
    intro listed e he
    simp [Array.getD_eq_getD_getElem?, he]
  intro n
  induction n with
  | zero =>
    intro rem listed Γ σ a w hn hsz hl hops hp hdown hrel hdf hs
    have hr : rem = [] := List.length_eq_zero_iff.1 hn
    subst hr
    obtain ⟨rfl, rfl⟩ := hs
    refine ⟨?_, hQ a w hrel hdf⟩
    rw [List.eq_nil_iff_forall_not_mem]
    intro i hi
    obtain ⟨o, h1, h2, _⟩ := (hready listed i).1 hi
    have hlt : i < ops.size := (Array.getElem?_eq_some_iff.1 h1).1
    obtain ⟨x, hx, _⟩ := (hl i hlt).1 h2
    cases hx
  | succ n ih =>
    intro rem listed Γ σ a w hn hsz hl hops hp hdown hrel hdf hs
    refine ⟨fun hempty => ?_, fun i hi => ?_⟩
    · -- the first one is ready
      exfalso
      cases rem with
      | nil => cases hn
      | cons x rem =>
        obtain ⟨ho, hst⟩ := hops x (by simp)
        have hlt : x.1 < ops.size := (Array.getElem?_eq_some_iff.1 ho).1
        have : x.1 ∈ Region.ready .any ops listed := by
          refine (hready listed x.1).2 ⟨_, ho, (hl x.1 hlt).2 ⟨x, by simp, rfl⟩, fun e he => ?_⟩
          have he1 := (hanc x.1 _ ho).1 e he
          rw [hff _ _ (by omega)]
          cases hle : listed.getD e true with
          | true => rfl
          | false =>
            obtain ⟨y, hy, e1⟩ := (hl e (by omega)).1 hle
            rcases List.mem_cons.1 hy with e2 | e2
            · subst e2; omega
            · have := (List.rel_of_pairwise_cons hp e2).1
              omega
        rw [hempty] at this
        cases this
    · obtain ⟨o, ho, hli, hed⟩ := (hready listed i).1 hi
      have hlt : i < ops.size := (Array.getElem?_eq_some_iff.1 ho).1
      obtain ⟨x, hx, rfl⟩ := (hl i hlt).1 hli
      obtain ⟨l1, l2, rfl⟩ := List.append_of_mem hx
      obtain ⟨ho', hst⟩ := hops x hx
      have hanc1 : ∀ j ∈ anc x.1, listed.getD j true = true := by
        intro j hj
        obtain ⟨e, he, h1⟩ := (hanc x.1 o ho).2 j hj
        have he1 := (hanc x.1 o ho).1 e he
        have h2 := hed e he
        rw [hff _ _ (by omega)] at h2
        rcases h1 with rfl | h1
        · exact h2
        · exact hdown e (by omega) h2 j h1
      rw [List.pairwise_append] at hp
      obtain ⟨hp1, hp2, hp3⟩ := hp
      have hsep : ∀ y ∈ l1, Swp y x := by
        intro y hy
        rcases (hp3 y hy x (by simp)).2 with h1 | h1
        · exfalso
          have h2 := hanc1 _ h1
          obtain ⟨hoy, _⟩ := hops y (by simp [hy])
          have hlty : y.1 < ops.size := (Array.getElem?_eq_some_iff.1 hoy).1
          have h3 := (hl y.1 hlty).2 ⟨y, by simp [hy], rfl⟩
          rw [h2] at h3; cases h3
        · exact h1
      have hs' := Seq.pull l1 (fun y hy => (hops y (by simp [hy])).2) hst hsep hs
      obtain ⟨g1, σ1, g2, g3⟩ := hs'
      unfold wpOp
      rw [ho']
      have key := el_ok (Q := Q) hI hst g1 g2 hrel (K := wpAny C.P .any ops Q n (listed.setIfInBounds x.1 true)) fun a' w' hr hd => by
        refine ih (l1 ++ l2) _ _ σ1 a' w' (by simp at hn ⊢; omega) (by simpa using hsz) (fun k hk => ?_) (fun y hy => hops y ?_) ?_ (fun k hk hlk j hj => ?_) hr (hd.trans hdf) g3
        · rw [set_getD _ _ _ (by omega)]
          by_cases hkx : k = x.1
          · rw [if_pos hkx]
            constructor
            · intro h; cases h
            · rintro ⟨y, hy, e⟩
              exfalso
              rcases List.mem_append.1 hy with h1 | h1
              · have := (hp3 y h1 x (by simp)).1; omega
              · have := (List.rel_of_pairwise_cons hp2 h1).1; omega
          · rw [if_neg hkx, hl k hk]
            constructor
            · rintro ⟨y, hy, e⟩
              refine ⟨y, ?_, e⟩
              simp only [List.mem_append, List.mem_cons] at hy ⊢
              rcases hy with h1 | h1 | h1
              · exact .inl h1
              · subst h1; exact absurd e.symm hkx
              · exact .inr h1
            · rintro ⟨y, hy, e⟩
              refine ⟨y, ?_, e⟩
              simp only [List.mem_append, List.mem_cons] at hy ⊢
              exact hy.imp_right .inr
        · simp only [List.mem_append, List.mem_cons] at hy ⊢
          exact hy.imp_right .inr
        · rw [List.pairwise_append]
          refine ⟨hp1, (List.pairwise_cons.1 hp2).2, fun y hy z hz => hp3 y hy z (by simp [hz])⟩
        · rw [set_getD _ _ _ (by omega)] at hlk ⊢
          by_cases hj0 : j = x.1
          · rw [if_pos hj0]
          · rw [if_neg hj0]
            by_cases hkx : k = x.1
            · subst hkx; exact hanc1 j hj
            · rw [if_neg hkx] at hlk
              exact hdown k hk hlk j hj
      simp only
      split
      · rename_i hw; rw [if_pos hw] at key; exact .inl key
      · rename_i hw; rw [if_neg hw] at key; exact key

/-- A region. -/
theorem reg_ok {z : List Nat} {id : Nat} {draw : Bool} {G : GL} {pc : PC} {q : Post} (hm : C.P.follows .mixedOrders = true) (hI : Good C.P sg I) (hc : compReg z C.P sg C.nt ops draw G = some (pc, q)) {n : Nat} {e : Ex} {σ' : Nat → PV} (hrun : pc.run I n σ = some (e, σ'))
    (hrel : Rel C (gf G) σ a.tmps w) (hQ : ∀ a' w', e = .n → (∃ H, q.n = some H ∧ Rel C (gf H) σ' a'.tmps w') → a'.defers = a.defers → Q .normal a' w') : (Code.region id ops draw).wp C.P Q a w := by
  unfold compReg at hc
  split at hc
  · rename_i gs Γe hgo
    split at hc
    · cases hc
    · rename_i hfree
      simp only [Option.some.injEq, Prod.mk.injEq] at hc
      obtain ⟨rfl, rfl⟩ := hc
      simp only [PC.run] at hrun
      obtain ⟨σe, hr1, hr2⟩ := Option.map_eq_some_iff.1 hrun
      simp only [Prod.mk.injEq] at hr2
      obtain ⟨rfl, rfl⟩ := hr2
      obtain ⟨gs', h1, h2, h3, h4⟩ := regionGo_spec (I := I) hgo
      simp only [List.reverse_nil, List.nil_append] at h1
      subst h1
      have hs := h4 σ σe hr1
      -- what is known, as a list
      have hsup : ∀ (l : List El) {Γ : Nat → D} {σ : Nat → PV}, (∀ x ∈ l, St C.nt x) → Seq C.P sg ops I l Γ σ Γe σe → ∀ k, Γe k ≠ .none → (∃ x ∈ l, k ∈ x.2.2.wr) ∨ Γ k ≠ .none := by
        intro l
        induction l with
        | nil => rintro Γ σ _ ⟨rfl, _⟩ k hk; exact .inr hk
        | cons x l ih =>
          rintro Γ σ hst ⟨_, σ1, _, g⟩ k hk
          rcases ih (fun y hy => hst y (by simp [hy])) g k hk with ⟨y, hy, h⟩ | h
          · exact .inl ⟨y, by simp [hy], h⟩
          · by_cases hw : k ∈ x.2.2.wr
            · exact .inl ⟨x, by simp, hw⟩
            · right
              intro e
              rw [apS_out (hst x (by simp)).gs hw, e] at h
              simp at h
      have hkey : gf (tab Γe (dedup (gs.flatMap (·.wr) ++ keysOf G))) = Γe := by
        have hdd : ∀ (l : List Nat) k, k ∈ dedup l ↔ k ∈ l := by
          intro l k
          induction l with
          | nil => simp [dedup]
          | cons j l ih =>
            unfold dedup
            split
            · rename_i hj
              obtain ⟨j', hj', e⟩ := List.any_eq_true.1 hj
              have e := beq_iff.1 e
              subst e
              rw [ih, List.mem_cons]
              exact ⟨.inr, fun h => h.elim (fun e => e ▸ hj') fun h => h⟩
            · rw [List.mem_cons, List.mem_cons, ih]
        funext k
        rw [gf_tab]
        split
        · rfl
        · rename_i hk
          rw [hdd] at hk
          by_cases hn : Γe k = .none
          · exact hn.symm
          · exfalso
            refine hk ?_
            rcases hsup _ h3 hs k hn with ⟨x, hx, hw⟩ | hG
            · obtain ⟨m, _, _, hg⟩ := els_mem hx
              exact List.mem_append_left _ (List.mem_flatMap.2 ⟨_, List.mem_of_getElem? hg, hw⟩)
            · exact List.mem_append_right _ (List.mem_map.2 ⟨_, gf_mem hG, rfl⟩)
      have hQ' : ∀ a' w', Rel C Γe σe a'.tmps w' → a'.defers = a.defers → Q .normal a' w' := fun a' w' hr hd => hQ a' w' rfl ⟨_, rfl, by rw [hkey]; exact hr⟩ hd
      cases draw with
      | false =>
        refine wp_region_list ?_
        have := list_ok (ops := ops) hI h3 hs hrel rfl hQ'
        rwa [els_map h2] at this
      | true =>
        simp only [Bool.true_and, Bool.not_eq_true, Bool.not_eq_false'] at hfree
        unfold freeOk at hfree
        simp only [Bool.and_eq_true, List.all_eq_true, List.mem_range] at hfree
        obtain ⟨f1, f2⟩ := hfree
        refine wp_region_any hm ?_
        have hrel' : Rel C (gf G) σ a.tmps { w with drawn := w.drawn + 1 } := by
          obtain ⟨val, loc, S, F, h⟩ := hrel
          exact ⟨val, loc, S, F, h.drew⟩
        have hlen : gs.length = ops.size := by rw [h2]; simp
        refine any_ok (anc := fun i => (ancestors ops.toList).getD i []) (df := a.defers) hI (fun i o ho => ?_) hQ' ops.size (els 0 ops.toList gs) (Array.replicate ops.size false) (gf G) σ a _ (by rw [els_len h2]; simp) (by simp) (fun i hi => ?_) (fun x hx => ⟨?_, h3 x hx⟩) (els_pair fun x y hx hy hxy => ?_) (fun i hi hli => ?_) hrel' rfl hs
        · have hlt : i < ops.size := (Array.getElem?_eq_some_iff.1 ho).1
          have := List.all_eq_true.1 f1 i (by simpa using hlt)
          have ho' : ops.toList[i]? = some o := by simpa using ho
          rw [ho'] at this
          simp only [Bool.and_eq_true, List.all_eq_true] at this
          refine ⟨fun e he => Nat.le_of_ble_eq_true (this.1 e he), fun j hj => ?_⟩
          obtain ⟨e, he, h5⟩ := List.any_eq_true.1 (this.2 j hj)
          refine ⟨e, he, ?_⟩
          simp only [Bool.or_eq_true, beq_iff, mem_iff] at h5
          exact h5
        · have : (Array.replicate ops.size false).getD i true = false := by simp [Array.getD_eq_getD_getElem?, hi]
          refine ⟨fun _ => ?_, fun _ => this⟩
          obtain ⟨x, hx, e⟩ := mem_els (i := 0) (n := i) (os := ops.toList) (ss := gs) (by simpa using hi) h2
          exact ⟨x, hx, by omega⟩
        · obtain ⟨m, e1, e2, _⟩ := els_mem hx
          rw [e1, Nat.zero_add]
          simpa using e2
        · obtain ⟨m, e1, e2, e3⟩ := els_mem hx
          obtain ⟨m', e1', e2', e3'⟩ := els_mem hy
          rw [Nat.zero_add] at e1 e1'
          have hlt : m' < gs.length := (List.getElem?_eq_some_iff.1 e3').1
          have := f2 m' hlt m (by omega)
          rw [e3, e3'] at this
          simp only [Bool.or_eq_true, Bool.not_eq_true'] at this
          rw [e1, e1']
          refine this.imp mem_iff.1 fun h => ?_
          rcases h with (h | h) | h
          · exact .inl (sep_of h)
          · exact .inr (.inl (lo_of (h3 x hx).gs h))
          · exact .inr (.inr (lo_of (h3 y hy).gs h))
        · simp [Array.getD_eq_getD_getElem?, hi] at hli
  · cases hc
end
end Go.Rsc
