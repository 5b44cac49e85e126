/- Rows and structs that are made. No conditions. -/
import Derived.Test.YtdkfgnnebaahaaaRscO
import Derived.Laws.MakeOwn
namespace Go.Rsc
open Go.RowKit
set_option linter.unusedVariables false
set_option linter.unusedSimpArgs false

section
variable {P : Program} {w w' : World} {F F' : Set} {Γ : Nat → D} {σ : Nat → PV} {val : Nat → Value} {loc : Nat → Nat} {S : Nat → Set} {C : Cx} {tmps : Array Value}
variable {d d' x y : SD} {cs c : List Value} {p q : PV} {T T' : Set}

theorem vk_inj {i j : Nat} (h : vk i = vk j) : i = j := by unfold vk at h; omega

theorem takes_ok : ∀ (xs : List Operand) (i : Nat) {Γ : Nat → D} {σ : Nat → PV} {val : Nat → Value} {S : Nat → Set} {ds : List SD} {ms : List MS}, RelX C Γ σ val loc S F tmps w → takes Γ xs i = some (ds, ms) →
    ∃ val' S', RelX C (ms.foldl apm Γ) (preRun ms σ) val' loc S' F tmps w ∧ ds.length = xs.length ∧ (∀ j x, xs[j]? = some x → val' (vk (i + j)) = evalOp tmps x) ∧ (∀ k, (∀ j, k ≠ vk (i + j)) → val' k = val k)
  | [], i, Γ, σ, val, S, ds, ms, h, ht => by
    simp only [takes, Option.some.injEq, Prod.mk.injEq] at ht
    obtain ⟨rfl, rfl⟩ := ht
    exact ⟨val, S, h, rfl, fun j x hx => by simp at hx, fun k _ => rfl⟩
  | x :: xs, i, Γ, σ, val, S, ds, ms, h, ht => by
    simp only [takes] at ht
    split at ht
    · rename_i d m htk
      obtain ⟨⟨ds', ms'⟩, hts, e⟩ := Option.map_eq_some_iff.1 ht
      simp only [Prod.mk.injEq] at e
      obtain ⟨rfl, rfl⟩ := e
      obtain ⟨S1, h1, hg⟩ := take_ok h (vk_mod i) htk
      obtain ⟨val', S', h2, hl, hv, ho⟩ := takes_ok xs (i + 1) h1 hts
      refine ⟨val', S', h2, by simp [hl], fun j y hy => ?_, fun k hk => ?_⟩
      · cases j with
        | zero =>
          simp only [List.getElem?_cons_zero, Option.some.injEq] at hy
          subst hy
          rw [Nat.add_zero, ho (vk i) (fun j e => by have := vk_inj e; omega), updF_same]
        | succ j =>
          simp only [List.getElem?_cons_succ] at hy
          have := hv j y hy
          rwa [Nat.add_assoc, Nat.add_comm 1 j] at this
      · rw [ho k (fun j e => hk (j + 1) (by rw [e]; congr 1; omega)), updF_ne _ _ (fun e => hk 0 (by rw [e]; rfl))]
    · cases ht

theorem kept_ok : ∀ (ds : List SD) (b i : Nat), kept Γ b ds i = true → ∀ j d, ds[j]? = some d → Γ (vk (b + i + j)) = .v d
  | [], b, i, h, j, d, hd => by simp at hd
  | d0 :: ds, b, i, h, j, d, hd => by
    simp only [kept, Bool.and_eq_true, beq_iff_eq] at h
    cases j with
    | zero => simp only [List.getElem?_cons_zero, Option.some.injEq] at hd; subst hd; exact h.1
    | succ j =>
      have := kept_ok ds b (i + 1) h.2 j d (by simpa using hd)
      rwa [show b + (i + 1) + j = b + i + (j + 1) by omega] at this

theorem drops_eq (b n : Nat) : drops b n = noneOf ((List.range n).map fun i => vk (b + i)) := by
  simp [drops, noneOf, List.map_map]

theorem listPX_eval : ∀ (n i : Nat), (listPX n i).eval σ [] = .list ((List.range n).map fun j => σ (vk (i + j)))
  | 0, i => rfl
  | n + 1, i => by
    simp only [listPX, PX.eval, listPX_eval n (i + 1), PV.toList, List.range_succ_eq_map, List.map_cons, List.map_map, Nat.add_zero]
    congr 2
    apply List.map_congr_left
    intro j _
    simp only [Function.comp_apply]
    congr 2
    omega

theorem foldl_set : ∀ (vs : List Value) (off k : Nat) (cells : Array Value), off + k + vs.length ≤ cells.size →
    ((vs.zipIdx k).foldl (fun cs (cj : Value × Nat) => cs.setIfInBounds (off + cj.2) cj.1) cells).toList = cells.toList.take (off + k) ++ vs ++ cells.toList.drop (off + k + vs.length)
  | [], off, k, cells, h => by simp
  | v :: vs, off, k, cells, h => by
    simp only [List.zipIdx_cons, List.foldl_cons]
    simp only [List.length_cons] at h
    rw [foldl_set vs off (k + 1) (cells.setIfInBounds (off + k) v) (by simp; omega)]
    have e := list_seg_step cells.toList (off + k) v vs (by simp; omega)
    simpa [Array.toList_setIfInBounds, Nat.add_assoc] using e

/-- One part is filled in. -/
theorem fill_cons {place : Nat → Option (Nat × Nat)} {cells : Array Value} {i off size : Nat} {v : Value} {rest : List (Nat × Value)} (hp : place i = some (off, size)) (hs : v.cells.size = size) (hfit : off + size ≤ cells.size) :
    ∃ cells', Instr.fill place cells ((i, v) :: rest) = Instr.fill place cells' rest ∧ cells'.toList = cells.toList.take off ++ v.cells.toList ++ cells.toList.drop (off + size) := by
  refine ⟨v.cells.zipIdx.foldl (fun cs (c, j) => cs.setIfInBounds (off + j) c) cells, ?_, ?_⟩
  · simp only [Instr.fill, hp]
    rw [if_neg]
    simp only [hs, bne_self_eq_false, Bool.false_or, decide_eq_true_eq, ne_eq]
    simp
    omega
  · have := foldl_set v.cells.toList off 0 cells (by simp; omega)
    simp only [Nat.add_zero, Array.length_toList, hs] at this
    rw [← this]
    congr 1
    rw [← Array.foldl_toList]
    congr 1
    simp

theorem drop_seg {α : Type} {l pre c post : List α} (h : l = pre ++ c ++ post) : l.take pre.length = pre ∧ l.drop (pre.length + c.length) = post := by
  subst h
  constructor
  · simp [List.append_assoc]
  · rw [List.append_assoc, ← List.drop_drop, List.drop_left, List.drop_left]

/-- Rows: all parts, one behind the other. -/
theorem fill_rows {size : Nat} : ∀ (vs : List Value) (k : Nat) (cells : Array Value) (done : List Value), (∀ v ∈ vs, v.cells.size = size) → done.length = k * size → cells.toList.take (k * size) = done → cells.size = (k + vs.length) * size →
    ∃ cells', Instr.fill (fun i => some (i * size, size)) cells ((List.range' k vs.length).zip vs) = some cells' ∧ cells'.toList = done ++ (vs.map fun v => v.cells.toList).flatten
  | [], k, cells, done, hv, hd, ht, hs => by
    refine ⟨cells, rfl, ?_⟩
    simp only [List.map_nil, List.flatten_nil, List.append_nil, List.length_nil, Nat.add_zero] at hs ⊢
    rw [← ht, ← hs, ← Array.length_toList, List.take_length]
  | v :: vs, k, cells, done, hv, hd, ht, hs => by
    simp only [List.length_cons] at hs ⊢
    simp only [List.range'_succ, List.zip_cons_cons]
    have hvs := hv v (by simp)
    have hle : k * size + size ≤ cells.size := by rw [hs, ← Nat.succ_mul]; exact Nat.mul_le_mul_right _ (by omega)
    obtain ⟨cells', e1, e2⟩ := fill_cons (place := fun i => some (i * size, size)) (cells := cells) (i := k) (v := v) (rest := (List.range' (k + 1) vs.length).zip vs) rfl hvs hle
    rw [e1]
    have hvl : v.cells.toList.length = size := by simpa using hvs
    obtain ⟨cells'', e3, e4⟩ := fill_rows vs (k + 1) cells' (done ++ v.cells.toList) (fun u hu => hv u (by simp [hu])) (by rw [List.length_append, hd, hvl, Nat.succ_mul]) (by
      rw [e2, ht, Nat.succ_mul, ← hd, ← hvl]
      have := (drop_seg (l := (done ++ v.cells.toList) ++ cells.toList.drop (done.length + v.cells.toList.length)) (pre := done ++ v.cells.toList) (c := []) (post := cells.toList.drop (done.length + v.cells.toList.length)) (by simp)).1
      simpa using this) (by
      rw [← Array.length_toList, e2, ht]
      simp only [List.length_append, List.length_drop, Array.length_toList, hd, hvl, hs]
      have : (k + (vs.length + 1)) * size = (k + 1 + vs.length) * size := by congr 1; omega
      rw [this] at hs ⊢
      omega)
    exact ⟨cells'', e3, by rw [e4]; simp⟩

/-- An element of rows one behind the other. -/
theorem elemAt_flatten {size : Nat} : ∀ (ls : List (List Value)) (j : Nat) (l : List Value), (∀ l ∈ ls, l.length = size) → ls[j]? = some l → elemAt ls.flatten size j = l
  | [], j, l, _, h => by simp at h
  | a :: ls, j, l, hl, h => by
    have ha := hl a (by simp)
    cases j with
    | zero =>
      simp only [List.getElem?_cons_zero, Option.some.injEq] at h
      subst h
      unfold elemAt
      simp [← ha]
    | succ j =>
      have ih := elemAt_flatten ls j l (fun u hu => hl u (by simp [hu])) (by simpa using h)
      unfold elemAt at ih ⊢
      rw [List.flatten_cons, Nat.succ_mul, Nat.add_comm (j * size) size, ← List.drop_drop, ← ha, List.drop_left, ha]
      exact ih
theorem flatten_length {size : Nat} : ∀ (ls : List (List Value)), (∀ l ∈ ls, l.length = size) → ls.flatten.length = ls.length * size
  | [], _ => by simp
  | a :: ls, h => by
    rw [List.flatten_cons, List.length_append, h a (by simp), flatten_length ls (fun u hu => h u (by simp [hu])), List.length_cons, Nat.succ_mul]
    omega

theorem madeCells_flatten (z : Array Value) (n : Nat) : (madeCells z (n * z.size)).toList = (List.replicate n z.toList).flatten := by
  induction n with
  | zero => simp [madeCells]
  | succ n ih =>
    rw [List.replicate_succ', List.flatten_append]
    have : (madeCells z ((n + 1) * z.size)).toList = (madeCells z (n * z.size)).toList ++ (List.range z.size).map (fun k => z[k % z.size]!) := by
      simp only [madeCells, Array.toList_map, Array.toList_range]
      rw [Nat.succ_mul, List.range_add, List.map_append, List.map_map]
      congr 1
      apply List.map_congr_left
      intro k _
      simp [Nat.mul_comm n]
    rw [this, ih]
    congr 1
    simp only [List.flatten_cons, List.flatten_nil, List.append_nil]
    apply List.ext_getElem
    · simp
    · intro k h1 h2
      simp only [List.length_map, List.length_range] at h1
      simp only [List.getElem_map, List.getElem_range]
      rw [Nat.mod_eq_of_lt h1]
      simp [h1]

section
variable {a : Act} {o : Oper} {K : Act → World → Prop} {Q : Exit → Act → World → Prop} {dst : Nat} {v : Value} {I : Interp} {σ' : Nat → PV} {r : SR}

theorem cMakeSlice_ok {t : TypeId} {al ac : Operand} (h : RelX C Γ σ val loc S F a.tmps w) (ht : dst < C.nt) (hdst : o.dst = some dst) (hop : o.op = .makeSlice t al ac)
    (hc : cMakeSlice C.P Γ dst t al ac = some r) (hrun : r.run I σ = some σ') (hK : Cont C (apS Γ r) σ' a K) : o.wp C.P a w K Q := by
  unfold cMakeSlice at hc
  split at hc
  · rename_i e hu
    split at hc
    · rename_i pa pb z zx hl hcap hz
      simp only at hc
      split at hc
      · rename_i hcond
        simp only [Bool.and_eq_true, Bool.not_eq_true', beq_iff, beq_false] at hcond
        obtain ⟨⟨⟨hcoe, hcell⟩, hnz⟩, hnb⟩ := hcond
        simp only [Option.some.injEq] at hc
        subst hc
        obtain ⟨hchk, rfl⟩ := mk1_run hrun
        obtain ⟨l, el1, el2⟩ := intOf_ok h hl []
        obtain ⟨cp, ec1, ec2⟩ := intOf_ok h hcap []
        obtain ⟨i, zv, hi, hzv, hR, hty⟩ := zeroOf_ok (w := w) (F := F) (σ := σ) hz
        simp only [List.all_cons, List.all_nil, Bool.and_true, Bool.and_eq_true, PX.eval, el2, ec2, PV.toInt, PV.toBool, cmpI, ltI, leI, gtI, geI, eqI, neI, decide_eq_true_eq] at hchk
        obtain ⟨h0, h1, h2⟩ := hchk
        have hby : C.P.bytesOf e = i.bytes := by simp [Program.bytesOf, hi]
        have hci : C.P.cellsOf e = i.size := by simp [Program.cellsOf, hi]
        have hcp0 : 0 ≤ cp := by omega
        have hmul : cp.toNat * i.bytes ≤ 140737488355328 := by
          have h3 : cp.toNat ≤ 140737488355328 / i.bytes := by
            have : cp ≤ ((140737488355328 / i.bytes : Nat) : Int) := by rw [← hby]; exact h2
            omega
          exact Nat.le_trans (Nat.mul_le_mul_right _ h3) (Nat.div_mul_le_self _ _)
        have hcle : cp.toNat ≤ 140737488355328 := by
          refine Nat.le_trans (Nat.le_mul_of_pos_right _ ?_) hmul
          rw [← hby]; omega
        have hbytes : (i.bytes : Int) * cp ≤ 281474976710656 := by
          have : (i.bytes : Int) * cp = ((cp.toNat * i.bytes : Nat) : Int) := by
            rw [Int.natCast_mul, Int.toNat_of_nonneg hcp0, Int.mul_comm]
          rw [this]; omega
        have hmk := run_make (P := C.P) w t e i zv hu hi hzv .i64 .i64 l cp h0 h1 hbytes (by omega)
        have hr : (execOp a.eval o).run C.P w = .ok (.value (.slice (some ⟨w.heap.size, 0, none⟩) l.toNat cp.toNat)) (w.alloc (.cells (madeCells zv.cells (cp.toNat * i.size)) e)) := by
          simp [execOp, hop, evalOp_eq, el1, ec1, hmk]
        have hzl : zv.cells.size = i.size := by
          have := hR.len
          rw [Array.length_toList] at this
          rw [this, ← hci, hcell]
          exact (coe_sz hcoe).symm
        refine wp_val hdst hr (hK _ _ ⟨_, _, _, _, h.make (w' := w.alloc (.cells (madeCells zv.cells (cp.toNat * i.size)) e)) ht (ks := []) (by simp) (T := fun b => b = w.heap.size) (fun b hb => .inr ⟨by omega, by simp; omega⟩) (fun b hb _ => heap_alloc_old w _ b hb) rfl rfl rfl (by simp) ⟨_, .inr ⟨rfl, rfl⟩, ?_⟩⟩ rfl)
        simp only [PX.eval, el2, PV.toInt]
        have hsz : (el C.P (hasSl C.P 8 e) e).sz = i.size := by rw [← hcell, hci]
        refine .own e _ w.heap.size l.toNat cp.toNat _ _ _ (fun _ => Set.none) (heap_alloc_new w _) (by omega) (by simp only [maxLen]; omega) (by rw [size_madeCells, hsz]) (by simp) (by omega) rfl (fun j x hx => hx.elim) (fun j x hx => hx.elim) (fun i j x hx => hx.elim) (fun j p hp => ?_)
        rw [List.getElem?_replicate] at hp
        split at hp
        · rename_i hj
          simp only [Option.some.injEq] at hp
          subst hp
          rw [hsz, ← hzl, madeCells_flatten, elemAt_flatten _ j zv.cells.toList (by simp) (by rw [List.getElem?_replicate, if_pos (by omega)])]
          exact (hR.coe hcoe).imp (fun b hb => hb) (fun b hb => hb) (fun b hb => heap_alloc_old w _ b (hb.elim (h.fz b) (fun h => h.elim)))
        · cases hp
      · cases hc
    · cases hc
  · cases hc

theorem inOrder_ok : ∀ (ps : List (Nat × Operand)) (i : Nat), inOrder ps i = true → ps.map (·.1) = List.range' i ps.length
  | [], i, h => rfl
  | (j, x) :: ps, i, h => by
    simp only [inOrder, Bool.and_eq_true, beq_iff] at h
    obtain ⟨rfl, h⟩ := h
    simp only [List.map_cons, List.length_cons, List.range'_succ, inOrder_ok ps (j + 1) h]

theorem cBuildSlice_ok {b n : Nat} {t : TypeId} {parts : Array (Nat × Operand)} (h : RelX C Γ σ val loc S F a.tmps w) (ht : dst < C.nt) (hdst : o.dst = some dst) (hop : o.op = .buildSlice t n parts)
    (hc : cBuildSlice b C.P Γ dst t n parts = some r) (hrun : r.run I σ = some σ') (hK : Cont C (apS Γ r) σ' a K) : o.wp C.P a w K Q := by
  unfold cBuildSlice at hc
  split at hc
  · rename_i e hu
    split at hc
    · cases hc
    · rename_i hcond
      simp only [Bool.or_eq_true, Bool.not_eq_true', not_or, Bool.not_eq_false, beq_iff] at hcond
      obtain ⟨hord, hn⟩ := hcond
      split at hc
      · rename_i ds ms htk
        simp only at hc
        split at hc
        · rename_i m hm
          split at hc
          · rename_i hcond
            simp only [Bool.and_eq_true, Bool.not_eq_true', beq_iff, beq_false] at hcond
            obtain ⟨⟨⟨⟨⟨hcell, hnz⟩, hble⟩, hkept⟩, hzs⟩, hdead⟩ := hcond
            simp only [Option.some.injEq] at hc
            subst hc
            obtain ⟨_, rfl⟩ := sr_run (chk := []) hrun
            obtain ⟨val', S', h1, hlen, hval, _⟩ := takes_ok _ b h htk
            have hlen' : ds.length = n := by rw [hlen, List.length_map, Array.length_toList]; exact hn
            have hcoe : ∀ d ∈ ds, coe d (el C.P m e) = true := by
              split at hm
              · split at hm
                · rename_i hall
                  simp only [Option.some.injEq] at hm; subst hm
                  exact List.all_eq_true.1 hall
                · split at hm
                  · rename_i hall
                    simp only [Option.some.injEq] at hm; subst hm
                    exact List.all_eq_true.1 hall
                  · cases hm
              · split at hm
                · rename_i hall
                  simp only [Option.some.injEq] at hm; subst hm
                  exact List.all_eq_true.1 hall
                · cases hm
            have part : ∀ j, j < n → ∃ x csj, parts.toList[j]?.map (·.2) = some x ∧ csj.length = (el C.P m e).sz ∧ (evalOp a.tmps x).cells.toList = csj ∧ R C.P w F (el C.P m e) csj (preRun ms σ (vk (b + j))) (S' (vk (b + j))) := by
              intro j hj
              have hjd := getD_some (l := ds) (j := j) (by omega) .sn
              have hk := kept_ok ds b 0 hkept j _ hjd
              rw [Nat.add_zero] at hk
              have hok := h1.ok (vk (b + j))
              rw [hk] at hok
              obtain ⟨csj, hf, hR⟩ := hok
              have hjp : j < parts.toList.length := by rw [Array.length_toList, hn]; exact hj
              refine ⟨(parts.toList[j]).2, csj, by rw [List.getElem?_eq_getElem hjp]; rfl, ?_, ?_, hR.coe (hcoe _ (List.mem_of_getElem? hjd))⟩
              · rw [hR.len]; exact (coe_sz (hcoe _ (List.mem_of_getElem? hjd))).symm
              · have hv := hval j (parts.toList[j]).2 (by rw [List.getElem?_map, List.getElem?_eq_getElem hjp]; rfl)
                rw [hv] at hf
                have hfc := hf.coe (hcoe _ (List.mem_of_getElem? hjd))
                exact hfc.cells_eq (hR.coe (hcoe _ (List.mem_of_getElem? hjd))) hdead
            obtain ⟨zv, hzv⟩ := Option.isSome_iff_exists.1 hzs
            obtain ⟨i, hi, hzv⟩ := Option.bind_eq_some_iff.1 hzv
            have hci : C.P.cellsOf e = i.size := by simp [Program.cellsOf, hi]
            generalize hvs : parts.toList.map (fun x => evalOp a.tmps x.2) = vs
            have hvl : vs.length = n := by rw [← hvs, List.length_map, Array.length_toList]; exact hn
            have hvj : ∀ (j : Nat) v, vs[j]? = some v → v.cells.toList.length = (el C.P m e).sz ∧ R C.P w F (el C.P m e) v.cells.toList (preRun ms σ (vk (b + j))) (S' (vk (b + j))) := by
              intro j v hv
              have hj : j < n := by rw [← hvl]; exact (List.getElem?_eq_some_iff.1 hv).1
              obtain ⟨x, csj, e1, e2, e3, e4⟩ := part j hj
              rw [← hvs, List.getElem?_map] at hv
              obtain ⟨y, hy, rfl⟩ := Option.map_eq_some_iff.1 hv
              rw [hy] at e1
              simp only [Option.map_some, Option.some.injEq] at e1
              subst e1
              rw [e3]
              exact ⟨e2, e4⟩
            have hvsz : ∀ v ∈ vs, v.cells.size = i.size := by
              intro v hv
              obtain ⟨j, hj⟩ := List.getElem?_of_mem hv
              have := (hvj j v hj).1
              rw [Array.length_toList] at this
              rw [this, ← hcell, hci]
            generalize hz0 : ((Array.range (n * i.size)).map ((if n * i.size = 0 then #[] else zv.cells)[· % (if n * i.size = 0 then #[] else zv.cells).size]!)) = z0
            have hz0s : z0.size = n * i.size := by rw [← hz0]; simp
            obtain ⟨cells, hfill, hcl⟩ := fill_rows (size := i.size) vs 0 z0 [] hvsz (by simp) (by simp) (by rw [hz0s, hvl]; simp)
            simp only [List.nil_append] at hcl
            have hparts : (parts.map fun (x : Nat × Operand) => (x.1, a.eval x.2)).toList = (List.range' 0 vs.length).zip vs := by
              rw [Array.toList_map]
              have h2 := inOrder_ok _ 0 hord
              have : (List.range' 0 vs.length) = parts.toList.map (·.1) := by rw [h2, hvl, Array.length_toList, hn]
              rw [this, ← hvs, List.zip_map']
              apply List.map_congr_left
              intro x _
              simp [evalOp_eq]
            have hble : n * i.size ≤ 16777216 := by rw [← hci]; exact Nat.le_of_ble_eq_true hble
            have hexb : (Instr.buildSlice t n (parts.map fun (x : Nat × Operand) => (x.1, a.eval x.2))).run C.P w = .ok (.slice (some ⟨w.heap.size, 0, none⟩) n n) (w.alloc (.cells cells e)) := by
              have n2 : ¬ (16777216 < n * i.size) := by omega
              rw [← hz0, ← hparts] at hfill
              have hz1 : (if n * i.size = 0 then pure #[] else do pure (← zeroValue e).cells : Sem (Array Value)).run C.P w = .ok (if n * i.size = 0 then #[] else zv.cells) w := by
                split <;> simp [zeroValue, typeInfo, hi, hzv]
              unfold Instr.buildSlice
              simp only [Sem.run_bind, run_underlying hu, Result.andThen_ok, run_sizeOf'' ⟨i, hi⟩, hci]
              rw [if_neg (by simpa using n2)]
              by_cases hz : n * i.size = 0
              · rw [if_pos hz] at hfill ⊢
                simp only [Sem.run_bind, Sem.run_pure, Result.andThen_ok, hfill]
                simp [newRow]
              · rw [if_neg hz] at hfill ⊢
                have hzr : (zeroValue e).run C.P w = .ok zv w := by simp [zeroValue, typeInfo, hi, hzv]
                simp only [Sem.run_bind, Sem.run_pure, Result.andThen_ok, hzr, hfill]
                simp [newRow]
            have hr : (execOp a.eval o).run C.P w = .ok (.value (.slice (some ⟨w.heap.size, 0, none⟩) n n)) (w.alloc (.cells cells e)) := by
              simp only [execOp, hop, Sem.run_bind, hexb, Result.andThen_ok]
              rfl
            have hks : ∀ k ∈ (List.range ds.length).map (fun i => vk (b + i)), k % 64 = 63 := by
              intro k hk
              obtain ⟨i, _, rfl⟩ := List.mem_map.1 hk
              exact vk_mod _
            have e9 : setAll (preRun ms σ) [] [(tk dst, listPX ds.length b)] = updF (preRun ms σ) (tk dst) (.list ((List.range n).map fun j => preRun ms σ (vk (b + j)))) := by
              rw [setAll_one, listPX_eval, hlen']
            refine wp_val hdst hr (hK _ _ ?_ rfl)
            show Rel C (ap (ms.foldl apm Γ) ((tk dst, D.v (.own e m)) :: drops b ds.length) [tk dst] []) _ _ _
            rw [e9, drops_eq]
            refine ⟨_, _, _, _, h1.make (w' := w.alloc (.cells cells e)) ht hks (T := fun b' => b' = w.heap.size ∨ ∃ j, j < n ∧ S' (vk (b + j)) b') (fun b' hb' => ?_) (fun b' hb' _ => heap_alloc_old w _ b' hb') rfl rfl rfl (by simp) ⟨_, .inr ⟨rfl, rfl⟩, ?_⟩⟩
            · rcases hb' with rfl | ⟨j, hj, hb'⟩
              · exact .inr ⟨Nat.le_refl _, by simp⟩
              · exact .inl ⟨vk (b + j), List.mem_map.2 ⟨j, by simp [hlen', hj], rfl⟩, hb'⟩
            · have hls : ∀ l ∈ vs.map (fun v => v.cells.toList), l.length = i.size := by
                intro l hl
                obtain ⟨v, hv, rfl⟩ := List.mem_map.1 hl
                simpa using hvsz v hv
              have hesz : (el C.P m e).sz = i.size := by rw [← hcell, hci]
              refine .own e m w.heap.size n n cells _ _ (fun j b' => j < n ∧ S' (vk (b + j)) b') (heap_alloc_new w _) (Nat.le_refl _) ?_ ?_ (by simp) (by omega) (.inl rfl) (fun j x hx => .inr ⟨j, hx⟩) (fun j x hx => ?_) (fun i' j x hx hx' => ?_) (fun j p hp => ?_)
              · have : n ≤ n * i.size := Nat.le_mul_of_pos_right _ (by omega)
                simp only [maxLen]; omega
              · rw [← Array.length_toList, hcl, flatten_length _ hls, List.length_map, hvl, hesz]
              · have := h1.sz _ x hx.2; omega
              · have := vk_inj (h1.dj _ _ _ hx.2 hx'.2); omega
              · rw [List.getElem?_map] at hp
                obtain ⟨j', hj', rfl⟩ := Option.map_eq_some_iff.1 hp
                have hj : j < n := by have := (List.getElem?_eq_some_iff.1 hj').1; simpa using this
                have : j' = j := by rw [List.getElem?_range hj] at hj'; simpa using hj'.symm
                subst this
                have hvj' := List.getElem?_eq_getElem (l := vs) (i := j') (by omega)
                have h5 := (hvj j' _ hvj').2
                rw [hcl, hesz, elemAt_flatten _ j' _ hls (by rw [List.getElem?_map, hvj']; rfl)]
                exact h5.imp (fun b hb => hb) (fun b hb => ⟨hj, hb⟩) (fun b hb => heap_alloc_old w _ b (hb.elim (h1.fz b) (h1.sz _ b)))
          · cases hc
        · cases hc
      · cases hc
  · cases hc
end
end
end Go.Rsc
