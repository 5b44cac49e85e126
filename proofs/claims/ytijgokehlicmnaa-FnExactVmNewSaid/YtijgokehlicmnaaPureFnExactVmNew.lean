/- What functions of the program and of the reference come to, for the law FnExactVmNew. Each under the conditions that it names. -/
import Derived.Test.YtijgokehlicmnaaHFnExactVmNew
namespace Go.Proofs.Ytijgokehlicmnaa.GFnExactVmNew
open Go Go.Rsc Go.Proofs.Ytijgokehlicmnaa
set_option maxRecDepth 100000
set_option linter.unusedVariables false
set_option linter.unusedSimpArgs false
theorem funOkL {q : PV} (h : WfT Try.prog 176 q) (hw : q.wt ≤ 1048576) : FunOk q := by
  obtain ⟨x0, x1, rfl, _, h1⟩ := wf176 h
  obtain ⟨l, rfl, _, he⟩ := wf_slice (e := 243) (by kernel_rfl) h1
  simp at hw
  refine ⟨x0, l, rfl, by omega, fun o ho => ?_⟩
  obtain ⟨a, b, c, rfl, _⟩ := wf243 (he o ho)
  exact ⟨a, b, c, rfl⟩
theorem verify {l : List PV} (hl : l.length ≤ 1048576) (hf : ∀ q, q ∈ l → FunOk q) : ∃ b : Bool, Rn 153 [.list l] [.bool b] ∧ Rn 150 [.list l] [.bool b] := by
  obtain ⟨o, ho⟩ := Classical.axiomOfChoice fun i : Nat => depths hl hf (i : Int)
  obtain ⟨c, hc⟩ := Classical.axiomOfChoice ho
  have h1 := all_loop (body := fun n => L153_0 (ev Try.prog sg n) n) (pay := fun i => [.int i, .int l.length, .list l]) (c := c) (e1 := .x 0) (r1 := [.list l]) (e2 := .r) (r2 := [.bool false]) l.length (by simp) (by simp) (fun i hi hcc => ?_) (fun i hi hcc => ?_) (Evt.all fun n => ?_)
  have h2 := all_loop (body := fun n => L150_0 (ev Try.prog sg n) n) (pay := fun i => [.int i, .list l]) (c := c) (e1 := .x 0) (r1 := [.list l]) (e2 := .r) (r2 := [.bool false]) l.length (by simp) (by simp) (fun i hi hcc => ?_) (fun i hi hcc => ?_) (Evt.all fun n => ?_)
  · cases hall : (List.range l.length).all c with
    | false =>
      simp only [hall, Bool.false_eq_true, if_false, show ((0 : Nat) : Int) = 0 from rfl] at h1 h2
      exact ⟨false, Is.of e153 (h1.mp fun n q => by simp [F153, q]), Is.of e150 (h2.mp fun n q => by simp [F150, q])⟩
    | true =>
      simp only [hall, if_true, show ((0 : Nat) : Int) = 0 from rfl] at h1 h2
      have h41 := fun41 hl hf
      have he : gtI (l.length : Int) 0 = funsOk l := by
        by_cases hz : l.length = 0
        · have e1 : funsOk l = false := by simp [funsOk, okR, hz]
          rw [e1, gtF (by omega)]
        · have h0 := List.all_eq_true.1 hall 0 (by simp; omega)
          have e1 := (hc 0).2.2.1 h0
          rw [e1, gtT (by omega)]
      exact ⟨funsOk l, Is.of e153 (h1.mp fun n q => by simp [F153, q, he]), Is.of e150 (h2.mp2 h41 fun n q q2 => by simp [F150, q, q2])⟩
  · have h3 := (hc i).2.2.2.2
    rw [hcc] at h3
    refine h3.mp fun n q => ?_
    simp (disch := omega) [L150_0, ltT, q, wrap64]
  · have h3 := (hc i).2.2.2.2
    rw [hcc] at h3
    refine h3.mp fun n q => ?_
    simp (disch := omega) [L150_0, ltT, q]
  · simp (disch := omega) [L150_0, ltF]
  · have h3 := (hc i).2.2.2.1
    rw [hcc] at h3
    refine h3.mp fun n q => ?_
    simp (disch := omega) [L153_0, ltT, q, wrap64]
  · have h3 := (hc i).2.2.2.1
    rw [hcc] at h3
    refine h3.mp fun n q => ?_
    simp (disch := omega) [L153_0, ltT, q]
  · simp (disch := omega) [L153_0, ltF]
theorem funEq {q : PV} (h : FunOk q) : PV.agg [q.fld 0, .list (q.fld 1).toList] = q ∧ (q.fld 1).toList.length ≤ 1048576 := by
  obtain ⟨free, ops, rfl, ho, _⟩ := h
  exact ⟨rfl, ho⟩
theorem copyFI {l : List PV} (hl : l.length ≤ 1048576) (hf : ∀ q, q ∈ l → FunOk q) : Rn 154 [.list l] [.list l] := by
  have h1 := loop_run (body := fun n => L154_0 (ev Try.prog sg n) n) (fun i => [.int i, .int l.length, .list l, .list (l.take i)]) l.length (e := .x 0) (res := [.list l]) (fun i hi => Evt.all fun n => ?_) (Evt.all fun n => ?_) (by simp)
  · refine Is.of e154 (h1.mp fun n q => ?_)
    simp at q
    simp [F154, q]
  · obtain ⟨e1, e2⟩ := funEq (hf _ (nth_mem hi))
    simp (disch := omega) [L154_0, ltT, geT, leNT, e1, wrap64, take_nth hi]
  · simp (disch := omega) [L154_0, ltF]
theorem copyFS {l : List PV} (hl : l.length ≤ 1048576) (hf : ∀ q, q ∈ l → FunOk q) : Rn 151 [.list l] [.list l] := by
  have h1 := loop_run (body := fun n => L151_0 (ev Try.prog sg n) n) (fun i => [.int i, .list l, .list (l.take i)]) l.length (e := .x 0) (res := [.list l]) (fun i hi => Evt.all fun n => ?_) (Evt.all fun n => ?_) (by simp)
  · refine Is.of e151 (h1.mp fun n q => ?_)
    simp at q
    simp [F151, q]
  · obtain ⟨e1, e2⟩ := funEq (hf _ (nth_mem hi))
    simp (disch := omega) [L151_0, ltT, geT, leNT, e1, wrap64, take_nth hi]
  · simp (disch := omega) [L151_0, ltF]
theorem repW (n : Nat) : List.replicate n (PV.int 0) = (List.replicate n (0 : Int)).map PV.int := by simp
theorem newI (half : Int) : Rn 40 [.int half] (if okR half 1 3000 then [heapV (List.replicate (2 * half).toNat 0) half 0 0, .bool true] else [heapV [] 0 0 0, .bool false]) := by
  refine Is.of e40 ((is54 half 1 3000).mp fun n q => ?_)
  cases hc : okR half 1 3000 with
  | false => rw [hc] at q; simp [F40, q]
  | true =>
    have := okR_in hc
    rw [hc] at q
    simp (disch := omega) [F40, q, wrap64, geT, leT]
theorem newS (half : Int) : Rn 41 [.int half] (if okR half 1 3000 then [heapV (List.replicate (2 * half).toNat 0) half 0 0, .bool true] else [heapV [] 0 0 0, .bool false]) := by
  refine Is.of e41 ((is51 half 1 3000).mp fun n q => ?_)
  cases hc : okR half 1 3000 with
  | false => rw [hc] at q; simp [F41, q]
  | true =>
    have := okR_in hc
    rw [hc] at q
    simp (disch := omega) [F41, q, wrap64, geT, leT]
abbrev zeroVm : PV := vmV [] [] 0 0 0 [] [] [] 0 false
abbrev newVm (l : List PV) (half : Int) (each : Bool) : PV := vmV l (List.replicate (2 * half).toNat 0) half 0 0 [1, 1] [.agg [.int 0, .int 0, .int 1]] [] 0 each
theorem one0 : Rn 103 [.int 0] [.int 1] :=
  Is.of e103 ((is102 0).mp fun n q => by simp [okW] at q; simp [F103, q, wrap64])
theorem vmnew {l : List PV} (hl : l.length ≤ 1048576) (hf : ∀ q, q ∈ l → FunOk q) (half : Int) (each : Bool) : ∃ v ok, ((v = newVm l half each ∧ ok = true ∧ 1 ≤ half ∧ half ≤ 3000) ∨ (v = zeroVm ∧ ok = false)) ∧
    Rn 76 [.list l, .int half, .bool each] [v, .bool ok] ∧ Rn 74 [.list l, .int half, .bool each] [v, .bool ok] := by
  have hnI := newI half
  have hnS := newS half
  cases hc : okR half 1 3000 with
  | false =>
    rw [hc] at hnI hnS
    simp only [Bool.false_eq_true, if_false] at hnI hnS
    refine ⟨zeroVm, false, .inr ⟨rfl, rfl⟩, Is.of e76 (hnI.mp fun n q => ?_), Is.of e74 (hnS.mp fun n q => ?_)⟩
    · simp [F76, q]
    · simp [F74, q]
  | true =>
  have hh := okR_in hc
  rw [hc] at hnI hnS
  simp only [if_true] at hnI hnS
  obtain ⟨b, hvI, hvS⟩ := verify hl hf
  cases hb : b with
  | false =>
    rw [hb] at hvI hvS
    refine ⟨zeroVm, false, .inr ⟨rfl, rfl⟩, Is.of e76 (hnI.mp2 hvI fun n q1 q2 => ?_), Is.of e74 (hnS.mp2 hvS fun n q1 q2 => ?_)⟩
    · simp [F76, q1, q2]
    · simp [F74, q1, q2]
  | true =>
  rw [hb] at hvI hvS
  have hWl : (List.replicate (2 * half).toNat (0 : Int)).length ≤ 1048576 := by simp; omega
  have hW2 : ∀ w, w ∈ List.replicate (2 * half).toNat (0 : Int) → w < 9223372036854775808 := fun w hw => by rw [(List.mem_replicate.1 hw).2]; decide
  have hc1 : ∀ q, q ∈ [PV.agg [.int 0, .int 0, .int 1]] → CallOk q := fun q hq => by rw [List.mem_singleton.1 hq]; exact ⟨_, _, _, rfl⟩
  have hmI := vmI (fs := l) (W := List.replicate (2 * half).toNat 0) (half := half) (base := 0) (next := 0) (S := [1, 1]) (calls := [.agg [.int 0, .int 0, .int 1]]) (O := []) (code := 0) (each := each) hl hf hWl (by simp) (by simp) hc1 (by simp)
  have hmS := vmS (fs := l) (W := List.replicate (2 * half).toNat 0) (half := half) (base := 0) (next := 0) (S := [1, 1]) (calls := [.agg [.int 0, .int 0, .int 1]]) (O := []) (code := 0) (each := each) hl hf hWl hW2 (by simp) (by simp) hc1 (by simp)
  have e : newVm l half each = .agg [.list l, heapV (List.replicate (2 * half).toNat 0) half 0 0, .list [.int 1, .int 1], .list [.agg [.int 0, .int 0, .int 1]], .list [], .int 0, .bool each] := rfl
  have hcI := copyFI hl hf
  have hcS := copyFS hl hf
  generalize vmB l (List.replicate (2 * half).toNat 0) half 0 0 [1, 1] [.agg [.int 0, .int 0, .int 1]] [] 0 = c at hmI hmS
  change Rn 48 [newVm l half each] [.bool c] at hmI
  change Rn 46 [newVm l half each] [.bool c] at hmS
  rw [e] at hmI hmS
  generalize heapV (List.replicate (2 * half).toNat 0) half 0 0 = hv at hmI hmS hnI hnS e
  cases c with
  | false =>
    refine ⟨zeroVm, false, .inr ⟨rfl, rfl⟩, Is.of e76 ((hnI.and hvI).mp4 hcI one0 hmI fun n q1 q2 q3 q4 => ?_), Is.of e74 ((hnS.and hvS).mp3 hcS hmS fun n q1 q2 q4 => ?_)⟩
    · simp [F76, q1, q2, q3, q4]
    · simp [F74, q1, q2, q4]
  | true =>
    refine ⟨newVm l half each, true, .inl ⟨rfl, rfl, hh.1, hh.2⟩, Is.of e76 ((hnI.and hvI).mp4 hcI one0 hmI fun n q1 q2 q3 q4 => ?_), Is.of e74 ((hnS.and hvS).mp3 hcS hmS fun n q1 q2 q4 => ?_)⟩
    · rw [e]
      simp [F76, q1, q2, q3, q4]
    · rw [e]
      simp [F74, q1, q2, q4]
theorem wtsInt (W : List Int) : PV.wts (W.map PV.int) = 0 := wts_zero fun q hq => by
  obtain ⟨x, _, rfl⟩ := List.mem_map.1 hq
  simp
theorem wfInts {W : List Int} (h1 : W.length ≤ 9223372036854775807) (h : ∀ w, w ∈ W → -9223372036854775808 ≤ w ∧ w < 9223372036854775808) : WfT Try.prog 22 (words W) :=
  .slice (e := 3) (by kernel_rfl) (by have hm : maxLen = 9223372036854775807 := rfl; rw [hm]; simpa using h1) fun q hq => by
    obtain ⟨w, hw, rfl⟩ := List.mem_map.1 hq
    exact .int (k := .i64) (by kernel_rfl) (wf_mk64 (h w hw).1 (h w hw).2)
theorem wfFuns {l : List PV} (h : WfT Try.prog 60 (.list l)) : WfT Try.prog 66 (.list l) := by
  obtain ⟨l', e, hl, he⟩ := wf_slice (e := 176) (by kernel_rfl) h
  cases e
  refine .slice (e := 131) (by kernel_rfl) hl fun q hq => ?_
  obtain ⟨x0, x1, rfl, r, h1⟩ := wf176 (he q hq)
  obtain ⟨ops, rfl, hol, hoe⟩ := wf_slice (e := 243) (by kernel_rfl) h1
  refine mk131 r (.slice (e := 196) (by kernel_rfl) hol fun o ho => ?_)
  obtain ⟨a, b, c, rfl, r1, r2, r3⟩ := wf243 (hoe o ho)
  exact mk196 r1 r2 r3
theorem wfVm {l : List PV} (h : WfT Try.prog 60 (.list l)) {W S : List Int} {half : Int} {calls : List PV} {each : Bool} (h0 : -9223372036854775808 ≤ half ∧ half < 9223372036854775808) (h1 : W.length ≤ 10000) (h2 : ∀ w, w ∈ W → -9223372036854775808 ≤ w ∧ w < 9223372036854775808)
    (h3 : S.length ≤ 10000) (h4 : ∀ w, w ∈ S → -9223372036854775808 ≤ w ∧ w < 9223372036854775808) (h5 : calls.length ≤ 10000) (h6 : ∀ q, q ∈ calls → q = .agg [.int 0, .int 0, .int 1]) : WfT Try.prog 69 (vmV l W half 0 0 S calls [] 0 each) := by
  refine mk69 (wfFuns h) (mk31 (wfInts (by omega) h2) h0 (by decide) (by decide)) (wfInts (by omega) h4) ?_ (wfInts (by simp) (by simp)) (by decide)
  have hm : maxLen = 9223372036854775807 := rfl
  refine .slice (e := 128) (by kernel_rfl) (by omega) fun q hq => ?_
  rw [h6 q hq]
  exact mk128 (by decide) (by decide) (by decide)
theorem wfNil : WfT Try.prog 60 (.list []) := .slice (e := 176) (by kernel_rfl) (by simp) fun q hq => by simp at hq
theorem law {p : PV} (h : WfT Try.prog 60 p) (half : Int) (each : Bool) : Rn 11 [p, .int half, .bool each] [.bool true] := by
  have hsz := sz_73 h (x := 1048576) (by omega) (by omega)
  by_cases hneg : szR 1048576 p.wt < 0
  · refine Is.of e11 (hsz.mp fun n h1 => ?_)
    rw [show szR 1048576 p.wt = -1 from by unfold szR at hneg ⊢; split at hneg <;> simp_all <;> omega] at h1
    simp (disch := omega) [F11, h1, ltT]
  have hw : p.wt ≤ 1048576 := by have := mt (szR_neg (x := 1048576) (w := p.wt) (by omega)).2 hneg; omega
  have hto := to_75 h hw
  have heqa := eq_66 h
  have hcn := cn_60 h
  obtain ⟨m1, _, hmk⟩ := mark_69 h (k := 1) (by omega) (by omega)
  obtain ⟨l, rfl, hl, he⟩ := wf_slice (e := 176) (by kernel_rfl) h
  have hw0 := hw
  simp only [wt_list] at hw
  have hf : ∀ q, q ∈ l → FunOk q := fun q hq => funOkL (he q hq) (by have := wt_mem hq; omega)
  obtain ⟨v, ok, hv, hi, hs⟩ := vmnew (by omega) hf half each
  have hwf : WfT Try.prog 69 v ∧ v.wt ≤ 2000000 := by
    rcases hv with ⟨rfl, _, h1, h2⟩ | ⟨rfl, _⟩
    · refine ⟨wfVm h (by omega) (by simp; omega) (fun w hw => by rw [(List.mem_replicate.1 hw).2]; decide) (by simp) (by simp) (by simp) (by simp), ?_⟩
      have := wtsInt (List.replicate (2 * half).toNat 0)
      simp only [List.map_replicate] at this
      simp [this]
      omega
    · exact ⟨wfVm wfNil (by decide) (by simp) (by simp) (by simp) (by simp) (by simp) (by simp), by simp⟩
  obtain ⟨hwf, hwt⟩ := hwf
  have heqr := eq_49 hwf
  have hcr := sn69_le hwf
  obtain ⟨m2, hg, hmr⟩ := mark_61 hwf (k := 1) (by omega) (by omega)
  have hhr := held_77 hwf (k := 1) (by omega) (by omega) hg
  refine Is.of e11 ((Evt.and (hsz.and (hto.and heqa)) (Evt.and (hmk.and (hi.and hs)) (Evt.and heqr (hmr.and hhr)))).mp fun n h1 => ?_)
  obtain ⟨⟨h1, h2, h3⟩, ⟨h4, h5, h6⟩, h7, h8, h9⟩ := h1
  have hge : 0 ≤ szR 1048576 (l.length + PV.wts l) := by simpa only [wt_list] using Int.not_lt.1 hneg
  simp only [wt_list] at h1
  clear hv
  simp (disch := omega) [F11, h1, h2, h3, h4, h5, h6, h7, h8, h9, ltF, neF]
theorem pure_law (ps : List PV) (hl : ps.length = 3) (hwf : ∀ (j : Nat) t p, [60, 3, 4][j]? = some t → ps[j]? = some p → WfT Try.prog t p) : ∃ n, ev Try.prog sg n 11 ps = some [.bool true] := by
  obtain ⟨p, q, r, rfl⟩ : ∃ p q r, ps = [p, q, r] := by
    match ps, hl with
    | [a, b, c], _ => exact ⟨a, b, c, rfl⟩
  obtain ⟨half, rfl, _⟩ := wf_int (k := .i64) (by kernel_rfl) (hwf 1 3 q rfl rfl)
  obtain ⟨each, rfl⟩ := wf_bool (by kernel_rfl) (hwf 2 4 r rfl rfl)
  exact (law (hwf 0 60 p rfl rfl) half each).get
end Go.Proofs.Ytijgokehlicmnaa.GFnExactVmNew
