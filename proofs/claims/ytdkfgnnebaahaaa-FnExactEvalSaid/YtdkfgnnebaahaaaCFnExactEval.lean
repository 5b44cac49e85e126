/- What functions of the program and of the reference come to, for the law FnExactEval. Each under the conditions that it names. -/
import Derived.Test.YtdkfgnnebaahaaaBFnExactEval
namespace Go.Proofs.Ytdkfgnnebaahaaa.GFnExactEval
open Go Go.Rsc Go.Proofs.Ytdkfgnnebaahaaa
set_option maxRecDepth 100000
set_option linter.unusedVariables false
set_option linter.unusedSimpArgs false
/-! ### Rows of names, one behind the other -/
theorem growI (z : PV) (x : Int) (h0 : 0 ≤ x) (h1 : x ≤ 1073741824) : Rn 71 [z, .int x] [.list []] :=
  orc_is (s := { ps := [.ro .nl, .ro (.int .i64)], rs := [.v (.own 9 false)], orc := some .grow }) rfl rfl (by
    show (if decide (0 ≤ x) && decide (x ≤ 1073741824) then some [PV.list []] else none) = _
    rw [if_pos (by simp [h0, h1])])
theorem catI {a b : List ByteArray} (ha : a.length ≤ 1048576) (hb : b.length ≤ 1048576) : Rn 62 [.list [strsB a, strsB b]] [strsB (a ++ b)] := by
  have hla : (a.map PV.str).length = a.length := List.length_map ..
  have hlb : (b.map PV.str).length = b.length := List.length_map ..
  have h0 := loop_run (body := fun n => L62_0 (ev Try.prog sg n) n) (e := .x 0) (res := [.int ((a.length + b.length : Nat) : Int), .list [strsB a, strsB b]]) (fun i => [.int i, .int 2, .list [strsB a, strsB b], .int (if i = 0 then (0 : Int) else if i = 1 then (a.length : Int) else ((a.length + b.length : Nat) : Int)), .list [strsB a, strsB b]]) 2 (fun i hi => Evt.all fun n => ?_) (Evt.all fun n => ?_) (by simp)
  rotate_left
  · have : i = 0 ∨ i = 1 := by omega
    rcases this with rfl | rfl
    · have c1 : ltI ((a.length : Int)) 0 = false := ltF (by omega)
      simp (disch := omega) [L62_0, ltT, geT, strsB, hla, wrap64, c1]
    · have c1 : ltI ((a.length : Int) + b.length) 0 = false := ltF (by omega)
      simp (disch := omega) [L62_0, ltT, geT, strsB, hla, hlb, wrap64, c1]
  · simp (disch := omega) [L62_0, ltF]
  have h2 := loop_run (body := fun n => L62_1 (ev Try.prog sg n) n) (e := .x 2) (res := [strsB (a ++ b)]) (fun i => [.int i, .int 2, .list [strsB a, strsB b], strsB (if i = 0 then [] else if i = 1 then a else a ++ b)]) 2 (fun i hi => Evt.all fun n => ?_) (Evt.all fun n => ?_) (by simp)
  rotate_left
  · have : i = 0 ∨ i = 1 := by omega
    rcases this with rfl | rfl
    · have c1 : leN a.length 8796093022208 = true := leNT (by omega)
      simp (disch := omega) [L62_1, ltT, geT, strsB, hla, wrap64, c1]
    · have c1 : leN (a.length + b.length) 8796093022208 = true := leNT (by omega)
      simp (disch := omega) [L62_1, ltT, geT, strsB, hla, hlb, wrap64, c1]
  · simp (disch := omega) [L62_1, ltF]
  have hg := growI (.list []) ((a.length + b.length : Nat) : Int) (by omega) (by omega)
  refine Is.of e62 (h0.mp3 hg h2 fun n q0 qg q2 => ?_)
  have q0' : loopEv (L62_0 (ev Try.prog sg n) n) n [.int 0, .int 2, .list [strsB a, strsB b], .int 0, .list [strsB a, strsB b]] = _ := q0
  have q2' : loopEv (L62_1 (ev Try.prog sg n) n) n [.int 0, .int 2, .list [strsB a, strsB b], .list []] = _ := q2
  simp only [Int.natCast_add] at qg q0'
  simp [F62, q0', qg, q2']
/-! ### Right cores -/
set_option maxHeartbeats 8000000
def hdC (op n : Int) (s t : ByteArray) (len : Nat) (env : List ByteArray) : Bool :=
  !neI (arC op) len && (nmC op == !eqS s ⟨#[]⟩) && (eqI op 6 == !eqS t ⟨#[]⟩) && !(neI op 1 && neI n 0) && okW n && !(eqI op 2 && !inB env s)
mutual
def Co.right : Co → List ByteArray → Bool
  | .mk op n s t ks, env => hdC op n s t ks.length env && Co.rights ks op s t 0 env
def Co.rights : List Co → Int → ByteArray → ByteArray → Nat → List ByteArray → Bool
  | [], _, _, _, _, _ => true
  | c :: l, op, s, t, i, env => c.right (env ++ bdB op s t i) && Co.rights l op s t (i + 1) env
end
theorem nth_pvs (pre : List Co) (c : Co) (ks : List Co) : nth (Co.pvs (pre ++ c :: ks)) pre.length = c.pv := by
  rw [Co.pvs_app]
  have := nth_mid (Co.pvs pre) (Co.pvs ks) c.pv
  rwa [Co.pvs_len] at this
mutual
theorem rightS : ∀ (c : Co) (env : List ByteArray), c.size ≤ 2097152 → env.length + 2 * c.deep ≤ 1048000 → Rn 33 [c.pv, strsB env] [.bool (c.right env)]
  | .mk op n s t ks, env, hc, hd => by
    simp only [Co.size] at hc
    simp only [Co.deep] at hd
    have hlen := Co.len_le ks
    have hl := rightsS ks [] op n s t env (by simpa [Co.sizes] using hc) hd
    have ha := arS op
    have hn := nmS op
    have hw := is101 n
    have hi := inS (env := env) s (by omega)
    refine Is.of e33 ((hl.and (Evt.ge (ks.length + 1))).mp2 (ha.and (hn.and (hw.and hi))) fun k q0 q1 => ?_)
    obtain ⟨ql, hk⟩ := q0
    obtain ⟨qa, qn, qw, qi⟩ := q1
    have ql := ql k hk
    have ql' : loopEv (L33_0 (ev Try.prog sg k) k) k [.int 0, strsB env, .agg [.int op, .int n, .str s, .str t, .list (Co.pvs ks)]] = some (if Co.rights ks op s t 0 env then (.x 0, []) else (.r, [.bool false])) := ql
    simp only [Co.right, hdC, Co.pv]
    cases hA : neI (arC op) (ks.length : Int)
    case true => simp [F33, qa, hA, Co.pvs_len, PV.isB]
    cases hN : nmC op <;> cases hS : eqS s ⟨#[]⟩ <;> first
      | (simp [F33, qa, qn, hA, hN, hS, Co.pvs_len, PV.isB, neq_eqS]; done)
      | skip
    all_goals cases h6 : eqI op 6 <;> cases hT : eqS t ⟨#[]⟩ <;> first
      | (simp [F33, qa, qn, hA, hN, hS, h6, hT, Co.pvs_len, PV.isB, neq_eqS]; done)
      | skip
    all_goals cases h1 : neI op 1 <;> cases hz : neI n 0 <;> first
      | (simp [F33, qa, qn, hA, hN, hS, h6, hT, h1, hz, Co.pvs_len, PV.isB, neq_eqS]; done)
      | skip
    all_goals cases hW : okW n <;> first
      | (simp [F33, qa, qn, qw, hA, hN, hS, h6, hT, h1, hz, hW, Co.pvs_len, PV.isB, neq_eqS]; done)
      | skip
    all_goals cases h2 : eqI op 2 <;> cases hI : inB env s <;> cases hR : Co.rights ks op s t 0 env <;> simp [F33, qa, qn, qw, qi, ql', hA, hN, hS, h6, hT, h1, hz, hW, h2, hI, hR, Co.pvs_len, PV.isB, neq_eqS]
theorem rightsS : ∀ (ks pre : List Co) (op n : Int) (s t : ByteArray) (env : List ByteArray), 1 + Co.sizes ks + Co.sizes pre ≤ 2097152 → env.length + 2 * (Co.deeps ks + 1) ≤ 1048000 →
    Evt fun k => ∀ m, ks.length + 1 ≤ m → loopEv (L33_0 (ev Try.prog sg k) k) m [.int (pre.length : Nat), strsB env, .agg [.int op, .int n, .str s, .str t, .list (Co.pvs (pre ++ ks))]] = some (if Co.rights ks op s t pre.length env then (.x 0, []) else (.r, [.bool false]))
  | [], pre, op, n, s, t, env, hb, hd => by
    refine Evt.all fun k m hm => ?_
    obtain ⟨m, rfl⟩ : ∃ m', m = m' + 1 := ⟨m - 1, by omega⟩
    simp (disch := omega) [loopEv, L33_0, Co.pvs_len, ltF, Co.rights]
  | c :: ks, pre, op, n, s, t, env, hb, hd => by
    simp only [Co.sizes] at hb
    simp only [Co.deeps] at hd
    have hlen := Co.len_le pre
    have hp := c.size_pos
    have hcl : (pre ++ c :: ks).length = pre.length + 1 + ks.length := by simp; omega
    have e1 : pre ++ c :: ks = (pre ++ [c]) ++ ks := by simp
    have ih := rightsS ks (pre ++ [c]) op n s t env (by simp [Co.sizes_app, Co.sizes]; omega) (by omega)
    have hbl := bdB_len op s t pre.length
    have hr := rightS c (env ++ bdB op s t pre.length) (by omega) (by rw [List.length_append]; omega)
    have he := bdS (env := env) op n s t (.list (Co.pvs (pre ++ c :: ks))) pre.length (by omega)
    refine hr.mp3 he ih fun k h1 h3 h2 m hm => ?_
    obtain ⟨m, rfl⟩ : ∃ m', m = m' + 1 := ⟨m - 1, by omega⟩
    have h2 := h2 m (by simpa using hm)
    have hB : L33_0 (ev Try.prog sg k) k [.int (pre.length : Nat), strsB env, .agg [.int op, .int n, .str s, .str t, .list (Co.pvs (pre ++ c :: ks))]] = if c.right (env ++ bdB op s t pre.length) then some (.n, [.int ((pre ++ [c]).length : Nat), strsB env, .agg [.int op, .int n, .str s, .str t, .list (Co.pvs (pre ++ c :: ks))]]) else some (.r, [.bool false]) := by
      simp (disch := omega) only [L33_0, nth_0, nth_1, nth_2, nth_3, nth_4, toInt_int, fld_agg, toList_list, Co.pvs_len, hcl, ltT, geT, iff_true', Int.toNat_natCast, nth_pvs, h1, h3, Option.bind_some, wrap64, toBool_bool]
      cases c.right (env ++ bdB op s t pre.length) <;> simp
    simp only [loopEv, hB]
    by_cases hc : c.right (env ++ bdB op s t pre.length) = true
    · have hR : Co.rights (c :: ks) op s t pre.length env = Co.rights ks op s t (pre.length + 1) env := by simp only [Co.rights, hc, Bool.true_and]
      rw [if_pos hc, hR]
      simp only [thenN_n]
      rw [← e1] at h2
      rw [h2]
      simp
    · have hR : Co.rights (c :: ks) op s t pre.length env = false := by
        rw [Bool.not_eq_true] at hc
        simp only [Co.rights, hc, Bool.false_and]
      rw [if_neg hc, hR]
      rfl
end
/-! ### Right cores, as the program has them -/
set_option maxHeartbeats 8000000
def partC (c : Co) (env : List ByteArray) (d : Nat) : Int := if c.right env && (decide (d + c.deep ≤ 151) && decide (c.size ≤ 3000)) then c.size else 3001
mutual
theorem partsI : ∀ (c : Co) (env : List ByteArray) (d : Nat), c.size ≤ 2097152 → env.length ≤ 2 * d → 1 ≤ d → d ≤ 151 → Rn 41 [c.pv, strsB env, .int d] [.int (partC c env d)]
  | .mk op n s t ks, env, d, hc, he, hd1, hd => by
    simp only [Co.size] at hc
    have hlen := Co.len_le ks
    have ha := arI op
    have hw := is102 n
    have hi := inI (env := env) s (by omega)
    by_cases hdd : d = 151
    · subst hdd
      refine Is.of e41 (Evt.all fun k => ?_)
      have : partC (.mk op n s t ks) env 151 = 3001 := by
        unfold partC
        rw [if_neg]
        intro h
        simp only [Bool.and_eq_true, decide_eq_true_eq] at h
        have := (Co.mk op n s t ks).deep_pos
        omega
      rw [this]
      simp [F41, gtI, PV.isB]
    have hl := partsL ks [] op n s t env d 1 (by simp [Co.sizes]) (by simpa [Co.sizes] using hc) he hd1 (by omega) (by omega)
    refine Is.of e41 ((hl.and (Evt.ge (ks.length + 1))).mp2 (ha.and (hw.and hi)) fun k q0 q1 => ?_)
    obtain ⟨ql, hk⟩ := q0
    obtain ⟨qa, qw, qi⟩ := q1
    have ql := ql k hk
    have hg : gtI (d : Int) 150 = false := gtF (by omega)
    have ql' : loopEv (L41_0 (ev Try.prog sg k) k) k [.int 0, .int ks.length, .list (Co.pvs ks), strsB env, .int d, .int 1, .agg [.int op, .int n, .str s, .str t, .list (Co.pvs ks)]] = some (if Co.rights ks op s t 0 env && (decide (d + Co.deeps ks ≤ 150) && decide (1 + Co.sizes ks ≤ 3000)) then (.x 0, [.int ((1 + Co.sizes ks : Nat) : Int)]) else (.r, [.int 3001])) := ql
    have e1 : (decide (d + (Co.mk op n s t ks).deep ≤ 151)) = decide (d + Co.deeps ks ≤ 150) := by simp only [Co.deep]; exact decide_eq_decide.2 (by omega)
    have e2 : (decide ((Co.mk op n s t ks).size ≤ 3000)) = decide (1 + Co.sizes ks ≤ 3000) := decide_eq_decide.2 (by simp only [Co.size])
    simp only [partC, e1, e2, Co.right, hdC, Co.pv]
    have hass : ∀ H : Bool, ((H && Co.rights ks op s t 0 env) && (decide (d + Co.deeps ks ≤ 150) && decide (1 + Co.sizes ks ≤ 3000))) = (H && (Co.rights ks op s t 0 env && (decide (d + Co.deeps ks ≤ 150) && decide (1 + Co.sizes ks ≤ 3000)))) := fun H => Bool.and_assoc ..
    rw [hass]
    generalize (Co.rights ks op s t 0 env && (decide (d + Co.deeps ks ≤ 150) && decide (1 + Co.sizes ks ≤ 3000))) = R at ql' ⊢
    simp only [Co.size]
    have hnm : nmC op = (eqI op 2 || (eqI op 3 || (eqI op 5 || eqI op 6))) := by
      simp only [nmC, eqI]
      by_cases e2 : op = 2 <;> by_cases e3 : op = 3 <;> by_cases e5 : op = 5 <;> by_cases e6 : op = 6 <;> simp [e2, e3, e5, e6]
    have hcase : (eqI op 2 = true ∧ eqI op 3 = false ∧ eqI op 5 = false ∧ eqI op 6 = false) ∨ (eqI op 2 = false ∧ eqI op 3 = true ∧ eqI op 5 = false ∧ eqI op 6 = false) ∨ (eqI op 2 = false ∧ eqI op 3 = false ∧ eqI op 5 = true ∧ eqI op 6 = false) ∨ (eqI op 2 = false ∧ eqI op 3 = false ∧ eqI op 5 = false ∧ eqI op 6 = true) ∨ (eqI op 2 = false ∧ eqI op 3 = false ∧ eqI op 5 = false ∧ eqI op 6 = false) := by
      simp only [eqI, beq_iff_eq, beq_eq_false_iff_ne]
      omega
    rw [hnm]
    by_cases hA : arC op = ks.length
    case neg =>
      have hA1 : neI (ks.length : Int) (arC op) = true := neT (fun e => hA e.symm)
      have hA2 : neI (arC op) (ks.length : Int) = true := neT hA
      simp [F41, qa, hA1, hA2, hg, Co.pvs_len, PV.isB]
    have hA1 : neI (ks.length : Int) (arC op) = false := neF hA.symm
    have hA2 : neI (arC op) (ks.length : Int) = false := neF hA
    cases hW : okW n
    case false => simp [F41, qa, qw, hA1, hA2, hg, hW, Co.pvs_len, PV.isB]
    cases h1 : neI op 1 <;> cases hz : neI n 0 <;> first
      | (simp [F41, qa, qw, hA1, hA2, hg, hW, h1, hz, Co.pvs_len, PV.isB]; done)
      | skip
    all_goals rcases hcase with ⟨h2, h3, h5, h6⟩ | ⟨h2, h3, h5, h6⟩ | ⟨h2, h3, h5, h6⟩ | ⟨h2, h3, h5, h6⟩ | ⟨h2, h3, h5, h6⟩
    all_goals cases hS : eqS s ⟨#[]⟩ <;> first
      | (simp [F41, qa, qw, hA1, hA2, hg, hW, h1, hz, h2, h3, h5, h6, hS, Co.pvs_len, PV.isB, neq_eqS]; done)
      | skip
    all_goals cases hT : eqS t ⟨#[]⟩ <;> first
      | (simp [F41, qa, qw, hA1, hA2, hg, hW, h1, hz, h2, h3, h5, h6, hS, hT, Co.pvs_len, PV.isB, neq_eqS]; done)
      | skip
    all_goals cases hI : inB env s <;> cases R <;> simp [F41, qa, qw, qi, ql', hA1, hA2, hg, hW, h1, hz, h2, h3, h5, h6, hS, hT, hI, Co.pvs_len, PV.isB, neq_eqS]
theorem partsL : ∀ (ks pre : List Co) (op n : Int) (s t : ByteArray) (env : List ByteArray) (d acc : Nat), acc = 1 + Co.sizes pre → 1 + Co.sizes ks + Co.sizes pre ≤ 2097152 → env.length ≤ 2 * d → 1 ≤ d → d ≤ 150 → acc ≤ 3000 →
    Evt fun k => ∀ m, ks.length + 1 ≤ m → loopEv (L41_0 (ev Try.prog sg k) k) m [.int (pre.length : Nat), .int ((pre ++ ks).length : Nat), .list (Co.pvs (pre ++ ks)), strsB env, .int d, .int acc, .agg [.int op, .int n, .str s, .str t, .list (Co.pvs (pre ++ ks))]] = some (if Co.rights ks op s t pre.length env && (decide (d + Co.deeps ks ≤ 150) && decide (acc + Co.sizes ks ≤ 3000)) then (.x 0, [.int ((acc + Co.sizes ks : Nat) : Int)]) else (.r, [.int 3001]))
  | [], pre, op, n, s, t, env, d, acc, hac, hb, he, hd1, hd, h3000 => by
    refine Evt.all fun k m hm => ?_
    obtain ⟨m, rfl⟩ : ∃ m', m = m' + 1 := ⟨m - 1, by omega⟩
    simp (disch := omega) [loopEv, L41_0, Co.pvs_len, ltF, Co.rights, Co.deeps, Co.sizes, hd, h3000]
  | c :: ks, pre, op, n, s, t, env, d, acc, hac, hb, he, hd1, hd, h3000 => by
    simp only [Co.sizes] at hb
    have hlen := Co.len_le pre
    have hp := c.size_pos
    have hcl : (pre ++ c :: ks).length = pre.length + 1 + ks.length := by simp; omega
    have e1 : pre ++ c :: ks = (pre ++ [c]) ++ ks := by simp
    have hbl := bdB_len op s t pre.length
    have hr := partsI c (env ++ bdB op s t pre.length) (d + 1) (by omega) (by rw [List.length_append]; omega) (by omega) (by omega)
    have hbi := bdI op n s t (.list (Co.pvs (pre ++ c :: ks))) pre.length
    have hca := catI (a := env) (b := bdB op s t pre.length) (by omega) (by omega)
    have hwd : IntKind.i64.wrap ((d : Int) + 1) = ((d + 1 : Nat) : Int) := by rw [wrap64 (by omega) (by omega)]; omega
    have hv : partC c (env ++ bdB op s t pre.length) (d + 1) = 3001 ∨ partC c (env ++ bdB op s t pre.length) (d + 1) = c.size := by
      unfold partC; split
      · exact Or.inr rfl
      · exact Or.inl rfl
    have hB : Evt fun k => L41_0 (ev Try.prog sg k) k [.int (pre.length : Nat), .int ((pre ++ c :: ks).length : Nat), .list (Co.pvs (pre ++ c :: ks)), strsB env, .int d, .int acc, .agg [.int op, .int n, .str s, .str t, .list (Co.pvs (pre ++ c :: ks))]] = if geI ((acc : Int) + partC c (env ++ bdB op s t pre.length) (d + 1)) 3001 then some (.r, [.int 3001]) else some (.n, [.int ((pre ++ [c]).length : Nat), .int ((pre ++ c :: ks).length : Nat), .list (Co.pvs (pre ++ c :: ks)), strsB env, .int d, .int ((acc : Int) + partC c (env ++ bdB op s t pre.length) (d + 1)), .agg [.int op, .int n, .str s, .str t, .list (Co.pvs (pre ++ c :: ks))]]) := by
      refine hr.mp3 hbi hca fun k q1 q2 q3 => ?_
      have hwa : IntKind.i64.wrap ((acc : Int) + partC c (env ++ bdB op s t pre.length) (d + 1)) = (acc : Int) + partC c (env ++ bdB op s t pre.length) (d + 1) := by
        rcases hv with e | e <;> rw [e] <;> exact wrap64 (by omega) (by omega)
      simp (disch := omega) only [L41_0, nth_0, nth_1, nth_2, nth_3, nth_4, nth_5, nth_6, toInt_int, toList_list, Co.pvs_len, hcl, ltT, geT, iff_true', Int.toNat_natCast, nth_pvs, hwd, q1, q2, q3, Option.bind_some, hwa]
      rw [wrap64 (by omega) (by omega)]
      cases geI ((acc : Int) + partC c (env ++ bdB op s t pre.length) (d + 1)) 3001 <;> simp
    by_cases hok : (c.right (env ++ bdB op s t pre.length) && (decide (d + 1 + c.deep ≤ 151) && decide (c.size ≤ 3000))) = true ∧ acc + c.size ≤ 3000
    · have hpc : partC c (env ++ bdB op s t pre.length) (d + 1) = c.size := by unfold partC; rw [if_pos hok.1]
      have ih := partsL ks (pre ++ [c]) op n s t env d (acc + c.size) (by simp [Co.sizes_app, Co.sizes]; omega) (by simp [Co.sizes_app, Co.sizes]; omega) he hd1 hd hok.2
      refine hB.mp2 ih fun k hB h2 m hm => ?_
      obtain ⟨m, rfl⟩ : ∃ m', m = m' + 1 := ⟨m - 1, by omega⟩
      have h2 := h2 m (by simpa using hm)
      have hg : geI ((acc : Int) + c.size) 3001 = false := geF (by omega)
      rw [hpc, hg] at hB
      simp only [loopEv, hB, if_false, Bool.false_eq_true, thenN_n]
      rw [← e1] at h2
      have e2 : (acc : Int) + c.size = ((acc + c.size : Nat) : Int) := by omega
      rw [e2, h2]
      obtain ⟨hok1, hok2⟩ := hok
      simp only [Bool.and_eq_true, decide_eq_true_eq] at hok1
      have e3 : decide (d + Co.deeps (c :: ks) ≤ 150) = decide (d + Co.deeps ks ≤ 150) := decide_eq_decide.2 (by simp only [Co.deeps]; omega)
      have e4 : acc + c.size + Co.sizes ks = acc + Co.sizes (c :: ks) := by simp only [Co.sizes]; omega
      have e5 : (pre ++ [c]).length = pre.length + 1 := by simp
      simp only [Co.rights, hok1.1, Bool.true_and, e3, e4, e5]
    · refine hB.mp fun k hB m hm => ?_
      obtain ⟨m, rfl⟩ : ∃ m', m = m' + 1 := ⟨m - 1, by omega⟩
      have hg : geI ((acc : Int) + partC c (env ++ bdB op s t pre.length) (d + 1)) 3001 = true := by
        by_cases h1 : (c.right (env ++ bdB op s t pre.length) && (decide (d + 1 + c.deep ≤ 151) && decide (c.size ≤ 3000))) = true
        · have : ¬ acc + c.size ≤ 3000 := fun h => hok ⟨h1, h⟩
          unfold partC; rw [if_pos h1]; exact geT (by omega)
        · unfold partC; rw [if_neg h1]; exact geT (by omega)
      rw [hg] at hB
      have hF : (Co.rights (c :: ks) op s t pre.length env && (decide (d + Co.deeps (c :: ks) ≤ 150) && decide (acc + Co.sizes (c :: ks) ≤ 3000))) = false := by
        rw [Bool.eq_false_iff]
        intro h
        simp only [Bool.and_eq_true, decide_eq_true_eq, Co.rights] at h
        simp only [Co.deeps, Co.sizes] at h
        obtain ⟨⟨g1, g2⟩, g3, g4⟩ := h
        exact hok ⟨by simp only [Bool.and_eq_true, decide_eq_true_eq]; exact ⟨g1, by omega, by omega⟩, by omega⟩
      simp only [loopEv, hB, if_true, hF]
      rfl
end
/-! ### Both tests of a core are one -/
def okC (c : Co) : Bool := decide (c.size ≤ 3000) && (decide (c.deep ≤ 150) && c.right [])
theorem okI (c : Co) (hc : c.size ≤ 2097152) : Rn 20 [c.pv] [.bool (okC c)] := by
  have h := partsI c [] 1 hc (by simp) (by omega) (by omega)
  refine Is.of e20 (h.mp fun k q => ?_)
  have q' : ev Try.prog sg k 41 [c.pv, .list [], .int 1] = some [.int (partC c [] 1)] := q
  simp only [F20, nth_0, q', Option.bind_some, toInt_int]
  have hp := c.size_pos
  unfold partC okC
  cases hr : c.right []
  · simp [leI]
  · by_cases h1 : c.deep ≤ 150
    · by_cases h2 : c.size ≤ 3000
      · have : 1 + c.deep ≤ 151 := by omega
        have h3 : (c.size : Int) ≤ 3000 := by omega
        simp [h1, h2, this, leI, h3]
      · simp [h1, h2, leI]
    · have : ¬ 1 + c.deep ≤ 151 := by omega
      simp [h1, this, leI]
theorem okS (c : Co) (hc : c.size ≤ 2097152) : Rn 14 [c.pv] [.bool (okC c)] := by
  have h1 := sizeS c hc
  have h2 := deepS c hc
  by_cases e1 : c.size ≤ 3000
  · by_cases e2 : c.deep ≤ 150
    · have h3 := rightS c [] hc (by simp; omega)
      refine Is.of e14 (h1.mp3 h2 h3 fun k q1 q2 q3 => ?_)
      have q3' : ev Try.prog sg k 33 [c.pv, .list []] = some [.bool (c.right [])] := q3
      have l1 : leI (c.size : Int) 3000 = true := leT (by omega)
      have l2 : leI (c.deep : Int) 150 = true := leT (by omega)
      simp [F14, q1, q2, q3', l1, l2, okC, e1, e2, PV.isB]
    · refine Is.of e14 (h1.mp2 h2 fun k q1 q2 => ?_)
      have l1 : leI (c.size : Int) 3000 = true := leT (by omega)
      have l2 : leI (c.deep : Int) 150 = false := leF (by omega)
      simp [F14, q1, q2, l1, l2, okC, e1, e2, PV.isB]
  · refine Is.of e14 (h1.mp fun k q1 => ?_)
    have l1 : leI (c.size : Int) 3000 = false := leF (by omega)
    simp [F14, q1, l1, okC, e1, PV.isB]
end Go.Proofs.Ytdkfgnnebaahaaa.GFnExactEval
