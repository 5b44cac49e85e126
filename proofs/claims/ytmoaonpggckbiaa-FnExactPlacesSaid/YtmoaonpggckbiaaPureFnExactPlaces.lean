/- For every list of functions the program's Places returns what the reference's returns, and leaves the list alone. No conditions. -/
import Derived.Test.YtmoaonpggckbiaaWfFnExactPlaces
import Derived.Test.YtmoaonpggckbiaaAid
namespace Go.Proofs.Ytmoaonpggckbiaa.PurePlaces
open Go.RowKit Go.Proofs.Ytmoaonpggckbiaa.QFnExactPlaces Go.Proofs.Ytmoaonpggckbiaa.Aid Go.Proofs.YtmoaonpggckbiaaW.PrintWords Go.Proofs.YtmoaonpggckbiaaW.PrintLast Go.Proofs.YtmoaonpggckbiaaW.PrintMore
set_option linter.unusedVariables false
set_option linter.unusedSimpArgs false

/-! ### functions and ops -/
def szF (x : S71) : Nat := x.f1.length
theorem szOpS_is (l : List S25) (left : Int) (h0 : 0 ≤ left) (h1 : left ≤ 1048576) (hl : l.length ≤ maxLen) : laws_szOpS.f l left = some (szr l.length left) := by
  have hm : maxLen = 9223372036854775807 := rfl
  unfold laws_szOpS.f szr
  rw [w64 (by omega) (by omega)]
  by_cases c : (l.length : Int) ≤ left
  · rw [if_neg (by omega), if_pos c]
  · rw [if_pos (by omega), if_neg c]
theorem szFun_is (x : S71) (left : Int) (h0 : 0 ≤ left) (h1 : left ≤ 1048576) (hl : x.f1.length ≤ maxLen) : laws_szFun.f x.f0 x.f1 left = some (szr (szF x) left) := by
  unfold laws_szFun.f
  rw [szOpS_is _ _ h0 h1 hl]
  simp only [Option.bind_some]
  by_cases c : szr x.f1.length left < 0
  · rw [if_pos c]
    rw [show szr (szF x) left = -1 from (szr_neg c h0).2]
  · rw [if_neg c]
    rfl
def szFs (l : List S71) : Nat := l.length + tot szF l
theorem szFunS_ev (l : List S71) (left : Int) (h0 : 0 ≤ left) (h1 : left ≤ 1048576) (hl : l.length ≤ maxLen) (hx : ∀ x ∈ l, x.f1.length ≤ maxLen) :
    Ev (fun k => laws_szFunS.f k l left) (szr (szFs l) left) := by
  have hm : maxLen = 9223372036854775807 := rfl
  have h2 : wrap64 (left - (l.length : Int)) = left - l.length := w64 (by omega) (by omega)
  by_cases c : (l.length : Int) ≤ left
  · have key : ∀ left : Int, 0 ≤ left → left ≤ 1048576 → Ev (fun k => laws_szFunS.l0 k l left (([] : List S71).length : Int)) (szr (tot szF l) left) := by
      refine zip_ind (x := l) (fun done rest => ∀ left : Int, 0 ≤ left → left ≤ 1048576 → Ev (fun k => laws_szFunS.l0 k l left (done.length : Int)) (szr (tot szF rest) left)) ?_ ?_
      · intro left h0 h1
        rw [tot, szr_zero _ h0]
        exact Ev.step (fun k => by rw [laws_szFunS.l0, if_neg (by omega)]) (Ev.now _)
      · intro done e rest hd ih left h0 h1
        subst hd
        have hlen := length_zip done e rest
        have hrd : rd_T71 (done ++ e :: rest) (done.length : Int) = e := getD_zip done e rest _
        refine Ev.step (fun k => by rw [laws_szFunS.l0, if_pos (by omega), if_pos (by omega), hrd, szFun_is e left h0 h1 (hx e (by simp))]) ?_
        rw [tot]
        by_cases c2 : szr (szF e) left < 0
        · rw [szr_over (szr_neg c2 h0).1]
          exact Ev.congr (fun k => if_pos c2) (Ev.now _)
        · rw [← szr_add (szr_pos c2).1, ← (szr_pos c2).2, next_zip _ e (by omega)]
          refine Ev.congr (fun k => if_neg c2) (ih _ (by omega) ?_)
          have := (szr_pos c2).2
          omega
    have h := key (left - l.length) (by omega) (by omega)
    rw [szr_add c] at h
    refine Ev.congr (fun k => ?_) h
    rw [laws_szFunS.f, h2, if_neg (by omega)]
    rfl
  · rw [szFs, szr_over (by omega)]
    refine Ev.congr (fun k => ?_) (Ev.now _)
    rw [laws_szFunS.f, h2, if_pos (by omega)]

def toO (x : S25) : S28 := ⟨x.f0, x.f1, x.f2⟩
theorem toOpS_ev (l : List S25) (hl : l.length ≤ 1048576) : Ev (fun k => laws_toOpS.f k l) (l.map toO) := by
  have key : Ev (fun k => laws_toOpS.l0 k l (([] : List S25).map toO ++ List.replicate l.length z28) (([] : List S25).length : Int)) (l.map toO) := by
    refine zip_ind (x := l) (fun done rest => Ev (fun k => laws_toOpS.l0 k l (done.map toO ++ List.replicate rest.length z28) (done.length : Int)) (l.map toO)) ?_ ?_
    · rw [List.length_nil, List.replicate_zero, List.append_nil]
      exact Ev.step (fun k => by rw [laws_toOpS.l0, if_neg (by omega)]) (Ev.now _)
    · intro done e rest hd ih
      subst hd
      have hlen := length_zip done e rest
      have hrd : rd_T25 (done ++ e :: rest) (done.length : Int) = e := getD_zip done e rest _
      have hset := set_zip (done.map toO) z28 (List.replicate rest.length z28) (toO e)
      rw [List.length_map] at hset
      refine Ev.step (fun k => ?_) ih
      rw [laws_toOpS.l0, if_pos (by omega), if_pos (by omega), hrd]
      simp only [laws_toOp.f, Option.bind_some]
      rw [if_pos (by rw [List.length_append, List.length_map, List.length_replicate, List.length_cons]; omega), List.length_cons, List.replicate_succ, next_zip _ e (by omega)]
      rw [show (⟨e.f0, e.f1, e.f2⟩ : S28) = toO e from rfl, hset, List.map_append, List.map_cons, List.map_nil, List.append_assoc]
      rfl
  refine Ev.congr (fun k => ?_) key
  rw [laws_toOpS.f, if_pos (by omega), Int.toNat_natCast, if_pos (by omega)]
  rfl
def toF (x : S71) : S74 := ⟨x.f0, x.f1.map toO⟩
theorem toFun_ev (x : S71) (hl : x.f1.length ≤ 1048576) : Ev (fun k => laws_toFun.f k x.f0 x.f1) (x.f0, x.f1.map toO) := by
  unfold laws_toFun.f
  exact Ev.bind (toOpS_ev _ hl) (Ev.now _)
theorem toFunS_ev (l : List S71) (hl : l.length ≤ 1048576) (hx : ∀ x ∈ l, x.f1.length ≤ 1048576) : Ev (fun k => laws_toFunS.f k l) (l.map toF) := by
  have key : Ev (fun k => laws_toFunS.l0 k l (([] : List S71).map toF ++ List.replicate l.length z74) (([] : List S71).length : Int)) (l.map toF) := by
    refine zip_ind (x := l) (fun done rest => Ev (fun k => laws_toFunS.l0 k l (done.map toF ++ List.replicate rest.length z74) (done.length : Int)) (l.map toF)) ?_ ?_
    · rw [List.length_nil, List.replicate_zero, List.append_nil]
      exact Ev.step (fun k => by rw [laws_toFunS.l0, if_neg (by omega)]) (Ev.now _)
    · intro done e rest hd ih
      subst hd
      have hlen := length_zip done e rest
      have hrd : rd_T71 (done ++ e :: rest) (done.length : Int) = e := getD_zip done e rest _
      have hset := set_zip (done.map toF) z74 (List.replicate rest.length z74) (toF e)
      rw [List.length_map] at hset
      refine Ev.step (fun k => by rw [laws_toFunS.l0, if_pos (by omega), if_pos (by omega), hrd]) (Ev.bind (toFun_ev e (hx e (by simp))) ?_)
      refine Ev.congr (fun k => ?_) ih
      rw [if_pos (by rw [List.length_append, List.length_map, List.length_replicate, List.length_cons]; omega), List.length_cons, List.replicate_succ, next_zip _ e (by omega)]
      rw [show (⟨e.f0, e.f1.map toO⟩ : S74) = toF e from rfl, hset, List.map_append, List.map_cons, List.map_nil, List.append_assoc]
      rfl
  refine Ev.congr (fun k => ?_) key
  rw [laws_toFunS.f, if_pos (by omega), Int.toNat_natCast, if_pos (by omega)]
  rfl

theorem eqOp_refl (x : S28) : laws_eqOp.f x.f0 x.f1 x.f2 x.f0 x.f1 x.f2 = some true := by
  simp [laws_eqOp.f]
theorem eqOpS_refl (l : List S28) (hl : l.length ≤ 1048576) : Ev (fun k => laws_eqOpS.f k l l) true := by
  have key : Ev (fun k => laws_eqOpS.l0 k l l (([] : List S28).length : Int)) true := by
    refine zip_ind (x := l) (fun done rest => Ev (fun k => laws_eqOpS.l0 k l l (done.length : Int)) true) ?_ ?_
    · exact Ev.step (fun k => by rw [laws_eqOpS.l0, if_neg (by omega)]) (Ev.now _)
    · intro done e rest hd ih
      have hlen := length_zip done e rest
      rw [hd] at hlen
      refine Ev.step (fun k => ?_) ih
      rw [laws_eqOpS.l0, if_pos (by omega), if_pos (by omega), if_pos (by omega), eqOp_refl, next_zip _ e (by omega)]
      rfl
  refine Ev.congr (fun k => ?_) key
  rw [laws_eqOpS.f, if_pos rfl]
  rfl
theorem eqFun_refl (x : S74) (hl : x.f1.length ≤ 1048576) : Ev (fun k => laws_eqFun.f k x.f0 x.f1 x.f0 x.f1) true := by
  refine Ev.congr (fun k => by rw [laws_eqFun.f, if_pos rfl]) (Ev.bind (eqOpS_refl x.f1 hl) ?_)
  exact Ev.congr (fun k => if_pos rfl) (Ev.now _)
theorem eqFunS_refl (l : List S74) (hl : l.length ≤ 1048576) (hx : ∀ x ∈ l, x.f1.length ≤ 1048576) : Ev (fun k => laws_eqFunS.f k l l) true := by
  have key : Ev (fun k => laws_eqFunS.l0 k l l (([] : List S74).length : Int)) true := by
    refine zip_ind (x := l) (fun done rest => Ev (fun k => laws_eqFunS.l0 k l l (done.length : Int)) true) ?_ ?_
    · exact Ev.step (fun k => by rw [laws_eqFunS.l0, if_neg (by omega)]) (Ev.now _)
    · intro done e rest hd ih
      have hlen := length_zip done e rest
      have hrd : rd_T74 (done ++ e :: rest) (done.length : Int) = e := getD_zip done e rest _
      rw [hd] at hlen hrd
      refine Ev.step (fun k => by rw [laws_eqFunS.l0, if_pos (by omega), if_pos (by omega), if_pos (by omega), hrd]) (Ev.bind (eqFun_refl e (hx e (by rw [← hd]; simp))) ?_)
      refine Ev.congr (fun k => ?_) ih
      rw [if_pos rfl, next_zip _ e (by omega)]
  refine Ev.congr (fun k => ?_) key
  rw [laws_eqFunS.f, if_pos rfl]
  rfl
theorem szFs_le {l : List S71} (h : ¬ szr (szFs l) 1048576 < 0) : l.length ≤ 1048576 ∧ ∀ x ∈ l, x.f1.length ≤ 1048576 := by
  have h1 := (szr_pos h).1
  unfold szFs at h1
  refine ⟨by omega, fun x hx => ?_⟩
  have h2 : x.f1.length ≤ tot szF l := tot_mem szF l x hx
  omega

theorem places_both (l : List S74) (hl : l.length ≤ 1048576) (hx : ∀ x ∈ l, x.f1.length ≤ 1048576) : ∃ r, Ev (fun k => spec_Places.f k l) r ∧ Ev (fun k => impl_Places.f k l) r := by
  have hb : tot (fun x : S74 => x.f1.length) l ≤ l.length * 1048576 := by
    clear hl
    induction l with
    | nil => simp [tot]
    | cons a l ih =>
      have := ih (fun x h => hx x (by simp [h]))
      have := hx a (by simp)
      simp only [tot, List.length_cons]
      omega
  refine ⟨(tot (fun x : S74 => x.f1.length) l : Nat), ?_, ?_⟩
  · have key : Ev (fun k => spec_Places.l0 k l (tot (fun x : S74 => x.f1.length) ([] : List S74) : Nat) (([] : List S74).length : Int)) ((tot (fun x : S74 => x.f1.length) l : Nat) : Int) := by
      refine zip_ind (x := l) (fun done rest => Ev (fun k => spec_Places.l0 k l (tot (fun x : S74 => x.f1.length) done : Nat) (done.length : Int)) ((tot (fun x : S74 => x.f1.length) l : Nat) : Int)) ?_ ?_
      · exact Ev.step (fun k => by rw [spec_Places.l0, if_neg (by omega)]) (Ev.now _)
      · intro done e rest hd ih
        have hlen := length_zip done e rest
        have hrd : rd_T74 (done ++ e :: rest) (done.length : Int) = e := getD_zip done e rest _
        rw [hd] at hlen hrd
        have ht : tot (fun x : S74 => x.f1.length) done + e.f1.length ≤ tot (fun x : S74 => x.f1.length) l := by
          rw [← hd, tot_append, tot]
          omega
        have hw : wrap64 ((tot (fun x : S74 => x.f1.length) done : Nat) + (e.f1.length : Int)) = ((tot (fun x : S74 => x.f1.length) (done ++ [e]) : Nat) : Int) := by
          rw [w64 (by omega) (by omega), tot_append]
          simp only [tot]
          omega
        refine Ev.step (fun k => ?_) ih
        rw [spec_Places.l0, if_pos (by omega), if_pos (by omega), hrd, hw, next_zip _ e (by omega)]
    exact Ev.congr (fun k => rfl) key
  · have key : Ev (fun k => impl_Places.l0 k (tot (fun x : S74 => x.f1.length) ([] : List S74) : Nat) l (l.length : Int) (([] : List S74).length : Int)) ((tot (fun x : S74 => x.f1.length) l : Nat) : Int) := by
      refine zip_ind (x := l) (fun done rest => Ev (fun k => impl_Places.l0 k (tot (fun x : S74 => x.f1.length) done : Nat) l (l.length : Int) (done.length : Int)) ((tot (fun x : S74 => x.f1.length) l : Nat) : Int)) ?_ ?_
      · exact Ev.step (fun k => by rw [impl_Places.l0, if_neg (by omega)]) (Ev.now _)
      · intro done e rest hd ih
        have hlen := length_zip done e rest
        have hrd : rd_T74 (done ++ e :: rest) (done.length : Int) = e := getD_zip done e rest _
        rw [hd] at hlen hrd
        have ht : tot (fun x : S74 => x.f1.length) done + e.f1.length ≤ tot (fun x : S74 => x.f1.length) l := by
          rw [← hd, tot_append, tot]
          omega
        have hw : wrap64 ((tot (fun x : S74 => x.f1.length) done : Nat) + (e.f1.length : Int)) = ((tot (fun x : S74 => x.f1.length) (done ++ [e]) : Nat) : Int) := by
          rw [w64 (by omega) (by omega), tot_append]
          simp only [tot]
          omega
        refine Ev.step (fun k => ?_) ih
        rw [impl_Places.l0, if_pos (by omega), if_pos (by omega), if_pos (by omega), hrd, hw, next_zip _ e (by omega)]
    exact Ev.congr (fun k => rfl) key
end Go.Proofs.Ytmoaonpggckbiaa.PurePlaces
namespace Go.Proofs.Ytmoaonpggckbiaa.Pure
open Go.RowKit Go.Proofs.Ytmoaonpggckbiaa.QFnExactPlaces Go.Proofs.Ytmoaonpggckbiaa.Aid Go.Proofs.YtmoaonpggckbiaaW.PrintWords Go.Proofs.YtmoaonpggckbiaaW.PrintLast Go.Proofs.YtmoaonpggckbiaaW.PrintMore Go.Proofs.Ytmoaonpggckbiaa.PurePlaces Go.Proofs.Ytmoaonpggckbiaa.WfFnExactPlaces
set_option linter.unusedVariables false
set_option linter.unusedSimpArgs false

theorem FnExactPlaces : WfFnExactPlaces.Pure := by
  intro l hw
  refine Ev.rounds (g := fun k => laws_FnExactPlaces.f k l) ?_
  unfold laws_FnExactPlaces.f
  refine Ev.bind (szFunS_ev l 1048576 (by omega) (by omega) hw.1 (fun x hx => (hw.2 x hx).2.1)) ?_
  by_cases c : szr (szFs l) 1048576 < 0
  · exact Ev.congr (fun k => if_pos c) (Ev.now _)
  · obtain ⟨h1, h2⟩ := szFs_le c
    have hto := toFunS_ev l h1 h2
    have h3 : (l.map toF).length ≤ 1048576 := by rw [List.length_map]; exact h1
    have h4 : ∀ x ∈ l.map toF, x.f1.length ≤ 1048576 := by
      intro x hx
      obtain ⟨y, hy, rfl⟩ := List.mem_map.1 hx
      have := h2 y hy
      simp only [toF, List.length_map]
      exact this
    obtain ⟨r, hs, hi⟩ := places_both _ h3 h4
    refine Ev.congr (fun k => if_neg c) (Ev.bind hto (Ev.bind hs (Ev.bind hto (Ev.bind hi ?_))))
    refine Ev.congr (fun k => if_pos rfl) (Ev.bind hto (Ev.bind (eqFunS_refl _ h3 h4) ?_))
    exact Ev.congr (fun k => if_pos rfl) (Ev.now _)
end Go.Proofs.Ytmoaonpggckbiaa.Pure
