import Derived.Test.YtjjnjogmplbjoaaWd
set_option linter.unusedVariables false
set_option linter.unusedSimpArgs false
namespace Go.Proofs.Ytjjnjogmplbjoaa
open Go.Ab

/-! ### replies -/
structure Rp where
  num : Int
  code : Int
  hdl : Int
  p : Pt
def Rp.cells (c : Rp) (b : Nat) : List AV := [u64 c.num, i64 c.code, u32 c.hdl, c.p.v b]
def Rp.v (c : Rp) (b : Nat) : AV := .agg (c.cells b)
def Rp.wd (c : Rp) (p : Pt) : Rp := ⟨c.num, c.code, c.hdl, p⟩
def Rp.eqs (c e : Rp) : List Bool := [c.num == e.num, c.code == e.code, c.hdl == e.hdl]
def Rp.eqB (c e : Rp) : Bool := (Rp.eqs c e).all id && decide (c.p.parts = e.p.parts)
def eqIx3 : List Nat := [4, 10, 17]

theorem sr_run (same r : Bool) (c e : Rp) (d d' : Pt) (hs : same = true → d' = d) (k : Nat) (hk : k ≤ 3) :
    runFn S (exec S noC 60) (QF [(1, fF eqIx3 k [(24, .call (bo r) (hpP same d d'))])]) 12 [(c.wd d).v 0, (e.wd d').v (atP same d)] (hpP same d d') =
    some (bo (decide (k = 3) && r), hpP same d d', oF (Rp.eqs c e) k [CallOK S.P 48 [d.v 0, d'.v (atP same d), .func 47 []] (hpP same d d') (bo r) (hpP same d d')]) := by
  have : k = 0 ∨ k = 1 ∨ k = 2 ∨ k = 3 := by omega
  cases same with
  | false => rcases this with rfl | rfl | rfl | rfl <;> cases d <;> cases d' <;> (show _ = _; kernel_rfl)
  | true =>
    cases hs rfl
    rcases this with rfl | rfl | rfl | rfl <;> cases d <;> (show _ = _; kernel_rfl)

theorem samereply_ok (same : Bool) (c e : Rp) (hs : same = true → e.p = c.p) (hc : c.p.ok) (he : e.p.ok) :
    CallOK Try.prog 12 [c.v 0, e.v (atP same c.p)] (hpP same c.p e.p) (bo (Rp.eqB c e)) (hpP same c.p e.p) := by
  obtain ⟨k, h0, h1, h2, h3⟩ := first_false (Rp.eqs c e)
  have h := call_ok S_ok noC_ok 60 _ (sr_run same (decide (c.p.parts = e.p.parts)) c e c.p e.p hs k h0) (oF_all h1 h2 (fun _ => by
    simp only [all_cons, all_nil, and_true]
    exact pt_equal same c.p e.p hs hc he))
  have e1 : (decide (k = 3) && decide (c.p.parts = e.p.parts)) = Rp.eqB c e := by
    unfold Rp.eqB
    rw [← h3]; rfl
  rw [e1] at h
  exact h

/-! ### the chapter's -/
def sT (r : Bool) (j : Int) : T := [none, none, some (.ptr 2 0), some (.ptr 3 0), some (bo r), some (i64 j)] ++ List.replicate 48 none
def sH (c e : Rp) (R R' : List KRow) (n m : Nat) : Heap := [.rows R, .rows R', .live ⟨[u64 c.num, i64 c.code, u32 c.hdl, sl 0 n], true, true, false⟩, .live ⟨[u64 e.num, i64 e.code, u32 e.hdl, sl 1 m], true, true, false⟩]
def sLive : List Nat := [2, 3, 4, 5]
theorem sr_round (r : Bool) (c e : Rp) (R R' : List KRow) (n m j : Nat) (d d' : Dt) (i' : Int) :
    (exec S noC 60 (LB Try.f13 0) (sT false j) (sH c e R R' n m) (QF ([(4, [(4, fo (bo true))]), (6, [(3, fo (.ptr 0 j)), (4, .op (d.v 20) (d.view 20)), (5, fo (.raw (.string (bs d.bytes)))), (9, fo (.ptr 1 j)), (10, .op (d'.v 44) (d'.view 44)), (11, fo (.raw (.string (bs d'.bytes)))), (12, fo (bo (!r)))])] ++ if r then [(5, [(1, fo (i64 i'))])] else []))).bind (fun r => (Ab.pick [0, 1, 2, 3] r.h [0, 1, 2, 3]).map fun h2 => (r.x, renT (pos [0, 1, 2, 3]) (maskT sLive r.t), h2, r.obs)) =
    some (if r then .normal else .ret, sT false (if r then i' else j), sH c e R R' n m,
      [isV (bo (decide ((j : Int) < n))) (bo true), isO (ixR (sH c e R R' n m) 0 n j) (.ptr 0 j), ldx S.P (sH c e R R' n m) 20 29 0 j = some (d.v 20, d.view 20), cvO (app (sH c e R R' n m) (d.view 20)) (d.v 20) d,
       isO (ixR (sH c e R R' n m) 1 m j) (.ptr 1 j), ldx S.P (sH c e R R' n m) 44 29 1 j = some (d'.v 44, d'.view 44), cvO (app (sH c e R R' n m) (d'.view 44)) (d'.v 44) d',
       isV (bo (!((bs d.bytes).data.toList == (bs d'.bytes).data.toList))) (bo (!r))] ++ if r then [isV (i64 (w64 ((j : Int) + 1))) (i64 i')] else []) := by
  cases r <;> cases d <;> cases d' <;> kernel_rfl
theorem sr_end (r : Bool) (c e : Rp) (R R' : List KRow) (n m : Nat) (i : Int) :
    (exec S noC 60 (LB Try.f13 0) (sT r i) (sH c e R R' n m) (QF [(4, [(4, fo (bo false))])])).map (fun r => (r.x, maskT sLive r.t, r.h, r.obs)) =
    some (.exit 0, sT r i, sH c e R R' n m, [isV (bo (decide (i < n))) (bo false)]) := by
  cases r <;> kernel_rfl
theorem sr_reg : regOK (LB Try.f13 0) = true := by kernel_rfl

theorem view_hat (h : Heap) (d : Dt) (s : Nat) : ∀ Z n, d = .s Z n → hat (app h (d.view s)) s = lb Z := by
  intro Z n e
  subst e
  unfold Dt.view
  rw [Go.Ab.hat_app]
  simp [lastD]

theorem sr_tri (r : Bool) (c e : Rp) (R R' : List KRow) (n m j : Nat) (a b : KRow) (hj : j < n) (hjm : j < m) (hn : n ≤ 9223372036854775807) (ha : R[j]? = some a) (hb : R'[j]? = some b) (ga : KRow.good a) (gb : KRow.good b) (hr : r = decide ((KRow.dt a).bytes = (KRow.dt b).bytes)) :
    TriOK S.P (LB Try.f13 0) (sT false j) (sH c e R R' n m) (if r then .normal else .ret) (sT false (if r then ((j + 1 : Nat) : Int) else j)) (sH c e R R' n m) := by
  have q1 : hat (sH c e R R' n m) 0 = .rows R := rfl
  have q3 : hat (sH c e R R' n m) 1 = .rows R' := rfl
  have hA : 0 < R.length := by have := (List.getElem?_eq_some_iff.1 ha).1; omega
  have hB : 0 < R'.length := by have := (List.getElem?_eq_some_iff.1 hb).1; omega
  refine tri_exec_sel S_ok noC_ok 60 _ sLive [0, 1, 2, 3] sr_reg (sr_round r c e R R' n m j (KRow.dt a) (KRow.dt b) ((j + 1 : Nat) : Int)) ?_ rfl rfl
  have k1 : isV (bo (decide ((j : Int) < n))) (bo true) := isV_bo (by simp; omega)
  have k2' := ixR_ok q1 hj hA
  have k3 := ldR_ok (s := 20) q1 ha ga
  have k4 := ixR_ok q3 hjm hB
  have k5 := ldR_ok (s := 44) q3 hb gb
  have k6 : cvO (app (sH c e R R' n m) ((KRow.dt a).view 20)) ((KRow.dt a).v 20) (KRow.dt a) := cv_ok ga.2 (view_hat _ _ _)
  have k7 : cvO (app (sH c e R R' n m) ((KRow.dt b).view 44)) ((KRow.dt b).v 44) (KRow.dt b) := cv_ok gb.2 (view_hat _ _ _)
  have k8 : isV (bo (!((bs (KRow.dt a).bytes).data.toList == (bs (KRow.dt b).bytes).data.toList))) (bo (!r)) := isV_bo (by rw [bs_eq (Dt.isB ga.2) (Dt.isB gb.2), ← hr])
  cases r with
  | true =>
    simp only [if_true, List.cons_append, List.nil_append, all_cons, all_nil, and_true]
    exact ⟨k1, k2', k3, k6, k4, k5, k7, k8, isV_int (by rw [w64_id _ (by omega) (by omega)]; omega)⟩
  | false =>
    simp only [Bool.false_eq_true, if_false, List.cons_append, List.nil_append, List.append_nil, all_cons, all_nil, and_true]
    exact ⟨k1, k2', k3, k6, k4, k5, k7, k8⟩

/-- The first k parts alike (of four: the last is the number of parts). -/
def nF (ix : List Nat) (k : Nat) : List (Nat × Forced) := (ix.take k).map (·, fo (bo false)) ++ (match ix[k]? with | some i => [(i, fo (bo true))] | none => [])
def nO (es : List Bool) (k : Nat) : Obs := (es.take k).map (fun e => isV (bo (!e)) (bo false)) ++ (match es[k]? with | some e => [isV (bo (!e)) (bo true)] | none => [])
theorem nO_all {es : List Bool} {k : Nat} (h1 : ∀ e ∈ es.take k, e = true) (h2 : ∀ e, es[k]? = some e → e = false) : Obs.all (nO es k) := by
  unfold nO
  intro p hp
  rcases List.mem_append.1 hp with hp | hp
  · obtain ⟨e, he, rfl⟩ := List.mem_map.1 hp
    rw [h1 e he]; exact isV_bo rfl
  · cases he : es[k]? with
    | none => rw [he] at hp; cases hp
    | some e =>
      rw [he] at hp
      simp only [List.mem_singleton] at hp
      subst hp
      rw [h2 e he]; exact isV_bo rfl
def Pt.len : Pt → Nat
  | .e _ _ => 0
  | .s _ n => n
def Rp.eqs4 (c e : Rp) (d d' : Pt) : List Bool := [c.num == e.num, c.code == e.code, c.hdl == e.hdl, (d.len : Int) == (d'.len : Int)]
def eqIx4 : List Nat := [4, 10, 17, 26]
/-- Something but the parts themselves differs. -/
theorem rsr_run (c e : Rp) (d d' : Pt) (k : Nat) (hk : k < 4) :
    runFn S (exec S noC 60) (QF [(1, nF eqIx4 k)]) 13 [(c.wd d).v 0, (e.wd d').v (atP false d)] (hpP false d d') = some (bo false, hpP false d d', nO (Rp.eqs4 c e d d') k) := by
  have : k = 0 ∨ k = 1 ∨ k = 2 ∨ k = 3 := by omega
  rcases this with rfl | rfl | rfl | rfl <;> cases d <;> cases d' <;> (show _ = _; kernel_rfl)
/-- No part at all. -/
theorem rsr_none (c e : Rp) (a a' : Option Addr) (n n' : Nat) :
    runFn S (exec S noC 60) (QF [(1, nF [4, 10, 17] 3)]) 13 [(c.wd (.e a n)).v 0, (e.wd (.e a' n')).v 0] [] = some (bo true, [], nO (Rp.eqs c e) 3) := by kernel_rfl
def sT0 (c e : Rp) (R R' : List KRow) (n m : Nat) : T := [some (.agg [u64 c.num, i64 c.code, u32 c.hdl, sl 0 n]), some (.agg [u64 e.num, i64 e.code, u32 e.hdl, sl 1 m]), some (AV.ptr 2 0), some (AV.ptr 3 0), some (bo false), some (i64 0), some (AV.ptr 2 0), some (u64 c.num), some (AV.ptr 3 0), some (u64 e.num), some (bo false), some (bo false), some (AV.ptr 2 1), some (i64 c.code), some (AV.ptr 3 1), some (i64 e.code), some (bo false), some (bo false), some (bo false), some (AV.ptr 2 2), some (u32 c.hdl), some (AV.ptr 3 2), some (u32 e.hdl), some (bo false), some (bo false), some (bo false), some (AV.ptr 2 3), some (sl 0 n), some (i64 n), some (AV.ptr 3 3), some (sl 1 m), some (i64 m), some (bo false), some (bo false)] ++ List.replicate 20 un
theorem rsr_loop (r : Bool) (c e : Rp) (R R' : List KRow) (n m : Nat) (i : Int) :
    runFn S (exec S noC 60) ((1, .ops (nF eqIx4 4)) :: [(4, .code (if r then .exit 0 else .ret) (sT false i) (sH c e R R' n m))]) 13 [(c.wd (.s R n)).v 0, (e.wd (.s R' m)).v 1] [.rows R, .rows R'] =
    some (bo r, [.rows R, .rows R'], nO (Rp.eqs4 c e (.s R n) (.s R' m)) 4 ++ [TriOK S.P (.loop (LB Try.f13 0)) (sT0 c e R R' n m) (sH c e R R' n m) (if r then .exit 0 else .ret) (sT false i) (sH c e R R' n m)]) := by
  cases r <;> kernel_rfl

theorem rsr_yes (c e : Rp) (R R' : List KRow) (n m : Nat) (hA : n ≤ R.length) (hB : n ≤ R'.length) (hnm : n = m) (hn : n ≤ 9223372036854775807) (ga : ∀ r ∈ R, KRow.good r) (gb : ∀ r ∈ R', KRow.good r) (k : Nat) (hk : k ≤ n)
    (he : ∀ (j : Nat) a b, j < k → R[j]? = some a → R'[j]? = some b → (KRow.dt a).bytes = (KRow.dt b).bytes) {x : AX} (hx : x ≠ .normal) {t' : T} {h' : Heap} (hend : TriOK S.P (LB Try.f13 0) (sT false k) (sH c e R R' n m) x t' h') :
    TriOK S.P (.loop (LB Try.f13 0)) (sT false 0) (sH c e R R' n m) x t' h' := by
  refine tri_loop (P := S.P) (body := LB Try.f13 0) k (fun j => sT false j) (fun _ => sH c e R R' n m) hx (fun j hj => ?_) hend
  obtain ⟨a, ha⟩ := get_lt (show j < R.length by omega)
  obtain ⟨b, hb⟩ := get_lt (show j < R'.length by omega)
  exact sr_tri true c e R R' n m j a b (by omega) (by omega) hn ha hb (ga a (List.mem_of_getElem? ha)) (gb b (List.mem_of_getElem? hb)) (decide_eq_true (he j a b hj ha hb)).symm

theorem pt_len {d : Pt} (h : d.ok) : d.parts.length = d.len := by
  cases d with
  | e => rfl
  | s R n => exact parts_len h
theorem rsamereply_ok (c e : Rp) (hc : c.p.ok) (he : e.p.ok) :
    CallOK Try.prog 13 [c.v 0, e.v (atP false c.p)] (hpP false c.p e.p) (bo (Rp.eqB c e)) (hpP false c.p e.p) := by
  obtain ⟨cn, cc, ch, d⟩ := c
  obtain ⟨en, ec, eh, d'⟩ := e
  simp only at hc he ⊢
  obtain ⟨k, h0, h1, h2, h3⟩ := first_false (Rp.eqs4 ⟨cn, cc, ch, d⟩ ⟨en, ec, eh, d'⟩ d d')
  have hall : (Rp.eqs4 ⟨cn, cc, ch, d⟩ ⟨en, ec, eh, d'⟩ d d').all id = ((Rp.eqs ⟨cn, cc, ch, d⟩ ⟨en, ec, eh, d'⟩).all id && ((d.len : Int) == (d'.len : Int))) := by
    simp [Rp.eqs4, Rp.eqs, Bool.and_assoc]
  by_cases hk : k < 4
  · have hf : Rp.eqB ⟨cn, cc, ch, d⟩ ⟨en, ec, eh, d'⟩ = false := by
      have : decide (k = (Rp.eqs4 ⟨cn, cc, ch, d⟩ ⟨en, ec, eh, d'⟩ d d').length) = false := decide_eq_false (by show k ≠ 4; omega)
      rw [this, hall] at h3
      unfold Rp.eqB
      by_cases hl : d.len = d'.len
      · simp only [hl, beq_self_eq_true, Bool.and_true] at h3
        rw [← h3]; rfl
      · have : decide (d.parts = d'.parts) = false := decide_eq_false (fun q => hl (by rw [← pt_len hc, q, pt_len he]))
        show (_ && decide (d.parts = d'.parts)) = false
        rw [this, Bool.and_false]
    rw [hf]
    exact call_ok S_ok noC_ok 60 _ (rsr_run ⟨cn, cc, ch, d⟩ ⟨en, ec, eh, d'⟩ d d' k hk) (nO_all h1 h2)
  · have hk4 : k = 4 := by have : k ≤ 4 := h0; omega
    subst hk4
    have hT : (Rp.eqs4 ⟨cn, cc, ch, d⟩ ⟨en, ec, eh, d'⟩ d d').all id = true := by rw [← h3]; exact decide_eq_true rfl
    rw [hall] at hT
    simp only [Bool.and_eq_true, beq_iff_eq] at hT
    have hlen : d.len = d'.len := by omega
    have hB : Rp.eqB ⟨cn, cc, ch, d⟩ ⟨en, ec, eh, d'⟩ = decide (d.parts = d'.parts) := by
      unfold Rp.eqB
      rw [hT.1, Bool.true_and]
    rw [hB]
    cases d with
    | e a n => cases d' with
      | e a' n' =>
        show CallOK _ 13 _ [] (bo (decide (([] : List (List Int)) = []))) []
        refine call_ok S_ok noC_ok 60 _ (rsr_none ⟨cn, cc, ch, .e a n⟩ ⟨en, ec, eh, .e a' n'⟩ a a' n n') (nO_all (fun e he => ?_) (fun e he => by cases he))
        exact List.all_eq_true.1 hT.1 e (List.mem_of_mem_take he)
      | s R' m => exact absurd hlen (by have := he.1; simp [Pt.len]; omega)
    | s R n => cases d' with
      | e a' n' => exact absurd hlen (by have := hc.1; simp [Pt.len]; omega)
      | s R' m =>
        simp only [Pt.len] at hlen
        rw [parts_eq, parts_eq]
        by_cases hq : (R.take n).map (fun r => (KRow.dt r).bytes) = (R'.take m).map (fun r => (KRow.dt r).bytes)
        · rw [decide_eq_true hq]
          refine call_ok S_ok noC_ok 60 _ (rsr_loop true ⟨cn, cc, ch, .s R n⟩ ⟨en, ec, eh, .s R' m⟩ R R' n m n) (Obs.all_append.2 ⟨nO_all h1 h2, ?_⟩)
          simp only [all_cons, all_nil, and_true]
          refine TriOK.pre sLive (rsr_yes _ _ R R' n m hc.2.1 (by rw [hlen]; exact he.2.1) hlen hc.2.2.1 hc.2.2.2 he.2.2.2 n (Nat.le_refl n) (fun j a b hj ha hb => take_mapL (f := fun r => (KRow.dt r).bytes) (by rw [← hlen] at hq; exact hq) hj ha hb) (by simp) ?_)
          exact tri_exec S_ok noC_ok 60 _ _ sr_reg (sr_end false _ _ R R' n m n) (by simp only [all_cons, all_nil, and_true]; exact isV_bo (by simp))
        · rw [decide_eq_false hq]
          obtain ⟨k, a, b, hk, ha, hb, hne, hmin⟩ := first_diffL (fun r => (KRow.dt r).bytes) n R R' hc.2.1 (by rw [hlen]; exact he.2.1) (by rw [← hlen] at hq; exact hq)
          refine call_ok S_ok noC_ok 60 _ (rsr_loop false ⟨cn, cc, ch, .s R n⟩ ⟨en, ec, eh, .s R' m⟩ R R' n m k) (Obs.all_append.2 ⟨nO_all h1 h2, ?_⟩)
          simp only [all_cons, all_nil, and_true]
          refine TriOK.pre sLive (rsr_yes _ _ R R' n m hc.2.1 (by rw [hlen]; exact he.2.1) hlen hc.2.2.1 hc.2.2.2 he.2.2.2 k (by omega) hmin (by simp) ?_)
          exact sr_tri false _ _ R R' n m k a b hk (by omega) hc.2.2.1 ha hb (hc.2.2.2 a (List.mem_of_getElem? ha)) (he.2.2.2 b (List.mem_of_getElem? hb)) (decide_eq_false hne).symm
end Go.Proofs.Ytjjnjogmplbjoaa
