import Derived.Test.YtjjnjogmplbjoaaWb
set_option linter.unusedVariables false
set_option linter.unusedSimpArgs false
namespace Go.Proofs.Ytjjnjogmplbjoaa
open Go.Ab

/-! ### slices.EqualFunc over slices of slices of bytes, by slices.Equal -/
def fT (k n : Nat) (i : Int) : T := [some (sl 0 n), some (sl k n), some (.func 47 []), none, none, none, some (bo false), none, none, none, none, none, none, none, none, some (sl 0 n), some (i64 n), some (i64 i)] ++ List.replicate 14 none
def fLive : List Nat := [0, 1, 2, 6, 15, 16, 17]
def fIds (same : Bool) : List Nat := if same then [0] else [0, 1]
theorem ef_round (same r : Bool) (A B : List KRow) (d d' : Dt) (n j : Nat) (i' : Int) :
    (exec S noC 60 (LB Try.f48 0) (fT (k2 same) n j) (HR same A B) (QF ([(4, [(0, fo (bo true))]), (5, [(1, fo (.ptr 0 j)), (2, .op (d.v (HR same A B).length) (d.view (HR same A B).length))]), (6, [(2, fo (.ptr (k2 same) j)), (3, .op (d'.v ((HR same A B).length + d.h.length)) (d'.view ((HR same A B).length + d.h.length)))]), (7, [(3, .call (bo r) (hp2 false d d'))])] ++ if r then [(9, [(0, fo (i64 i'))])] else []))).bind (fun r => (Ab.pick (fIds same) r.h (fIds same)).map fun h2 => (r.x, renT (pos (fIds same)) (maskT fLive r.t), h2, r.obs)) =
    some (if r then .normal else .ret, fT (k2 same) n (if r then i' else j), HR same A B,
      [isV (bo (decide ((j : Int) < n))) (bo true), isO (ixR (HR same A B) 0 n j) (.ptr 0 j), ldx S.P (HR same A B) (HR same A B).length 29 0 j = some (d.v (HR same A B).length, d.view (HR same A B).length),
       isO (ixR (HR same A B ++ d.h) (k2 same) n j) (.ptr (k2 same) j), ldx S.P (HR same A B ++ d.h) ((HR same A B).length + d.h.length) 29 (k2 same) j = some (d'.v ((HR same A B).length + d.h.length), d'.view ((HR same A B).length + d.h.length)),
       CallOK S.P 47 [d.v 0, d'.v (at2 false d)] (hp2 false d d') (bo r) (hp2 false d d')] ++ if r then [isV (i64 (w64 ((j : Int) + 1))) (i64 i')] else []) := by
  cases same <;> cases r <;> cases d <;> cases d' <;> kernel_rfl
theorem ef_end (same : Bool) (A B : List KRow) (n : Nat) (i : Int) :
    (exec S noC 60 (LB Try.f48 0) (fT (k2 same) n i) (HR same A B) (QF [(4, [(0, fo (bo false))])])).map (fun r => (r.x, maskT fLive r.t, r.h, r.obs)) =
    some (.exit 0, fT (k2 same) n i, HR same A B, [isV (bo (decide (i < n))) (bo false)]) := by
  cases same <;> kernel_rfl
theorem ef_reg : regOK (LB Try.f48 0) = true := by kernel_rfl

theorem hat_app {h : Heap} {x : HB} {b : Nat} (g : Heap) (hb : hat h b = x) (hx : x ≠ .free) : hat (h ++ g) b = x := by
  rw [hat_eq, List.getD_eq_getElem?_getD] at *
  cases hh : h[b]? with
  | none => rw [hh] at hb; exact absurd hb.symm hx
  | some y =>
    have := (List.getElem?_eq_some_iff.1 hh).1
    rw [List.getElem?_append_left this, hh]
    rw [hh] at hb
    exact hb

theorem ef_tri (same r : Bool) (A B : List KRow) (hs : same = true → B = A) (n j : Nat) (a b : KRow) (hj : j < n) (hn : n ≤ 9223372036854775807) (ha : A[j]? = some a) (hb : B[j]? = some b) (ga : KRow.good a) (gb : KRow.good b) (hr : r = decide ((KRow.dt a).bytes = (KRow.dt b).bytes)) :
    TriOK S.P (LB Try.f48 0) (fT (k2 same) n j) (HR same A B) (if r then .normal else .ret) (fT (k2 same) n (if r then ((j + 1 : Nat) : Int) else j)) (HR same A B) := by
  obtain ⟨q1, q2⟩ := hat_HR same A B
  have q3 : hat (HR same A B) (k2 same) = .rows B := by rw [q2]; cases same with | true => rw [hs rfl]; rfl | false => rfl
  have hA : 0 < A.length := by have := (List.getElem?_eq_some_iff.1 ha).1; omega
  have hB : 0 < B.length := by have := (List.getElem?_eq_some_iff.1 hb).1; omega
  refine tri_exec_sel S_ok noC_ok 60 _ fLive (fIds same) ef_reg (ef_round same r A B (KRow.dt a) (KRow.dt b) n j ((j + 1 : Nat) : Int)) ?_ (by cases same <;> rfl) (by cases same <;> rfl)
  have c := dt_equal false (KRow.dt a) (KRow.dt b) (by intro h; cases h) ga.2 gb.2
  rw [← hr] at c
  have k1 : isV (bo (decide ((j : Int) < n))) (bo true) := isV_bo (by simp; omega)
  have k2' := ixR_ok q1 hj hA
  have k3 := ldR_ok (s := (HR same A B).length) q1 ha ga
  have k4 := ixR_ok (hat_app (KRow.dt a).h q3 (by simp)) hj hB
  have k5 := ldR_ok (s := (HR same A B).length + (KRow.dt a).h.length) (hat_app (KRow.dt a).h q3 (by simp)) hb gb
  cases r with
  | true =>
    simp only [if_true, List.cons_append, List.nil_append, all_cons, all_nil, and_true]
    exact ⟨k1, k2', k3, k4, k5, c, isV_int (by rw [w64_id _ (by omega) (by omega)]; omega)⟩
  | false =>
    simp only [Bool.false_eq_true, if_false, List.cons_append, List.nil_append, List.append_nil, all_cons, all_nil, and_true]
    exact ⟨k1, k2', k3, k4, k5, c⟩

/-- Where two lists of equal length differ first. -/
theorem first_diffL {α β : Type} [DecidableEq β] (f : α → β) : ∀ (n : Nat) (Z W : List α), n ≤ Z.length → n ≤ W.length → (Z.take n).map f ≠ (W.take n).map f → ∃ (k : Nat) (a b : α), k < n ∧ Z[k]? = some a ∧ W[k]? = some b ∧ f a ≠ f b ∧ ∀ (j : Nat) a b, j < k → Z[j]? = some a → W[j]? = some b → f a = f b
  | 0, Z, W, _, _, h => by simp at h
  | n + 1, z :: Z, w :: W, h1, h2, h => by
    by_cases e : f z = f w
    · obtain ⟨k, a, b, q1, q2, q3, q4, q5⟩ := first_diffL f n Z W (by simpa using h1) (by simpa using h2) (fun q => h (by simp [q, e]))
      refine ⟨k + 1, a, b, by omega, by simpa using q2, by simpa using q3, q4, fun j a b hj ha hb => ?_⟩
      cases j with
      | zero => simp only [List.getElem?_cons_zero, Option.some.injEq] at ha hb; subst ha; subst hb; exact e
      | succ j => exact q5 j a b (by omega) (by simpa using ha) (by simpa using hb)
    · exact ⟨0, z, w, by omega, rfl, rfl, e, fun j _ _ hj => by omega⟩

theorem take_mapL {α β : Type} {f : α → β} {Z W : List α} {n j : Nat} {a b : α} (h : (Z.take n).map f = (W.take n).map f) (hj : j < n) (ha : Z[j]? = some a) (hb : W[j]? = some b) : f a = f b := by
  have := congrArg (fun l => l[j]?) h
  simpa [List.getElem?_take, hj, ha, hb] using this

theorem get_lt {α : Type} {Z : List α} {j : Nat} (h : j < Z.length) : ∃ a, Z[j]? = some a := ⟨Z[j], List.getElem?_eq_getElem h⟩

theorem ef_yes (same : Bool) (A B : List KRow) (hs : same = true → B = A) (n : Nat) (hA : n ≤ A.length) (hB : n ≤ B.length) (hn : n ≤ 9223372036854775807) (ga : ∀ r ∈ A, KRow.good r) (gb : ∀ r ∈ B, KRow.good r) (k : Nat) (hk : k ≤ n)
    (he : ∀ (j : Nat) a b, j < k → A[j]? = some a → B[j]? = some b → (KRow.dt a).bytes = (KRow.dt b).bytes) {x : AX} (hx : x ≠ .normal) {t' : T} {h' : Heap} (hend : TriOK S.P (LB Try.f48 0) (fT (k2 same) n k) (HR same A B) x t' h') :
    TriOK S.P (.loop (LB Try.f48 0)) (fT (k2 same) n 0) (HR same A B) x t' h' := by
  refine tri_loop (P := S.P) (body := LB Try.f48 0) k (fun j => fT (k2 same) n j) (fun _ => HR same A B) hx (fun j hj => ?_) hend
  obtain ⟨a, ha⟩ := get_lt (show j < A.length by omega)
  obtain ⟨b, hb⟩ := get_lt (show j < B.length by omega)
  exact ef_tri same true A B hs n j a b (by omega) hn ha hb (ga a (List.mem_of_getElem? ha)) (gb b (List.mem_of_getElem? hb)) (decide_eq_true (he j a b hj ha hb)).symm

def fT0 (k n : Nat) : T := [some (sl 0 n), some (sl k n), some (.func 47 []), un, un, un, some (bo false), un, un, un, some (sl 0 n), some (i64 n), some (sl k n), some (i64 n), some (bo false), some (sl 0 n), some (i64 n), some (i64 0)] ++ List.replicate 14 un
theorem ef_run (same r : Bool) (A B : List KRow) (n : Nat) (i : Int) :
    runFn S (exec S noC 60) ((1, .ops [(4, fo (bo false))]) :: [(4, .code (if r then .exit 0 else .ret) (fT (k2 same) n i) (HR same A B))]) 48 [sl 0 n, sl (k2 same) n, .func 47 []] (HR same A B) =
    some (bo r, HR same A B, [isV (bo ((n : Int) != n)) (bo false), TriOK S.P (.loop (LB Try.f48 0)) (fT0 (k2 same) n) (HR same A B) (if r then .exit 0 else .ret) (fT (k2 same) n i) (HR same A B)]) := by
  cases same <;> cases r <;> kernel_rfl

theorem ef_len (same : Bool) (A B : List KRow) (hs : same = true → B = A) (n : Nat) (hA : n ≤ A.length) (hB : n ≤ B.length) (hn : n ≤ 9223372036854775807) (ga : ∀ r ∈ A, KRow.good r) (gb : ∀ r ∈ B, KRow.good r) :
    CallOK Try.prog 48 [sl 0 n, sl (k2 same) n, .func 47 []] (HR same A B) (bo (decide ((A.take n).map (fun r => (KRow.dt r).bytes) = (B.take n).map (fun r => (KRow.dt r).bytes)))) (HR same A B) := by
  by_cases he : (A.take n).map (fun r => (KRow.dt r).bytes) = (B.take n).map (fun r => (KRow.dt r).bytes)
  · rw [decide_eq_true he]
    exact call_ok S_ok noC_ok 60 _ (ef_run same true A B n n) (by
      simp only [all_cons, all_nil, and_true]
      refine ⟨isV_bo (by simp), TriOK.pre fLive (ef_yes same A B hs n hA hB hn ga gb n (Nat.le_refl n) (fun j a b hj ha hb => take_mapL (f := fun r => (KRow.dt r).bytes) he hj ha hb) (by simp) ?_)⟩
      exact tri_exec S_ok noC_ok 60 _ _ ef_reg (ef_end same A B n n) (by simp only [all_cons, all_nil, and_true]; exact isV_bo (by simp)))
  · rw [decide_eq_false he]
    obtain ⟨k, a, b, hk, ha, hb, hne, hmin⟩ := first_diffL (fun r => (KRow.dt r).bytes) n A B hA hB he
    exact call_ok S_ok noC_ok 60 _ (ef_run same false A B n k) (by
      simp only [all_cons, all_nil, and_true]
      refine ⟨isV_bo (by simp), TriOK.pre fLive (ef_yes same A B hs n hA hB hn ga gb k (by omega) hmin (by simp) ?_)⟩
      exact ef_tri same false A B hs n k a b hk hn ha hb (ga a (List.mem_of_getElem? ha)) (gb b (List.mem_of_getElem? hb)) (decide_eq_false hne).symm)

theorem ef_ne_bb (A B : List KRow) (n m : Nat) : runFn S (exec S noC 60) (QF [(1, [(4, fo (bo true))])]) 48 [sl 0 n, sl 1 m, .func 47 []] (HR false A B) = some (bo false, HR false A B, [isV (bo ((n : Int) != m)) (bo true)]) := by kernel_rfl
theorem ef_ne_be (A : List KRow) (n : Nat) (a : Option Addr) (c : Nat) : runFn S (exec S noC 60) (QF [(1, [(4, fo (bo true))])]) 48 [sl 0 n, emp a c, .func 47 []] [.rows A] = some (bo false, [.rows A], [isV (bo ((n : Int) != (0 : Nat))) (bo true)]) := by kernel_rfl
theorem ef_ne_eb (A : List KRow) (n : Nat) (a : Option Addr) (c : Nat) : runFn S (exec S noC 60) (QF [(1, [(4, fo (bo true))])]) 48 [emp a c, sl 0 n, .func 47 []] [.rows A] = some (bo false, [.rows A], [isV (bo (((0 : Nat) : Int) != n)) (bo true)]) := by kernel_rfl
theorem ef_ee (a a' : Option Addr) (c c' : Nat) : runFn S (exec S noC 60) [] 48 [emp a c, emp a' c', .func 47 []] [] = some (bo true, [], []) := by kernel_rfl

theorem parts_len {R : List KRow} {n : Nat} (h : (Pt.s R n).ok) : (Pt.s R n).parts.length = n := by
  simp only [Pt.parts, Pt.ds, List.length_map, List.length_take]
  have := h.2.1
  omega
theorem parts_eq (R : List KRow) (n : Nat) : (Pt.s R n).parts = (R.take n).map (fun r => (KRow.dt r).bytes) := by
  simp only [Pt.parts, Pt.ds, List.map_map]; rfl

theorem pt_equal (same : Bool) (d d' : Pt) (hs : same = true → d' = d) (h : d.ok) (h' : d'.ok) :
    CallOK Try.prog 48 [d.v 0, d'.v (atP same d), .func 47 []] (hpP same d d') (bo (decide (d.parts = d'.parts))) (hpP same d d') := by
  cases d with
  | e a c => cases d' with
    | e a' c' =>
      have e1 : hpP same (.e a c) (.e a' c') = [] := by cases same <;> rfl
      rw [e1]
      exact call_ok S_ok noC_ok 60 _ (ef_ee a a' c c') (by simp only [all_nil])
    | s Z n =>
      cases same with
      | true => cases hs rfl
      | false =>
        have hn : decide ((Pt.e a c).parts = (Pt.s Z n).parts) = false := by
          rw [decide_eq_false_iff_not]
          intro q
          have := parts_len h'
          rw [← q] at this
          have e : (Pt.e a c).parts = [] := rfl
          rw [e] at this
          have := h'.1
          simp at *
          omega
        rw [hn]
        refine call_ok S_ok noC_ok 60 _ (ef_ne_eb Z n a c) ?_
        simp only [all_cons, all_nil, and_true]
        exact isV_bo (by have := h'.1; simp; omega)
  | s Z n => cases d' with
    | e a c =>
      cases same with
      | true => cases hs rfl
      | false =>
        have hn : decide ((Pt.s Z n).parts = (Pt.e a c).parts) = false := by
          rw [decide_eq_false_iff_not]
          intro q
          have := parts_len h
          rw [q] at this
          have e : (Pt.e a c).parts = [] := rfl
          rw [e] at this
          have := h.1
          simp at *
          omega
        rw [hn]
        refine call_ok S_ok noC_ok 60 _ (ef_ne_be Z n a c) ?_
        simp only [all_cons, all_nil, and_true]
        exact isV_bo (by have := h.1; simp; omega)
    | s W m =>
      have e1 : hpP same (.s Z n) (.s W m) = HR same Z W := by cases same <;> rfl
      have e2 : atP same (.s Z n) = k2 same := by cases same <;> rfl
      rw [e1, e2]
      show CallOK _ 48 [sl 0 n, sl (k2 same) m, _] _ _ _
      by_cases hnm : n = m
      · subst hnm
        rw [parts_eq, parts_eq]
        exact ef_len same Z W (fun hq => by cases hs hq; rfl) n h.2.1 h'.2.1 h.2.2.1 h.2.2.2 h'.2.2.2
      · have hne : decide ((Pt.s Z n).parts = (Pt.s W m).parts) = false := by
          rw [decide_eq_false_iff_not]
          intro q
          have h1 := parts_len h
          rw [q, parts_len h'] at h1
          exact hnm h1.symm
        rw [hne]
        cases same with
        | true => cases hs rfl; exact absurd rfl hnm
        | false =>
          refine call_ok S_ok noC_ok 60 _ (ef_ne_bb Z W n m) ?_
          simp only [all_cons, all_nil, and_true]
          exact isV_bo (by simp; omega)
end Go.Proofs.Ytjjnjogmplbjoaa
