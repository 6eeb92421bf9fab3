import Derived.Test.YtjjnjogmplbjoaaWa
set_option linter.unusedVariables false
set_option linter.unusedSimpArgs false
namespace Go.Proofs.Ytjjnjogmplbjoaa
open Go.Ab

/-- A slice of bytes that came in: without an element (where, its room), or the first n of a row. -/
inductive Dt where
  | e (a : Option Addr) (c : Nat)
  | s (Z : List Int) (n : Nat)
def Dt.v : Dt → Nat → AV
  | .e a c, _ => emp a c
  | .s _ n, b => sl b n
def Dt.h : Dt → Heap
  | .e _ _ => []
  | .s Z _ => [lb Z]
def Dt.bytes : Dt → List Int
  | .e _ _ => []
  | .s Z n => Z.take n
def Dt.len : Dt → Nat
  | .e _ _ => 0
  | .s _ n => n
def Dt.ok : Dt → Prop
  | .e _ _ => True
  | .s Z n => 0 < n ∧ n ≤ Z.length ∧ n ≤ 9223372036854775807 ∧ isB Z
theorem Dt.len_bytes {d : Dt} (h : d.ok) : d.bytes.length = d.len := by
  cases d with
  | e => rfl
  | s Z n => simp only [Dt.bytes, Dt.len, List.length_take]; have := h.2.1; omega
theorem Dt.isB {d : Dt} (h : d.ok) : isB d.bytes := by
  cases d with
  | e => intro x hx; cases hx
  | s Z n => intro x hx; exact h.2.2.2 x (List.mem_of_mem_take hx)
/-- The memory of two, that may be one and the same. -/
def hp2 (same : Bool) (d d' : Dt) : Heap := if same then d.h else d.h ++ d'.h
def at2 (same : Bool) (d : Dt) : Nat := if same then 0 else d.h.length

theorem dt_equal (same : Bool) (d d' : Dt) (hs : same = true → d' = d) (h : d.ok) (h' : d'.ok) :
    CallOK Try.prog 47 [d.v 0, d'.v (at2 same d)] (hp2 same d d') (bo (decide (d.bytes = d'.bytes))) (hp2 same d d') := by
  cases d with
  | e a c => cases d' with
    | e a' c' =>
      have e1 : hp2 same (.e a c) (.e a' c') = [] := by cases same <;> rfl
      rw [e1]
      exact call_ok S_ok noC_ok 60 _ (equal_ee a a' c c') (by simp only [all_nil])
    | s Z n =>
      cases same with
      | true => cases hs rfl
      | false =>
        have hn : decide ([] = Z.take n) = false := by
          rw [decide_eq_false_iff_not]
          intro q
          have := Dt.len_bytes h'
          simp only [Dt.bytes, Dt.len, ← q, List.length_nil] at this
          have := h'.1
          omega
        show CallOK _ 47 [emp a c, sl 0 n] [lb Z] (bo (decide ([] = Z.take n))) [lb Z]
        rw [hn]
        refine call_ok S_ok noC_ok 60 _ (equal_ne_eb Z n a c) ?_
        simp only [all_cons, all_nil, and_true]
        exact isV_bo (by have := h'.1; simp; omega)
  | s Z n => cases d' with
    | e a c =>
      cases same with
      | true => cases hs rfl
      | false =>
        have hn : decide (Z.take n = []) = false := by
          rw [decide_eq_false_iff_not]
          intro q
          have := Dt.len_bytes h
          simp only [Dt.bytes, Dt.len, q, List.length_nil] at this
          have := h.1
          omega
        show CallOK _ 47 [sl 0 n, emp a c] [lb Z] (bo (decide (Z.take n = []))) [lb Z]
        rw [hn]
        refine call_ok S_ok noC_ok 60 _ (equal_ne_be Z n a c) ?_
        simp only [all_cons, all_nil, and_true]
        exact isV_bo (by have := h.1; simp; omega)
    | s W m =>
      have e1 : hp2 same (.s Z n) (.s W m) = H2 same Z W := by cases same <;> rfl
      have e2 : at2 same (.s Z n) = k2 same := by cases same <;> rfl
      rw [e1, e2]
      show CallOK _ 47 [sl 0 n, sl (k2 same) m] _ (bo (decide (Z.take n = W.take m))) _
      by_cases hnm : n = m
      · subst hnm
        exact equal_len same Z W (fun hq => by cases hs hq; rfl) n h.2.1 h'.2.1 h.2.2.1
      · have hne : decide (Z.take n = W.take m) = false := by
          rw [decide_eq_false_iff_not]
          intro q
          have h1 := Dt.len_bytes h
          have h2 := Dt.len_bytes h'
          simp only [Dt.bytes, Dt.len] at h1 h2
          rw [q, h2] at h1
          exact hnm h1.symm
        rw [hne]
        cases same with
        | true => cases hs rfl; exact absurd rfl hnm
        | false =>
          refine call_ok S_ok noC_ok 60 _ (equal_ne_bb Z W n m) ?_
          simp only [all_cons, all_nil, and_true]
          exact isV_bo (by simp; omega)

/-! ### a slice of slices of bytes that came in -/
def KRow.dt (r : KRow) : Dt := match r.row with | some row => .s row.zs r.len | none => .e r.a r.cap
def KRow.good (r : KRow) : Prop := (∀ row, r.row = some row → row.k = .u8) ∧ (KRow.dt r).ok
inductive Pt where
  | e (a : Option Addr) (c : Nat)
  | s (R : List KRow) (n : Nat)
def Pt.v : Pt → Nat → AV
  | .e a c, _ => emp a c
  | .s _ n, b => sl b n
def Pt.h : Pt → Heap
  | .e _ _ => []
  | .s R _ => [.rows R]
def Pt.ds : Pt → List Dt
  | .e _ _ => []
  | .s R n => (R.take n).map KRow.dt
def Pt.parts (p : Pt) : List (List Int) := p.ds.map Dt.bytes
def Pt.ok : Pt → Prop
  | .e _ _ => True
  | .s R n => 0 < n ∧ n ≤ R.length ∧ n ≤ 9223372036854775807 ∧ ∀ r ∈ R, KRow.good r
def hpP (same : Bool) (d d' : Pt) : Heap := if same then d.h else d.h ++ d'.h
def atP (same : Bool) (d : Pt) : Nat := if same then 0 else d.h.length

def HR (same : Bool) (A B : List KRow) : Heap := if same then [.rows A] else [.rows A, .rows B]
noncomputable def ixR (h : Heap) (b n : Nat) (i : Int) : Option AV := aindexAddr S.P h 32 (sl b n) (i64 i)

theorem hat_HR (same : Bool) (A B : List KRow) : hat (HR same A B) 0 = .rows A ∧ (hat (HR same A B) (k2 same) = if same then .rows A else .rows B) := by
  cases same <;> exact ⟨rfl, rfl⟩
theorem ixR_ok {h : Heap} {b n j : Nat} {R : List KRow} (hb : hat h b = .rows R) (hj : j < n) (hz : 0 < R.length) : isO (ixR h b n (j : Int)) (.ptr b j) := by
  have h1 : hasAt h b 0 = true := by
    unfold hasAt
    rw [hb]
  have e : ixR h b n (j : Int) = if 0 ≤ (j : Int) ∧ (j : Int) < n ∧ hasAt h b 0 = true then some (.ptr b (0 + (j : Int).toNat * 1)) else none := by kernel_rfl
  rw [e, if_pos ⟨by omega, by omega, h1⟩]
  simp [isO]
/-- Loading an element: a view. -/
def Dt.view (d : Dt) (s : Nat) : Delta := match d with | .e _ _ => [] | .s Z _ => [(s, lb Z)]
theorem ldR_ok {h : Heap} {s b j : Nat} {R : List KRow} {r : KRow} (hb : hat h b = .rows R) (hr : R[j]? = some r) (hg : KRow.good r) : ldx S.P h s 29 b j = some ((KRow.dt r).v s, (KRow.dt r).view s) := by
  unfold ldx
  rw [hb]
  simp only
  unfold ldrow
  have h2 : tyAgg S.P 29 = some false := by kernel_rfl
  rw [hb, h2]
  simp only [nth_eq, hr]
  unfold KRow.dt
  cases hrow : r.row with
  | none => rfl
  | some row =>
    have hk := hg.1 row hrow
    simp only [Dt.v, Dt.view, lb, bcells, InRow.cells, hk]
    try rfl
end Go.Proofs.Ytjjnjogmplbjoaa
