import Derived.Test.YtjjnjogmplbjoaaSys
set_option linter.unusedVariables false
set_option linter.unusedSimpArgs false
namespace Go.Proofs.Ytjjnjogmplbjoaa
open Go.Ab

/-! ### slices.Equal -/
def H2 (same : Bool) (Z W : List Int) : Heap := if same then [lb Z] else [lb Z, lb W]
def k2 (same : Bool) : Nat := if same then 0 else 1
def sl (b n : Nat) : AV := .slice b 0 n none
def emp (a : Option Addr) (c : Nat) : AV := .raw (.slice a 0 c)
noncomputable def ixO (h : Heap) (b n : Nat) (i : Int) : Option AV := aindexAddr S.P h 29 (sl b n) (i64 i)
noncomputable def ldO (h : Heap) (b j : Nat) : Option AV := ldv S.P h 5 b j

theorem ix_ok {h : Heap} {b n j : Nat} {Z : List Int} (hb : hat h b = lb Z) (hj : j < n) (hz : 0 < Z.length) : isO (ixO h b n (j : Int)) (.ptr b j) := by
  have h1 : hasAt h b 0 = true := by
    unfold hasAt
    rw [hb]
    unfold lb bcells
    simp only [nth_eq]
    simp [hz]
  have e : ixO h b n (j : Int) = if 0 ≤ (j : Int) ∧ (j : Int) < n ∧ hasAt h b 0 = true then some (.ptr b (0 + (j : Int).toNat * 1)) else none := by kernel_rfl
  rw [e, if_pos ⟨by omega, by omega, h1⟩]
  simp [isO]
theorem ld_ok {h : Heap} {b j : Nat} {Z : List Int} {x : Int} (hb : hat h b = lb Z) (hx : Z[j]? = some x) : isO (ldO h b j) (u8 x) := by
  unfold ldO ldv
  have h1 : hget h b = some ⟨bcells Z, false, false, true⟩ := hget_hat.2 hb
  have h2 : tyAgg S.P 5 = some false := by kernel_rfl
  rw [h1, h2]
  simp [isO, nth_eq, bcells, hx]

def eqT (k n : Nat) (i : Int) (r : Bool) : T := [some (sl 0 n), some (sl k n), none, none, some (bo r), none, none, none, none, none, none, none, some (i64 n), some (i64 i)] ++ List.replicate 12 none
def eqLive : List Nat := [0, 1, 4, 12, 13]
theorem eq_same (same : Bool) (Z W : List Int) (n j : Nat) (x y i' : Int) :
    (exec S noC 60 (LB Try.f47 0) (eqT (k2 same) n j false) (H2 same Z W) (QF [(4, [(0, fo (bo true))]), (6, [(2, fo (.ptr 0 j)), (3, fo (u8 x)), (6, fo (.ptr (k2 same) j)), (7, fo (u8 y)), (8, fo (bo false))]), (8, [(0, fo (i64 i'))])])).map (fun r => (r.x, maskT eqLive r.t, r.h, r.obs)) =
    some (.normal, eqT (k2 same) n i' false, H2 same Z W, [isV (bo (decide ((j : Int) < n))) (bo true), isO (ixO (H2 same Z W) 0 n j) (.ptr 0 j), isO (ldO (H2 same Z W) 0 j) (u8 x), isO (ixO (H2 same Z W) (k2 same) n j) (.ptr (k2 same) j), isO (ldO (H2 same Z W) (k2 same) j) (u8 y), isV (bo (x != y)) (bo false), isV (i64 (w64 ((j : Int) + 1))) (i64 i')]) := by
  cases same <;> kernel_rfl
theorem eq_diff (same : Bool) (Z W : List Int) (n j : Nat) (x y : Int) :
    (exec S noC 60 (LB Try.f47 0) (eqT (k2 same) n j false) (H2 same Z W) (QF [(4, [(0, fo (bo true))]), (6, [(2, fo (.ptr 0 j)), (3, fo (u8 x)), (6, fo (.ptr (k2 same) j)), (7, fo (u8 y)), (8, fo (bo true))])])).map (fun r => (r.x, maskT eqLive r.t, r.h, r.obs)) =
    some (.ret, eqT (k2 same) n j false, H2 same Z W, [isV (bo (decide ((j : Int) < n))) (bo true), isO (ixO (H2 same Z W) 0 n j) (.ptr 0 j), isO (ldO (H2 same Z W) 0 j) (u8 x), isO (ixO (H2 same Z W) (k2 same) n j) (.ptr (k2 same) j), isO (ldO (H2 same Z W) (k2 same) j) (u8 y), isV (bo (x != y)) (bo true)]) := by
  cases same <;> kernel_rfl
theorem eq_end (same : Bool) (Z W : List Int) (n : Nat) (i : Int) :
    (exec S noC 60 (LB Try.f47 0) (eqT (k2 same) n i false) (H2 same Z W) (QF [(4, [(0, fo (bo false))])])).map (fun r => (r.x, maskT eqLive r.t, r.h, r.obs)) =
    some (.exit 0, eqT (k2 same) n i false, H2 same Z W, [isV (bo (decide (i < n))) (bo false)]) := by
  cases same <;> kernel_rfl
theorem eq_reg : regOK (LB Try.f47 0) = true := by kernel_rfl

theorem hat_H2 (same : Bool) (Z W : List Int) : hat (H2 same Z W) 0 = lb Z ∧ (hat (H2 same Z W) (k2 same) = if same then lb Z else lb W) := by
  cases same <;> exact ⟨rfl, rfl⟩

theorem eq_round (same : Bool) (Z W : List Int) (hs : same = true → W = Z) (n j : Nat) (hj : j < n) (hZ : n ≤ Z.length) (hW : n ≤ W.length) (hn : n ≤ 9223372036854775807) (he : Z[j]? = W[j]?) :
    TriOK S.P (LB Try.f47 0) (eqT (k2 same) n j false) (H2 same Z W) .normal (eqT (k2 same) n (j + 1 : Nat) false) (H2 same Z W) := by
  obtain ⟨q1, q2⟩ := hat_H2 same Z W
  have q3 : hat (H2 same Z W) (k2 same) = lb W := by rw [q2]; cases same with | true => rw [hs rfl]; rfl | false => rfl
  have hz : Z[j]? = some Z[j] := List.getElem?_eq_getElem (by omega)
  have hw : W[j]? = some Z[j] := by rw [← he, hz]
  refine tri_exec S_ok noC_ok 60 _ _ eq_reg (eq_same same Z W n j Z[j] Z[j] ((j + 1 : Nat) : Int)) ?_
  simp only [all_cons, all_nil, and_true]
  exact ⟨isV_bo (by simp; omega), ix_ok q1 hj (by omega), ld_ok q1 hz, ix_ok q3 hj (by omega), ld_ok q3 hw, isV_bo (by simp), isV_int (by rw [w64_id _ (by omega) (by omega)]; omega)⟩

theorem first_diff : ∀ (n : Nat) (Z W : List Int), n ≤ Z.length → n ≤ W.length → Z.take n ≠ W.take n → ∃ k, k < n ∧ Z[k]? ≠ W[k]? ∧ ∀ j, j < k → Z[j]? = W[j]?
  | 0, Z, W, _, _, h => by simp at h
  | n + 1, z :: Z, w :: W, h1, h2, h => by
    by_cases e : z = w
    · subst e
      obtain ⟨k, q1, q2, q3⟩ := first_diff n Z W (by simpa using h1) (by simpa using h2) (fun q => h (by simp [q]))
      refine ⟨k + 1, by omega, by simpa using q2, fun j hj => ?_⟩
      cases j with
      | zero => simp
      | succ j => simpa using q3 j (by omega)
    · exact ⟨0, by omega, by simpa using e, fun j hj => by omega⟩

theorem take_get {Z W : List Int} {n j : Nat} (h : Z.take n = W.take n) (hj : j < n) : Z[j]? = W[j]? := by
  have := congrArg (fun l => l[j]?) h
  simpa [List.getElem?_take, hj] using this

theorem eq_tri_yes (same : Bool) (Z W : List Int) (hs : same = true → W = Z) (n : Nat) (hZ : n ≤ Z.length) (hW : n ≤ W.length) (hn : n ≤ 9223372036854775807) (he : Z.take n = W.take n) :
    TriOK S.P (.loop (LB Try.f47 0)) (eqT (k2 same) n 0 false) (H2 same Z W) (.exit 0) (eqT (k2 same) n n false) (H2 same Z W) := by
  refine tri_loop (P := S.P) (body := LB Try.f47 0) n (fun j => eqT (k2 same) n j false) (fun _ => H2 same Z W) (by simp) (fun j hj => eq_round same Z W hs n j hj hZ hW hn (take_get he hj)) ?_
  exact tri_exec S_ok noC_ok 60 _ _ eq_reg (eq_end same Z W n n) (by simp only [all_cons, all_nil, and_true]; exact isV_bo (by simp))
theorem eq_tri_no (same : Bool) (Z W : List Int) (hs : same = true → W = Z) (n : Nat) (hZ : n ≤ Z.length) (hW : n ≤ W.length) (hn : n ≤ 9223372036854775807) (he : Z.take n ≠ W.take n) :
    ∃ k : Nat, TriOK S.P (.loop (LB Try.f47 0)) (eqT (k2 same) n 0 false) (H2 same Z W) .ret (eqT (k2 same) n k false) (H2 same Z W) := by
  obtain ⟨k, hk, hne, hmin⟩ := first_diff n Z W hZ hW he
  obtain ⟨q1, q2⟩ := hat_H2 same Z W
  have q3 : hat (H2 same Z W) (k2 same) = lb W := by rw [q2]; cases same with | true => rw [hs rfl]; rfl | false => rfl
  have hz : Z[k]? = some Z[k] := List.getElem?_eq_getElem (by omega)
  have hw : W[k]? = some W[k] := List.getElem?_eq_getElem (by omega)
  refine ⟨k, tri_loop (P := S.P) (body := LB Try.f47 0) k (fun j => eqT (k2 same) n j false) (fun _ => H2 same Z W) (by simp) (fun j hj => eq_round same Z W hs n j (by omega) hZ hW hn (hmin j hj)) ?_⟩
  refine tri_exec S_ok noC_ok 60 _ _ eq_reg (eq_diff same Z W n k Z[k] W[k]) ?_
  simp only [all_cons, all_nil, and_true]
  refine ⟨isV_bo (by simp; omega), ix_ok q1 hk (by omega), ld_ok q1 hz, ix_ok q3 hk (by omega), ld_ok q3 hw, isV_bo ?_⟩
  rw [hz, hw] at hne
  simpa using hne

def eqT0 (k n : Nat) : T := [some (sl 0 n), some (sl k n), un, un, some (bo false), un, some (sl 0 n), some (i64 n), some (sl k n), some (i64 n), some (bo false), some (sl 0 n), some (i64 n), some (i64 0)] ++ List.replicate 12 un
theorem equal_run (same r : Bool) (Z W : List Int) (n : Nat) (i : Int) :
    runFn S (exec S noC 60) ((1, .ops [(4, fo (bo false))]) :: [(4, .code (if r then .exit 0 else .ret) (eqT (k2 same) n i false) (H2 same Z W))]) 47 [sl 0 n, sl (k2 same) n] (H2 same Z W) =
    some (bo r, H2 same Z W, [isV (bo ((n : Int) != n)) (bo false), TriOK S.P (.loop (LB Try.f47 0)) (eqT0 (k2 same) n) (H2 same Z W) (if r then .exit 0 else .ret) (eqT (k2 same) n i false) (H2 same Z W)]) := by
  cases same <;> cases r <;> kernel_rfl

/-- Two slices of bytes of one length. -/
theorem equal_len (same : Bool) (Z W : List Int) (hs : same = true → W = Z) (n : Nat) (hZ : n ≤ Z.length) (hW : n ≤ W.length) (hn : n ≤ 9223372036854775807) :
    CallOK Try.prog 47 [sl 0 n, sl (k2 same) n] (H2 same Z W) (bo (decide (Z.take n = W.take n))) (H2 same Z W) := by
  by_cases he : Z.take n = W.take n
  · rw [decide_eq_true he]
    exact call_ok S_ok noC_ok 60 _ (equal_run same true Z W n n) (by
      simp only [all_cons, all_nil, and_true]
      exact ⟨isV_bo (by simp), TriOK.pre eqLive (eq_tri_yes same Z W hs n hZ hW hn he)⟩)
  · rw [decide_eq_false he]
    obtain ⟨k, hk⟩ := eq_tri_no same Z W hs n hZ hW hn he
    exact call_ok S_ok noC_ok 60 _ (equal_run same false Z W n k) (by
      simp only [all_cons, all_nil, and_true]
      exact ⟨isV_bo (by simp), TriOK.pre eqLive hk⟩)

theorem equal_ne_bb (Z W : List Int) (n m : Nat) : runFn S (exec S noC 60) (QF [(1, [(4, fo (bo true))])]) 47 [sl 0 n, sl 1 m] (H2 false Z W) = some (bo false, H2 false Z W, [isV (bo ((n : Int) != m)) (bo true)]) := by kernel_rfl
theorem equal_ne_be (Z : List Int) (n : Nat) (a : Option Addr) (c : Nat) : runFn S (exec S noC 60) (QF [(1, [(4, fo (bo true))])]) 47 [sl 0 n, emp a c] [lb Z] = some (bo false, [lb Z], [isV (bo ((n : Int) != (0 : Nat))) (bo true)]) := by kernel_rfl
theorem equal_ne_eb (Z : List Int) (n : Nat) (a : Option Addr) (c : Nat) : runFn S (exec S noC 60) (QF [(1, [(4, fo (bo true))])]) 47 [emp a c, sl 0 n] [lb Z] = some (bo false, [lb Z], [isV (bo (((0 : Nat) : Int) != n)) (bo true)]) := by kernel_rfl
theorem equal_ee (a a' : Option Addr) (c c' : Nat) : runFn S (exec S noC 60) [] 47 [emp a c, emp a' c'] [] = some (bo true, [], []) := by kernel_rfl

end Go.Proofs.Ytjjnjogmplbjoaa
