import Derived.Test.YteaiongcdcgekaaWin
set_option linter.unusedVariables false
set_option linter.unusedSimpArgs false
namespace Go.Proofs.Yteaiongcdcgekaa
open Go.Ab

def loopsOf : Code → List Code
  | .seq a b => loopsOf a ++ loopsOf b
  | .cond _ a b => loopsOf a ++ loopsOf b
  | .block _ c => loopsOf c
  | .scope c => loopsOf c
  | .loop c => c :: loopsOf c
  | _ => []
noncomputable def LB (fn : Func) (k : Nat) : Code := ((fn.body.map loopsOf).getD []).getD k .skip

def i64 (n : Int) : AV := .raw (.int .i64 n)
def lst (L : List Int) : Heap := [.live ⟨L.map u64, true, false, true⟩]
def sl (n : Nat) : AV := .slice 0 0 n none
def nilS : AV := .raw (.slice none 0 0)

noncomputable def idxO (h : Heap) (n : Nat) (i : Int) : Option AV := aindexAddr S.P h 22 (sl n) (i64 i)
noncomputable def ldO (h : Heap) (k : Nat) : Option AV := ldv S.P h 23 0 k
noncomputable def incO (i : Int) : Option AV := abin S.P .add 3 (i64 i) (i64 1)

theorem idx_ok {b : Blk} {n k : Nat} (hk : k < n) (hb : 0 < b.cells.length) : isO (idxO [.live b] n k) (.ptr 0 k) := by
  have h : idxO [.live b] n k = if 0 ≤ (k : Int) ∧ (k : Int) < n ∧ 0 < b.cells.length then some (.ptr 0 (0 + (k : Int).toNat * 1)) else none := by kernel_rfl
  rw [h, if_pos ⟨by omega, by omega, hb⟩]
  simp [isO]
theorem ld_ok {b : Blk} {k : Nat} {x : AV} (hx : b.cells[k]? = some x) : isO (ldO [.live b] k) x := by
  have h : ldO [.live b] k = b.cells[k]? := by kernel_rfl
  rw [h, hx]; rfl
theorem inc_ok (i : Int) (h0 : 0 ≤ i) (h1 : i < 9223372036854775807) : isO (incO i) (i64 (i + 1)) := by
  have h : incO i = some (i64 (IntKind.i64.wrap (i + 1))) := by kernel_rfl
  rw [h]
  have : IntKind.i64.wrap (i + 1) = i + 1 := by
    unfold IntKind.wrap
    simp [IntKind.signed, IntKind.bits]
    omega
  rw [this]; rfl

/-! ### ref.Greatest -/
def gT (m i : Int) (n : Nat) : T := [some (sl n), none, some (u64 0), some (bo false), some (u64 m), some (i64 i)] ++ List.replicate 20 none

theorem great_round (L : List Int) (n k : Nat) (m x i' : Int) (big : Bool) :
    (exec S C2 60 (LB Try.f19 0) (gT m k n) (lst L) (QV ((3, [(3, bo true)]) :: (5, [(2, .ptr 0 k), (3, u64 x), (5, bo big)]) :: if big then [(6, [(2, .ptr 0 k), (3, u64 x)]), (4, [(1, i64 i')])] else [(4, [(1, i64 i')])]))).map (fun r => (r.x, maskT [0, 2, 3, 4, 5] r.t, r.h, r.obs)) =
    some (.normal, gT (if big then x else m) i' n, lst L,
      isB (decide ((k : Int) < n)) true :: isO (idxO (lst L) n k) (.ptr 0 k) :: isO (ldO (lst L) k) (u64 x) :: isB (decide (x > m)) big :: if big then [isO (idxO (lst L) n k) (.ptr 0 k), isO (ldO (lst L) k) (u64 x), isO (incO k) (i64 i')] else [isO (incO k) (i64 i')]) := by
  cases big <;> kernel_rfl

theorem great_end (L : List Int) (n k : Nat) (m : Int) :
    (exec S C2 60 (LB Try.f19 0) (gT m k n) (lst L) (QV [(3, [(3, bo false)])])).map (fun r => (r.x, maskT [0, 2, 3, 4, 5] r.t, r.h, r.obs)) =
    some (.exit 0, gT m k n, lst L, [isB (decide ((k : Int) < n)) false]) := by kernel_rfl

theorem great_reg : regOK (LB Try.f19 0) = true := by kernel_rfl


def gmax (L : List Int) : Int := L.foldl (fun m x => if x > m then x else m) 0
theorem gmax_step {L : List Int} {j : Nat} {x : Int} (hx : L[j]? = some x) : gmax (L.take (j + 1)) = if x > gmax (L.take j) then x else gmax (L.take j) := by
  rw [List.take_add_one, hx]
  simp [gmax, List.foldl_append]

theorem isB_dec {p : Prop} [Decidable p] {b : Bool} (h : decide p = b) : isB (decide p) b := by unfold isB; rw [h]

theorem great_tri (L : List Int) (hn : (L.length : Int) < 9223372036854775807) : TriOK S.P (.loop (LB Try.f19 0)) (gT 0 0 L.length) (lst L) (.exit 0) (gT (gmax L) L.length L.length) (lst L) := by
  have := tri_loop (P := S.P) (body := LB Try.f19 0) (x := .exit 0) (t' := gT (gmax L) L.length L.length) (h' := lst L) L.length (fun j => gT (gmax (L.take j)) j L.length) (fun _ => lst L) (by simp) ?_ ?_
  · simpa [gmax] using this
  · intro j hj
    have hx : L[j]? = some L[j] := List.getElem?_eq_getElem hj
    have hc : (L.map u64)[j]? = some (u64 L[j]) := by simp [hj]
    have hlen : 0 < (L.map u64).length := by simp; omega
    have r := tri_exec S_ok C2_ok 60 _ _ great_reg (great_round L L.length j (gmax (L.take j)) L[j] ((j : Int) + 1) (decide (L[j] > gmax (L.take j)))) (by
      simp only [all_cons, all_ite, all_nil]
      refine ⟨isB_dec (by simp; omega), idx_ok hj hlen, ld_ok hc, isB_rfl _, fun _ => ⟨idx_ok hj hlen, ld_ok hc, inc_ok _ (by omega) (by omega), trivial⟩, fun _ => ⟨inc_ok _ (by omega) (by omega), trivial⟩⟩)
    have e : gmax (L.take (j + 1)) = if decide (L[j] > gmax (L.take j)) = true then L[j] else gmax (L.take j) := by rw [gmax_step hx]; simp
    simp only [e]
    exact r
  · have r := tri_exec S_ok C2_ok 60 _ _ great_reg (great_end L L.length L.length (gmax L)) (by
      simp only [all_cons, all_nil]
      exact ⟨isB_dec (by simp), trivial⟩)
    simpa using r

def un : Option AV := some (.raw undef)
theorem greatest_run (L : List Int) (n : Nat) (m : Int) : runFn S (exec S C2 60) [(3, .code (.exit 0) (gT m n n) (lst L))] 19 [sl n] (lst L) =
    some (.tup [u64 m, bo (decide ((n : Int) > 0))], lst L, [TriOK S.P (.loop (LB Try.f19 0)) ([some (sl n), un, some (u64 0), some (bo false), some (u64 0), some (i64 0)] ++ List.replicate 20 un) (lst L) (.exit 0) (gT m n n) (lst L)]) := by
  kernel_rfl
theorem greatest_ok (L : List Int) (hn : (L.length : Int) < 9223372036854775807) : CallOK Try.prog 19 [sl L.length] (lst L) (.tup [u64 (gmax L), bo (decide ((L.length : Int) > 0))]) (lst L) :=
  call_ok S_ok C2_ok 60 _ (greatest_run L L.length (gmax L)) (by
    simp only [all_cons, all_nil, and_true]
    exact TriOK.pre [0, 2, 3, 4, 5] (great_tri L hn))
theorem greatest_nil : CallOK Try.prog 19 [nilS] [] (.tup [u64 0, bo false]) [] :=
  call_ok S_ok C2_ok 60 [] (show runFn S (exec S C2 60) [] 19 [nilS] [] = some (_, _, []) by kernel_rfl) (by simp only [all_nil])


/-! ### ref.Old -/
def fo (v : AV) : Forced := .op v []
def QF (l : List (Nat × List (Nat × Forced))) : FQ := l.map fun r => (r.1, .ops r.2)

theorem old_run (L : List Int) (n : Nat) (m x : Int) (some_ lt far : Bool) :
    runFn S (exec S C2 60) (QF [(1, [(1, .call (.tup [u64 m, bo some_]) (lst L))]), (2, [(4, fo (bo lt)), (10, fo (bo far))])]) 18 [sl n, u64 x] (lst L) =
    some (bo (some_ && (lt && far)), lst L, CallOK S.P 19 [sl n] (lst L) (.tup [u64 m, bo some_]) (lst L) :: if some_ then isB (decide (x < m)) lt :: (if lt then [isB (decide (IntKind.u64.wrap (m - x) ≥ 64)) far] else []) else []) := by
  cases some_ <;> cases lt <;> cases far <;> kernel_rfl
def oldV (L : List Int) (x : Int) : Bool := decide ((L.length : Int) > 0) && (decide (x < gmax L) && decide (IntKind.u64.wrap (gmax L - x) ≥ 64))
theorem old_ok (L : List Int) (x : Int) (hn : (L.length : Int) < 9223372036854775807) : CallOK Try.prog 18 [sl L.length, u64 x] (lst L) (bo (oldV L x)) (lst L) :=
  call_ok S_ok C2_ok 60 _ (old_run L L.length (gmax L) x (decide ((L.length : Int) > 0)) (decide (x < gmax L)) (decide (IntKind.u64.wrap (gmax L - x) ≥ 64))) (by
    simp only [all_cons, all_ite, all_nil]
    exact ⟨greatest_ok L hn, fun _ => ⟨isB_rfl _, fun _ => ⟨isB_rfl _, trivial⟩, fun _ => trivial⟩, fun _ => trivial⟩)

/-! ### ref.Came -/
def cT (x i : Int) (n : Nat) (r : Bool) : T := [some (sl n), some (u64 x), none, none, some (bo r), some (i64 i)] ++ List.replicate 16 none
theorem came_no (L : List Int) (n k : Nat) (x y i' : Int) :
    (exec S C2 60 (LB Try.f17 0) (cT x k n false) (lst L) (QV [(2, [(3, bo true)]), (4, [(2, .ptr 0 k), (3, u64 y), (5, bo false)]), (3, [(1, i64 i')])])).map (fun r => (r.x, maskT [0, 1, 4, 5] r.t, r.h, r.obs)) =
    some (.normal, cT x i' n false, lst L, [isB (decide ((k : Int) < n)) true, isO (idxO (lst L) n k) (.ptr 0 k), isO (ldO (lst L) k) (u64 y), isB (y == x) false, isO (incO k) (i64 i')]) := by
  kernel_rfl
theorem came_yes (L : List Int) (n k : Nat) (x y : Int) (o : Bool) :
    (exec S C2 60 (LB Try.f17 0) (cT x k n false) (lst L) (QF [(2, [(3, fo (bo true))]), (4, [(2, fo (.ptr 0 k)), (3, fo (u64 y)), (5, fo (bo true))]), (5, [(2, .call (bo o) (lst L))])])).map (fun r => (r.x, maskT [0, 1, 4, 5] r.t, r.h, r.obs)) =
    some (.ret, cT x k n (!o), lst L, [isB (decide ((k : Int) < n)) true, isO (idxO (lst L) n k) (.ptr 0 k), isO (ldO (lst L) k) (u64 y), isB (y == x) true, CallOK S.P 18 [sl n, u64 x] (lst L) (bo o) (lst L)]) := by
  kernel_rfl
theorem came_end (L : List Int) (n k : Nat) (x : Int) :
    (exec S C2 60 (LB Try.f17 0) (cT x k n false) (lst L) (QV [(2, [(3, bo false)])])).map (fun r => (r.x, maskT [0, 1, 4, 5] r.t, r.h, r.obs)) =
    some (.exit 0, cT x k n false, lst L, [isB (decide ((k : Int) < n)) false]) := by kernel_rfl
theorem came_reg : regOK (LB Try.f17 0) = true := by kernel_rfl

theorem came_rounds (L : List Int) (x : Int) (hn : (L.length : Int) < 9223372036854775807) (j : Nat) (hj : j < L.length) (hne : L[j] ≠ x) : TriOK S.P (LB Try.f17 0) (cT x j L.length false) (lst L) .normal (cT x (j + 1 : Nat) L.length false) (lst L) := by
  have hc : (L.map u64)[j]? = some (u64 L[j]) := by simp [hj]
  have hlen : 0 < (L.map u64).length := by simp; omega
  exact tri_exec S_ok C2_ok 60 _ _ came_reg (came_no L L.length j x L[j] ((j : Int) + 1)) (by
    simp only [all_cons, all_nil]
    exact ⟨isB_dec (by simp; omega), idx_ok hj hlen, ld_ok hc, by unfold isB; simp [hne], inc_ok _ (by omega) (by omega), trivial⟩)

theorem came_tri_no (L : List Int) (x : Int) (hn : (L.length : Int) < 9223372036854775807) (hx : x ∉ L) : TriOK S.P (.loop (LB Try.f17 0)) (cT x 0 L.length false) (lst L) (.exit 0) (cT x L.length L.length false) (lst L) := by
  refine tri_loop (P := S.P) (body := LB Try.f17 0) L.length (fun j => cT x j L.length false) (fun _ => lst L) (by simp) (fun j hj => came_rounds L x hn j hj fun e => hx (e ▸ List.getElem_mem hj)) ?_
  exact tri_exec S_ok C2_ok 60 _ _ came_reg (came_end L L.length L.length x) (by simp only [all_cons, all_nil]; exact ⟨isB_dec (by simp), trivial⟩)

theorem came_tri_yes (L : List Int) (x : Int) (hn : (L.length : Int) < 9223372036854775807) (k : Nat) (hk : k < L.length) (hxk : L[k] = x) (hmin : ∀ j (hj : j < L.length), j < k → L[j] ≠ x) :
    TriOK S.P (.loop (LB Try.f17 0)) (cT x 0 L.length false) (lst L) .ret (cT x k L.length (!oldV L x)) (lst L) := by
  refine tri_loop (P := S.P) (body := LB Try.f17 0) k (fun j => cT x j L.length false) (fun _ => lst L) (by simp) (fun j hj => came_rounds L x hn j (by omega) (hmin j (by omega) hj)) ?_
  have hc : (L.map u64)[k]? = some (u64 L[k]) := by simp [hk]
  have hlen : 0 < (L.map u64).length := by simp; omega
  exact tri_exec S_ok C2_ok 60 _ _ came_reg (came_yes L L.length k x L[k] (oldV L x)) (by
    simp only [all_cons, all_nil]
    exact ⟨isB_dec (by simp; omega), idx_ok hk hlen, ld_ok hc, by unfold isB; simp [hxk], old_ok L x hn, trivial⟩)

def cT0 (x : Int) (n : Nat) : T := [some (sl n), some (u64 x), un, un, some (bo false), some (i64 0)] ++ List.replicate 16 un
theorem rcame_run (L : List Int) (n : Nat) (x i : Int) : runFn S (exec S C2 60) [(3, .code (.exit 0) (cT x i n false) (lst L))] 17 [sl n, u64 x] (lst L) =
    some (bo false, lst L, [TriOK S.P (.loop (LB Try.f17 0)) (cT0 x n) (lst L) (.exit 0) (cT x i n false) (lst L)]) := by kernel_rfl
theorem rcame_run2 (L : List Int) (n : Nat) (x i : Int) (r : Bool) : runFn S (exec S C2 60) [(3, .code .ret (cT x i n r) (lst L))] 17 [sl n, u64 x] (lst L) =
    some (bo r, lst L, [TriOK S.P (.loop (LB Try.f17 0)) (cT0 x n) (lst L) .ret (cT x i n r) (lst L)]) := by kernel_rfl

def rcameV (L : List Int) (x : Int) : Bool := decide (x ∈ L) && !oldV L x

theorem first_at {L : List Int} {x : Int} (h : x ∈ L) : ∃ k, ∃ hk : k < L.length, L[k] = x ∧ ∀ j (hj : j < L.length), j < k → L[j] ≠ x := by
  induction L with
  | nil => cases h
  | cons y r ih =>
    by_cases e : y = x
    · exact ⟨0, by simp, by simpa using e, fun j hj hl => by omega⟩
    · obtain ⟨k, hk, h1, h2⟩ := ih (by simpa [Ne.symm e] using h)
      refine ⟨k + 1, by simpa using hk, by simpa using h1, fun j hj hl => ?_⟩
      cases j with
      | zero => simpa using e
      | succ j => simpa using h2 j (by simpa using hj) (by omega)

theorem rcame_ok (L : List Int) (x : Int) (hn : (L.length : Int) < 9223372036854775807) : CallOK Try.prog 17 [sl L.length, u64 x] (lst L) (bo (rcameV L x)) (lst L) := by
  by_cases hx : x ∈ L
  · obtain ⟨k, hk, h1, h2⟩ := first_at hx
    have := call_ok S_ok C2_ok 60 _ (rcame_run2 L L.length x k (!oldV L x)) (by
      simp only [all_cons, all_nil, and_true]
      exact TriOK.pre [0, 1, 4, 5] (came_tri_yes L x hn k hk h1 h2))
    rw [show rcameV L x = !oldV L x by simp [rcameV, hx]]; exact this
  · have := call_ok S_ok C2_ok 60 _ (rcame_run L L.length x L.length) (by
      simp only [all_cons, all_nil, and_true]
      exact TriOK.pre [0, 1, 4, 5] (came_tri_no L x hn hx))
    rw [show rcameV L x = false by simp [rcameV, hx]]; exact this

/-! ### ref.Check -/
theorem rcheck_run (L : List Int) (n : Nat) (x : Int) (c o : Bool) :
    runFn S (exec S C2 60) (QF [(1, [(2, .call (bo c) (lst L)), (6, .call (bo o) (lst L))])]) 10 [sl n, u64 x] (lst L) =
    some (i64 (if c || o then 10 else 0), lst L, CallOK S.P 17 [sl n, u64 x] (lst L) (bo c) (lst L) :: if c then [] else [CallOK S.P 18 [sl n, u64 x] (lst L) (bo o) (lst L)]) := by
  cases c <;> cases o <;> kernel_rfl
def rchk (L : List Int) (x : Int) : Int := if rcameV L x || oldV L x then 10 else 0
theorem rcheck_ok (L : List Int) (x : Int) (hn : (L.length : Int) < 9223372036854775807) : CallOK Try.prog 10 [sl L.length, u64 x] (lst L) (i64 (rchk L x)) (lst L) :=
  call_ok S_ok C2_ok 60 _ (rcheck_run L L.length x (rcameV L x) (oldV L x)) (by
    simp only [all_cons, all_ite, all_nil]
    exact ⟨rcame_ok L x hn, fun _ => trivial, fun _ => ⟨old_ok L x hn, trivial⟩⟩)

end Go.Proofs.Yteaiongcdcgekaa
