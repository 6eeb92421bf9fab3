import Derived.Test.YtmbeonieabofaaaFv
set_option linter.unusedVariables false
set_option linter.unusedSimpArgs false
namespace Go.Proofs.Ytmbeonieabofaaa
open Go.Ab

/-! ### Add, Neg, Sub -/
theorem radd_run (A B : Nat → Int) (y : Int) : runFn S (exec S noC 60) (QF [(6, [(1, .call (num y) [lstD 16 (fun i => wr (A i + B i)) false])])]) 12 [numA A, numA B] [] =
    some (num y, [], [CallOK S.P 39 [.slice 0 0 16 none] [lstD 16 (fun i => wr (A i + B i)) false] (num y) [lstD 16 (fun i => wr (A i + B i)) false]]) := by kernel_rfl
theorem valD_add (A B : Nat → Int) : ∀ n, valD (fun i => A i + B i) n = valD A n + valD B n
  | 0 => rfl
  | n + 1 => by simp only [valD]; rw [valD_add A B n, Int.add_mul]; omega
def rmod (x : Int) : Int := x % 57896044618658097711785492504343953926634992332820282019728792003956564819949
theorem rmod_in (x : Int) : inN (rmod x) := by unfold rmod inN; omega
theorem rmod_inF (x : Int) : inF (rmod x) := mod_in x
theorem radd_ok (x y : Int) (hx : inN x) (hy : inN y) : CallOK Try.prog 12 [num x, num y] [] (num (rmod (x + y))) [] := by
  have e : (fun i => wr (dig x i + dig y i)) = fun i => dig x i + dig y i := by
    funext i
    have := dig_D x i; have := dig_D y i
    exact wr_id (by omega) (by omega)
  have hm := mod_ok16 (fun i => dig x i + dig y i) (fun i => by have := dig_D x i; have := dig_D y i; show 0 ≤ dig x i + dig y i ∧ dig x i + dig y i < _; omega) false
  rw [valD_add, val_num hx, val_num hy, ← e] at hm
  exact call_ok S_ok noC_ok 60 _ (radd_run (dig x) (dig y) _) (by simp only [all_cons, all_nil, and_true]; exact hm)

/-- A slice of all of a block: its room may be told or not. -/
theorem call_cap {P : Program} {g : FuncId} {n c : Nat} {foot foot' : Heap} {v : AV} {blk : Blk} (h : CallOK P g [.slice 0 0 n none] foot v foot') (hb : hget foot 0 = some blk) (he : blk.exact = true) (hc : blk.cells.length = c) : CallOK P g [.slice 0 0 n (some c)] foot v foot' := by
  intro σ w hr hin
  have hl := (hr.len 0 blk hb).2 he
  have := h σ w hr hin
  have e : concs σ [.slice 0 0 n none] = concs σ [.slice 0 0 n (some c)] := by
    simp only [concs, conc, Option.getD_none, Option.getD_some, hl, hc, Nat.sub_zero]
  rw [e] at this
  exact this

theorem rneg_run (A : Nat → Int) (a y z : Int) : runFn S (exec S noC 60) (QF [(1, [(1, .call (num a) [lstD 16 A true])]), (2, [(0, .call (num pp) []), (2, .call (num y) []), (3, .call (.slice 0 0 16 none) [lstD 16 (dig y) false]), (4, .call (num z) [lstD 16 (dig y) false])])]) 19 [numA A] [] =
    some (num z, [], [CallOK S.P 39 [.slice 0 0 16 (some 16)] [lstD 16 A true] (num a) [lstD 16 A true], CallOK S.P 29 [] [] (num pp) [], CallOK S.P 46 [num pp, num a] [] (num y) [], CallOK S.P 45 [num y] [] (.slice 0 0 16 none) [lstD 16 (dig y) false], CallOK S.P 39 [.slice 0 0 16 none] [lstD 16 (dig y) false] (num z) [lstD 16 (dig y) false]]) := by kernel_rfl
theorem inP : inN 57896044618658097711785492504343953926634992332820282019728792003956564819949 := by unfold inN; omega
theorem rneg_ok (x : Int) (hx : inN x) : CallOK Try.prog 19 [num x] [] (num (rmod (-x))) [] := by
  have h1 := mod_ok 16 (.inl rfl) (dig x) (dig_D x) true
  rw [val_num hx] at h1
  have ha : inN (x % 57896044618658097711785492504343953926634992332820282019728792003956564819949) := rmod_in x
  have hle : x % 57896044618658097711785492504343953926634992332820282019728792003956564819949 ≤ 57896044618658097711785492504343953926634992332820282019728792003956564819949 := by omega
  have h2 := rminus_ok _ _ inP ha hle
  have hy : inN (57896044618658097711785492504343953926634992332820282019728792003956564819949 - x % 57896044618658097711785492504343953926634992332820282019728792003956564819949) := by unfold inN; omega
  have h3 := mod_ok 16 (.inl rfl) (dig (57896044618658097711785492504343953926634992332820282019728792003956564819949 - x % 57896044618658097711785492504343953926634992332820282019728792003956564819949)) (dig_D _) false
  rw [val_num hy] at h3
  have e : rmod (-x) = (57896044618658097711785492504343953926634992332820282019728792003956564819949 - x % 57896044618658097711785492504343953926634992332820282019728792003956564819949) % 57896044618658097711785492504343953926634992332820282019728792003956564819949 := by unfold rmod; omega
  rw [e]
  exact call_ok S_ok noC_ok 60 _ (rneg_run (dig x) _ _ _) (by
    simp only [all_cons, all_nil, and_true]
    exact ⟨call_cap h1 rfl rfl rfl, rprime_ok, h2, rall_ok _, h3⟩)

theorem rsub_run (A B : Nat → Int) (y z : Int) : runFn S (exec S noC 60) (QF [(1, [(2, .call (num y) []), (3, .call (num z) [])])]) 14 [numA A, numA B] [] =
    some (num z, [], [CallOK S.P 19 [numA B] [] (num y) [], CallOK S.P 12 [numA A, num y] [] (num z) []]) := by kernel_rfl
theorem rsub_ok (x y : Int) (hx : inN x) (hy : inN y) : CallOK Try.prog 14 [num x, num y] [] (num (rmod (x - y))) [] := by
  have h := call_ok S_ok noC_ok 60 _ (rsub_run (dig x) (dig y) _ _) (by
    simp only [all_cons, all_nil, and_true]
    exact ⟨rneg_ok y hy, radd_ok x _ hx (rmod_in _)⟩)
  rw [show rmod (x - y) = rmod (x + rmod (-y)) by unfold rmod; omega]
  exact h

/-! ### Mul -/
def mulW (A B : Nat → Int) : Nat → Nat → Int
  | 0, _ => 0
  | i + 1, j => if i ≤ j then (if j < i + 16 then wr (mulW A B i j + wr (A i * B (j - i))) else mulW A B i j) else mulW A B i j
def mulT (i : Int) : T := [none, none, some (.ptr 0 0), some (.ptr 1 0), some (.ptr 2 0), some (.slice 3 0 31 (some 31)), some (i64 i)] ++ List.replicate 32 none
def mulH (A B D : Nat → Int) : Heap := [numB A, numB B, zB, lstD 31 D true]
theorem mul_row (A B : Nat → Int) : (exec S noC 100 (.loop (LB Try.f16 0)) (mulT 0) (mulH A B (fun _ => 0)) []).map (fun r => (r.x, maskT [2, 3, 4, 5, 6] r.t, r.h, r.obs)) =
    some (.exit 0, mulT 16, mulH A B (mulW A B 16), []) := by kernel_rfl
theorem mul_reg : regOK (.loop (LB Try.f16 0)) = true := by kernel_rfl

end Go.Proofs.Ytmbeonieabofaaa
