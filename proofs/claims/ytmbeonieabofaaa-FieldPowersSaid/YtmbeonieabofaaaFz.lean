import Derived.Test.YtmbeonieabofaaaFy
set_option linter.unusedVariables false
set_option linter.unusedSimpArgs false
namespace Go.Proofs.Ytmbeonieabofaaa
open Go.Ab

theorem inF_N {x : Int} (h : inF x) : inN x := by unfold inF at h; unfold inN; omega
theorem both (a : Nat → Int) (ha : isKey a) : ∃ x, inF x ∧ CallOK Try.prog 8 [key a] [] (el x) [] ∧ CallOK Try.prog 9 [key a] [] (num x) [] :=
  ⟨elOf a, elOf_in a, of_ok a ha, lnum_ok a ha⟩

/-! ### FieldReckons, FieldPowers (printed by tools/genfieldlaws.py) -/
theorem reckons_run (a b : Nat → Int) (x y : Int) : runFn S (exec S noC 60) (QF [(1, [(1, .call (el x) []), (3, .call (el y) [])]), (2, [(1, .call (num x) []), (3, .call (num y) [])]), (3, [(2, .call (el (fadd x y)) []), (5, .call (num (fadd x y)) []), (6, .call (bo true) []), (10, .call (el (fsub x y)) []), (13, .call (num (fsub x y)) []), (14, .call (bo true) []), (19, .call (el (fmul x y)) []), (22, .call (num (fmul x y)) []), (23, .call (bo true) []), (27, .call (el (fmul x x)) []), (30, .call (num (fmul x x)) []), (31, .call (bo true) []), (35, .call (el (fneg x)) []), (37, .call (num (fneg x)) []), (38, .call (bo true) []), (41, .call (bo true) [])])]) 3 [key a, key b] [] =
    some (bo true, [], [CallOK S.P 8 [key a] [] (el x) [], CallOK S.P 8 [key b] [] (el y) [], CallOK S.P 9 [key a] [] (num x) [], CallOK S.P 9 [key b] [] (num y) [], CallOK S.P 11 [el x, el y] [] (el (fadd x y)) [], CallOK S.P 12 [num x, num y] [] (num (fadd x y)) [], CallOK S.P 10 [el (fadd x y), num (fadd x y)] [] (bo true) [], CallOK S.P 13 [el x, el y] [] (el (fsub x y)) [], CallOK S.P 14 [num x, num y] [] (num (fsub x y)) [], CallOK S.P 10 [el (fsub x y), num (fsub x y)] [] (bo true) [], CallOK S.P 15 [el x, el y] [] (el (fmul x y)) [], CallOK S.P 16 [num x, num y] [] (num (fmul x y)) [], CallOK S.P 10 [el (fmul x y), num (fmul x y)] [] (bo true) [], CallOK S.P 17 [el x] [] (el (fmul x x)) [], CallOK S.P 16 [num x, num x] [] (num (fmul x x)) [], CallOK S.P 10 [el (fmul x x), num (fmul x x)] [] (bo true) [], CallOK S.P 18 [el x] [] (el (fneg x)) [], CallOK S.P 19 [num x] [] (num (fneg x)) [], CallOK S.P 10 [el (fneg x), num (fneg x)] [] (bo true) [], CallOK S.P 20 [] [] (bo true) []]) := by kernel_rfl

theorem reckons_ok (a b : Nat → Int) (ha : isKey a) (hb : isKey b) : CallOK Try.prog 3 [key a, key b] [] (bo true) [] := by
  obtain ⟨x, hx, h8a, h9a⟩ := both a ha
  obtain ⟨y, hy, h8b, h9b⟩ := both b hb
  refine call_ok S_ok noC_ok 60 _ (reckons_run a b x y) ?_
  simp only [all_cons, all_nil, and_true]
  exact ⟨h8a, h8b, h9a, h9b, fadd_ok _ _ hx hy, radd_ok _ _ ((inF_N hx)) ((inF_N hy)), is_ok _ _ (fadd_in _ _) rfl, fsub_ok _ _ hx hy, rsub_ok _ _ ((inF_N hx)) ((inF_N hy)), is_ok _ _ (fsub_in _ _) rfl, fmul_ok _ _ hx hy, rmul_ok _ _ ((inF_N hx)) ((inF_N hy)), is_ok _ _ (fmul_in _ _) rfl, square_ok _ hx, rmul_ok _ _ ((inF_N hx)) ((inF_N hx)), is_ok _ _ (fmul_in _ _) rfl, fneg_ok _ hx, rneg_ok _ ((inF_N hx)), is_ok _ _ (fneg_in _) rfl, known_ok⟩

theorem powers_run (a b : Nat → Int) (x : Int) (N : Nat) : runFn S (exec S noC 60) (QF [(1, [(1, .call (el x) []), (3, .call (num x) [])]), (2, [(1, .call (el (finv x)) []), (3, .call (num (finv x)) []), (4, .call (bo true) []), (8, .call (el (pw x N)) []), (11, .call (num (pw x N)) []), (12, .call (bo true) []), (15, .call (bo true) [])])]) 4 [key a, key b] [] =
    some (bo true, [], [CallOK S.P 8 [key a] [] (el x) [], CallOK S.P 9 [key a] [] (num x) [], CallOK S.P 21 [el x] [] (el (finv x)) [], CallOK S.P 22 [num x] [] (num (finv x)) [], CallOK S.P 10 [el (finv x), num (finv x)] [] (bo true) [], CallOK S.P 23 [el x, key b] [] (el (pw x N)) [], CallOK S.P 24 [num x, key b] [] (num (pw x N)) [], CallOK S.P 10 [el (pw x N), num (pw x N)] [] (bo true) [], CallOK S.P 20 [] [] (bo true) []]) := by kernel_rfl

theorem powers_ok (a b : Nat → Int) (ha : isKey a) (hb : isKey b) : CallOK Try.prog 4 [key a, key b] [] (bo true) [] := by
  obtain ⟨x, hx, h8a, h9a⟩ := both a ha
  obtain ⟨N, hN, _⟩ := digit_at hb 0 (by omega)
  refine call_ok S_ok noC_ok 60 _ (powers_run a b x N) ?_
  simp only [all_cons, all_nil, and_true]
  exact ⟨h8a, h9a, finv_ok _ hx, rinv_ok _ ((inF_N hx)), is_ok _ _ (finv_in _) rfl, pow_ok _ hx b hb N hN, rpow_ok _ ((inF_N hx)) b hb N hN, is_ok _ _ (mod_in _) rfl, known_ok⟩

/-! ### FieldReads -/
theorem reads_run (b : Nat → Int) (n b31 k x q : Int) (less : Bool) : runFn S (exec S noC 60) (QF [(2, [(2, fo (u8 b31))]), (3, [(1, .call (num k) []), (2, .call (num pp) []), (3, .call (bo less) [])]),
    (4, [(1, .call (el x) []), (3, .call (num x) []), (4, .call (bo true) []), (7, .call (el x) []), (9, .call (el x) []), (10, .call (bo true) []), (14, .call (el n) []), (16, .call (num n) []), (17, .call (bo true) []), (21, .call (bo less) []), (23, fo (bo true)), (26, .call (bo true) [])])]) 6 [key b, u64 n] [] =
    some (bo true, [], [isV (u8 ((b 31).tmod 128)) (u8 b31), CallOK S.P 28 [key b] [] (num k) [], CallOK S.P 29 [] [] (num pp) [], CallOK S.P 27 [num k, num pp] [] (bo less) [],
      CallOK S.P 8 [key b] [] (el x) [], CallOK S.P 9 [key b] [] (num x) [], CallOK S.P 10 [el x, num x] [] (bo true) [], CallOK S.P 8 [key b] [] (el x) [], CallOK S.P 8 [key (fun i => if i = 31 then b31 else b i)] [] (el x) [], CallOK S.P 26 [el x, el x] [] (bo true) [],
      CallOK S.P 25 [u64 n] [] (el n) [], CallOK S.P 30 [u64 n] [] (num n) [], CallOK S.P 10 [el n, num n] [] (bo true) [], CallOK S.P 31 [key b] [] (bo less) [], isV (bo (less == less)) (bo true), CallOK S.P 20 [] [] (bo true) []]) := by kernel_rfl
theorem reads_ok (b : Nat → Int) (hb : isKey b) (n : Int) (hn : inW n) : CallOK Try.prog 6 [key b, u64 n] [] (bo true) [] := by
  have hx := elOf_in b
  have hnF : inF n := by unfold inW at hn; unfold inF; omega
  have h2 : CallOK Try.prog 8 [key (lowK b)] [] (el (elOf b)) [] := by
    have h := of_ok (lowK b) (lowK_key hb)
    have e : elOf (lowK b) = elOf b := by unfold elOf; rw [lowK_num hb]; omega
    rw [← e]; exact h
  refine call_ok S_ok noC_ok 60 _ (reads_run b n (b 31 % 128) (numK b) (elOf b) 0 (decide (numK b < 57896044618658097711785492504343953926634992332820282019728792003956564819949))) ?_
  simp only [all_cons, all_nil, and_true]
  exact ⟨isV_int (Int.tmod_eq_emod_of_nonneg (hb 31).1), rof_ok b hb, rprime_ok, rless_ok _ _ (numK_in hb) inP, of_ok b hb, lnum_ok b hb, is_ok _ _ hx rfl, of_ok b hb, h2, equal_self _ hx, small_ok n hn, rsmall_ok n hn, is_ok _ _ hnF rfl, canon_ok b hb, isV_bo (by simp), known_ok⟩

end Go.Proofs.Ytmbeonieabofaaa
