import Derived.Test.YtmbeonieabofaaaFm
import Derived.Test.YtmbeonieabofaaaFp
set_option linter.unusedVariables false
set_option linter.unusedSimpArgs false
namespace Go.Proofs.Ytmbeonieabofaaa
open Go.Ab

/-! ### the field -/
def fadd (x y : Int) : Int := (x + y) % 57896044618658097711785492504343953926634992332820282019728792003956564819949
def fmul (x y : Int) : Int := (x * y) % 57896044618658097711785492504343953926634992332820282019728792003956564819949
def fneg (x : Int) : Int := (-x) % 57896044618658097711785492504343953926634992332820282019728792003956564819949
def fsub (x y : Int) : Int := (x - y) % 57896044618658097711785492504343953926634992332820282019728792003956564819949
def finv (x : Int) : Int := pw x 57896044618658097711785492504343953926634992332820282019728792003956564819947
theorem fadd_in (x y : Int) : inF (fadd x y) := mod_in _
theorem fmul_in (x y : Int) : inF (fmul x y) := mod_in _
theorem fneg_in (x : Int) : inF (fneg x) := mod_in _
theorem fsub_in (x y : Int) : inF (fsub x y) := mod_in _
theorem finv_in (x : Int) : inF (finv x) := mod_in _
theorem in0F : inF 0 := by unfold inF; omega
theorem in1F : inF 1 := by unfold inF; omega
theorem fadd_ok (x y : Int) (hx : inF x) (hy : inF y) : CallOK Try.prog 11 [el x, el y] [] (el (fadd x y)) [] := add_ok x y hx hy
theorem fmul_ok (x y : Int) (hx : inF x) (hy : inF y) : CallOK Try.prog 15 [el x, el y] [] (el (fmul x y)) [] := mul_ok x y hx hy
theorem fneg_ok (x : Int) (hx : inF x) : CallOK Try.prog 18 [el x] [] (el (fneg x)) [] := neg_ok x hx
theorem fsub_ok (x y : Int) (hx : inF x) (hy : inF y) : CallOK Try.prog 13 [el x, el y] [] (el (fsub x y)) [] := sub_ok x y hx hy
theorem finv_ok (x : Int) (hx : inF x) : CallOK Try.prog 21 [el x] [] (el (finv x)) [] := inv_ok x hx
theorem equal_true (x y : Int) (hx : inF x) (hy : inF y) (h : x = y) : CallOK Try.prog 26 [el x, el y] [] (bo true) [] := by
  have := equal_ok x y hx hy
  rwa [decide_eq_true h] at this
theorem equal_false (x y : Int) (hx : inF x) (hy : inF y) (h : ¬ x = y) : CallOK Try.prog 26 [el x, el y] [] (bo false) [] := by
  have := equal_ok x y hx hy
  rwa [decide_eq_false h] at this

theorem comm_add (x y : Int) : fadd x y = fadd y x := by unfold fadd; rw [Int.add_comm]
theorem comm_mul (x y : Int) : fmul x y = fmul y x := by unfold fmul; rw [Int.mul_comm]
theorem assoc_add (x y z : Int) : fadd (fadd x y) z = fadd x (fadd y z) := by unfold fadd; rw [Int.emod_add_emod, Int.add_emod_emod, Int.add_assoc]
theorem mul_modl (a b n : Int) : a % n * b % n = a * b % n := by rw [Int.mul_emod, Int.emod_emod, ← Int.mul_emod]
theorem mul_modr (a b n : Int) : a * (b % n) % n = a * b % n := by rw [Int.mul_emod, Int.emod_emod, ← Int.mul_emod]
theorem assoc_mul (x y z : Int) : fmul (fmul x y) z = fmul x (fmul y z) := by unfold fmul; rw [mul_modl, mul_modr, Int.mul_assoc]
theorem dist (x y z : Int) : fmul x (fadd y z) = fadd (fmul x y) (fmul x z) := by unfold fmul fadd; rw [mul_modr, Int.mul_add, ← Int.add_emod]
theorem add_neg0 (x : Int) : fadd x (fneg x) = 0 := by unfold fadd fneg; rw [Int.add_emod_emod, Int.add_right_neg]; rfl
theorem add_0 (x : Int) (hx : inF x) : fadd x 0 = x := by unfold fadd; unfold inF at hx; omega
theorem mul_1 (x : Int) (hx : inF x) : fmul x 1 = x := by unfold fmul; unfold inF at hx; rw [Int.mul_one]; omega
theorem inv_zero (x : Int) (h : x = 0) : finv x = 0 := by
  subst h
  unfold finv pw
  rw [Int.zero_pow (by decide)]; rfl
theorem inv_mul (x : Int) (hx : inF x) (h : ¬ x = 0) : fmul x (finv x) = 1 := by
  obtain ⟨N, rfl⟩ := Int.eq_ofNat_of_zero_le hx.1
  have hN : N % 57896044618658097711785492504343953926634992332820282019728792003956564819949 ≠ 0 := by unfold inF at hx; omega
  have hf := pCert.fermat N hN
  have key : ∀ n : Nat, n + 1 = 57896044618658097711785492504343953926634992332820282019728792003956564819949 - 1 → fmul (N : Int) (pw (N : Int) n) = 1 := fun n hn => by
    unfold fmul
    rw [Int.mul_comm, pw_mul, hn]
    unfold pw
    rw [← Int.natCast_pow, show (57896044618658097711785492504343953926634992332820282019728792003956564819949 : Int) = ((57896044618658097711785492504343953926634992332820282019728792003956564819949 : Nat) : Int) from rfl, ← Int.natCast_emod, hf]
    rfl
  exact key _ (by decide)

/-! ### FieldIs (printed by tools/genfieldis.py) -/
theorem is_run0 (a b c : Nat → Int) (x y z : Int) : runFn S (exec S noC 60) (QF [(1, [(1, .call (el x) []), (3, .call (el y) []), (5, .call (el z) [])]), (2, [(0, .call (el 1) []), (1, .call (el 0) [])]), (3, [(2, .call (el (fadd x y)) []), (5, .call (el (fadd y x)) []), (6, .call (bo true) []), (11, .call (el (fmul x y)) []), (14, .call (el (fmul y x)) []), (15, .call (bo true) []), (21, .call (el (fadd x y)) []), (23, .call (el (fadd (fadd x y) z)) []), (27, .call (el (fadd y z)) []), (28, .call (el (fadd x (fadd y z))) []), (29, .call (bo true) []), (35, .call (el (fmul x y)) []), (37, .call (el (fmul (fmul x y) z)) []), (41, .call (el (fmul y z)) []), (42, .call (el (fmul x (fmul y z))) []), (43, .call (bo true) [])]), (5, [(3, .call (el (fadd y z)) []), (4, .call (el (fmul x (fadd y z))) []), (7, .call (el (fmul x y)) []), (10, .call (el (fmul x z)) []), (11, .call (el (fadd (fmul x y) (fmul x z))) []), (12, .call (bo true) []), (17, .call (el (fneg x)) []), (18, .call (el (fadd x (fneg x))) []), (20, .call (bo true) []), (26, .call (el (fadd x 0)) []), (28, .call (bo true) []), (34, .call (el (fmul x 1)) []), (36, .call (bo true) [])]), (7, [(2, .call (bo true) [])]), (8, [(1, .call (el (finv x)) []), (3, .call (bo true) []), (5, .call (bo true) [])])]) 5 [key a, key b, key c] [] =
    some (bo true, [], [CallOK S.P 8 [key a] [] (el x) [], CallOK S.P 8 [key b] [] (el y) [], CallOK S.P 8 [key c] [] (el z) [], CallOK S.P 25 [u64 1] [] (el 1) [], CallOK S.P 25 [u64 0] [] (el 0) [], CallOK S.P 11 [el x, el y] [] (el (fadd x y)) [], CallOK S.P 11 [el y, el x] [] (el (fadd y x)) [], CallOK S.P 26 [el (fadd x y), el (fadd y x)] [] (bo true) [], CallOK S.P 15 [el x, el y] [] (el (fmul x y)) [], CallOK S.P 15 [el y, el x] [] (el (fmul y x)) [], CallOK S.P 26 [el (fmul x y), el (fmul y x)] [] (bo true) [], CallOK S.P 11 [el x, el y] [] (el (fadd x y)) [], CallOK S.P 11 [el (fadd x y), el z] [] (el (fadd (fadd x y) z)) [], CallOK S.P 11 [el y, el z] [] (el (fadd y z)) [], CallOK S.P 11 [el x, el (fadd y z)] [] (el (fadd x (fadd y z))) [], CallOK S.P 26 [el (fadd (fadd x y) z), el (fadd x (fadd y z))] [] (bo true) [], CallOK S.P 15 [el x, el y] [] (el (fmul x y)) [], CallOK S.P 15 [el (fmul x y), el z] [] (el (fmul (fmul x y) z)) [], CallOK S.P 15 [el y, el z] [] (el (fmul y z)) [], CallOK S.P 15 [el x, el (fmul y z)] [] (el (fmul x (fmul y z))) [], CallOK S.P 26 [el (fmul (fmul x y) z), el (fmul x (fmul y z))] [] (bo true) [], CallOK S.P 11 [el y, el z] [] (el (fadd y z)) [], CallOK S.P 15 [el x, el (fadd y z)] [] (el (fmul x (fadd y z))) [], CallOK S.P 15 [el x, el y] [] (el (fmul x y)) [], CallOK S.P 15 [el x, el z] [] (el (fmul x z)) [], CallOK S.P 11 [el (fmul x y), el (fmul x z)] [] (el (fadd (fmul x y) (fmul x z))) [], CallOK S.P 26 [el (fmul x (fadd y z)), el (fadd (fmul x y) (fmul x z))] [] (bo true) [], CallOK S.P 18 [el x] [] (el (fneg x)) [], CallOK S.P 11 [el x, el (fneg x)] [] (el (fadd x (fneg x))) [], CallOK S.P 26 [el (fadd x (fneg x)), el 0] [] (bo true) [], CallOK S.P 11 [el x, el 0] [] (el (fadd x 0)) [], CallOK S.P 26 [el (fadd x 0), el x] [] (bo true) [], CallOK S.P 15 [el x, el 1] [] (el (fmul x 1)) [], CallOK S.P 26 [el (fmul x 1), el x] [] (bo true) [], CallOK S.P 26 [el x, el 0] [] (bo true) [], CallOK S.P 21 [el x] [] (el (finv x)) [], CallOK S.P 26 [el (finv x), el 0] [] (bo true) [], CallOK S.P 20 [] [] (bo true) []]) := by kernel_rfl

theorem is_run0_ok (a b c : Nat → Int) (x y z : Int) (h8a : CallOK Try.prog 8 [key a] [] (el x) []) (h8b : CallOK Try.prog 8 [key b] [] (el y) []) (h8c : CallOK Try.prog 8 [key c] [] (el z) []) (hx : inF x) (hy : inF y) (hz : inF z) (h0 : x = 0) : CallOK Try.prog 5 [key a, key b, key c] [] (bo true) [] := by
  refine call_ok S_ok noC_ok 60 _ (is_run0 a b c x y z) ?_
  simp only [all_cons, all_nil, and_true]
  exact ⟨h8a, h8b, h8c, small_ok 1 (by unfold inW; omega), small_ok 0 (by unfold inW; omega), fadd_ok _ _ hx hy, fadd_ok _ _ hy hx, equal_true _ _ (fadd_in _ _) (fadd_in _ _) (comm_add x y), fmul_ok _ _ hx hy, fmul_ok _ _ hy hx, equal_true _ _ (fmul_in _ _) (fmul_in _ _) (comm_mul x y), fadd_ok _ _ hx hy, fadd_ok _ _ (fadd_in _ _) hz, fadd_ok _ _ hy hz, fadd_ok _ _ hx (fadd_in _ _), equal_true _ _ (fadd_in _ _) (fadd_in _ _) (assoc_add x y z), fmul_ok _ _ hx hy, fmul_ok _ _ (fmul_in _ _) hz, fmul_ok _ _ hy hz, fmul_ok _ _ hx (fmul_in _ _), equal_true _ _ (fmul_in _ _) (fmul_in _ _) (assoc_mul x y z), fadd_ok _ _ hy hz, fmul_ok _ _ hx (fadd_in _ _), fmul_ok _ _ hx hy, fmul_ok _ _ hx hz, fadd_ok _ _ (fmul_in _ _) (fmul_in _ _), equal_true _ _ (fmul_in _ _) (fadd_in _ _) (dist x y z), fneg_ok _ hx, fadd_ok _ _ hx (fneg_in _), equal_true _ _ (fadd_in _ _) in0F (add_neg0 x), fadd_ok _ _ hx in0F, equal_true _ _ (fadd_in _ _) hx (add_0 x hx), fmul_ok _ _ hx in1F, equal_true _ _ (fmul_in _ _) hx (mul_1 x hx), equal_true _ _ hx in0F h0, finv_ok _ hx, equal_true _ _ (finv_in _) in0F (inv_zero x h0), known_ok⟩

theorem is_run1 (a b c : Nat → Int) (x y z : Int) : runFn S (exec S noC 60) (QF [(1, [(1, .call (el x) []), (3, .call (el y) []), (5, .call (el z) [])]), (2, [(0, .call (el 1) []), (1, .call (el 0) [])]), (3, [(2, .call (el (fadd x y)) []), (5, .call (el (fadd y x)) []), (6, .call (bo true) []), (11, .call (el (fmul x y)) []), (14, .call (el (fmul y x)) []), (15, .call (bo true) []), (21, .call (el (fadd x y)) []), (23, .call (el (fadd (fadd x y) z)) []), (27, .call (el (fadd y z)) []), (28, .call (el (fadd x (fadd y z))) []), (29, .call (bo true) []), (35, .call (el (fmul x y)) []), (37, .call (el (fmul (fmul x y) z)) []), (41, .call (el (fmul y z)) []), (42, .call (el (fmul x (fmul y z))) []), (43, .call (bo true) [])]), (5, [(3, .call (el (fadd y z)) []), (4, .call (el (fmul x (fadd y z))) []), (7, .call (el (fmul x y)) []), (10, .call (el (fmul x z)) []), (11, .call (el (fadd (fmul x y) (fmul x z))) []), (12, .call (bo true) []), (17, .call (el (fneg x)) []), (18, .call (el (fadd x (fneg x))) []), (20, .call (bo true) []), (26, .call (el (fadd x 0)) []), (28, .call (bo true) []), (34, .call (el (fmul x 1)) []), (36, .call (bo true) [])]), (7, [(2, .call (bo false) [])]), (9, [(2, .call (el (finv x)) []), (3, .call (el (fmul x (finv x))) []), (5, .call (bo true) []), (7, .call (bo true) [])])]) 5 [key a, key b, key c] [] =
    some (bo true, [], [CallOK S.P 8 [key a] [] (el x) [], CallOK S.P 8 [key b] [] (el y) [], CallOK S.P 8 [key c] [] (el z) [], CallOK S.P 25 [u64 1] [] (el 1) [], CallOK S.P 25 [u64 0] [] (el 0) [], CallOK S.P 11 [el x, el y] [] (el (fadd x y)) [], CallOK S.P 11 [el y, el x] [] (el (fadd y x)) [], CallOK S.P 26 [el (fadd x y), el (fadd y x)] [] (bo true) [], CallOK S.P 15 [el x, el y] [] (el (fmul x y)) [], CallOK S.P 15 [el y, el x] [] (el (fmul y x)) [], CallOK S.P 26 [el (fmul x y), el (fmul y x)] [] (bo true) [], CallOK S.P 11 [el x, el y] [] (el (fadd x y)) [], CallOK S.P 11 [el (fadd x y), el z] [] (el (fadd (fadd x y) z)) [], CallOK S.P 11 [el y, el z] [] (el (fadd y z)) [], CallOK S.P 11 [el x, el (fadd y z)] [] (el (fadd x (fadd y z))) [], CallOK S.P 26 [el (fadd (fadd x y) z), el (fadd x (fadd y z))] [] (bo true) [], CallOK S.P 15 [el x, el y] [] (el (fmul x y)) [], CallOK S.P 15 [el (fmul x y), el z] [] (el (fmul (fmul x y) z)) [], CallOK S.P 15 [el y, el z] [] (el (fmul y z)) [], CallOK S.P 15 [el x, el (fmul y z)] [] (el (fmul x (fmul y z))) [], CallOK S.P 26 [el (fmul (fmul x y) z), el (fmul x (fmul y z))] [] (bo true) [], CallOK S.P 11 [el y, el z] [] (el (fadd y z)) [], CallOK S.P 15 [el x, el (fadd y z)] [] (el (fmul x (fadd y z))) [], CallOK S.P 15 [el x, el y] [] (el (fmul x y)) [], CallOK S.P 15 [el x, el z] [] (el (fmul x z)) [], CallOK S.P 11 [el (fmul x y), el (fmul x z)] [] (el (fadd (fmul x y) (fmul x z))) [], CallOK S.P 26 [el (fmul x (fadd y z)), el (fadd (fmul x y) (fmul x z))] [] (bo true) [], CallOK S.P 18 [el x] [] (el (fneg x)) [], CallOK S.P 11 [el x, el (fneg x)] [] (el (fadd x (fneg x))) [], CallOK S.P 26 [el (fadd x (fneg x)), el 0] [] (bo true) [], CallOK S.P 11 [el x, el 0] [] (el (fadd x 0)) [], CallOK S.P 26 [el (fadd x 0), el x] [] (bo true) [], CallOK S.P 15 [el x, el 1] [] (el (fmul x 1)) [], CallOK S.P 26 [el (fmul x 1), el x] [] (bo true) [], CallOK S.P 26 [el x, el 0] [] (bo false) [], CallOK S.P 21 [el x] [] (el (finv x)) [], CallOK S.P 15 [el x, el (finv x)] [] (el (fmul x (finv x))) [], CallOK S.P 26 [el (fmul x (finv x)), el 1] [] (bo true) [], CallOK S.P 20 [] [] (bo true) []]) := by kernel_rfl

theorem is_run1_ok (a b c : Nat → Int) (x y z : Int) (h8a : CallOK Try.prog 8 [key a] [] (el x) []) (h8b : CallOK Try.prog 8 [key b] [] (el y) []) (h8c : CallOK Try.prog 8 [key c] [] (el z) []) (hx : inF x) (hy : inF y) (hz : inF z) (h0 : ¬ x = 0) : CallOK Try.prog 5 [key a, key b, key c] [] (bo true) [] := by
  refine call_ok S_ok noC_ok 60 _ (is_run1 a b c x y z) ?_
  simp only [all_cons, all_nil, and_true]
  exact ⟨h8a, h8b, h8c, small_ok 1 (by unfold inW; omega), small_ok 0 (by unfold inW; omega), fadd_ok _ _ hx hy, fadd_ok _ _ hy hx, equal_true _ _ (fadd_in _ _) (fadd_in _ _) (comm_add x y), fmul_ok _ _ hx hy, fmul_ok _ _ hy hx, equal_true _ _ (fmul_in _ _) (fmul_in _ _) (comm_mul x y), fadd_ok _ _ hx hy, fadd_ok _ _ (fadd_in _ _) hz, fadd_ok _ _ hy hz, fadd_ok _ _ hx (fadd_in _ _), equal_true _ _ (fadd_in _ _) (fadd_in _ _) (assoc_add x y z), fmul_ok _ _ hx hy, fmul_ok _ _ (fmul_in _ _) hz, fmul_ok _ _ hy hz, fmul_ok _ _ hx (fmul_in _ _), equal_true _ _ (fmul_in _ _) (fmul_in _ _) (assoc_mul x y z), fadd_ok _ _ hy hz, fmul_ok _ _ hx (fadd_in _ _), fmul_ok _ _ hx hy, fmul_ok _ _ hx hz, fadd_ok _ _ (fmul_in _ _) (fmul_in _ _), equal_true _ _ (fmul_in _ _) (fadd_in _ _) (dist x y z), fneg_ok _ hx, fadd_ok _ _ hx (fneg_in _), equal_true _ _ (fadd_in _ _) in0F (add_neg0 x), fadd_ok _ _ hx in0F, equal_true _ _ (fadd_in _ _) hx (add_0 x hx), fmul_ok _ _ hx in1F, equal_true _ _ (fmul_in _ _) hx (mul_1 x hx), equal_false _ _ hx in0F h0, finv_ok _ hx, fmul_ok _ _ hx (finv_in _), equal_true _ _ (fmul_in _ _) in1F (inv_mul x hx h0), known_ok⟩

theorem isf_ok (a b c : Nat → Int) (ha : isKey a) (hb : isKey b) (hc : isKey c) : CallOK Try.prog 5 [key a, key b, key c] [] (bo true) [] := by
  by_cases h0 : elOf a = 0
  · exact is_run0_ok a b c _ _ _ (of_ok a ha) (of_ok b hb) (of_ok c hc) (elOf_in a) (elOf_in b) (elOf_in c) h0
  · exact is_run1_ok a b c _ _ _ (of_ok a ha) (of_ok b hb) (of_ok c hc) (elOf_in a) (elOf_in b) (elOf_in c) h0

end Go.Proofs.Ytmbeonieabofaaa
