import Derived.Test.YtmbeonieabofaaaFi
set_option linter.unusedVariables false
set_option linter.unusedSimpArgs false
namespace Go.Proofs.Ytmbeonieabofaaa
open Go.Ab

/-! ### the inverse -/
def eInv (i : Nat) : Int := if i = 0 then 235 else if i = 31 then 127 else 255
theorem exp_run : runFn S (exec S C2 100) [] 47 [i64 (-2), i64 0] [] = some (key eInv, [], []) := by kernel_rfl
theorem exp_ok : CallOK Try.prog 47 [i64 (-2), i64 0] [] (key eInv) [] := call_ok S_ok C2_ok 100 [] exp_run (by simp only [all_nil])
theorem eInv_key : isKey eInv := fun i => by unfold eInv; split <;> (try split) <;> omega
theorem eInv_num : numK eInv = (57896044618658097711785492504343953926634992332820282019728792003956564819947 : Nat) := by decide +kernel

theorem inv_run (x r : Int) : runFn S (exec S C2 100) (QF [(1, [(1, .call (key eInv) []), (2, .call (el r) [])])]) 21 [el x] [] = some (el r, [], [CallOK S.P 47 [i64 (-2), i64 0] [] (key eInv) [], CallOK S.P 23 [el x, key eInv] [] (el r) []]) := by kernel_rfl
theorem inv_ok (x : Int) (hx : inF x) : CallOK Try.prog 21 [el x] [] (el (pw x 57896044618658097711785492504343953926634992332820282019728792003956564819947)) [] :=
  call_ok S_ok C2_ok 100 _ (inv_run x _) (by
    simp only [all_cons, all_nil, and_true]
    exact ⟨exp_ok, pow_ok x hx eInv eInv_key _ eInv_num⟩)

end Go.Proofs.Ytmbeonieabofaaa
