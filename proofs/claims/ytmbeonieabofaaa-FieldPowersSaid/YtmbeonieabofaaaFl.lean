import Derived.Test.YtmbeonieabofaaaFk
set_option linter.unusedVariables false
set_option linter.unusedSimpArgs false
namespace Go.Proofs.Ytmbeonieabofaaa
open Go.Ab

theorem known_run : runFn S (exec S C2 100) (QF [(1, [(2, .call (el 57896044618658097711785492504343953926634992332820282019728792003956564819948) []) ]), (2, [(1, .call (el 28948022309329048855892746252171976963317496166410141009864396001978282409975) []), (3, .call (el 2) [])])]) 20 [] [] =
    some (bo true, [], [CallOK S.P 13 [el 0, el 1] [] (el 57896044618658097711785492504343953926634992332820282019728792003956564819948) [], CallOK S.P 21 [el 2] [] (el 28948022309329048855892746252171976963317496166410141009864396001978282409975) [],
      CallOK S.P 15 [el 28948022309329048855892746252171976963317496166410141009864396001978282409975, el 4] [] (el 2) []]) := by kernel_rfl

theorem known_ok : CallOK Try.prog 20 [] [] (bo true) [] := by
  have h1 := sub_ok 0 1 (by unfold inF; omega) (by unfold inF; omega)
  have h3 := mul_ok 28948022309329048855892746252171976963317496166410141009864396001978282409975 4 (by unfold inF; omega) (by unfold inF; omega)
  have h2 : CallOK Try.prog 21 [el 2] [] (el 28948022309329048855892746252171976963317496166410141009864396001978282409975) [] := by
    have hi : ∀ k : Nat, k < 2 ^ 256 → pmGo 256 57896044618658097711785492504343953926634992332820282019728792003956564819949 2 k 1 = 28948022309329048855892746252171976963317496166410141009864396001978282409975 → CallOK Try.prog 21 [el 2] [] (el (pw 2 k)) [] → CallOK Try.prog 21 [el 2] [] (el 28948022309329048855892746252171976963317496166410141009864396001978282409975) [] := fun k hk h hc => by
      have := pw_of 2 k _ hk h
      rw [show ((2 : Nat) : Int) = 2 from rfl] at this
      rw [this] at hc
      exact hc
    exact hi _ (by decide +kernel) pm_val (inv_ok 2 (by unfold inF; omega))
  refine call_ok S_ok C2_ok 100 _ known_run ?_
  simp only [all_cons, all_nil, and_true]
  exact ⟨h1, h2, h3⟩

end Go.Proofs.Ytmbeonieabofaaa
