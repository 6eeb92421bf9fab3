import Derived.Test.YteaiongcdcgekaaPlay
set_option linter.unusedVariables false
set_option linter.unusedSimpArgs false
namespace Go.Proofs.Yteaiongcdcgekaa
open Go.Ab

theorem plays_long (Z : List Int) (N : Nat) (q : Int) : runFn S (exec S C2 80) (QF [(1, [(2, fo (bo true))])]) 3 [sl N, u64 q] [lb Z] = some (bo true, [lb Z], [isB (decide ((N : Int) > 200)) true]) := by kernel_rfl
theorem plays_none (a : Option Addr) (c : Nat) (q : Int) : runFn S (exec S C2 80) [] 3 [.raw (.slice a 0 c), u64 q] [] = some (bo true, [], []) := by kernel_rfl
def pT0 (N : Nat) (q : Int) : T := [some (sl N), some (u64 q), un, un, some (bo false), some (.ptr 1 0), some nilS, some (i64 0), un, un, un, some (sl N), some (i64 N), some (bo false), un, some (.ptr 1 0), some (.ptr 1 0), some (bo false)] ++ List.replicate 71 un
theorem plays_run (Z C : List Int) (N n : Nat) (q g b : Int) : runFn S (exec S C2 80) ((1, .ops [(2, fo (bo false))]) :: (8, .code (.exit 0) (pT N q N (.slice 2 0 n none)) ([lb Z] ++ win g b ++ lst C)) :: QF [(19, [(3, .call (bo true) (win g b ++ lst C))])]) 3 [sl N, u64 q] [lb Z] =
    some (bo true, [lb Z], [isB (decide ((N : Int) > 200)) false, TriOK S.P (.loop (LB Try.f3 0)) (pT0 N q) ([lb Z] ++ win 0 0) (.exit 0) (pT N q N (.slice 2 0 n none)) ([lb Z] ++ win g b ++ lst C), CallOK S.P 11 [.ptr 0 0, .slice 1 0 n none, u64 q] (win g b ++ lst C) (bo true) (win g b ++ lst C)]) := by kernel_rfl

end Go.Proofs.Yteaiongcdcgekaa
