import Derived.Test.YtmbeonieabofaaaFs
set_option linter.unusedVariables false
set_option linter.unusedSimpArgs false
namespace Go.Proofs.Ytmbeonieabofaaa
open Go.Ab

/-! ### Mod: the runs -/
def zB : HB := numB (fun _ => 0)
def modT (b N : Nat) : T := [some (.slice b 0 N none), none, some (.ptr 1 0)] ++ List.replicate 90 none
def lowD (N : Nat) (D L : Nat → Int) (i : Nat) : Int := if i < N - 16 then L i else D i
def nN (more : Bool) : Nat := if more then 17 else 16
def nE (more : Bool) (E : Nat → Int) (top : Int) : Nat → Int := if more then extD 16 E top else E
def roundQ (N : Nat) (L E : Nat → Int) (more : Bool) (top : Int) : FQ :=
  QF ((List.range (N - 16)).map (fun i => (8, [(13, fo (u64 (L i)))])) ++ [(10, [(1, .call (carV 16 more) (carF 16 E false more top))])])
def roundO (N : Nat) (D L E : Nat → Int) (more : Bool) (top : Int) : Obs :=
  (List.range (N - 16)).map (fun i => isV (u64 (wr (D i + wr (38 * D (16 + i))))) (u64 (L i))) ++ [CallOK S.P 42 [.slice 0 0 16 none] [lstD 16 (lowD N D L) false] (carV 16 more) (carF 16 E false more top)]
def idsA (more : Bool) : List Nat := [0, 1, if more then 3 else 2]
def idsB (more : Bool) : List Nat := [0, 1, if more then 4 else 3]
def RoundA (N : Nat) (D L E : Nat → Int) (more e : Bool) (top : Int) : Prop :=
  (exec S noC 60 (LB Try.f39 0) (modT 0 N) [lstD N D e, zB] (roundQ N L E more top)).bind (fun r => (Ab.pick (idsA more) r.h (idsA more)).map fun h2 => (r.x, renT (pos (idsA more)) (maskT [0, 2] r.t), h2, r.obs)) =
    some (.normal, modT 2 (nN more), [lstD N D e, zB, lstD (nN more) (nE more E top) false], roundO N D L E more top)
theorem mod_a17 (D L E : Nat → Int) (more e : Bool) (top : Int) : RoundA 17 D L E more e top := by unfold RoundA; cases more <;> kernel_rfl
theorem mod_a31 (D L E : Nat → Int) (more e : Bool) (top : Int) : RoundA 31 D L E more e top := by unfold RoundA; cases more <;> kernel_rfl
theorem mod_a32 (D L E : Nat → Int) (more e : Bool) (top : Int) : RoundA 32 D L E more e top := by unfold RoundA; cases more <;> kernel_rfl
theorem mod_b17 (N0 : Nat) (D0 D L E : Nat → Int) (more e : Bool) (top : Int) :
  (exec S noC 60 (LB Try.f39 0) (modT 2 17) [lstD N0 D0 e, zB, lstD 17 D false] (roundQ 17 L E more top)).bind (fun r => (Ab.pick (idsB more) r.h (idsB more)).map fun h2 => (r.x, renT (pos (idsB more)) (maskT [0, 2] r.t), h2, r.obs)) =
    some (.normal, modT 2 (nN more), [lstD N0 D0 e, zB, lstD (nN more) (nE more E top) false], roundO 17 D L E more top) := by cases more <;> kernel_rfl
theorem mod_endA (D : Nat → Int) (e : Bool) : (exec S noC 60 (LB Try.f39 0) (modT 0 16) [lstD 16 D e, zB] []).map (fun r => (r.x, maskT [0, 2] r.t, r.h, r.obs)) = some (.exit 0, modT 0 16, [lstD 16 D e, zB], []) := by kernel_rfl
theorem mod_endB (N0 : Nat) (D0 D : Nat → Int) (e : Bool) : (exec S noC 60 (LB Try.f39 0) (modT 2 16) [lstD N0 D0 e, zB, lstD 16 D false] []).map (fun r => (r.x, maskT [0, 2] r.t, r.h, r.obs)) = some (.exit 0, modT 2 16, [lstD N0 D0 e, zB, lstD 16 D false], []) := by kernel_rfl
theorem mod_reg : regOK (LB Try.f39 0) = true := by kernel_rfl

def modT0 (N : Nat) : T := [some (.slice 0 0 N none), un, some (.ptr 1 0)] ++ List.replicate 90 un
/-- The heap behind the loop: b = 0: no round was run. -/
def modH (b N0 : Nat) (D0 E : Nat → Int) (e : Bool) : Heap := if b = 0 then [lstD N0 D0 e, zB] else [lstD N0 D0 e, zB, lstD 16 E false]

structure Rd where
  top : Int
  rem : Int
  v : Int
  E : Nat → Int
def rdD (n : Nat → Int) (r : Rd) (i : Nat) : Int := if i = 0 then r.v else if i = 15 then r.rem else n i
def rdsQ (rs : List Rd) : List (Nat × List (Nat × Forced)) :=
  rs.flatMap (fun r => [(16, [(2, fo (bo true))]), (17, [(2, fo (u64 r.top))]), (18, [(2, fo (u64 r.rem))]), (21, [(6, fo (u64 r.v))]), (22, [(2, .call (.slice 0 0 16 none) [lstD 16 r.E false])])])
def rdsO : (Nat → Int) → List Rd → Obs
  | n, [] => [isV (bo (decide (n 15 > 32767))) (bo false)]
  | n, r :: rs => [isV (bo (decide (n 15 > 32767))) (bo true), isV (u64 (wr ((n 15).tdiv 32768))) (u64 r.top), isV (u64 ((n 15).tmod 32768)) (u64 r.rem), isV (u64 (wr (n 0 + wr (19 * r.top)))) (u64 r.v), CallOK S.P 42 [.slice 0 0 16 none] [lstD 16 (rdD n r) false] (.slice 0 0 16 none) [lstD 16 r.E false]] ++ rdsO r.E rs
def lastE : (Nat → Int) → List Rd → (Nat → Int)
  | n, [] => n
  | n, r :: rs => lastE r.E rs
def finQ (rs : List Rd) (lt : Bool) (y : Int) : List (Nat × List (Nat × Forced)) :=
  rdsQ rs ++ [(16, [(2, fo (bo false))]), (23, [(1, .call (num pp) []), (2, .call (bo lt) [])])] ++ if lt then [] else [(24, [(1, .call (num pp) []), (2, .call (num y) [])])]
def finO (n : Nat → Int) (rs : List Rd) (lt : Bool) (y : Int) : Obs :=
  rdsO n rs ++ [CallOK S.P 29 [] [] (num pp) [], CallOK S.P 27 [numA (lastE n rs), num pp] [] (bo lt) []] ++ if lt then [] else [CallOK S.P 29 [] [] (num pp) [], CallOK S.P 46 [numA (lastE n rs), num pp] [] (num y) []]

/-- Behind the loop; the digits were such that nothing is carried over the end. -/
def RunFin (b N0 : Nat) (D0 D E : Nat → Int) (e : Bool) (rs : List Rd) (lt : Bool) (y : Int) : Prop :=
  runFn S (exec S noC 80) ((1, .code (.exit 0) (modT b 16) (modH b N0 D0 D e)) :: QF ((11, [(2, .call (carV 16 false) (carF 16 E false false 0))]) :: finQ rs lt y)) 39 [.slice 0 0 N0 none] [lstD N0 D0 e] =
    some (if lt then numA (lastE E rs) else num y, [lstD N0 D0 e], [TriOK S.P (.loop (LB Try.f39 0)) (modT0 N0) [lstD N0 D0 e, zB] (.exit 0) (modT b 16) (modH b N0 D0 D e), CallOK S.P 42 [.slice 0 0 16 none] [lstD 16 (if b = 0 then D0 else D) false] (carV 16 false) (carF 16 E false false 0)] ++ finO E rs lt y)
theorem fin_a0 (D0 D E : Nat → Int) (e lt : Bool) (y : Int) : RunFin 0 16 D0 D E e [] lt y := by unfold RunFin; cases lt <;> kernel_rfl
theorem fin_a1 (D0 D E : Nat → Int) (e lt : Bool) (y : Int) (r : Rd) : RunFin 0 16 D0 D E e [r] lt y := by unfold RunFin; cases lt <;> kernel_rfl
theorem fin_a2 (D0 D E : Nat → Int) (e lt : Bool) (y : Int) (r r' : Rd) : RunFin 0 16 D0 D E e [r, r'] lt y := by unfold RunFin; cases lt <;> kernel_rfl
theorem fin_b0 (N0 : Nat) (D0 D E : Nat → Int) (e lt : Bool) (y : Int) : RunFin 2 N0 D0 D E e [] lt y := by unfold RunFin; cases lt <;> kernel_rfl
theorem fin_b1 (N0 : Nat) (D0 D E : Nat → Int) (e lt : Bool) (y : Int) (r : Rd) : RunFin 2 N0 D0 D E e [r] lt y := by unfold RunFin; cases lt <;> kernel_rfl
theorem fin_b2 (N0 : Nat) (D0 D E : Nat → Int) (e lt : Bool) (y : Int) (r r' : Rd) : RunFin 2 N0 D0 D E e [r, r'] lt y := by unfold RunFin; cases lt <;> kernel_rfl

/-- Sixteen digits that carry over the end: once more. -/
theorem again_run (D0 E : Nat → Int) (e : Bool) (top y : Int) :
  runFn S (exec S noC 80) ((1, .code (.exit 0) (modT 0 16) [lstD 16 D0 e, zB]) :: QF [(11, [(2, .call (carV 16 true) (carF 16 E false true top))]), (13, [(1, .call (num y) [lstD 17 (extD 16 E top) false])])]) 39 [.slice 0 0 16 none] [lstD 16 D0 e] =
    some (num y, [lstD 16 D0 e], [TriOK S.P (.loop (LB Try.f39 0)) (modT0 16) [lstD 16 D0 e, zB] (.exit 0) (modT 0 16) [lstD 16 D0 e, zB], CallOK S.P 42 [.slice 0 0 16 none] [lstD 16 D0 false] (carV 16 true) (carF 16 E false true top),
      CallOK S.P 39 [.slice 0 0 17 none] [lstD 17 (extD 16 E top) false] (num y) [lstD 17 (extD 16 E top) false]]) := by kernel_rfl

end Go.Proofs.Ytmbeonieabofaaa
