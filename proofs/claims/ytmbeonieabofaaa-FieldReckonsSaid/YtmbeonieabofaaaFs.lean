import Derived.Test.YtmbeonieabofaaaFr
set_option linter.unusedVariables false
set_option linter.unusedSimpArgs false
namespace Go.Proofs.Ytmbeonieabofaaa
open Go.Ab

/-! ### carried -/
def carC (D : Nat → Int) : Nat → Int
  | 0 => 0
  | n + 1 => (D n + carC D n) / 65536
def carD (D : Nat → Int) (i : Nat) : Int := (D i + carC D i) % 65536
def extD (L : Nat) (E : Nat → Int) (top : Int) (i : Nat) : Int := if i < L then E i else top

theorem carD_val (D : Nat → Int) : ∀ n, valD (carD D) n + carC D n * pB n = valD D n
  | 0 => by simp [valD, carC]
  | n + 1 => by
    simp only [valD, pB_succ, carC]
    rw [← carD_val D n]
    unfold carD
    have e : (D n + carC D n) % 65536 = D n + carC D n - 65536 * ((D n + carC D n) / 65536) := by omega
    rw [e]
    generalize (D n + carC D n) / 65536 = q
    generalize carC D n = c
    generalize pB n = p
    grind
/-- Digits that may be great. -/
def isG (D : Nat → Int) : Prop := ∀ i, 0 ≤ D i ∧ D i < 144115188075855872
theorem carC_r {D : Nat → Int} (hD : isG D) : ∀ n, 0 ≤ carC D n ∧ carC D n ≤ 4398046511104
  | 0 => by simp [carC]
  | n + 1 => by
    have ih := carC_r hD n
    have := hD n
    simp only [carC]; omega

def carQ (L : Nat) (X E C : Nat → Int) (more : Bool) (top : Int) : FQ :=
  QF ((List.range L).flatMap (fun i => [(5, [(5, fo (u64 (X i)))]), (6, [(3, fo (u64 (E i)))]), (7, [(1, fo (u64 (C (i + 1))))])]) ++ [(8, [(1, fo (bo more))])] ++ if more then [(9, [(2, fo (u64 top))]), (10, [(1, fo (u64 0))])] else [])
def carO (L : Nat) (D X E C : Nat → Int) (more : Bool) (top : Int) : Obs :=
  (List.range L).flatMap (fun i => [isV (u64 (wr (D i + (if i = 0 then 0 else C i)))) (u64 (X i)), isV (u64 ((X i).tmod 65536)) (u64 (E i)), isV (u64 (wr ((X i).tdiv 65536))) (u64 (C (i + 1)))]) ++ [isV (bo (decide (C L > 0))) (bo more)] ++
    if more then [isV (u64 ((C L).tmod 65536)) (u64 top), isV (u64 (wr ((C L).tdiv 65536))) (u64 0)] else []
def carV (L : Nat) (more : Bool) : AV := if more then .slice 1 0 (L + 1) none else .slice 0 0 L none
def carF (L : Nat) (E : Nat → Int) (e more : Bool) (top : Int) : Heap := if more then [.gone, lstD (L + 1) (extD L E top) false] else [lstD L E e]

theorem car_run16 (D X E C : Nat → Int) (more e : Bool) (top : Int) : runFn S (exec S noC 100) (carQ 16 X E C more top) 42 [.slice 0 0 16 none] [lstD 16 D e] = some (carV 16 more, carF 16 E e more top, carO 16 D X E C more top) := by
  cases more <;> kernel_rfl
theorem car_run31 (D X E C : Nat → Int) (more e : Bool) (top : Int) : runFn S (exec S noC 100) (carQ 31 X E C more top) 42 [.slice 0 0 31 none] [lstD 31 D e] = some (carV 31 more, carF 31 E e more top, carO 31 D X E C more top) := by
  cases more <;> kernel_rfl

theorem car_obs {D : Nat → Int} (hD : isG D) (L : Nat) (hL : 0 < L) (hc : carC D L < 65536) : Obs.all (carO L D (fun i => D i + carC D i) (carD D) (carC D) (decide (0 < carC D L)) (carC D L)) := by
  refine Obs.all_append.2 ⟨Obs.all_append.2 ⟨?_, ?_⟩, ?_⟩
  · intro p hp
    obtain ⟨i, hi, hp⟩ := List.mem_flatMap.1 hp
    have h1 := hD i
    have h2 := carC_r hD i
    simp only [List.mem_cons, List.not_mem_nil, or_false] at hp
    rcases hp with rfl | rfl | rfl
    · refine isV_u64 ?_
      have e : (if i = 0 then 0 else carC D i) = carC D i := by
        split
        · rename_i e; subst e; simp [carC]
        · rfl
      rw [e, wr_id (by omega) (by omega)]
    · exact isV_u64 (Int.tmod_eq_emod_of_nonneg (by omega))
    · refine isV_u64 ?_
      simp only [carC]
      rw [Int.tdiv_eq_ediv_of_nonneg (by omega), wr_id (by omega) (by omega)]
  · simp only [all_cons, all_nil, and_true]; exact isV_bo rfl
  · have h2 := carC_r hD L
    split
    · simp only [all_cons, all_nil, and_true]
      refine ⟨isV_u64 ?_, isV_u64 ?_⟩
      · rw [Int.tmod_eq_emod_of_nonneg (by omega)]; omega
      · rw [Int.tdiv_eq_ediv_of_nonneg (by omega), wr_id (by omega) (by omega)]; omega
    · simp only [all_nil]

theorem car_ok (D : Nat → Int) (hD : isG D) (L : Nat) (hL : L = 16 ∨ L = 31) (hc : carC D L < 65536) (e more : Bool) (hm : more = decide (0 < carC D L)) :
    CallOK Try.prog 42 [.slice 0 0 L none] [lstD L D e] (carV L more) (carF L (carD D) e more (carC D L)) := by
  subst hm
  rcases hL with rfl | rfl
  · exact call_ok S_ok noC_ok 100 _ (car_run16 _ _ _ _ _ _ _) (car_obs hD 16 (by omega) hc)
  · exact call_ok S_ok noC_ok 100 _ (car_run31 _ _ _ _ _ _ _) (car_obs hD 31 (by omega) hc)

end Go.Proofs.Ytmbeonieabofaaa
