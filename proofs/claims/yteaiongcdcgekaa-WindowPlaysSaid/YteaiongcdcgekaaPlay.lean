import Derived.Test.YteaiongcdcgekaaRef
import Derived.Test.YteaiongcdcgekaaAbLoop
set_option linter.unusedVariables false
set_option linter.unusedSimpArgs false
namespace Go.Proofs.Yteaiongcdcgekaa
open Go.Ab

/-! ### looks -/
def eqI (a b : Int) : Prop := isB (a == b) true
def eqB (a b : Bool) : Prop := some (AV.raw (Value.bool (a == b)), ([] : Delta)) = some (bo true, [])

theorem looks_run (L : List Int) (n : Nat) (g b x g1 m k1 k2 : Int) (s1 s c1 c2 : Bool) :
    runFn S (exec S C2 60) (QF [(1, [(1, .call (.tup [u64 g1, bo s1]) (win g b))]), (2, [(1, .call (.tup [u64 m, bo s]) (lst L))]),
      (3, [(2, fo (bo true)), (6, fo (bo true)), (11, .call (bo c1) (win g b)), (14, .call (bo c2) (lst L)), (15, fo (bo true)), (20, .call (i64 k1) (win g b)), (24, .call (i64 k2) (lst L)), (25, fo (bo true))])]) 11 [.ptr 0 0, .slice 1 0 n none, u64 x] (win g b ++ lst L) =
    some (bo true, win g b ++ lst L, [CallOK S.P 12 [.ptr 0 0] (win g b) (.tup [u64 g1, bo s1]) (win g b), CallOK S.P 19 [sl n] (lst L) (.tup [u64 m, bo s]) (lst L), eqI g1 m, eqB s1 s,
      CallOK S.P 14 [.ptr 0 0, u64 x] (win g b) (bo c1) (win g b), CallOK S.P 17 [sl n, u64 x] (lst L) (bo c2) (lst L), eqB c1 c2,
      CallOK S.P 13 [.ptr 0 0, u64 x] (win g b) (i64 k1) (win g b), CallOK S.P 10 [sl n, u64 x] (lst L) (i64 k2) (lst L), eqI k1 k2]) := by
  kernel_rfl


structure Alike (L : List Int) (g b x : Int) : Prop where
  great : (if b == 0 then 0 else g) = gmax L
  some_ : (!(b == 0)) = decide ((L.length : Int) > 0)
  came : cameV g b x = rcameV L x
  check : chk g b x = rchk L x

theorem looks_ok (L : List Int) (g b x : Int) (hn : (L.length : Int) < 9223372036854775807) (ha : Alike L g b x) : CallOK Try.prog 11 [.ptr 0 0, .slice 1 0 L.length none, u64 x] (win g b ++ lst L) (bo true) (win g b ++ lst L) :=
  call_ok S_ok C2_ok 60 _ (looks_run L L.length g b x (if b == 0 then 0 else g) (gmax L) (chk g b x) (rchk L x) (!(b == 0)) (decide ((L.length : Int) > 0)) (cameV g b x) (rcameV L x)) (by
    simp only [all_cons, all_nil, and_true]
    refine ⟨great_ok g b, greatest_ok L hn, ?_, ?_, came_ok g b x, rcame_ok L x hn, ?_, check_ok g b x, rcheck_ok L x hn, ?_⟩
    · unfold eqI isB; rw [ha.great]; simp
    · unfold eqB; rw [ha.some_]; simp [bo]
    · unfold eqB; rw [ha.came]; simp [bo]
    · unfold eqI isB; rw [ha.check]; simp)

theorem looks_nil (x : Int) : CallOK Try.prog 11 [.ptr 0 0, nilS, u64 x] (win 0 0) (bo true) (win 0 0) :=
  call_ok S_ok C2_ok 60 [] (show runFn S (exec S C2 60) [] 11 [.ptr 0 0, nilS, u64 x] (win 0 0) = some (_, _, []) by kernel_rfl) (by simp only [all_nil])

/-! ### the rounds -/
def lb (Z : List Int) : HB := .live ⟨Z.map u64, false, false, true⟩
def pT (N : Nat) (q i : Int) (cm : AV) : T := [some (sl N), some (u64 q), none, none, some (bo false), some (.ptr 1 0), some cm, some (i64 i)] ++ List.replicate 81 none
noncomputable def appO (h : Heap) (s : Nat) (a b : AV) : Option Ans := aappend S.P h s 22 22 a b

theorem plays_reg : regOK (LB Try.f3 0) = true := by kernel_rfl

/-- The first round: the window has nothing yet, and takes it. -/
theorem round_first (Z : List Int) (N : Nat) (q x e r : Int) (g' b' : Int) :
    (exec S C2 60 (LB Try.f3 0) (pT N q 0 nilS) ([lb Z] ++ win 0 0) (QF [(8, [(3, fo (bo true))]), (12, [(3, fo (.ptr 0 0)), (4, fo (u64 x)), (5, .call (i64 e) (win g' b'))]), (13, [(5, fo (.ptr 0 0)), (6, fo (u64 x)), (8, fo (bo false))]), (15, [(2, fo (bo true))]),
      (16, [(4, fo (.ptr 0 0)), (5, fo (u64 x))]), (17, [(6, .call (bo true) (win g' b' ++ lst [x])), (14, fo (.ptr 0 0)), (15, fo (u64 x)), (16, .call (bo true) (win g' b' ++ lst [x])), (24, fo (.ptr 0 0)), (25, fo (u64 x)), (26, .call (bo true) (win 0 0))])])).bind
      (fun r => (pick [0, 1, 31] r.h [0, 1, 31]).map fun h2 => (r.x, renT (pos [0, 1, 31]) (maskT [0, 1, 4, 5, 6, 7] r.t), h2, r.obs)) =
    some (.normal, pT N q 1 (.slice 2 0 1 none), [lb Z] ++ win g' b' ++ lst [x],
      [isB (decide ((0 : Int) < N)) true, isO (idxO [lb Z] N 0) (.ptr 0 0), isO (ldO [lb Z] 0) (u64 x), CallOK S.P 8 [.ptr 0 0, u64 x] (win 0 0) (i64 e) (win g' b'),
       isO (idxO [lb Z] N 0) (.ptr 0 0), isO (ldO [lb Z] 0) (u64 x), isB (e != 0) false, isB (e == 0) true, isO (idxO [lb Z] N 0) (.ptr 0 0), isO (ldO [lb Z] 0) (u64 x),
       CallOK S.P 11 [.ptr 0 0, .slice 1 0 1 none, u64 q] (win g' b' ++ lst [x]) (bo true) (win g' b' ++ lst [x]), isO (idxO [lb Z] N 0) (.ptr 0 0), isO (ldO [lb Z] 0) (u64 x),
       CallOK S.P 11 [.ptr 0 0, .slice 1 0 1 none, u64 x] (win g' b' ++ lst [x]) (bo true) (win g' b' ++ lst [x]), isO (idxO [lb Z] N 0) (.ptr 0 0), isO (ldO [lb Z] 0) (u64 x),
       CallOK S.P 11 [.ptr 0 0, nilS, u64 x] (win 0 0) (bo true) (win 0 0)]) := by
  kernel_rfl


/-- A round in which a further number is taken. -/
theorem round_take (Z C : List Int) (N n k : Nat) (q x e r i' : Int) (g b g' b' : Int) :
    (exec S C2 60 (LB Try.f3 0) (pT N q k (.slice 2 0 n none)) ([lb Z] ++ win g b ++ lst C) (QF [(8, [(3, fo (bo true))]), (12, [(3, fo (.ptr 0 k)), (4, fo (u64 x)), (5, .call (i64 e) (win g' b'))]), (13, [(5, fo (.ptr 0 k)), (6, fo (u64 x)), (7, .call (i64 r) (lst C)), (8, fo (bo false))]), (15, [(2, fo (bo true))]),
      (16, [(1, .op (.slice 8 0 n none) [(8, .live ⟨C.map u64, true, false, true⟩)]), (4, fo (.ptr 0 k)), (5, fo (u64 x)), (7, .op (.slice 32 0 (n + 1) none) [(8, .gone), (32, .live ⟨(C ++ [x]).map u64, true, false, true⟩)])]),
      (17, [(6, .call (bo true) (win g' b' ++ lst (C ++ [x]))), (14, fo (.ptr 0 k)), (15, fo (u64 x)), (16, .call (bo true) (win g' b' ++ lst (C ++ [x]))), (24, fo (.ptr 0 k)), (25, fo (u64 x)), (26, .call (bo true) (win g b ++ lst C))]), (9, [(1, fo (i64 i'))])])).bind
      (fun r => (pick [0, 1, 32] r.h [0, 1, 32]).map fun h2 => (r.x, renT (pos [0, 1, 32]) (maskT [0, 1, 4, 5, 6, 7] r.t), h2, r.obs)) =
    some (.normal, pT N q i' (.slice 2 0 (n + 1) none), [lb Z] ++ win g' b' ++ lst (C ++ [x]),
      [isB (decide ((k : Int) < N)) true, isO (idxO [lb Z] N k) (.ptr 0 k), isO (ldO [lb Z] k) (u64 x), CallOK S.P 8 [.ptr 0 0, u64 x] (win g b) (i64 e) (win g' b'),
       isO (idxO [lb Z] N k) (.ptr 0 k), isO (ldO [lb Z] k) (u64 x), CallOK S.P 10 [sl n, u64 x] (lst C) (i64 r) (lst C), isB (e != r) false, isB (e == 0) true,
       appO ([lb Z] ++ win g' b' ++ lst C ++ win g b) 8 nilS (.slice 2 0 n none) = some (.slice 8 0 n none, [(8, .live ⟨C.map u64, true, false, true⟩)]),
       isO (idxO [lb Z] N k) (.ptr 0 k), isO (ldO [lb Z] k) (u64 x),
       appO (app ([lb Z] ++ win g' b' ++ lst C ++ win g b) [(8, .live ⟨C.map u64, true, false, true⟩), (28, .live ⟨[u64 x], true, true, true⟩)]) 32 (.slice 8 0 n none) (.slice 28 0 1 (some 1)) = some (.slice 32 0 (n + 1) none, [(8, .gone), (32, .live ⟨(C ++ [x]).map u64, true, false, true⟩)]),
       CallOK S.P 11 [.ptr 0 0, .slice 1 0 (n + 1) none, u64 q] (win g' b' ++ lst (C ++ [x])) (bo true) (win g' b' ++ lst (C ++ [x])), isO (idxO [lb Z] N k) (.ptr 0 k), isO (ldO [lb Z] k) (u64 x),
       CallOK S.P 11 [.ptr 0 0, .slice 1 0 (n + 1) none, u64 x] (win g' b' ++ lst (C ++ [x])) (bo true) (win g' b' ++ lst (C ++ [x])), isO (idxO [lb Z] N k) (.ptr 0 k), isO (ldO [lb Z] k) (u64 x),
       CallOK S.P 11 [.ptr 0 0, .slice 1 0 n none, u64 x] (win g b ++ lst C) (bo true) (win g b ++ lst C), isO (incO k) (i64 i')]) := by
  kernel_rfl

/-- A round in which a number is refused. -/
theorem round_not (Z C : List Int) (N n k : Nat) (q x e r i' : Int) (g b g' b' : Int) :
    (exec S C2 60 (LB Try.f3 0) (pT N q k (.slice 2 0 n none)) ([lb Z] ++ win g b ++ lst C) (QF [(8, [(3, fo (bo true))]), (12, [(3, fo (.ptr 0 k)), (4, fo (u64 x)), (5, .call (i64 e) (win g' b'))]), (13, [(5, fo (.ptr 0 k)), (6, fo (u64 x)), (7, .call (i64 r) (lst C)), (8, fo (bo false))]), (15, [(2, fo (bo false))]),
      (17, [(6, .call (bo true) (win g' b' ++ lst C)), (14, fo (.ptr 0 k)), (15, fo (u64 x)), (16, .call (bo true) (win g' b' ++ lst C)), (24, fo (.ptr 0 k)), (25, fo (u64 x)), (26, .call (bo true) (win g b ++ lst C))]), (9, [(1, fo (i64 i'))])])).bind
      (fun r => (pick [0, 1, 2] r.h [0, 1, 2]).map fun h2 => (r.x, renT (pos [0, 1, 2]) (maskT [0, 1, 4, 5, 6, 7] r.t), h2, r.obs)) =
    some (.normal, pT N q i' (.slice 2 0 n none), [lb Z] ++ win g' b' ++ lst C,
      [isB (decide ((k : Int) < N)) true, isO (idxO [lb Z] N k) (.ptr 0 k), isO (ldO [lb Z] k) (u64 x), CallOK S.P 8 [.ptr 0 0, u64 x] (win g b) (i64 e) (win g' b'),
       isO (idxO [lb Z] N k) (.ptr 0 k), isO (ldO [lb Z] k) (u64 x), CallOK S.P 10 [sl n, u64 x] (lst C) (i64 r) (lst C), isB (e != r) false, isB (e == 0) false,
       CallOK S.P 11 [.ptr 0 0, .slice 1 0 n none, u64 q] (win g' b' ++ lst C) (bo true) (win g' b' ++ lst C), isO (idxO [lb Z] N k) (.ptr 0 k), isO (ldO [lb Z] k) (u64 x),
       CallOK S.P 11 [.ptr 0 0, .slice 1 0 n none, u64 x] (win g' b' ++ lst C) (bo true) (win g' b' ++ lst C), isO (idxO [lb Z] N k) (.ptr 0 k), isO (ldO [lb Z] k) (u64 x),
       CallOK S.P 11 [.ptr 0 0, .slice 1 0 n none, u64 x] (win g b ++ lst C) (bo true) (win g b ++ lst C), isO (incO k) (i64 i')]) := by
  kernel_rfl

theorem round_end (Z C : List Int) (N n k : Nat) (q : Int) (g b : Int) :
    (exec S C2 60 (LB Try.f3 0) (pT N q k (.slice 2 0 n none)) ([lb Z] ++ win g b ++ lst C) (QF [(8, [(3, fo (bo false))])])).map (fun r => (r.x, maskT [0, 1, 4, 5, 6, 7] r.t, r.h, r.obs)) =
    some (.exit 0, pT N q k (.slice 2 0 n none), [lb Z] ++ win g b ++ lst C, [isB (decide ((k : Int) < N)) false]) := by
  kernel_rfl

end Go.Proofs.Yteaiongcdcgekaa
