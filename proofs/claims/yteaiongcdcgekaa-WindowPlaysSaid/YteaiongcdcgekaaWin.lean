import Derived.Test.YteaiongcdcgekaaSys
import Derived.Test.YteaiongcdcgekaaAbEnd
set_option linter.unusedVariables false
set_option linter.unusedSimpArgs false
namespace Go.Proofs.Yteaiongcdcgekaa
open Go.Ab

def u64 (n : Int) : AV := .raw (.int .u64 n)
def win (g b : Int) : Heap := [.live ⟨[u64 g, u64 b, .raw (.bool true)], true, true, true⟩]
def isB (x b : Bool) : Prop := some (AV.raw (Value.bool x), ([] : Delta)) = some (AV.raw (Value.bool b), [])
theorem isB_rfl (x : Bool) : isB x x := rfl

def bo (b : Bool) : AV := .raw (.bool b)
def QV (l : List (Nat × List (Nat × AV))) : FQ := l.map fun r => (r.1, .ops (r.2.map fun p => (p.1, .op p.2 [])))
def isO (o : Option AV) (v : AV) : Prop := o.map (·, ([] : Delta)) = some (v, [])
noncomputable def shrO (b d : Int) : Option AV := abin S.P .shr 23 (u64 b) (u64 d)
noncomputable def shlO (b d : Int) : Option AV := abin S.P .shl 23 (u64 b) (u64 d)
def shrV (b d : Int) : Int := b.fdiv (2 ^ (min d.toNat 64))
def shlV (b d : Int) : Int := IntKind.u64.wrap (b * 2 ^ (min d.toNat 64))
def andV (a b : Int) : Int := IntKind.u64.wrap (BitVec.ofInt 64 a &&& BitVec.ofInt 64 b).toNat
def orV (a b : Int) : Int := IntKind.u64.wrap (BitVec.ofInt 64 a ||| BitVec.ofInt 64 b).toNat
theorem all_cons {p : Prop} {l : Obs} : Obs.all (p :: l) ↔ p ∧ Obs.all l := by unfold Obs.all; exact List.forall_mem_cons
theorem all_nil : Obs.all [] ↔ True := by simp [Obs.all]
theorem all_ite {b : Bool} {l m : Obs} : Obs.all (if b = true then l else m) ↔ (b = true → Obs.all l) ∧ (b = false → Obs.all m) := by cases b <;> simp
theorem shrO_ok (b d : Int) (hd : 0 ≤ d) : isO (shrO b d) (u64 (shrV b d)) := by
  have h : shrO b d = if d < 0 then none else some (u64 (shrV b d)) := by
    show (if d < 0 then none else _ : Option Value).map AV.raw = _
    split <;> rfl
  rw [h, if_neg (by omega)]; rfl
theorem shlO_ok (b d : Int) (hd : 0 ≤ d) : isO (shlO b d) (u64 (shlV b d)) := by
  have h : shlO b d = if d < 0 then none else some (u64 (shlV b d)) := by
    show (if d < 0 then none else _ : Option Value).map AV.raw = _
    split <;> rfl
  rw [h, if_neg (by omega)]; rfl

def Q (l : List (Nat × List (Nat × Bool))) : FQ := l.map fun r => (r.1, .ops (r.2.map fun p => (p.1, .op (.raw (.bool p.2)) [])))

theorem below_run (g b n : Int) (b1 b2 : Bool) : runFn S (exec S noC 60) (Q [(1, [(10, b1), (17, b2)])]) 16 [.ptr 0 0, u64 n] (win g b) =
    some (.tup [u64 (IntKind.u64.wrap (g - n)), .raw (.bool (b1 && b2))], win g b, isB (b != 0) b1 :: if b1 then [isB (decide (n ≤ g)) b2] else []) := by
  cases b1 <;> cases b2 <;> kernel_rfl

theorem below_ok (g b n : Int) : CallOK Try.prog 16 [.ptr 0 0, u64 n] (win g b) (.tup [u64 (IntKind.u64.wrap (g - n)), .raw (.bool (b != 0 && decide (n ≤ g)))]) (win g b) :=
  call_ok S_ok noC_ok 60 _ (below_run g b n (b != 0) (decide (n ≤ g))) (by
    intro p hp
    rcases List.mem_cons.1 hp with rfl | hp
    · rfl
    · split at hp
      · rcases List.mem_cons.1 hp with rfl | hp
        · rfl
        · cases hp
      · cases hp)

def belowC : Rec0 := fun args foot => match args, foot with
  | [.ptr 0 0, .raw (.int .u64 n)], [.live ⟨[.raw (.int .u64 g), .raw (.int .u64 b), .raw (.bool true)], true, true, true⟩] => some (.tup [u64 (IntKind.u64.wrap (g - n)), .raw (.bool (b != 0 && decide (n ≤ g)))], win g b, [])
  | _, _ => none
noncomputable def C1 : Cons := fun f => if f == 16 then some belowC else none
theorem C1_ok : ConsOK Try.prog C1 := by
  intro f k hk args foot v foot' obs h ho
  unfold C1 at hk
  split at hk
  · rename_i e
    obtain rfl : f = 16 := by simpa using e
    simp only [Option.some.injEq] at hk; subst hk
    unfold belowC at h
    split at h
    · simp only [Option.some.injEq, Prod.mk.injEq] at h
      obtain ⟨rfl, rfl, rfl⟩ := h
      exact below_ok _ _ _
    · cases h
  · cases hk


def checkV (is b1 b2 : Bool) : Int := bif is && (b1 || b2) then 10 else 0
theorem check_run (g b n sh : Int) (nis b1 b2 : Bool) : runFn S (exec S C1 60) (QV [(4, [(1, bo nis)]), (5, [(1, bo b1), (8, u64 sh), (10, bo b2)])]) 13 [.ptr 0 0, u64 n] (win g b) =
    some (.raw (.int .i64 (checkV (!nis) b1 b2)), win g b, isB (!(b != 0 && decide (n ≤ g))) nis :: if nis then [] else isB (decide (IntKind.u64.wrap (g - n) ≥ 64)) b1 :: if b1 then [] else [isO (shrO b (IntKind.u64.wrap (g - n))) (u64 sh), isB (andV sh 1 == 1) b2]) := by
  cases nis <;> cases b1 <;> cases b2 <;> kernel_rfl


theorem wrap_u64 (n : Int) : IntKind.u64.wrap n = n % 18446744073709551616 := rfl
theorem wrap_nn (n : Int) : 0 ≤ IntKind.u64.wrap n := by rw [wrap_u64]; omega

def inB (g b n : Int) : Bool := b != 0 && decide (n ≤ g)
def dV (g n : Int) : Int := IntKind.u64.wrap (g - n)
def farB (g n : Int) : Bool := decide (dV g n ≥ 64)
def bitB (g b n : Int) : Bool := andV (shrV b (dV g n)) 1 == 1
def chk (g b n : Int) : Int := checkV (inB g b n) (farB g n) (bitB g b n)

theorem check_ok (g b n : Int) : CallOK Try.prog 13 [.ptr 0 0, u64 n] (win g b) (.raw (.int .i64 (chk g b n))) (win g b) := by
  have h := call_ok S_ok C1_ok 60 _ (check_run g b n (shrV b (dV g n)) (!inB g b n) (farB g n) (bitB g b n)) (by
    simp only [all_cons, all_ite, all_nil, isB, inB, farB, bitB, dV]
    exact ⟨trivial, fun _ => trivial, fun _ => ⟨rfl, fun _ => trivial, fun _ => ⟨shrO_ok _ _ (wrap_nn _), trivial, trivial⟩⟩⟩)
  rw [Bool.not_not] at h
  exact h

def checkC : Rec0 := fun args foot => match args, foot with
  | [.ptr 0 0, .raw (.int .u64 n)], [.live ⟨[.raw (.int .u64 g), .raw (.int .u64 b), .raw (.bool true)], true, true, true⟩] => some (.raw (.int .i64 (chk g b n)), win g b, [])
  | _, _ => none
noncomputable def C2 : Cons := fun f => if f == 13 then some checkC else C1 f
theorem C2_ok : ConsOK Try.prog C2 := by
  intro f k hk args foot v foot' obs h ho
  unfold C2 at hk
  split at hk
  · rename_i e
    obtain rfl : f = 13 := by simpa using e
    simp only [Option.some.injEq] at hk; subst hk
    unfold checkC at h
    split at h
    · simp only [Option.some.injEq, Prod.mk.injEq] at h
      obtain ⟨rfl, rfl, rfl⟩ := h
      exact check_ok _ _ _
    · cases h
  · exact C1_ok f k hk args foot v foot' obs h ho

def takeG (ne is z far : Bool) (g n : Int) : Int := if ne then g else if is then g else n
def takeB (ne is z far : Bool) (b sh1 sh2 : Int) : Int := if ne then b else if is then orV b sh1 else if z then 1 else if far then orV 0 1 else orV sh2 1
theorem take_run (g b n sh1 sh2 : Int) (ne is z far : Bool) : runFn S (exec S C2 60) (QV ((2, [(1, bo ne)]) :: (11, [(1, bo is)]) :: if is then [(12, [(5, u64 sh1)])] else (13, [(4, bo z)]) :: [(7, [(1, bo far)]), (9, [(5, u64 sh2)])])) 8 [.ptr 0 0, u64 n] (win g b) =
    some (.raw (.int .i64 (if ne then chk g b n else 0)), win (takeG ne is z far g n) (takeB ne is z far b sh1 sh2),
      isB (chk g b n != 0) ne :: if ne then [] else isB (inB g b n) is :: if is then [isO (shlO 1 (dV g n)) (u64 sh1)] else isB (b == 0) z :: if z then [] else isB (decide (dV n g ≥ 64)) far :: if far then [] else [isO (shlO b (dV n g)) (u64 sh2)]) := by
  cases ne <;> cases is <;> cases z <;> cases far <;> kernel_rfl


def tG (g b n : Int) : Int := takeG (chk g b n != 0) (inB g b n) (b == 0) (decide (dV n g ≥ 64)) g n
def tB (g b n : Int) : Int := takeB (chk g b n != 0) (inB g b n) (b == 0) (decide (dV n g ≥ 64)) b (shlV 1 (dV g n)) (shlV b (dV n g))

theorem take_ok (g b n : Int) : CallOK Try.prog 8 [.ptr 0 0, u64 n] (win g b) (.raw (.int .i64 (chk g b n))) (win (tG g b n) (tB g b n)) := by
  have h := call_ok S_ok C2_ok 60 _ (take_run g b n (shlV 1 (dV g n)) (shlV b (dV n g)) (chk g b n != 0) (inB g b n) (b == 0) (decide (dV n g ≥ 64))) (by
    simp only [all_cons, all_ite, all_nil, isB]
    exact ⟨trivial, fun _ => trivial, fun _ => ⟨trivial, fun _ => ⟨shlO_ok _ _ (wrap_nn _), trivial⟩, fun _ => ⟨trivial, fun _ => trivial, fun _ => ⟨trivial, fun _ => trivial, fun _ => ⟨shlO_ok _ _ (wrap_nn _), trivial⟩⟩⟩⟩⟩)
  have e : (if (chk g b n != 0) = true then chk g b n else 0) = chk g b n := by
    split
    · rfl
    · rename_i h; simp at h; exact h.symm
  rw [e] at h
  exact h

theorem great_run (g b : Int) (z : Bool) : runFn S (exec S C2 60) (QV [(1, [(8, bo z)])]) 12 [.ptr 0 0] (win g b) =
    some (.tup [u64 (if z then 0 else g), bo (!z)], win g b, [isB (b == 0) z]) := by
  cases z <;> kernel_rfl
theorem great_ok (g b : Int) : CallOK Try.prog 12 [.ptr 0 0] (win g b) (.tup [u64 (if b == 0 then 0 else g), bo (!(b == 0))]) (win g b) :=
  call_ok S_ok C2_ok 60 _ (great_run g b (b == 0)) (by simp only [all_cons, all_nil, isB, and_self])

theorem came_run (g b n sh : Int) (is b1 b2 : Bool) : runFn S (exec S C2 60) (QV [(4, [(0, bo is), (3, bo b1), (11, u64 sh), (13, bo b2)])]) 14 [.ptr 0 0, u64 n] (win g b) =
    some (bo (is && (b1 && b2)), win g b, isB (inB g b n) is :: if is then isB (decide (dV g n < 64)) b1 :: (if b1 then [isO (shrO b (dV g n)) (u64 sh), isB (andV sh 1 == 1) b2] else []) else []) := by
  cases is <;> cases b1 <;> cases b2 <;> kernel_rfl
def cameV (g b n : Int) : Bool := inB g b n && (decide (dV g n < 64) && bitB g b n)
theorem came_ok (g b n : Int) : CallOK Try.prog 14 [.ptr 0 0, u64 n] (win g b) (bo (cameV g b n)) (win g b) :=
  call_ok S_ok C2_ok 60 _ (came_run g b n (shrV b (dV g n)) (inB g b n) (decide (dV g n < 64)) (bitB g b n)) (by
    simp only [all_cons, all_ite, all_nil, isB, bitB]
    exact ⟨trivial, fun _ => ⟨trivial, fun _ => ⟨shrO_ok _ _ (wrap_nn _), trivial, trivial⟩, fun _ => trivial⟩, fun _ => trivial⟩)

theorem copy_run (g b : Int) : runFn S (exec S C2 60) [] 7 [.ptr 0 0] (win g b) = some (.ptr 1 0, win g b ++ win g b, []) := by kernel_rfl
theorem new_run : runFn S (exec S C2 60) [] 6 [] [] = some (.ptr 0 0, win 0 0, []) := by kernel_rfl
theorem copy_ok (g b : Int) : CallOK Try.prog 7 [.ptr 0 0] (win g b) (.ptr 1 0) (win g b ++ win g b) := call_ok S_ok C2_ok 60 _ (copy_run g b) (by simp only [all_nil])
theorem new_ok : CallOK Try.prog 6 [] [] (.ptr 0 0) (win 0 0) := call_ok S_ok C2_ok 60 _ new_run (by simp only [all_nil])

end Go.Proofs.Yteaiongcdcgekaa
