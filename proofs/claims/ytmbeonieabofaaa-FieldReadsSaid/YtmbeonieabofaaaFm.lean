import Derived.Test.YtmbeonieabofaaaFl
set_option linter.unusedVariables false
set_option linter.unusedSimpArgs false
namespace Go.Proofs.Ytmbeonieabofaaa
open Go.Ab

/-! ### bytes and numbers -/
theorem accS_bytes (x : Int) (hx : 0 ≤ x) : ∀ n, accS (byteAt x) 0 n = x % ((256 ^ n : Nat) : Int)
  | 0 => by simp [accS]
  | n + 1 => by
    obtain ⟨N, rfl⟩ := Int.eq_ofNat_of_zero_le hx
    simp only [accS]
    rw [accS_bytes (N : Int) hx n, Nat.zero_add]
    unfold byteAt
    have e : 2 ^ (8 * n) = 256 ^ n := by rw [Nat.pow_mul]
    rw [e, ← Int.natCast_emod, ← Int.natCast_emod, ← Int.natCast_ediv, show (256 : Int) = ((256 : Nat) : Int) from rfl, ← Int.natCast_emod, ← Int.natCast_mul, ← Int.natCast_add]
    congr 1
    rw [Nat.pow_succ, Nat.mod_mul, Nat.mul_comm]

theorem numK_bytes (x : Int) (h0 : 0 ≤ x) (h1 : x < 115792089237316195423570985008687907853269984665640564039457584007913129639936) : numK (byteAt x) = x := by
  unfold numK
  rw [accS_bytes x h0]
  have : ((256 ^ 32 : Nat) : Int) = 115792089237316195423570985008687907853269984665640564039457584007913129639936 := by decide
  rw [this]; omega

theorem byteAt_key (x : Int) : isKey (byteAt x) := fun i => by unfold byteAt; omega

def eqKV (a b : Nat → Int) : Bool := (List.range 32).foldr (fun i r => (a i == b i) && r) true
noncomputable def eqK (a b : Nat → Int) : Option AV := abin S.P .eql 23 (key a) (key b)
theorem eqK_eq (a b : Nat → Int) : eqK a b = some (bo (eqKV a b)) := by kernel_rfl
theorem foldr_all (f : Nat → Bool) : ∀ l : List Nat, l.foldr (fun i r => f i && r) true = true ↔ ∀ i ∈ l, f i = true
  | [] => by simp
  | x :: l => by simp [foldr_all f l]
theorem eqKV_iff (a b : Nat → Int) : eqKV a b = true ↔ ∀ i, i < 32 → a i = b i := by
  unfold eqKV
  rw [foldr_all (fun i => a i == b i)]
  simp
theorem accS_congr {a b : Nat → Int} {base : Nat} : ∀ n, (∀ i, i < base + n → a i = b i) → accS a base n = accS b base n
  | 0, _ => rfl
  | n + 1, h => by simp only [accS]; rw [accS_congr n (fun i hi => h i (by omega)), h (base + n) (by omega)]
theorem eqKV_bytes {x y : Int} (hx : inF x) (hy : inF y) : eqKV (byteAt x) (byteAt y) = decide (x = y) := by
  rw [Bool.eq_iff_iff, eqKV_iff, decide_eq_true_eq]
  refine ⟨fun h => ?_, fun h => by rw [h]; intro i _; rfl⟩
  have h1 := numK_bytes x hx.1 (Int.lt_trans hx.2 (by decide))
  have h2 := numK_bytes y hy.1 (Int.lt_trans hy.2 (by decide))
  rw [← h1, ← h2]
  unfold numK
  exact accS_congr 32 (fun i hi => h i (by omega))

/-! ### FieldPicks -/
theorem picks_run (a b : Nat → Int) (x y : Int) (sec e o : Bool) :
    runFn S (exec S noC 60) (QF [(1, [(1, .call (el x) []), (3, .call (el y) [])]), (2, [(3, .call (.tup [el (if sec then y else x), el (if sec then x else y)]) [])]), (3, [(3, .call (el (if sec then y else x)) [])]),
      (6, [(2, .call (bo true) []), (6, .call (bo true) []), (11, .call (bo true) []), (16, .call (bo e) []), (18, .call (key (byteAt (if sec then y else x))) []), (20, .call (key (byteAt (if sec then x else y))) []), (21, fo (bo e)), (22, fo (bo true)), (26, .call (bo o) []), (28, .call (key (byteAt (if sec then y else x))) []), (31, fo (bo o)), (32, fo (bo true)), (35, .call (bo true) [])])]) 7 [key a, key b, bo sec] [] =
    some (bo true, [], [CallOK S.P 8 [key a] [] (el x) [], CallOK S.P 8 [key b] [] (el y) [], CallOK S.P 32 [el x, el y, bo sec] [] (.tup [el (if sec then y else x), el (if sec then x else y)]) [], CallOK S.P 33 [el x, el y, bo sec] [] (el (if sec then y else x)) [],
      CallOK S.P 26 [el (if sec then y else x), el (if sec then y else x)] [] (bo true) [], CallOK S.P 26 [el (if sec then y else x), el (if sec then y else x)] [] (bo true) [], CallOK S.P 26 [el (if sec then x else y), el (if sec then x else y)] [] (bo true) [],
      CallOK S.P 26 [el (if sec then y else x), el (if sec then x else y)] [] (bo e) [], CallOK S.P 34 [el (if sec then y else x)] [] (key (byteAt (if sec then y else x))) [], CallOK S.P 34 [el (if sec then x else y)] [] (key (byteAt (if sec then x else y))) [],
      isO (eqK (byteAt (if sec then y else x)) (byteAt (if sec then x else y))) (bo e), isV (bo (e == e)) (bo true), CallOK S.P 35 [el (if sec then y else x)] [] (bo o) [], CallOK S.P 34 [el (if sec then y else x)] [] (key (byteAt (if sec then y else x))) [],
      isV (bo ((byteAt (if sec then y else x) 0).tmod 2 == 1)) (bo o), isV (bo (o == o)) (bo true), CallOK S.P 20 [] [] (bo true) []]) := by
  cases sec <;> kernel_rfl

abbrev elOf (b : Nat → Int) : Int := numK b % 57896044618658097711785492504343953926634992332820282019728792003956564819968 % 57896044618658097711785492504343953926634992332820282019728792003956564819949
theorem elOf_in (b : Nat → Int) : inF (elOf b) := mod_in _
theorem ite_in {c : Bool} {x y : Int} (hx : inF x) (hy : inF y) : inF (if c then x else y) := by cases c <;> assumption
theorem equal_self (x : Int) (hx : inF x) : CallOK Try.prog 26 [el x, el x] [] (bo true) [] := by
  have := equal_ok x x hx hx
  rwa [decide_eq_true rfl] at this

theorem isO_some {o : Option AV} {v : AV} (h : o = some v) : isO o v := by rw [h]; rfl

theorem picks_ok (a b : Nat → Int) (ha : isKey a) (hb : isKey b) (sec : Bool) : CallOK Try.prog 7 [key a, key b, bo sec] [] (bo true) [] := by
  have hx := elOf_in a
  have hy := elOf_in b
  have hX : inF (if sec then elOf b else elOf a) := ite_in hy hx
  have hY : inF (if sec then elOf a else elOf b) := ite_in hx hy
  refine call_ok S_ok noC_ok 60 _ (picks_run a b (elOf a) (elOf b) sec (decide ((if sec then elOf b else elOf a) = (if sec then elOf a else elOf b))) (decide ((if sec then elOf b else elOf a) % 2 = 1))) ?_
  simp only [all_cons, all_nil, and_true]
  refine ⟨of_ok a ha, of_ok b hb, swap_ok _ _ _, select_ok _ _ _, equal_self _ hX, equal_self _ hX, equal_self _ hY, equal_ok _ _ hX hY, bytes_ok _ hX.1, bytes_ok _ hY.1, isO_some ?_, isV_bo (by simp), odd_ok _ hX, bytes_ok _ hX.1, isV_bo ?_, isV_bo (by simp), known_ok⟩
  · rw [eqK_eq, eqKV_bytes hX hY]
  · generalize (if sec then elOf b else elOf a) = X at *
    rw [Bool.eq_iff_iff]
    simp only [beq_iff_eq, decide_eq_true_eq]
    unfold byteAt
    rw [Int.tmod_eq_emod_of_nonneg (by omega)]
    simp

end Go.Proofs.Ytmbeonieabofaaa
