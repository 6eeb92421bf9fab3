import Derived.Test.YtmbeonieabofaaaFh
set_option linter.unusedVariables false
set_option linter.unusedSimpArgs false
namespace Go.Proofs.Ytmbeonieabofaaa
open Go.Ab

def loopsOf : Code → List Code
  | .seq a b => loopsOf a ++ loopsOf b
  | .cond _ a b => loopsOf a ++ loopsOf b
  | .block _ c => loopsOf c
  | .scope c => loopsOf c
  | .loop c => c :: loopsOf c
  | _ => []
noncomputable def LB (fn : Func) (k : Nat) : Code := ((fn.body.map loopsOf).getD []).getD k .skip

/-! ### Power -/
def elB (n : Int) : HB := .live ⟨(limbs n).map u64, true, true, true⟩
def keyB (e : Nat → Int) : HB := .live ⟨(List.range 32).map fun i => u8 (e i), true, true, true⟩
def powH (x r : Int) (e : Nat → Int) : Heap := [elB x, keyB e, elB 0, elB r]
def powT (i : Int) : T := [none, none, some (.ptr 0 0), some (.ptr 1 0), some (.ptr 2 0), some (.ptr 3 0), none, none, some (i64 i)] ++ List.replicate 20 none
noncomputable def atO (h : Heap) (j : Int) : Option AV := aindexAddr S.P h 23 (.ptr 1 0) (i64 j)
noncomputable def ldO (h : Heap) (k : Nat) : Option AV := ldv S.P h 5 1 k
noncomputable def shO (v d : Int) : Option AV := abin S.P .shr 5 (u8 v) (i64 d)
def w64 (n : Int) : Int := IntKind.i64.wrap n

theorem pow_round (x r s m i j k i' v sh : Int) (jn : Nat) (e : Nat → Int) (bit : Bool) :
    (exec S C2 60 (LB Try.f23 0) (powT i) (powH x r e) (QF ([(3, [(0, fo (bo true))]), (5, [(1, .call (el s) [])]), (6, [(2, fo (i64 j)), (3, fo (.ptr 1 jn)), (4, fo (u8 v)), (7, fo (i64 k)), (8, fo (u8 sh)), (10, fo (bo bit))])] ++ (if bit then [(7, [(2, .call (el m) [])])] else []) ++ [(8, [(0, fo (i64 i'))])]))).map (fun r => (r.x, maskT [2, 3, 4, 5, 8] r.t, r.h, r.obs)) =
    some (.normal, powT i', powH x (if bit then m else s) e, [isV (bo (decide (i < 256))) (bo true), CallOK S.P 17 [el r] [] (el s) [], isV (i64 (w64 (31 - w64 (i.tdiv 8)))) (i64 j), isO (atO (powH x s e) j) (.ptr 1 jn), isO (ldO (powH x s e) jn) (u8 v), isV (i64 (w64 (7 - i.tmod 8))) (i64 k), isO (shO v k) (u8 sh),
      isV (bo (IntKind.u8.wrap (BitVec.ofInt 8 sh &&& BitVec.ofInt 8 1).toNat == 1)) (bo bit)] ++ (if bit then [CallOK S.P 15 [el s, el x] [] (el m) []] else []) ++ [isV (i64 (w64 (i + 1))) (i64 i')]) := by
  cases bit <;> kernel_rfl

theorem pow_end (x r i : Int) (e : Nat → Int) :
    (exec S C2 60 (LB Try.f23 0) (powT i) (powH x r e) (QF [(3, [(0, fo (bo false))])])).map (fun r => (r.x, maskT [2, 3, 4, 5, 8] r.t, r.h, r.obs)) =
    some (.exit 0, powT i, powH x r e, [isV (bo (decide (i < 256))) (bo false)]) := by kernel_rfl


theorem pow_reg : regOK (LB Try.f23 0) = true := by kernel_rfl

/-- The byte at a place of a number of 32 bytes. -/
theorem digit_at {b : Nat → Int} (hb : isKey b) (j : Nat) (hj : j < 32) : ∃ N : Nat, numK b = N ∧ N < 2 ^ 256 ∧ b j = ((N / 2 ^ (8 * j) % 256 : Nat) : Int) := by
  obtain ⟨N, h1, h2⟩ := accS_nat hb 0 32
  refine ⟨N, h1, h2, ?_⟩
  have hs := accS_add b 0 j (1 + (31 - j))
  rw [show j + (1 + (31 - j)) = 32 by omega, h1, accS_add, Nat.zero_add] at hs
  obtain ⟨A, a1, a2⟩ := accS_nat hb 0 j
  obtain ⟨R, r1, r2⟩ := accS_nat hb (j + 1) (31 - j)
  obtain ⟨B, hB⟩ := Int.eq_ofNat_of_zero_le (hb j).1
  have hB2 : B < 256 := by have := (hb j).2; omega
  have e1 : accS b j 1 = B := by simp [accS, hB]
  rw [a1, e1, r1] at hs
  have hN : N = A + 2 ^ (8 * j) * (B + 256 * R) := by
    have : (N : Int) = ((A + 2 ^ (8 * j) * (B + 256 * R) : Nat) : Int) := by rw [hs]; simp
    omega
  have : N / 2 ^ (8 * j) % 256 = B := by
    rw [hN, Nat.add_mul_div_left _ _ (Nat.pow_pos (by omega)), Nat.div_eq_of_lt a2]
    omega
  rw [this]; exact hB

theorem bit_math (N i : Nat) (hi : i < 256) : (N / 2 ^ (8 * (31 - i / 8)) % 256) / 2 ^ (7 - i % 8) % 2 = N / 2 ^ (255 - i) % 2 := by
  have e : 256 = 2 ^ (7 - i % 8) * 2 ^ (1 + i % 8) := by rw [← Nat.pow_add, show 7 - i % 8 + (1 + i % 8) = 8 by omega]
  rw [e, Nat.mod_mul_right_div_self, Nat.mod_mod_of_dvd _ (by rw [Nat.pow_add]; exact Nat.dvd_mul_right _ _), Nat.div_div_eq_div_mul, ← Nat.pow_add]
  rw [show 8 * (31 - i / 8) + (7 - i % 8) = 255 - i by omega]


abbrev pw (x : Int) (n : Nat) : Int := x ^ n % 57896044618658097711785492504343953926634992332820282019728792003956564819949

theorem pw_sq (x : Int) (k : Nat) : pw x k * pw x k % 57896044618658097711785492504343953926634992332820282019728792003956564819949 = pw x (2 * k) := by
  unfold pw
  rw [← Int.mul_emod, ← Int.pow_add, show k + k = 2 * k by omega]
theorem pw_mul (x : Int) (k : Nat) : pw x k * x % 57896044618658097711785492504343953926634992332820282019728792003956564819949 = pw x (k + 1) := by
  unfold pw
  rw [Int.pow_succ, Int.mul_emod, Int.emod_emod, ← Int.mul_emod]

theorem half_step (N i : Nat) (hi : i < 256) : N / 2 ^ (255 - i) = 2 * (N / 2 ^ (256 - i)) + N / 2 ^ (255 - i) % 2 := by
  have e : N / 2 ^ (256 - i) = N / 2 ^ (255 - i) / 2 := by
    rw [Nat.div_div_eq_div_mul, ← Nat.pow_succ]; congr 2; omega
  rw [e]; omega

theorem at_ok (x s : Int) (e : Nat → Int) (j : Nat) (hj : j < 32) : isO (atO (powH x s e) (j : Int)) (.ptr 1 j) := by
  have h : atO (powH x s e) (j : Int) = if 0 ≤ (j : Int) ∧ (j : Int) < 32 then some (.ptr 1 (0 + (j : Int).toNat * 1)) else none := by kernel_rfl
  rw [h, if_pos ⟨by omega, by omega⟩]
  simp [isO]
theorem ld5_ok (x s : Int) (e : Nat → Int) (j : Nat) (hj : j < 32) : isO (ldO (powH x s e) j) (u8 (e j)) := by
  have h : ldO (powH x s e) j = ((List.range 32).map fun i => u8 (e i))[j]? := by kernel_rfl
  rw [h]
  simp [isO, hj]
theorem sh_gen (v d : Int) : shO v d = if d < 0 then none else some (u8 (v.fdiv (2 ^ (min d.toNat 8)))) := by
  have h : shO v d = (if d < 0 then none else some (Value.int .u8 (v.fdiv (2 ^ (min d.toNat 8))))).map AV.raw := by kernel_rfl
  rw [h]; split <;> rfl
theorem sh_ok (v : Int) (d : Nat) (hd : d < 8) : isO (shO v (d : Int)) (u8 (v / ((2 ^ d : Nat) : Int))) := by
  rw [sh_gen, if_neg (by omega), Int.toNat_natCast, Nat.min_eq_left (by omega), Int.fdiv_eq_ediv_of_nonneg _ (Int.le_of_lt (Int.pow_pos (by omega)))]
  simp [isO]

theorem and8 (S : Nat) (hS : S < 256) : (IntKind.u8.wrap (BitVec.ofInt 8 (S : Int) &&& BitVec.ofInt 8 1).toNat == 1) = decide (S % 2 = 1) := by
  rw [BitVec.ofInt_natCast, show (1 : Int) = ((1 : Nat) : Int) from rfl, BitVec.ofInt_natCast, BitVec.toNat_and, BitVec.toNat_ofNat, BitVec.toNat_ofNat, Nat.mod_eq_of_lt (show S < 2 ^ 8 by omega), show 1 % 2 ^ 8 = 1 from rfl, Nat.and_one_is_mod]
  show (((S % 2 : Nat) : Int) % 256 == 1) = _
  rw [Bool.eq_iff_iff]
  simp only [beq_iff_eq, decide_eq_true_eq]
  omega

theorem w64_id (n : Int) (h0 : -9223372036854775808 ≤ n) (h1 : n < 9223372036854775808) : w64 n = n := by
  unfold w64 IntKind.wrap
  simp [IntKind.signed, IntKind.bits]
  omega

theorem pow_tri (x : Int) (hx : inF x) (e : Nat → Int) (he : isKey e) (N : Nat) (hN : numK e = N) : TriOK S.P (.loop (LB Try.f23 0)) (powT 0) (powH x 1 e) (.exit 0) (powT 256) (powH x (pw x N) e) := by
  have hN2 : N < 2 ^ 256 := by
    obtain ⟨N', h1, h2, _⟩ := digit_at he 0 (by omega)
    have : N = N' := by omega
    omega
  have main := tri_loop (P := S.P) (body := LB Try.f23 0) (x := .exit 0) 256 (fun i => powT i) (fun i => powH x (pw x (N / 2 ^ (256 - i))) e) (t' := powT 256) (h' := powH x (pw x N) e) (by simp) ?_ ?_
  · have e0 : pw x (N / 2 ^ (256 - 0)) = 1 := by
      rw [show 256 - 0 = 256 from rfl, Nat.div_eq_of_lt hN2]
      unfold pw; simp
    simp only [e0] at main
    exact main
  · intro i hi
    obtain ⟨N', h1, h2, h3⟩ := digit_at he (31 - i / 8) (by omega)
    have hNN : N' = N := by omega
    subst hNN
    have hstep := half_step N' i hi
    have hbit := bit_math N' i hi
    have hv8 : N' / 2 ^ (8 * (31 - i / 8)) % 256 < 256 := Nat.mod_lt _ (by omega)
    generalize hV : N' / 2 ^ (8 * (31 - i / 8)) % 256 = V at *
    have hs8 : V / 2 ^ (7 - i % 8) < 256 := Nat.lt_of_le_of_lt (Nat.div_le_self _ _) hv8
    have hr := mod_in (x ^ (N' / 2 ^ (256 - i)))
    have hsq := square_ok _ hr
    rw [pw_sq] at hsq
    have hmu := mul_ok (pw x (2 * (N' / 2 ^ (256 - i)))) x (mod_in _) hx
    rw [pw_mul] at hmu
    have e1 : (256 - (i + 1)) = 255 - i := by omega
    have hj : w64 (31 - w64 ((i : Int).tdiv 8)) = ((31 - i / 8 : Nat) : Int) := by
      have : (i : Int).tdiv 8 = ((i / 8 : Nat) : Int) := rfl
      rw [this, w64_id ((i / 8 : Nat) : Int) (by omega) (by omega), w64_id _ (by omega) (by omega)]; omega
    have hk : w64 (7 - (i : Int).tmod 8) = ((7 - i % 8 : Nat) : Int) := by
      have : (i : Int).tmod 8 = ((i % 8 : Nat) : Int) := rfl
      rw [this, w64_id _ (by omega) (by omega)]; omega
    have hsh := sh_ok (V : Int) (7 - i % 8) (by omega)
    rw [← Int.natCast_ediv] at hsh
    have hld := ld5_ok x (pw x (2 * (N' / 2 ^ (256 - i)))) e (31 - i / 8) (by omega)
    rw [h3] at hld
    have r := tri_exec S_ok C2_ok 60 _ _ pow_reg (pow_round x (pw x (N' / 2 ^ (256 - i))) (pw x (2 * (N' / 2 ^ (256 - i)))) (pw x (2 * (N' / 2 ^ (256 - i)) + 1)) i ((31 - i / 8 : Nat) : Int) ((7 - i % 8 : Nat) : Int) ((i : Int) + 1) (V : Int) ((V / 2 ^ (7 - i % 8) : Nat) : Int) (31 - i / 8) e (decide (V / 2 ^ (7 - i % 8) % 2 = 1))) (by
      refine Obs.all_append.2 ⟨Obs.all_append.2 ⟨?_, all_ite.2 ⟨fun _ => ?_, fun _ => all_nil.2 trivial⟩⟩, ?_⟩
      · simp only [all_cons, all_nil, and_true]
        exact ⟨isV_bo (by simp; omega), hsq, isV_int hj, at_ok _ _ _ _ (by omega), hld, isV_int hk, hsh, isV_bo (and8 _ hs8)⟩
      · simp only [all_cons, all_nil, and_true]; exact hmu
      · simp only [all_cons, all_nil, and_true]; exact isV_int (w64_id _ (by omega) (by omega)))
    have e2 : pw x (N' / 2 ^ (256 - (i + 1))) = if decide (V / 2 ^ (7 - i % 8) % 2 = 1) = true then pw x (2 * (N' / 2 ^ (256 - i)) + 1) else pw x (2 * (N' / 2 ^ (256 - i))) := by
      rw [e1, hstep, ← hbit]
      by_cases hb : V / 2 ^ (7 - i % 8) % 2 = 1
      · simp [hb]
      · have : V / 2 ^ (7 - i % 8) % 2 = 0 := by omega
        simp [this]
    simp only [e2]
    exact r
  · have r := tri_exec S_ok C2_ok 60 _ _ pow_reg (pow_end x (pw x N) 256 e) (by simp only [all_cons, all_nil, and_true]; exact isV_bo (by decide))
    simpa using r


def powT0 (x : Int) (e : Nat → Int) : T := [some (el x), some (key e), some (.ptr 0 0), some (.ptr 1 0), some (.ptr 2 0), some (.ptr 3 0), un, some (el 1), some (i64 0)] ++ List.replicate 20 un
theorem pow_run (x r : Int) (e : Nat → Int) : runFn S (exec S C2 60) ((1, .ops [(0, .call (el 1) [])]) :: [(3, .code (.exit 0) (powT 256) (powH x r e))]) 23 [el x, key e] [] =
    some (el r, [], [CallOK S.P 25 [u64 1] [] (el 1) [], TriOK S.P (.loop (LB Try.f23 0)) (powT0 x e) (powH x 1 e) (.exit 0) (powT 256) (powH x r e)]) := by kernel_rfl
theorem pow_ok (x : Int) (hx : inF x) (e : Nat → Int) (he : isKey e) (N : Nat) (hN : numK e = N) : CallOK Try.prog 23 [el x, key e] [] (el (pw x N)) [] :=
  call_ok S_ok C2_ok 60 _ (pow_run x (pw x N) e) (by
    simp only [all_cons, all_nil, and_true]
    exact ⟨small_ok 1 (by unfold inW; omega), TriOK.pre [2, 3, 4, 5, 8] (pow_tri x hx e he N hN)⟩)

end Go.Proofs.Ytmbeonieabofaaa
