import Derived.Test.YtmbeonieabofaaaFx
set_option linter.unusedVariables false
set_option linter.unusedSimpArgs false
namespace Go.Proofs.Ytmbeonieabofaaa
open Go.Ab

/-! ### the reference's power -/
def rpowH (A R : Nat → Int) (e : Nat → Int) : Heap := [numB A, keyB e, zB, numB R]
def rpowT (i : Int) : T := [none, none, some (.ptr 0 0), some (.ptr 1 0), some (.ptr 2 0), some (.ptr 3 0), some (i64 i)] ++ List.replicate 22 none
noncomputable def rat (h : Heap) (j : Int) : Option AV := aindexAddr S.P h 23 (.ptr 1 0) (i64 j)
noncomputable def rsh (v d : Int) : Option AV := abin S.P .shr 5 (u8 v) (u64 d)
theorem rpow_round (A R : Nat → Int) (s m i j k i' v sh : Int) (jn : Nat) (e : Nat → Int) (bit : Bool) :
    (exec S noC 60 (LB Try.f24 0) (rpowT i) (rpowH A R e) (QF ([(3, [(1, fo (bo true))]), (5, [(2, .call (num s) [])]), (6, [(1, fo (i64 j)), (2, fo (.ptr 1 jn)), (3, fo (u8 v)), (6, fo (u64 k)), (7, fo (u8 sh)), (9, fo (bo bit))])] ++ (if bit then [(7, [(2, .call (num m) [])])] else []) ++ [(4, [(1, fo (i64 i'))])]))).map (fun r => (r.x, maskT [2, 3, 4, 5, 6] r.t, r.h, r.obs)) =
    some (.normal, rpowT i', rpowH A (if bit then dig m else dig s) e, [isV (bo (decide (i ≥ 0))) (bo true), CallOK S.P 16 [numA R, numA R] [] (num s) [], isV (i64 (w64 (i.tdiv 8))) (i64 j), isO (rat (rpowH A (dig s) e) j) (.ptr 1 jn), isO (ldO (rpowH A (dig s) e) jn) (u8 v), isV (u64 (IntKind.u64.wrap (i.tmod 8))) (u64 k), isO (rsh v k) (u8 sh),
      isV (bo (sh.tmod 2 == 1)) (bo bit)] ++ (if bit then [CallOK S.P 16 [num s, numA A] [] (num m) []] else []) ++ [isV (i64 (w64 (i - 1))) (i64 i')]) := by
  cases bit <;> kernel_rfl
theorem rpow_end (A R : Nat → Int) (i : Int) (e : Nat → Int) :
    (exec S noC 60 (LB Try.f24 0) (rpowT i) (rpowH A R e) (QF [(3, [(1, fo (bo false))])])).map (fun r => (r.x, maskT [2, 3, 4, 5, 6] r.t, r.h, r.obs)) =
    some (.exit 0, rpowT i, rpowH A R e, [isV (bo (decide (i ≥ 0))) (bo false)]) := by kernel_rfl
theorem rpow_reg : regOK (LB Try.f24 0) = true := by kernel_rfl

theorem rat_ok (A R e : Nat → Int) (j : Nat) (hj : j < 32) : isO (rat (rpowH A R e) (j : Int)) (.ptr 1 j) := by
  have h : rat (rpowH A R e) (j : Int) = if 0 ≤ (j : Int) ∧ (j : Int) < 32 then some (.ptr 1 (0 + (j : Int).toNat * 1)) else none := by kernel_rfl
  rw [h, if_pos ⟨by omega, by omega⟩]
  simp [isO]
theorem rld_ok (A R e : Nat → Int) (j : Nat) (hj : j < 32) : isO (ldO (rpowH A R e) j) (u8 (e j)) := by
  have h : ldO (rpowH A R e) j = ((List.range 32).map fun i => u8 (e i))[j]? := by kernel_rfl
  rw [h]
  simp [isO, hj]
theorem rsh_ok (v : Int) (d : Nat) (hd : d < 8) : isO (rsh v (d : Int)) (u8 (v / ((2 ^ d : Nat) : Int))) := by
  have h : rsh v d = (if (d : Int) < 0 then none else some (Value.int .u8 (v.fdiv (2 ^ (min (d : Int).toNat 8))))).map AV.raw := by kernel_rfl
  rw [h, if_neg (by omega), Int.toNat_natCast, Nat.min_eq_left (by omega), Int.fdiv_eq_ediv_of_nonneg _ (Int.le_of_lt (Int.pow_pos (by omega)))]
  simp [isO, u8]
theorem bit_math2 (N i : Nat) (hi : i < 256) : (N / 2 ^ (8 * (i / 8)) % 256) / 2 ^ (i % 8) % 2 = N / 2 ^ i % 2 := by
  have e : 256 = 2 ^ (i % 8) * 2 ^ (8 - i % 8) := by rw [← Nat.pow_add, show i % 8 + (8 - i % 8) = 8 by omega]
  rw [e, Nat.mod_mul_right_div_self, Nat.mod_mod_of_dvd _ (by rw [show 8 - i % 8 = 1 + (7 - i % 8) by omega, Nat.pow_add]; exact Nat.dvd_mul_right _ _), Nat.div_div_eq_div_mul, ← Nat.pow_add]
  rw [show 8 * (i / 8) + i % 8 = i by omega]

theorem pw_in (x : Int) (n : Nat) : inN (pw x n) := rmod_in _
theorem rpow_tri (x : Int) (hx : inN x) (e : Nat → Int) (he : isKey e) (N : Nat) (hN : numK e = N) : TriOK S.P (.loop (LB Try.f24 0)) (rpowT 255) (rpowH (dig x) (dig 1) e) (.exit 0) (rpowT (-1)) (rpowH (dig x) (dig (pw x N)) e) := by
  have hN2 : N < 2 ^ 256 := by
    obtain ⟨N', h1, h2, _⟩ := digit_at he 0 (by omega)
    have : N = N' := by omega
    omega
  have main := tri_loop (P := S.P) (body := LB Try.f24 0) (x := .exit 0) 256 (fun i => rpowT (255 - (i : Int))) (fun i => rpowH (dig x) (dig (pw x (N / 2 ^ (256 - i)))) e) (t' := rpowT (-1)) (h' := rpowH (dig x) (dig (pw x N)) e) (by simp) ?_ ?_
  · have e0 : pw x (N / 2 ^ (256 - 0)) = 1 := by
      rw [show 256 - 0 = 256 from rfl, Nat.div_eq_of_lt hN2]
      unfold pw; simp
    simp only [e0] at main
    exact main
  · intro i hi
    have hb255 : ∃ b : Nat, b = 255 - i ∧ b < 256 := ⟨_, rfl, by omega⟩
    obtain ⟨b, hb, hb2⟩ := hb255
    obtain ⟨N', h1, h2, h3⟩ := digit_at he (b / 8) (by omega)
    have hNN : N' = N := by omega
    subst hNN
    have hstep := half_step N' i hi
    have hbit := bit_math2 N' b hb2
    rw [← hb] at hstep
    have hv8 : N' / 2 ^ (8 * (b / 8)) % 256 < 256 := Nat.mod_lt _ (by omega)
    generalize hV : N' / 2 ^ (8 * (b / 8)) % 256 = V at *
    have hs8 : V / 2 ^ (b % 8) < 256 := Nat.lt_of_le_of_lt (Nat.div_le_self _ _) hv8
    have hsq := rmul_ok (pw x (N' / 2 ^ (256 - i))) (pw x (N' / 2 ^ (256 - i))) (pw_in _ _) (pw_in _ _)
    unfold rmod at hsq
    rw [pw_sq] at hsq
    have hmu := rmul_ok (pw x (2 * (N' / 2 ^ (256 - i)))) x (pw_in _ _) hx
    unfold rmod at hmu
    rw [pw_mul] at hmu
    have e1 : (256 - (i + 1)) = b := by omega
    have ei : (255 - (i : Int)) = (b : Int) := by omega
    have ei1 : (255 - ((i + 1 : Nat) : Int)) = (b : Int) - 1 := by omega
    have hj : w64 ((b : Int).tdiv 8) = ((b / 8 : Nat) : Int) := by
      have : (b : Int).tdiv 8 = ((b / 8 : Nat) : Int) := rfl
      rw [this, w64_id _ (by omega) (by omega)]
    have hk : IntKind.u64.wrap ((b : Int).tmod 8) = ((b % 8 : Nat) : Int) := by
      have : (b : Int).tmod 8 = ((b % 8 : Nat) : Int) := rfl
      rw [this]
      exact wr_id (by omega) (by omega)
    have hsh := rsh_ok (V : Int) (b % 8) (by omega)
    rw [← Int.natCast_ediv] at hsh
    have hld := rld_ok (dig x) (dig (pw x (2 * (N' / 2 ^ (256 - i))))) e (b / 8) (by omega)
    rw [h3] at hld
    have r := tri_exec S_ok noC_ok 60 _ _ rpow_reg (rpow_round (dig x) (dig (pw x (N' / 2 ^ (256 - i)))) (pw x (2 * (N' / 2 ^ (256 - i)))) (pw x (2 * (N' / 2 ^ (256 - i)) + 1)) b ((b / 8 : Nat) : Int) ((b % 8 : Nat) : Int) ((b : Int) - 1) (V : Int) ((V / 2 ^ (b % 8) : Nat) : Int) (b / 8) e (decide (V / 2 ^ (b % 8) % 2 = 1))) (by
      refine Obs.all_append.2 ⟨Obs.all_append.2 ⟨?_, all_ite.2 ⟨fun _ => ?_, fun _ => all_nil.2 trivial⟩⟩, ?_⟩
      · simp only [all_cons, all_nil, and_true]
        refine ⟨isV_bo (by simp), hsq, isV_int hj, rat_ok _ _ _ _ (by omega), hld, isV_int hk, hsh, isV_bo ?_⟩
        rw [Bool.eq_iff_iff]
        simp only [beq_iff_eq, decide_eq_true_eq]
        have : ((V / 2 ^ (b % 8) : Nat) : Int).tmod 2 = ((V / 2 ^ (b % 8) % 2 : Nat) : Int) := rfl
        rw [this]; omega
      · simp only [all_cons, all_nil, and_true]; exact hmu
      · simp only [all_cons, all_nil, and_true]; exact isV_int (w64_id _ (by omega) (by omega)))
    have e2 : dig (pw x (N' / 2 ^ (256 - (i + 1)))) = if decide (V / 2 ^ (b % 8) % 2 = 1) = true then dig (pw x (2 * (N' / 2 ^ (256 - i)) + 1)) else dig (pw x (2 * (N' / 2 ^ (256 - i)))) := by
      rw [e1, hstep, ← hbit]
      by_cases hbb : V / 2 ^ (b % 8) % 2 = 1
      · simp [hbb]
      · have : V / 2 ^ (b % 8) % 2 = 0 := by omega
        simp [this]
    simp only [e2, ei, ei1]
    exact r
  · have r := tri_exec S_ok noC_ok 60 _ _ rpow_reg (rpow_end (dig x) (dig (pw x N)) (-1) e) (by simp only [all_cons, all_nil, and_true]; exact isV_bo (by decide))
    simpa using r

def rpowT0 (A e : Nat → Int) : T := [some (numA A), some (key e), some (.ptr 0 0), some (.ptr 1 0), some (.ptr 2 0), some (.ptr 3 0), some (i64 255), some (num 1)] ++ List.replicate 21 un
theorem rpow_run (A R : Nat → Int) (e : Nat → Int) : runFn S (exec S noC 60) ((1, .ops [(0, .call (num 1) [])]) :: [(3, .code (.exit 0) (rpowT (-1)) (rpowH A R e))]) 24 [numA A, key e] [] =
    some (numA R, [], [CallOK S.P 30 [u64 1] [] (num 1) [], TriOK S.P (.loop (LB Try.f24 0)) (rpowT0 A e) (rpowH A (dig 1) e) (.exit 0) (rpowT (-1)) (rpowH A R e)]) := by kernel_rfl
theorem rpow_ok (x : Int) (hx : inN x) (e : Nat → Int) (he : isKey e) (N : Nat) (hN : numK e = N) : CallOK Try.prog 24 [num x, key e] [] (num (pw x N)) [] :=
  call_ok S_ok noC_ok 60 _ (rpow_run (dig x) (dig (pw x N)) e) (by
    simp only [all_cons, all_nil, and_true]
    exact ⟨rsmall_ok 1 (by unfold inW; omega), TriOK.pre [2, 3, 4, 5, 6] (rpow_tri x hx e he N hN)⟩)

theorem minor_ok : CallOK Try.prog 48 [u64 2, i64 0] [] (key eInv) [] := call_ok S_ok noC_ok 100 [] (show runFn S (exec S noC 100) [] 48 [u64 2, i64 0] [] = some (_, _, []) by kernel_rfl) (by simp only [all_nil])
theorem rinv_run (A : Nat → Int) (r : Int) : runFn S (exec S noC 100) (QF [(1, [(1, .call (key eInv) []), (2, .call (num r) [])])]) 22 [numA A] [] = some (num r, [], [CallOK S.P 48 [u64 2, i64 0] [] (key eInv) [], CallOK S.P 24 [numA A, key eInv] [] (num r) []]) := by kernel_rfl
theorem rinv_ok (x : Int) (hx : inN x) : CallOK Try.prog 22 [num x] [] (num (finv x)) [] :=
  call_ok S_ok noC_ok 100 _ (rinv_run (dig x) _) (by
    simp only [all_cons, all_nil, and_true]
    exact ⟨minor_ok, rpow_ok x hx eInv eInv_key _ eInv_num⟩)

/-! ### the law's own: num, is, Canonical -/
def lowK (b : Nat → Int) (i : Nat) : Int := if i = 31 then b 31 % 128 else b i
theorem lowK_key {b : Nat → Int} (hb : isKey b) : isKey (lowK b) := fun i => by
  have := hb i; have := hb 31
  unfold lowK; split <;> omega
theorem lowK_num {b : Nat → Int} (hb : isKey b) : numK (lowK b) = numK b % 57896044618658097711785492504343953926634992332820282019728792003956564819968 := by
  unfold numK
  show accS (lowK b) 0 31 + lowK b (0 + 31) * ((2 ^ (8 * 31) : Nat) : Int) = (accS b 0 31 + b (0 + 31) * ((2 ^ (8 * 31) : Nat) : Int)) % _
  rw [accS_congr (a := lowK b) (b := b) 31 (fun i hi => by unfold lowK; rw [if_neg (by omega)])]
  obtain ⟨N, h1, h2⟩ := accS_nat hb 0 31
  rw [h1]
  have e : lowK b (0 + 31) = b 31 % 128 := by simp [lowK]
  have e2 : ((2 ^ (8 * 31) : Nat) : Int) = 452312848583266388373324160190187140051835877600158453279131187530910662656 := by decide +kernel
  rw [e, e2, Nat.zero_add]
  have h3 : N < 452312848583266388373324160190187140051835877600158453279131187530910662656 := h2
  have := hb 31
  omega
theorem lnum_run (b : Nat → Int) (b31 x y : Int) : runFn S (exec S noC 60) (QF [(1, [(2, fo (u8 b31))]), (2, [(1, .call (num x) []), (3, .call (num y) [])])]) 9 [key b] [] =
    some (num y, [], [isV (u8 ((b 31).tmod 128)) (u8 b31), CallOK S.P 28 [key (fun i => if i = 31 then b31 else b i)] [] (num x) [], CallOK S.P 12 [num x, numA (fun _ => 0)] [] (num y) []]) := by kernel_rfl
theorem numA_0 : numA (fun _ => 0) = num 0 := by
  rw [numA_num (fun i _ => by omega), valD_zero 16 (fun i _ => rfl)]
theorem lnum_ok (b : Nat → Int) (hb : isKey b) : CallOK Try.prog 9 [key b] [] (num (elOf b)) [] := by
  have h1 := rof_ok (lowK b) (lowK_key hb)
  have h2 := radd_ok (numK (lowK b)) 0 (numK_in (lowK_key hb)) (by unfold inN; omega)
  rw [Int.add_zero] at h2
  have h := call_ok S_ok noC_ok 60 _ (lnum_run b (b 31 % 128) _ _) (by
    simp only [all_cons, all_nil, and_true]
    refine ⟨isV_int (Int.tmod_eq_emod_of_nonneg (hb 31).1), h1, ?_⟩
    rw [numA_0]; exact h2)
  rw [lowK_num hb] at h
  exact h

theorem is_run (x y : Int) : runFn S (exec S noC 60) (QF [(1, [(1, .call (key (byteAt x)) []), (3, .call (key (byteAt y)) []), (4, fo (bo true))])]) 10 [el x, num y] [] =
    some (bo true, [], [CallOK S.P 34 [el x] [] (key (byteAt x)) [], CallOK S.P 37 [num y] [] (key (byteAt y)) [], isO (eqK (byteAt x) (byteAt y)) (bo true)]) := by kernel_rfl
theorem is_ok (x y : Int) (hx : inF x) (h : x = y) : CallOK Try.prog 10 [el x, num y] [] (bo true) [] := by
  subst h
  exact call_ok S_ok noC_ok 60 _ (is_run x x) (by
    simp only [all_cons, all_nil, and_true]
    exact ⟨bytes_ok x hx.1, rbytes_ok x hx.1, isO_some (by rw [eqK_eq, (eqKV_iff _ _).2 (fun _ _ => rfl)])⟩)

theorem canon_run (b : Nat → Int) (x : Int) (r : Bool) : runFn S (exec S noC 60) (QF [(1, [(1, .call (el x) []), (2, .call (key (byteAt x)) []), (4, fo (bo r))])]) 31 [key b] [] =
    some (bo r, [], [CallOK S.P 8 [key b] [] (el x) [], CallOK S.P 34 [el x] [] (key (byteAt x)) [], isO (eqK (byteAt x) b) (bo r)]) := by kernel_rfl
theorem canon_ok (b : Nat → Int) (hb : isKey b) : CallOK Try.prog 31 [key b] [] (bo (decide (numK b < 57896044618658097711785492504343953926634992332820282019728792003956564819949))) [] := by
  refine call_ok S_ok noC_ok 60 _ (canon_run b (elOf b) _) ?_
  simp only [all_cons, all_nil, and_true]
  refine ⟨of_ok b hb, bytes_ok _ (elOf_in b).1, isO_some ?_⟩
  rw [eqK_eq]
  congr 2
  have hn := numK_in hb
  rw [Bool.eq_iff_iff, eqKV_iff, decide_eq_true_eq]
  have he := elOf_in b
  refine ⟨fun h => ?_, fun h => ?_⟩
  · have h1 : numK (byteAt (elOf b)) = numK b := accS_congr 32 (fun i hi => h i (by omega))
    rw [numK_bytes _ he.1 (Int.lt_trans he.2 (by decide))] at h1
    rw [← h1]; exact he.2
  · have e : elOf b = numK b := by unfold inN at hn; unfold elOf; omega
    rw [e]
    intro i hi
    obtain ⟨N, h1, h2, h3⟩ := digit_at hb i hi
    rw [h1, h3]
    unfold byteAt
    rw [show 256 ^ i = 2 ^ (8 * i) by rw [Nat.pow_mul]]
    simp

end Go.Proofs.Ytmbeonieabofaaa
