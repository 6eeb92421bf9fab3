import Derived.Test.YtmbeonieabofaaaFq
import Derived.Test.YtmbeonieabofaaaAbLoop2
set_option linter.unusedVariables false
set_option linter.unusedSimpArgs false
namespace Go.Proofs.Ytmbeonieabofaaa
open Go.Ab

/-! ### the reference's numbers: digits of 16 bits -/
def pB (n : Nat) : Int := ((65536 ^ n : Nat) : Int)
theorem pB_succ (n : Nat) : pB (n + 1) = 65536 * pB n := by unfold pB; rw [Nat.pow_succ, Nat.mul_comm]; simp
theorem pB_pos (n : Nat) : 0 < pB n := by unfold pB; exact Int.natCast_pos.2 (Nat.pow_pos (by omega))
def valD (D : Nat → Int) : Nat → Int
  | 0 => 0
  | n + 1 => valD D n + D n * pB n
def dig (x : Int) (i : Nat) : Int := x / pB i % 65536
def isD (D : Nat → Int) : Prop := ∀ i, 0 ≤ D i ∧ D i < 65536
def numA (D : Nat → Int) : AV := .agg ((List.range 16).map fun i => u64 (D i))
def num (x : Int) : AV := numA (dig x)
def cellsD (N : Nat) (D : Nat → Int) : List AV := (List.range N).map fun i => u64 (D i)

theorem dig_D (x : Int) : isD (dig x) := fun i => by unfold dig; omega

theorem valD_dig (x : Int) (hx : 0 ≤ x) : ∀ n, valD (dig x) n = x % pB n
  | 0 => by show (0 : Int) = x % 1; omega
  | n + 1 => by
    obtain ⟨N, rfl⟩ := Int.eq_ofNat_of_zero_le hx
    simp only [valD]
    rw [valD_dig (N : Int) hx n]
    unfold dig pB
    rw [← Int.natCast_emod, ← Int.natCast_emod, ← Int.natCast_ediv, show (65536 : Int) = ((65536 : Nat) : Int) from rfl, ← Int.natCast_emod, ← Int.natCast_mul, ← Int.natCast_add]
    congr 1
    rw [Nat.pow_succ, Nat.mod_mul, Nat.mul_comm]

theorem valD_range {D : Nat → Int} : ∀ n, (∀ i, i < n → 0 ≤ D i ∧ D i < 65536) → 0 ≤ valD D n ∧ valD D n < pB n
  | 0, _ => by simp [valD, pB]
  | n + 1, h => by
    obtain ⟨h1, h2⟩ := valD_range n (fun i hi => h i (by omega))
    obtain ⟨h3, h4⟩ := h n (by omega)
    simp only [valD, pB_succ]
    have hp := pB_pos n
    have h5 : D n * pB n ≤ 65535 * pB n := Int.mul_le_mul_of_nonneg_right (by omega) (by omega)
    have h6 : 0 ≤ D n * pB n := Int.mul_nonneg h3 (by omega)
    generalize D n * pB n = q at *
    omega

theorem valD_congr {D E : Nat → Int} : ∀ n, (∀ i, i < n → D i = E i) → valD D n = valD E n
  | 0, _ => rfl
  | n + 1, h => by simp only [valD]; rw [valD_congr n (fun i hi => h i (by omega)), h n (by omega)]

/-- Digits are a number's digits. -/
theorem dig_valD {D : Nat → Int} : ∀ n, (∀ i, i < n → 0 ≤ D i ∧ D i < 65536) → ∀ i, i < n → dig (valD D n) i = D i
  | 0, _, i, hi => by omega
  | n + 1, h, i, hi => by
    obtain ⟨h1, h2⟩ := valD_range n (fun i hi => h i (by omega))
    obtain ⟨h3, h4⟩ := h n (by omega)
    have hp := pB_pos n
    simp only [valD]
    by_cases e : i = n
    · subst e
      unfold dig
      rw [Int.add_mul_ediv_right _ _ (by omega), Int.ediv_eq_zero_of_lt h1 h2]
      omega
    · have ih := dig_valD n (fun i hi => h i (by omega)) i (by omega)
      rw [← ih]
      unfold dig
      obtain ⟨k, hk⟩ : ∃ k, n = i + 1 + k := ⟨n - (i + 1), by omega⟩
      have e1 : D n * pB n = (D n * pB k * 65536) * pB i := by
        rw [hk]
        unfold pB
        rw [Nat.pow_add, Nat.pow_add]
        simp only [Int.natCast_mul, Nat.pow_one]
        have : ((65536 : Nat) : Int) = 65536 := rfl
        rw [this]
        generalize ((65536 ^ i : Nat) : Int) = a
        generalize ((65536 ^ k : Nat) : Int) = b
        grind
      have hpi := pB_pos i
      rw [e1, Int.add_mul_ediv_right _ _ (by omega), Int.add_mul_emod_self_right]

theorem numA_num {D : Nat → Int} (h : ∀ i, i < 16 → 0 ≤ D i ∧ D i < 65536) : numA D = num (valD D 16) := by
  unfold num numA
  congr 1
  apply List.map_congr_left
  intro i hi
  rw [dig_valD 16 h i (List.mem_range.1 hi)]

theorem pB16 : pB 16 = 115792089237316195423570985008687907853269984665640564039457584007913129639936 := by decide +kernel
def inN (x : Int) : Prop := 0 ≤ x ∧ x < 115792089237316195423570985008687907853269984665640564039457584007913129639936
theorem valD_inN {D : Nat → Int} (h : ∀ i, i < 16 → 0 ≤ D i ∧ D i < 65536) : inN (valD D 16) := by
  have := valD_range 16 h
  rw [pB16] at this; exact this
theorem val_num {x : Int} (h : inN x) : valD (dig x) 16 = x := by
  rw [valD_dig x h.1, pB16]; unfold inN at h; omega

/-! ### Of, Bytes, Small, Prime, all -/
def ofD (b : Nat → Int) (i : Nat) : Int := b (2 * i) + 256 * b (2 * i + 1)
theorem rof_run (b D : Nat → Int) : runFn S (exec S noC 60) (QF ((List.range 16).map fun i => (5, [(13, fo (u64 (D i)))]))) 28 [key b] [] =
    some (numA D, [], (List.range 16).map fun i => isV (u64 (wr (wr (b (2 * i)) + wr (256 * wr (b (2 * i + 1)))))) (u64 (D i))) := by kernel_rfl
theorem wr_id {x : Int} (h0 : 0 ≤ x) (h1 : x < 18446744073709551616) : wr x = x := by rw [wr_eq]; omega
theorem ofD_D {b : Nat → Int} (hb : isKey b) : isD (ofD b) := fun i => by
  have := hb (2 * i); have := hb (2 * i + 1); unfold ofD; omega
theorem all_map {α : Type} {l : List α} {f : α → Prop} (h : ∀ i ∈ l, f i) : Obs.all (l.map f) := by
  intro p hp
  obtain ⟨i, hi, rfl⟩ := List.mem_map.1 hp
  exact h i hi
theorem rof_okA (b : Nat → Int) (hb : isKey b) : CallOK Try.prog 28 [key b] [] (numA (ofD b)) [] :=
  call_ok S_ok noC_ok 60 _ (rof_run b (ofD b)) (all_map fun i _ => by
    have h1 := hb (2 * i)
    have h2 := hb (2 * i + 1)
    refine isV_u64 ?_
    rw [wr_id (x := b (2 * i)) (by omega) (by omega), wr_id (x := b (2 * i + 1)) (by omega) (by omega), wr_id (x := 256 * b (2 * i + 1)) (by omega) (by omega), wr_id (by omega) (by omega)]
    rfl)
theorem valD_ofD (b : Nat → Int) : ∀ n, valD (ofD b) n = accS b 0 (2 * n)
  | 0 => rfl
  | n + 1 => by
    rw [show 2 * (n + 1) = 2 * n + 1 + 1 by omega]
    simp only [valD, accS]
    rw [valD_ofD b n, Nat.zero_add, Nat.zero_add]
    unfold ofD pB
    have e1 : 2 ^ (8 * (2 * n)) = 65536 ^ n := by rw [show 8 * (2 * n) = 16 * n by omega, Nat.pow_mul]
    have e2 : 2 ^ (8 * (2 * n + 1)) = 256 * 65536 ^ n := by rw [show 8 * (2 * n + 1) = 8 + 16 * n by omega, Nat.pow_add, Nat.pow_mul 2 16 n]
    rw [e1, e2]
    simp only [Int.natCast_mul]
    have : ((256 : Nat) : Int) = 256 := rfl
    rw [this]
    generalize ((65536 ^ n : Nat) : Int) = q
    grind
theorem rof_ok (b : Nat → Int) (hb : isKey b) : CallOK Try.prog 28 [key b] [] (num (numK b)) [] := by
  have h := rof_okA b hb
  rw [numA_num (fun i _ => ofD_D hb i), valD_ofD] at h
  exact h
theorem numK_in {b : Nat → Int} (hb : isKey b) : inN (numK b) := by
  have := valD_inN (fun i (_ : i < 16) => ofD_D hb i)
  rwa [valD_ofD] at this

theorem rbytes_run (D v : Nat → Int) : runFn S (exec S noC 60) (QF ((List.range 16).map fun i => (5, [(8, fo (u8 (v (2 * i)))), (13, fo (u8 (v (2 * i + 1))))]))) 37 [numA D] [] =
    some (key v, [], (List.range 16).flatMap fun i => [isV (u8 (IntKind.u8.wrap (D i))) (u8 (v (2 * i))), isV (u8 (IntKind.u8.wrap (shrV (D i) 8))) (u8 (v (2 * i + 1)))]) := by kernel_rfl
theorem byte_dig (x : Int) (hx : 0 ≤ x) (i : Nat) : IntKind.u8.wrap (dig x i) = byteAt x (2 * i) ∧ IntKind.u8.wrap (shrV (dig x i) 8) = byteAt x (2 * i + 1) := by
  obtain ⟨N, rfl⟩ := Int.eq_ofNat_of_zero_le hx
  have e1 : dig (N : Int) i = ((N / 65536 ^ i % 65536 : Nat) : Int) := by unfold dig pB; simp
  have e2 : byteAt (N : Int) (2 * i) = ((N / 65536 ^ i % 256 : Nat) : Int) := by
    unfold byteAt; rw [Nat.pow_mul, show 256 ^ 2 = 65536 from rfl]; simp
  have e3 : byteAt (N : Int) (2 * i + 1) = ((N / 65536 ^ i / 256 % 256 : Nat) : Int) := by
    unfold byteAt; rw [Nat.pow_add, Nat.pow_mul, show 256 ^ 2 = 65536 from rfl, Nat.pow_one, Nat.div_div_eq_div_mul]
    rw [← Int.natCast_ediv, show (256 : Int) = ((256 : Nat) : Int) from rfl, ← Int.natCast_emod]
  have hs : shrV (dig (N : Int) i) 8 = dig (N : Int) i / 256 := by
    have := shr_eq (dig (N : Int) i) 8 (by omega)
    simpa using this
  have hw : ∀ z : Int, IntKind.u8.wrap z = z % 256 := fun z => rfl
  rw [hs, hw, hw, e1, e2, e3]
  generalize N / 65536 ^ i = q
  omega
theorem rbytes_ok (x : Int) (hx : 0 ≤ x) : CallOK Try.prog 37 [num x] [] (key (byteAt x)) [] :=
  call_ok S_ok noC_ok 60 _ (rbytes_run (dig x) (byteAt x)) (by
    intro p hp
    obtain ⟨i, hi, hp⟩ := List.mem_flatMap.1 hp
    obtain ⟨h1, h2⟩ := byte_dig x hx i
    simp only [List.mem_cons, List.not_mem_nil, or_false] at hp
    rcases hp with rfl | rfl
    · exact isV_int h1
    · exact isV_int h2)

theorem rsmall_run (x : Int) (D : Nat → Int) : runFn S (exec S noC 60) (QF ((List.range 4).map fun i => (5, [(6, fo (u64 (D i)))]))) 30 [u64 x] [] =
    some (numA (fun i => if i < 4 then D i else 0), [], (List.range 4).map fun i => isV (u64 (andV (shrV x ((16 * i : Nat) : Int)) 65535)) (u64 (D i))) := by kernel_rfl
theorem rsmall_ok (x : Int) (hx : inW x) : CallOK Try.prog 30 [u64 x] [] (num x) [] := by
  have hd : ∀ i, i < 4 → andV (shrV x ((16 * i : Nat) : Int)) 65535 = dig x i := fun i hi => by
    obtain ⟨N, rfl⟩ := Int.eq_ofNat_of_zero_le hx.1
    have hN : N < 2 ^ 64 := by have := hx.2; omega
    rw [shr_eq _ _ (by omega), ← Int.natCast_ediv]
    have hlt : N / 2 ^ (16 * i) < 2 ^ 64 := Nat.lt_of_le_of_lt (Nat.div_le_self _ _) hN
    have := and_mask ((N / 2 ^ (16 * i) : Nat) : Int) 16 (by omega) ⟨Int.natCast_nonneg _, by have h3 := Int.ofNat_lt.2 hlt; rwa [show ((2 ^ 64 : Nat) : Int) = 18446744073709551616 from rfl] at h3⟩
    rw [show ((2 ^ 16 - 1 : Nat) : Int) = 65535 from rfl] at this
    rw [this]
    unfold dig pB
    rw [Nat.pow_mul]
    simp
  have h := call_ok S_ok noC_ok 60 _ (rsmall_run x (dig x)) (all_map fun i hi => isV_u64 (hd i (List.mem_range.1 hi)))
  have e : num x = numA (fun i => if i < 4 then dig x i else 0) := by
    unfold num numA
    congr 1
    apply List.map_congr_left
    intro i hi
    show u64 (dig x i) = u64 (if i < 4 then dig x i else 0)
    split
    · rfl
    · rename_i h4
      unfold dig
      have : pB 4 ≤ pB i := by
        unfold pB
        exact Int.ofNat_le.2 (Nat.pow_le_pow_right (by omega) (by omega))
      have h44 : pB 4 = 18446744073709551616 := by decide +kernel
      rw [Int.ediv_eq_zero_of_lt hx.1 (by have := hx.2; omega)]
      rfl
  rw [e]; exact h

theorem rprime_ok : CallOK Try.prog 29 [] [] (num 57896044618658097711785492504343953926634992332820282019728792003956564819949) [] :=
  call_ok S_ok noC_ok 60 [] (show runFn S (exec S noC 60) [] 29 [] [] = some (_, _, []) by kernel_rfl) (by simp only [all_nil])

def lstD (N : Nat) (D : Nat → Int) (e : Bool) : HB := .live ⟨cellsD N D, true, e, true⟩
theorem rall_run (D : Nat → Int) : runFn S (exec S noC 60) [] 45 [numA D] [] = some (.slice 0 0 16 none, [lstD 16 D false], []) := by kernel_rfl
theorem rall_ok (D : Nat → Int) : CallOK Try.prog 45 [numA D] [] (.slice 0 0 16 none) [lstD 16 D false] := call_ok S_ok noC_ok 60 [] (rall_run D) (by simp only [all_nil])

/-! ### Minus -/
mutual
def minX (A B : Nat → Int) : Nat → Int
  | 0 => A 0 + 65536 - B 0
  | n + 1 => A (n + 1) + 65536 - B (n + 1) - minB A B (n + 1)
def minB (A B : Nat → Int) : Nat → Int
  | 0 => 0
  | n + 1 => 1 - minX A B n / 65536
end
theorem minX_eq (A B : Nat → Int) (n : Nat) : minX A B n = A n + 65536 - B n - minB A B n := by cases n <;> simp [minX, minB]
def minD (A B : Nat → Int) (i : Nat) : Int := minX A B i % 65536
theorem rminus_run (A B X b q : Nat → Int) : runFn S (exec S noC 100) (QF ((List.range 16).flatMap fun i => [(5, [(9, fo (u64 (X i)))]), (6, [(2, fo (u64 (X i % 65536)))]), (7, [(1, fo (u64 (q i))), (2, fo (u64 (b (i + 1))))])])) 46 [numA A, numA B] [] =
    some (numA (fun i => X i % 65536), [], (List.range 16).flatMap fun i => [isV (u64 (wr (wr (wr (A i + 65536) - B i) - (if i = 0 then 0 else b i)))) (u64 (X i)), isV (u64 ((X i).tmod 65536)) (u64 (X i % 65536)), isV (u64 (wr ((X i).tdiv 65536))) (u64 (q i)), isV (u64 (wr (1 - q i))) (u64 (b (i + 1)))]) := by kernel_rfl
theorem minB_r {A B : Nat → Int} (hA : isD A) (hB : isD B) : ∀ n, 0 ≤ minB A B n ∧ minB A B n ≤ 1
  | 0 => by simp [minB]
  | n + 1 => by
    have ih := minB_r hA hB n
    have := hA n; have := hB n
    simp only [minB]; rw [minX_eq]; omega
theorem minD_val {A B : Nat → Int} (hA : isD A) (hB : isD B) : ∀ n, valD (minD A B) n = valD A n - valD B n + minB A B n * pB n
  | 0 => by simp [valD, minB]
  | n + 1 => by
    simp only [valD, pB_succ, minB]
    rw [minD_val hA hB n]
    unfold minD
    have e : minX A B n % 65536 = minX A B n - 65536 * (minX A B n / 65536) := by omega
    rw [e, minX_eq]
    generalize (A n + 65536 - B n - minB A B n) / 65536 = q
    generalize pB n = p
    grind
theorem rminus_ok (x y : Int) (hx : inN x) (hy : inN y) (h : y ≤ x) : CallOK Try.prog 46 [num x, num y] [] (num (x - y)) [] := by
  have hA := dig_D x
  have hB := dig_D y
  have hr := call_ok S_ok noC_ok 100 _ (rminus_run (dig x) (dig y) (minX (dig x) (dig y)) (minB (dig x) (dig y)) (fun i => minX (dig x) (dig y) i / 65536)) (by
    intro p hp
    obtain ⟨i, hi, hp⟩ := List.mem_flatMap.1 hp
    have h1 := hA i; have h2 := hB i; have h3 := minB_r hA hB i
    have hX : minX (dig x) (dig y) i = dig x i + 65536 - dig y i - minB (dig x) (dig y) i := minX_eq _ _ _
    simp only [List.mem_cons, List.not_mem_nil, or_false] at hp
    rcases hp with rfl | rfl | rfl | rfl
    · refine isV_u64 ?_
      have e : (if i = 0 then 0 else minB (dig x) (dig y) i) = minB (dig x) (dig y) i := by
        split
        · rename_i e; subst e; simp [minB]
        · rfl
      rw [e, wr_id (x := dig x i + 65536) (by omega) (by omega), wr_id (x := dig x i + 65536 - dig y i) (by omega) (by omega), wr_id (by omega) (by omega), hX]
    · exact isV_u64 (Int.tmod_eq_emod_of_nonneg (by omega))
    · refine isV_u64 ?_
      rw [Int.tdiv_eq_ediv_of_nonneg (by omega), wr_id (by omega) (by omega)]
    · refine isV_u64 ?_
      simp only [minB]
      rw [wr_id (by omega) (by omega)])
  have hv := minD_val hA hB 16
  rw [val_num hx, val_num hy, pB16] at hv
  have hd : ∀ i, i < 16 → 0 ≤ minD (dig x) (dig y) i ∧ minD (dig x) (dig y) i < 65536 := fun i _ => by unfold minD; omega
  have hin := valD_inN hd
  have hb := minB_r hA hB 16
  have e0 : valD (minD (dig x) (dig y)) 16 = x - y := by unfold inN at *; omega
  have e : num (x - y) = numA (minD (dig x) (dig y)) := by rw [numA_num hd, e0]
  rw [e]; exact hr

/-! ### Less -/
def numB (D : Nat → Int) : HB := .live ⟨cellsD 16 D, true, true, true⟩
def lessH (A B : Nat → Int) : Heap := [numB A, numB B]
def lessT (r : Bool) (i : Int) : T := [none, none, some (.ptr 0 0), some (.ptr 1 0), some (bo r), some (i64 i)] ++ List.replicate 18 none
noncomputable def at2 (A B : Nat → Int) (k : Nat) (j : Int) : Option AV := aindexAddr S.P (lessH A B) 30 (.ptr k 0) (i64 j)
noncomputable def ld2 (A B : Nat → Int) (k j : Nat) : Option AV := ldv S.P (lessH A B) 24 k j
theorem less_same (A B : Nat → Int) (i i' a b : Int) (j : Nat) :
    (exec S noC 60 (LB Try.f27 0) (lessT false i) (lessH A B) (QF [(2, [(1, fo (bo true))]), (4, [(1, fo (.ptr 0 j)), (2, fo (u64 a)), (4, fo (.ptr 1 j)), (5, fo (u64 b)), (6, fo (bo false))]), (3, [(1, fo (i64 i'))])])).map (fun r => (r.x, maskT [2, 3, 4, 5] r.t, r.h, r.obs)) =
    some (.normal, lessT false i', lessH A B, [isV (bo (decide (i ≥ 0))) (bo true), isO (at2 A B 0 i) (.ptr 0 j), isO (ld2 A B 0 j) (u64 a), isO (at2 A B 1 i) (.ptr 1 j), isO (ld2 A B 1 j) (u64 b), isV (bo (a != b)) (bo false), isV (i64 (w64 (i - 1))) (i64 i')]) := by kernel_rfl
theorem less_ret (A B : Nat → Int) (i a b : Int) (j : Nat) (r : Bool) :
    (exec S noC 60 (LB Try.f27 0) (lessT false i) (lessH A B) (QF [(2, [(1, fo (bo true))]), (4, [(1, fo (.ptr 0 j)), (2, fo (u64 a)), (4, fo (.ptr 1 j)), (5, fo (u64 b)), (6, fo (bo true))]), (5, [(1, fo (.ptr 0 j)), (2, fo (u64 a)), (4, fo (.ptr 1 j)), (5, fo (u64 b)), (6, fo (bo r))])])).map (fun r => (r.x, maskT [2, 3, 4, 5] r.t, r.h, r.obs)) =
    some (.ret, lessT r i, lessH A B, [isV (bo (decide (i ≥ 0))) (bo true), isO (at2 A B 0 i) (.ptr 0 j), isO (ld2 A B 0 j) (u64 a), isO (at2 A B 1 i) (.ptr 1 j), isO (ld2 A B 1 j) (u64 b), isV (bo (a != b)) (bo true),
      isO (at2 A B 0 i) (.ptr 0 j), isO (ld2 A B 0 j) (u64 a), isO (at2 A B 1 i) (.ptr 1 j), isO (ld2 A B 1 j) (u64 b), isV (bo (decide (a < b))) (bo r)]) := by kernel_rfl
theorem less_end (A B : Nat → Int) (i : Int) :
    (exec S noC 60 (LB Try.f27 0) (lessT false i) (lessH A B) (QF [(2, [(1, fo (bo false))])])).map (fun r => (r.x, maskT [2, 3, 4, 5] r.t, r.h, r.obs)) =
    some (.exit 0, lessT false i, lessH A B, [isV (bo (decide (i ≥ 0))) (bo false)]) := by kernel_rfl
theorem less_reg : regOK (LB Try.f27 0) = true := by kernel_rfl

theorem at2_ok (A B : Nat → Int) (k : Nat) (hk : k < 2) (j : Nat) (hj : j < 16) : isO (at2 A B k (j : Int)) (.ptr k j) := by
  have h : ∀ k, k = 0 ∨ k = 1 → at2 A B k (j : Int) = if 0 ≤ (j : Int) ∧ (j : Int) < 16 then some (.ptr k (0 + (j : Int).toNat * 1)) else none := fun k hk => by
    rcases hk with rfl | rfl <;> kernel_rfl
  rw [h k (by omega), if_pos ⟨by omega, by omega⟩]
  simp [isO]
theorem ld2_ok (A B : Nat → Int) (k : Nat) (hk : k < 2) (j : Nat) (hj : j < 16) : isO (ld2 A B k j) (u64 (if k = 0 then A j else B j)) := by
  have h0 : ld2 A B 0 j = ((List.range 16).map fun i => u64 (A i))[j]? := by kernel_rfl
  have h1 : ld2 A B 1 j = ((List.range 16).map fun i => u64 (B i))[j]? := by kernel_rfl
  have : k = 0 ∨ k = 1 := by omega
  rcases this with rfl | rfl
  · rw [h0]; simp [isO, hj]
  · rw [h1]; simp [isO, hj]

def lessD (A B : Nat → Int) : Nat → Bool
  | 0 => false
  | n + 1 => if A n = B n then lessD A B n else decide (A n < B n)
theorem lessD_iff {A B : Nat → Int} (hA : isD A) (hB : isD B) : ∀ n, lessD A B n = true ↔ valD A n < valD B n
  | 0 => by simp [lessD, valD]
  | n + 1 => by
    simp only [lessD, valD]
    have a1 := valD_range n (fun i _ => hA i)
    have b1 := valD_range n (fun i _ => hB i)
    have hp := pB_pos n
    split
    · rename_i e
      rw [lessD_iff hA hB n, e]; omega
    · rename_i e
      rw [decide_eq_true_eq]
      rcases Int.lt_or_gt_of_ne e with h | h
      · have : (A n + 1) * pB n ≤ B n * pB n := Int.mul_le_mul_of_nonneg_right (by omega) (by omega)
        rw [Int.add_mul] at this
        generalize A n * pB n = p at *
        generalize B n * pB n = q at *
        omega
      · have : (B n + 1) * pB n ≤ A n * pB n := Int.mul_le_mul_of_nonneg_right (by omega) (by omega)
        rw [Int.add_mul] at this
        generalize A n * pB n = p at *
        generalize B n * pB n = q at *
        omega
theorem lessD_val {A B : Nat → Int} (hA : isD A) (hB : isD B) (n : Nat) : lessD A B n = decide (valD A n < valD B n) := by
  rw [Bool.eq_iff_iff, lessD_iff hA hB n, decide_eq_true_eq]

theorem sel_all {k : Nat} {t : T} {h : Heap} {t' : T} {h' : Heap} (ids live : List Nat) (hv : pick ids h ids = some h') (hk : ids.take k = List.range k) (hn : nodupB ids = true) (ht : renT (pos ids) (maskT live t) = t') : Sel k t h t' h' := ⟨ids, live, hv, hk, hn, ht⟩

theorem less_tril (A B : Nat → Int) : ∀ n : Nat, n ≤ 16 → (∃ (i : Int) (m : Nat), TriL S.P (LB Try.f27 0) 2 m (lessT false ((n : Int) - 1)) (lessH A B) .ret (lessT (lessD A B n) i) (lessH A B)) ∨
    (lessD A B n = false ∧ ∃ m, TriL S.P (LB Try.f27 0) 2 m (lessT false ((n : Int) - 1)) (lessH A B) (.exit 0) (lessT false (-1)) (lessH A B))
  | 0, _ => by
    right
    refine ⟨rfl, 1, tril_end (by simp) ?_⟩
    exact tri_exec S_ok noC_ok 60 _ _ less_reg (less_end A B _) (by simp only [all_cons, all_nil, and_true]; exact isV_bo (by decide))
  | n + 1, hn => by
    have e1 : ((n + 1 : Nat) : Int) - 1 = (n : Int) := by omega
    rw [e1]
    have h0 := at2_ok A B 0 (by omega) n (by omega)
    have h1 := at2_ok A B 1 (by omega) n (by omega)
    have h2 := ld2_ok A B 0 (by omega) n (by omega)
    have h3 := ld2_ok A B 1 (by omega) n (by omega)
    simp only [if_true, Nat.one_ne_zero, if_false] at h2 h3
    by_cases e : A n = B n
    · have hb : TriOK S.P (LB Try.f27 0) (lessT false (n : Int)) (lessH A B) .normal (lessT false ((n : Int) - 1)) (lessH A B) :=
        tri_exec S_ok noC_ok 60 _ _ less_reg (less_same A B n ((n : Int) - 1) (A n) (B n) n) (by
          simp only [all_cons, all_nil, and_true]
          exact ⟨isV_bo (by simp), h0, h2, h1, h3, isV_bo (by simp [e]), isV_int (w64_id _ (by omega) (by omega))⟩)
      have hs : Sel 2 (lessT false ((n : Int) - 1)) (lessH A B) (lessT false ((n : Int) - 1)) (lessH A B) := sel_all [0, 1] [2, 3, 4, 5] rfl rfl rfl rfl
      simp only [lessD, if_pos e]
      rcases less_tril A B n (by omega) with ⟨i, m, ih⟩ | ⟨hf, m, ih⟩
      · exact .inl ⟨i, m + 1, tril_step hb hs ih⟩
      · exact .inr ⟨hf, m + 1, tril_step hb hs ih⟩
    · left
      refine ⟨n, 1, tril_end (by simp) ?_⟩
      simp only [lessD, if_neg e]
      exact tri_exec S_ok noC_ok 60 _ _ less_reg (less_ret A B n (A n) (B n) n (decide (A n < B n))) (by
        simp only [all_cons, all_nil, and_true]
        exact ⟨isV_bo (by simp), h0, h2, h1, h3, isV_bo (by simp [e]), h0, h2, h1, h3, isV_bo rfl⟩)

def lessT0 (A B : Nat → Int) : T := [some (numA A), some (numA B), some (.ptr 0 0), some (.ptr 1 0), some (bo false), some (i64 15)] ++ List.replicate 18 un
theorem rless_run1 (A B : Nat → Int) (r : Bool) (i : Int) : runFn S (exec S noC 60) [(2, .code .ret (lessT r i) (lessH A B))] 27 [numA A, numA B] [] = some (bo r, [], [TriOK S.P (.loop (LB Try.f27 0)) (lessT0 A B) (lessH A B) .ret (lessT r i) (lessH A B)]) := by kernel_rfl
theorem rless_run2 (A B : Nat → Int) (i : Int) : runFn S (exec S noC 60) [(2, .code (.exit 0) (lessT false i) (lessH A B))] 27 [numA A, numA B] [] = some (bo false, [], [TriOK S.P (.loop (LB Try.f27 0)) (lessT0 A B) (lessH A B) (.exit 0) (lessT false i) (lessH A B)]) := by kernel_rfl
theorem rless_ok (x y : Int) (hx : inN x) (hy : inN y) : CallOK Try.prog 27 [num x, num y] [] (bo (decide (x < y))) [] := by
  have e : decide (x < y) = lessD (dig x) (dig y) 16 := by rw [lessD_val (dig_D x) (dig_D y), val_num hx, val_num hy]
  rw [e]
  rcases less_tril (dig x) (dig y) 16 (by omega) with ⟨i, m, h⟩ | ⟨hf, m, h⟩
  · exact call_ok S_ok noC_ok 60 _ (rless_run1 _ _ _ i) (by
      simp only [all_cons, all_nil, and_true]
      exact TriOK.pre [2, 3, 4, 5] (tril_tri h))
  · rw [hf]
    exact call_ok S_ok noC_ok 60 _ (rless_run2 _ _ (-1)) (by
      simp only [all_cons, all_nil, and_true]
      exact TriOK.pre [2, 3, 4, 5] (tril_tri h))

end Go.Proofs.Ytmbeonieabofaaa
