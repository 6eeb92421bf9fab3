import Derived.Test.YtmbeonieabofaaaFw
set_option linter.unusedVariables false
set_option linter.unusedSimpArgs false
namespace Go.Proofs.Ytmbeonieabofaaa
open Go.Ab

def mulT0 (A B : Nat → Int) : T := [some (numA A), some (numA B), some (.ptr 0 0), some (.ptr 1 0), some (.ptr 2 0), some (.slice 3 0 31 (some 31)), some (i64 0), un, some (.slice 3 0 31 (some 31))] ++ List.replicate 30 un
def mulR (more e : Bool) (E : Nat → Int) (top : Int) : HB := if more then lstD 32 (extD 31 E top) false else lstD 31 E e
theorem rmul_run (A B D E : Nat → Int) (top y : Int) (more : Bool) : runFn S (exec S noC 100) ((3, .code (.exit 0) (mulT 16) (mulH A B D)) :: QF [(9, [(1, .call (carV 31 more) (carF 31 E true more top)), (2, .call (num y) [mulR more true E top])])]) 16 [numA A, numA B] [] =
    some (num y, [], [TriOK S.P (.loop (LB Try.f16 0)) (mulT0 A B) (mulH A B (fun _ => 0)) (.exit 0) (mulT 16) (mulH A B D), CallOK S.P 42 [.slice 0 0 31 (some 31)] [lstD 31 D true] (carV 31 more) (carF 31 E true more top),
      CallOK S.P 39 [.slice 0 0 (if more then 32 else 31) none] [mulR more true E top] (num y) [mulR more true E top]]) := by cases more <;> kernel_rfl

def mulS (A B : Nat → Int) : Nat → Nat → Int
  | 0, _ => 0
  | i + 1, j => mulS A B i j + (if i ≤ j ∧ j < i + 16 then A i * B (j - i) else 0)
theorem mul_dig {A B : Nat → Int} (hA : isD A) (hB : isD B) (i k : Nat) : 0 ≤ A i * B k ∧ A i * B k ≤ 4294836225 := by
  have h1 := hA i
  have h2 := hB k
  refine ⟨Int.mul_nonneg h1.1 h2.1, ?_⟩
  have h3 : A i * B k ≤ 65535 * B k := Int.mul_le_mul_of_nonneg_right (by omega) h2.1
  omega
theorem mulS_r {A B : Nat → Int} (hA : isD A) (hB : isD B) : ∀ n j, 0 ≤ mulS A B n j ∧ mulS A B n j ≤ 4294836225 * n
  | 0, j => by simp [mulS]
  | n + 1, j => by
    have ih := mulS_r hA hB n j
    simp only [mulS]
    have := mul_dig hA hB n (j - n)
    split <;> omega
theorem mulW_S {A B : Nat → Int} (hA : isD A) (hB : isD B) : ∀ n, n ≤ 16 → ∀ j, mulW A B n j = mulS A B n j
  | 0, _, j => rfl
  | n + 1, hn, j => by
    have ih := mulW_S hA hB n (by omega) j
    have h1 := mulS_r hA hB n j
    have h2 := mul_dig hA hB n (j - n)
    have h3 : (n : Int) ≤ 15 := by omega
    simp only [mulW, mulS, ih]
    by_cases h : n ≤ j
    · by_cases h' : j < n + 16
      · rw [if_pos h, if_pos h', if_pos ⟨h, h'⟩, wr_id (x := A n * B (j - n)) (by omega) (by omega), wr_id (by omega) (by omega)]
      · rw [if_pos h, if_neg h', if_neg (by omega)]; omega
    · rw [if_neg h, if_neg (by omega)]; omega

theorem valD_zero {D : Nat → Int} : ∀ n, (∀ i, i < n → D i = 0) → valD D n = 0
  | 0, _ => rfl
  | n + 1, h => by simp only [valD]; rw [valD_zero n (fun i hi => h i (by omega)), h n (by omega)]; simp
theorem valD_scale (a : Int) (B : Nat → Int) : ∀ n, valD (fun i => a * B i) n = a * valD B n
  | 0 => by simp [valD]
  | n + 1 => by simp only [valD]; rw [valD_scale a B n, Int.mul_add, Int.mul_assoc]
theorem row_val (a : Int) (B : Nat → Int) (i : Nat) (hi : i ≤ 15) : valD (fun j => if i ≤ j ∧ j < i + 16 then a * B (j - i) else 0) 31 = a * valD B 16 * pB i := by
  have h1 := valD_split (fun j => if i ≤ j ∧ j < i + 16 then a * B (j - i) else 0) i (31 - i)
  have h2 := valD_split (fun j => if i ≤ i + j ∧ i + j < i + 16 then a * B (i + j - i) else 0) 16 (15 - i)
  rw [show i + (31 - i) = 31 by omega] at h1
  rw [show 16 + (15 - i) = 31 - i by omega] at h2
  rw [h1, h2, valD_zero i (fun j hj => by rw [if_neg (by omega)]), valD_zero (15 - i) (fun j hj => by rw [if_neg (by omega)]), valD_congr (E := fun j => a * B j) 16 (fun j hj => by show (if i ≤ i + j ∧ i + j < i + 16 then a * B (i + j - i) else 0) = a * B j; rw [if_pos (by omega), show i + j - i = j by omega]), valD_scale]
  simp [Int.mul_comm]
theorem mulS_val (A B : Nat → Int) : ∀ n, n ≤ 16 → valD (mulS A B n) 31 = valD A n * valD B 16
  | 0, _ => by rw [valD_zero (D := mulS A B 0) 31 (fun i _ => rfl)]; simp [valD]
  | n + 1, hn => by
    have h := valD_add (mulS A B n) (fun j => if n ≤ j ∧ j < n + 16 then A n * B (j - n) else 0) 31
    have e : mulS A B (n + 1) = fun j => mulS A B n j + (if n ≤ j ∧ j < n + 16 then A n * B (j - n) else 0) := by funext j; rfl
    rw [e, h, mulS_val A B n (by omega), row_val _ _ _ (by omega)]
    simp only [valD]
    rw [Int.add_mul]
    generalize valD B 16 = b
    generalize pB n = p
    grind

theorem rmul_ok (x y : Int) (hx : inN x) (hy : inN y) : CallOK Try.prog 16 [num x, num y] [] (num (rmod (x * y))) [] := by
  have hA := dig_D x
  have hB := dig_D y
  have hG : isG (mulW (dig x) (dig y) 16) := fun j => by
    rw [mulW_S hA hB 16 (by omega)]
    have := mulS_r hA hB 16 j
    omega
  have hv : valD (mulW (dig x) (dig y) 16) 31 = x * y := by
    rw [valD_congr 31 (fun i _ => mulW_S hA hB 16 (by omega) i), mulS_val _ _ 16 (by omega), val_num hx, val_num hy]
  have hc := carD_val (mulW (dig x) (dig y) 16) 31
  have hr := valD_range 31 (fun i _ => carD_D (mulW (dig x) (dig y) 16) i)
  have hcr := carC_r hG 31
  have hxy : x * y < 13407807929942597099574024998205846127479365820592393377723561443721764030073546976801874298166903427690031858186486050853753882811946569946433649006084096 := by
    have h1 : x * y ≤ 115792089237316195423570985008687907853269984665640564039457584007913129639935 * y := Int.mul_le_mul_of_nonneg_right (by have := hx.2; omega) hy.1
    have := hy.2
    omega
  have hp : pB 31 = 204586912993508866875824356051724947013540127877691549342705710506008362275292159680204380770369009821930417757972504438076078534117837065833032974336 := by decide +kernel
  rw [hv] at hc
  rw [hp] at hc hr
  have hc1 : carC (mulW (dig x) (dig y) 16) 31 < 65536 := by omega
  have hloop := TriOK.pre (P := S.P) [2, 3, 4, 5, 6] (t := mulT0 (dig x) (dig y)) (tri_exec S_ok noC_ok 100 [] _ mul_reg (mul_row (dig x) (dig y)) (by simp only [all_nil]))
  obtain ⟨more, hm⟩ : ∃ m, m = decide (0 < carC (mulW (dig x) (dig y) 16) 31) := ⟨_, rfl⟩
  have hcar := car_ok _ hG 31 (.inr rfl) hc1 true more hm
  have hmod : CallOK Try.prog 39 [.slice 0 0 (if more then 32 else 31) none] [mulR more true (carD (mulW (dig x) (dig y) 16)) (carC (mulW (dig x) (dig y) 16) 31)] (num (rmod (x * y))) [mulR more true (carD (mulW (dig x) (dig y) 16)) (carC (mulW (dig x) (dig y) 16) 31)] := by
    cases more with
    | true =>
      have hE : isD (extD 31 (carD (mulW (dig x) (dig y) 16)) (carC (mulW (dig x) (dig y) 16) 31)) := fun i => by
        unfold extD; split
        · exact carD_D _ i
        · exact ⟨hcr.1, hc1⟩
      have h := mod_ok 32 (.inr (.inr (.inr rfl))) _ hE false
      have e : valD (extD 31 (carD (mulW (dig x) (dig y) 16)) (carC (mulW (dig x) (dig y) 16) 31)) 32 = x * y := by
        show valD (extD 31 _ _) 31 + extD 31 _ _ 31 * pB 31 = _
        rw [valD_congr (D := extD 31 (carD (mulW (dig x) (dig y) 16)) (carC (mulW (dig x) (dig y) 16) 31)) (E := carD (mulW (dig x) (dig y) 16)) 31 (fun i hi => by simp [extD, hi]), hp]
        simp only [extD, Nat.lt_irrefl, if_false]
        exact hc
      rw [e] at h
      exact h
    | false =>
      have h := mod_ok 31 (.inr (.inr (.inl rfl))) _ (carD_D (mulW (dig x) (dig y) 16)) true
      have h0 : carC (mulW (dig x) (dig y) 16) 31 = 0 := by simp at hm; omega
      rw [h0] at hc
      rw [show valD (carD (mulW (dig x) (dig y) 16)) 31 = x * y by omega] at h
      exact h
  exact call_ok S_ok noC_ok 100 _ (rmul_run (dig x) (dig y) (mulW (dig x) (dig y) 16) (carD (mulW (dig x) (dig y) 16)) _ _ more) (by
    simp only [all_cons, all_nil, and_true]
    exact ⟨hloop, call_cap hcar rfl rfl (by simp [cellsD]), hmod⟩)

end Go.Proofs.Ytmbeonieabofaaa
