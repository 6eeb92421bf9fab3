import Derived.Test.YtmbeonieabofaaaSys
set_option linter.unusedVariables false
set_option linter.unusedSimpArgs false
namespace Go.Proofs.Ytmbeonieabofaaa
open Go.Ab

def u64 (n : Int) : AV := .raw (.int .u64 n)
def i64 (n : Int) : AV := .raw (.int .i64 n)
def u8 (n : Int) : AV := .raw (.int .u8 n)
def bo (b : Bool) : AV := .raw (.bool b)
def un : Option AV := some (.raw undef)
def fo (v : AV) : Forced := .op v []
def QF (l : List (Nat × List (Nat × Forced))) : FQ := l.map fun r => (r.1, .ops r.2)
def isO (o : Option AV) (v : AV) : Prop := o.map (·, ([] : Delta)) = some (v, [])
def isV (x v : AV) : Prop := some (x, ([] : Delta)) = some (v, [])
theorem isV_int {k : IntKind} {a b : Int} (h : a = b) : isV (.raw (.int k a)) (.raw (.int k b)) := by unfold isV; rw [h]
theorem isV_u64 {a b : Int} (h : a = b) : isV (u64 a) (u64 b) := isV_int h
theorem isV_bo {a b : Bool} (h : a = b) : isV (bo a) (bo b) := by unfold isV; rw [h]
theorem all_cons {p : Prop} {l : Obs} : Obs.all (p :: l) ↔ p ∧ Obs.all l := by unfold Obs.all; exact List.forall_mem_cons
theorem all_nil : Obs.all [] ↔ True := by simp [Obs.all]
theorem all_ite {b : Bool} {l m : Obs} : Obs.all (if b = true then l else m) ↔ (b = true → Obs.all l) ∧ (b = false → Obs.all m) := by cases b <;> simp

def shrV (b : Int) (d : Int) : Int := b.fdiv (2 ^ (min d.toNat 64))
def andV (a b : Int) : Int := IntKind.u64.wrap (BitVec.ofInt 64 a &&& BitVec.ofInt 64 b).toNat
def wr (n : Int) : Int := IntKind.u64.wrap n
theorem wr_eq (n : Int) : wr n = n % 18446744073709551616 := rfl

theorem mul64_run (x y x0 x1 y0 y1 w0 t w1 w2 w3 hi lo : Int) :
    runFn S (exec S noC 60) (QF [(1, [(1, fo (u64 x0))]), (2, [(1, fo (u64 x1))]), (3, [(1, fo (u64 y0))]), (4, [(1, fo (u64 y1))]), (5, [(2, fo (u64 w0))]), (6, [(5, fo (u64 t))]), (7, [(1, fo (u64 w1))]), (8, [(1, fo (u64 w2))]), (9, [(4, fo (u64 w3))]), (10, [(7, fo (u64 hi))]), (11, [(2, fo (u64 lo))])]) 40 [u64 x, u64 y] [] =
    some (.tup [u64 hi, u64 lo], [], [isV (u64 (andV x 4294967295)) (u64 x0), isV (u64 (shrV x 32)) (u64 x1), isV (u64 (andV y 4294967295)) (u64 y0), isV (u64 (shrV y 32)) (u64 y1), isV (u64 (wr (x0 * y0))) (u64 w0),
      isV (u64 (wr (wr (x1 * y0) + shrV w0 32))) (u64 t), isV (u64 (andV t 4294967295)) (u64 w1), isV (u64 (shrV t 32)) (u64 w2), isV (u64 (wr (w1 + wr (x0 * y1)))) (u64 w3), isV (u64 (wr (wr (wr (x1 * y1) + w2) + shrV w3 32))) (u64 hi), isV (u64 (wr (x * y))) (u64 lo)]) := by
  kernel_rfl


abbrev M : Int := 18446744073709551616
def inW (x : Int) : Prop := 0 ≤ x ∧ x < 18446744073709551616

theorem and_mask (x : Int) (k : Nat) (hk : k ≤ 64) (hx : inW x) : andV x (((2 ^ k - 1 : Nat)) : Int) = x % ((2 ^ k : Nat) : Int) := by
  obtain ⟨X, rfl⟩ := Int.eq_ofNat_of_zero_le hx.1
  have hX : X < 2 ^ 64 := by have := hx.2; omega
  have h2 : 2 ^ k ≤ 2 ^ 64 := Nat.pow_le_pow_right (by omega) hk
  have hp : 0 < 2 ^ k := Nat.pow_pos (by omega)
  unfold andV
  rw [BitVec.ofInt_natCast, BitVec.ofInt_natCast, BitVec.toNat_and, BitVec.toNat_ofNat, BitVec.toNat_ofNat, Nat.mod_eq_of_lt hX, Nat.mod_eq_of_lt (by omega), Nat.and_two_pow_sub_one_eq_mod]
  have : X % 2 ^ k < 2 ^ k := Nat.mod_lt _ hp
  show wr _ = _
  rw [wr_eq, Int.natCast_emod]
  have h3 : ((X % 2 ^ k : Nat) : Int) = (X : Int) % ((2 ^ k : Nat) : Int) := Int.natCast_emod X (2 ^ k)
  rw [← h3]
  omega
theorem and32 (x : Int) (hx : inW x) : andV x 4294967295 = x % 4294967296 := and_mask x 32 (by omega) hx
theorem and63 (x : Int) (hx : inW x) : andV x 9223372036854775807 = x % 9223372036854775808 := and_mask x 63 (by omega) hx
theorem shr_eq (x : Int) (k : Nat) (hk : k ≤ 64) : shrV x (k : Int) = x / ((2 ^ k : Nat) : Int) := by
  unfold shrV
  rw [Int.toNat_natCast, Nat.min_eq_left hk, Int.fdiv_eq_ediv_of_nonneg _ (Int.le_of_lt (Int.pow_pos (by omega)))]
  simp
theorem shr32 (x : Int) : shrV x 32 = x / 4294967296 := shr_eq x 32 (by omega)
theorem shr63 (x : Int) : shrV x 63 = x / 9223372036854775808 := shr_eq x 63 (by omega)

theorem mul_lt32 {a b : Int} (ha : 0 ≤ a) (ha' : a < 4294967296) (hb : 0 ≤ b) (hb' : b < 4294967296) : 0 ≤ a * b ∧ a * b ≤ 18446744065119617025 := by
  refine ⟨Int.mul_nonneg ha hb, ?_⟩
  have h1 : a * b ≤ 4294967295 * b := Int.mul_le_mul_of_nonneg_right (by omega) hb
  omega

theorem mul64_math (x y : Int) (hx : inW x) (hy : inW y) : ∃ x0 x1 y0 y1 w0 t w1 w2 w3 : Int,
    andV x 4294967295 = x0 ∧ shrV x 32 = x1 ∧ andV y 4294967295 = y0 ∧ shrV y 32 = y1 ∧ wr (x0 * y0) = w0 ∧ wr (wr (x1 * y0) + shrV w0 32) = t ∧ andV t 4294967295 = w1 ∧ shrV t 32 = w2 ∧ wr (w1 + wr (x0 * y1)) = w3 ∧
      wr (wr (wr (x1 * y1) + w2) + shrV w3 32) = x * y / 18446744073709551616 := by
  refine ⟨_, _, _, _, _, _, _, _, _, rfl, rfl, rfl, rfl, rfl, rfl, rfl, rfl, rfl, ?_⟩
  rw [and32 x hx, and32 y hy, shr32 x, shr32 y]
  obtain ⟨hx0, hx1⟩ := hx
  obtain ⟨hy0, hy1⟩ := hy
  have ex : x = x % 4294967296 + 4294967296 * (x / 4294967296) := by omega
  have ey : y = y % 4294967296 + 4294967296 * (y / 4294967296) := by omega
  generalize hA : x % 4294967296 = a at *
  generalize hB : x / 4294967296 = b at *
  generalize hC : y % 4294967296 = c at *
  generalize hD : y / 4294967296 = d at *
  have a0 : 0 ≤ a ∧ a < 4294967296 := by omega
  have b0 : 0 ≤ b ∧ b < 4294967296 := by omega
  have c0 : 0 ≤ c ∧ c < 4294967296 := by omega
  have d0 : 0 ≤ d ∧ d < 4294967296 := by omega
  have p1 := mul_lt32 a0.1 a0.2 c0.1 c0.2
  have p2 := mul_lt32 b0.1 b0.2 c0.1 c0.2
  have p3 := mul_lt32 a0.1 a0.2 d0.1 d0.2
  have p4 := mul_lt32 b0.1 b0.2 d0.1 d0.2
  have exy : x * y = a * c + 4294967296 * (b * c) + 4294967296 * (a * d) + 18446744073709551616 * (b * d) := by rw [ex, ey]; grind
  rw [exy]
  generalize a * c = P at *
  generalize b * c = Qq at *
  generalize a * d = R at *
  generalize b * d = U at *
  have e1 : wr P = P := by rw [wr_eq]; omega
  have e2 : wr Qq = Qq := by rw [wr_eq]; omega
  have e3 : wr R = R := by rw [wr_eq]; omega
  have e4 : wr U = U := by rw [wr_eq]; omega
  rw [e1, e2, e3, e4]
  simp only [shr32]
  have e5 : wr (Qq + P / 4294967296) = Qq + P / 4294967296 := by rw [wr_eq]; omega
  rw [e5, and32 _ (by unfold inW; omega)]
  have e6 : wr ((Qq + P / 4294967296) % 4294967296 + R) = (Qq + P / 4294967296) % 4294967296 + R := by rw [wr_eq]; omega
  have e7 : wr (U + (Qq + P / 4294967296) / 4294967296) = U + (Qq + P / 4294967296) / 4294967296 := by rw [wr_eq]; omega
  rw [e6, e7, wr_eq]
  omega

theorem mul64_ok (x y : Int) (hx : inW x) (hy : inW y) : CallOK Try.prog 40 [u64 x, u64 y] [] (.tup [u64 (x * y / 18446744073709551616), u64 (x * y % 18446744073709551616)]) [] := by
  obtain ⟨x0, x1, y0, y1, w0, t, w1, w2, w3, h1, h2, h3, h4, h5, h6, h7, h8, h9, h10⟩ := mul64_math x y hx hy
  refine call_ok S_ok noC_ok 60 _ (mul64_run x y x0 x1 y0 y1 w0 t w1 w2 w3 _ _) ?_
  simp only [all_cons, all_nil, and_true]
  exact ⟨isV_u64 h1, isV_u64 h2, isV_u64 h3, isV_u64 h4, isV_u64 h5, isV_u64 h6, isV_u64 h7, isV_u64 h8, isV_u64 h9, isV_u64 h10, isV_u64 (wr_eq _)⟩

end Go.Proofs.Ytmbeonieabofaaa
