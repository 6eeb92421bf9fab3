import Derived.Test.YtmbeonieabofaaaFf
set_option linter.unusedVariables false
set_option linter.unusedSimpArgs false
namespace Go.Proofs.Ytmbeonieabofaaa
open Go.Ab

/-! ### bytes -/
def byteAt (n : Int) (i : Nat) : Int := n / ((256 ^ i : Nat) : Int) % 256
def key (v : Nat → Int) : AV := .agg ((List.range 32).map fun i => u8 (v i))

def bytesQ (v : Nat → Int) : FQ := QF ((List.range 32).map fun i => (4, [(10, fo (u8 (v i)))]))
def bytesO (a b c d : Int) (v : Nat → Int) : Obs := (List.range 32).map fun i => isV (u8 (IntKind.u8.wrap (shrV ([a, b, c, d].getD (i / 8) 0) ((8 * (i % 8) : Nat) : Int)))) (u8 (v i))
theorem bytes_run (a b c d : Int) (v : Nat → Int) : runFn S (exec S C2 100) (bytesQ v) 34 [.agg [u64 a, u64 b, u64 c, u64 d]] [] = some (key v, [], bytesO a b c d v) := by kernel_rfl


theorem nat_byte (N a b : Nat) (hb : b + 8 ≤ 64) : (N / 2 ^ a % 2 ^ 64) / 2 ^ b % 256 = N / 2 ^ (a + b) % 256 := by
  have e : 2 ^ 64 = 2 ^ b * 2 ^ (64 - b) := by rw [← Nat.pow_add]; congr 1; omega
  rw [e, Nat.mod_mul_right_div_self, Nat.mod_mod_of_dvd _ (by rw [show (256 : Nat) = 2 ^ 8 from rfl]; exact Nat.pow_dvd_pow 2 (by omega)), Nat.div_div_eq_div_mul, ← Nat.pow_add]

theorem limb_at (N : Nat) (j : Nat) (hj : j < 4) : (limbs (N : Int)).getD j 0 = ((N / 2 ^ (64 * j) % 2 ^ 64 : Nat) : Int) := by
  have : j = 0 ∨ j = 1 ∨ j = 2 ∨ j = 3 := by omega
  rcases this with rfl | rfl | rfl | rfl
  · show (N : Int) % 18446744073709551616 = _; simp
  · show (N : Int) / 18446744073709551616 % 18446744073709551616 = _; simp
  · show (N : Int) / 340282366920938463463374607431768211456 % 18446744073709551616 = _; simp
  · show (N : Int) / 6277101735386680763835789423207666416102355444464034512896 % 18446744073709551616 = _; simp

theorem byte_limb (N : Nat) (i : Nat) (hi : i < 32) : IntKind.u8.wrap (shrV ((limbs (N : Int)).getD (i / 8) 0) ((8 * (i % 8) : Nat) : Int)) = byteAt N i := by
  rw [limb_at N (i / 8) (by omega), shr_eq _ _ (by omega)]
  have e : (((N / 2 ^ (64 * (i / 8)) % 2 ^ 64 : Nat) : Int) / ((2 ^ (8 * (i % 8)) : Nat) : Int)) % 256 = byteAt N i := by
    have h := nat_byte N (64 * (i / 8)) (8 * (i % 8)) (by omega)
    rw [show 64 * (i / 8) + 8 * (i % 8) = 8 * i by omega, Nat.pow_mul 2 8 i] at h
    unfold byteAt
    rw [← Int.natCast_ediv, ← Int.natCast_ediv]
    rw [show (256 : Int) = ((256 : Nat) : Int) from rfl, ← Int.natCast_emod, ← Int.natCast_emod]
    exact congrArg Int.ofNat h
  rw [← e]
  rfl

theorem bytes_ok (x : Int) (hx : 0 ≤ x) : CallOK Try.prog 34 [el x] [] (key (byteAt x)) [] := by
  obtain ⟨N, rfl⟩ := Int.eq_ofNat_of_zero_le hx
  refine call_ok S_ok C2_ok 100 _ (bytes_run _ _ _ _ (byteAt N)) ?_
  intro p hp
  unfold bytesO at hp
  obtain ⟨i, hi, rfl⟩ := List.mem_map.1 hp
  unfold isV u8
  rw [← byte_limb N i (List.mem_range.1 hi)]
  rfl

end Go.Proofs.Ytmbeonieabofaaa
