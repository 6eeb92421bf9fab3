import Derived.Test.YtmbeonieabofaaaFg
set_option linter.unusedVariables false
set_option linter.unusedSimpArgs false
namespace Go.Proofs.Ytmbeonieabofaaa
open Go.Ab

/-! ### Of -/
def accS (b : Nat → Int) (base : Nat) : Nat → Int
  | 0 => 0
  | n + 1 => accS b base n + b (base + n) * ((2 ^ (8 * n) : Nat) : Int)
def orV (a b : Int) : Int := IntKind.u64.wrap (BitVec.ofInt 64 a ||| BitVec.ofInt 64 b).toNat
def shlV (b d : Int) : Int := IntKind.u64.wrap (b * 2 ^ (min d.toNat 64))
def partAt (b : Nat → Int) (i : Nat) : Int := accS b (8 * (i / 8)) (i % 8 + 1)
def prevAt (b : Nat → Int) (i : Nat) : Int := if i % 8 = 0 then 0 else partAt b (i - 1)
def ofQ (b : Nat → Int) : FQ := QF ((List.range 32).map fun i => (5, [(10, fo (u64 (partAt b i)))]))
def ofO (b : Nat → Int) : Obs := (List.range 32).map fun i => isV (u64 (orV (prevAt b i) (shlV (IntKind.u64.wrap (b i)) ((8 * (i % 8) : Nat) : Int)))) (u64 (partAt b i))

theorem of_run (b : Nat → Int) : runFn S (exec S C2 100) (ofQ b) 8 [key b] [] =
    some (el (lessV (valL [partAt b 7, partAt b 15, partAt b 23, andV (partAt b 31) 9223372036854775807])), [], ofO b ++ [inW (partAt b 7), inW (partAt b 15), inW (partAt b 23), inW (andV (partAt b 31) 9223372036854775807)]) := by
  kernel_rfl


def isKey (b : Nat → Int) : Prop := ∀ i, 0 ≤ b i ∧ b i < 256
def numK (b : Nat → Int) : Int := accS b 0 32

theorem accS_nat {b : Nat → Int} (hb : isKey b) (base : Nat) : ∀ n, ∃ N : Nat, accS b base n = N ∧ N < 2 ^ (8 * n)
  | 0 => ⟨0, rfl, by simp⟩
  | n + 1 => by
    obtain ⟨N, h1, h2⟩ := accS_nat hb base n
    obtain ⟨B, hB⟩ := Int.eq_ofNat_of_zero_le (hb (base + n)).1
    have hB2 : B < 256 := by have := (hb (base + n)).2; omega
    refine ⟨N + B * 2 ^ (8 * n), by simp only [accS]; rw [h1, hB]; simp, ?_⟩
    rw [show 8 * (n + 1) = 8 * n + 8 by omega, Nat.pow_add]
    have : B * 2 ^ (8 * n) ≤ 255 * 2 ^ (8 * n) := Nat.mul_le_mul_right _ (by omega)
    omega

theorem accS_add (b : Nat → Int) (base m : Nat) : ∀ n, accS b base (m + n) = accS b base m + ((2 ^ (8 * m) : Nat) : Int) * accS b (base + m) n
  | 0 => by simp [accS]
  | n + 1 => by
    rw [← Nat.add_assoc]
    simp only [accS]
    rw [accS_add b base m n, Int.mul_add, Nat.add_assoc base m n, show 8 * (m + n) = 8 * m + 8 * n by omega, Nat.pow_add, Int.natCast_mul]
    generalize ((2 ^ (8 * m) : Nat) : Int) = A
    generalize ((2 ^ (8 * n) : Nat) : Int) = Bq
    grind

theorem or_step (N B k : Nat) (hN : N < 2 ^ (8 * k)) (hB : B < 256) (hk : k < 8) : orV (N : Int) (shlV (IntKind.u64.wrap (B : Int)) ((8 * k : Nat) : Int)) = ((N + B * 2 ^ (8 * k) : Nat) : Int) := by
  have h1 : IntKind.u64.wrap (B : Int) = (B : Int) := by show wr _ = _; rw [wr_eq]; omega
  have hlt : B * 2 ^ (8 * k) < 2 ^ 64 := by
    have h2 : B * 2 ^ (8 * k) ≤ 255 * 2 ^ (8 * k) := Nat.mul_le_mul_right _ (by omega)
    have h3 : 2 ^ (8 * k) ≤ 2 ^ 56 := Nat.pow_le_pow_right (by omega) (by omega)
    omega
  have h4 : N < 2 ^ 64 := Nat.lt_of_lt_of_le hN (Nat.pow_le_pow_right (by omega) (by omega))
  have e1 : shlV (B : Int) ((8 * k : Nat) : Int) = ((B * 2 ^ (8 * k) : Nat) : Int) := by
    unfold shlV
    rw [Int.toNat_natCast, Nat.min_eq_left (by omega)]
    show wr _ = _
    rw [wr_eq]
    have : (B : Int) * 2 ^ (8 * k) = ((B * 2 ^ (8 * k) : Nat) : Int) := by simp
    rw [this]
    omega
  rw [h1, e1]
  unfold orV
  rw [BitVec.ofInt_natCast, BitVec.ofInt_natCast, BitVec.toNat_or, BitVec.toNat_ofNat, BitVec.toNat_ofNat, Nat.mod_eq_of_lt h4, Nat.mod_eq_of_lt hlt]
  have e2 : N ||| B * 2 ^ (8 * k) = N + B * 2 ^ (8 * k) := by
    rw [Nat.or_comm, ← Nat.shiftLeft_eq, ← Nat.shiftLeft_add_eq_or_of_lt hN, Nat.add_comm]
  rw [e2]
  have h5 : N + B * 2 ^ (8 * k) < 2 ^ 64 := by
    rw [← e2]; exact Nat.or_lt_two_pow h4 hlt
  show wr _ = _
  rw [wr_eq]; omega

theorem part_ob {b : Nat → Int} (hb : isKey b) (i : Nat) : orV (prevAt b i) (shlV (IntKind.u64.wrap (b i)) ((8 * (i % 8) : Nat) : Int)) = partAt b i := by
  have hp : prevAt b i = accS b (8 * (i / 8)) (i % 8) := by
    unfold prevAt
    split
    · rename_i h; rw [h]; rfl
    · unfold partAt
      rw [show (i - 1) / 8 = i / 8 by omega, show (i - 1) % 8 + 1 = i % 8 by omega]
  obtain ⟨N, h1, h2⟩ := accS_nat hb (8 * (i / 8)) (i % 8)
  obtain ⟨B, hB⟩ := Int.eq_ofNat_of_zero_le (hb i).1
  rw [hp, h1, hB, or_step N B (i % 8) h2 (by have := (hb i).2; omega) (by omega)]
  unfold partAt
  simp only [accS]
  rw [h1, show 8 * (i / 8) + i % 8 = i by omega, hB]
  simp

theorem part_in {b : Nat → Int} (hb : isKey b) (j : Nat) : inW (accS b j 8) := by
  obtain ⟨N, h1, h2⟩ := accS_nat hb j 8
  rw [h1]; unfold inW; omega

theorem numK_val (b : Nat → Int) : numK b = valL [partAt b 7, partAt b 15, partAt b 23, partAt b 31] := by
  show accS b 0 (8 + (8 + (8 + 8))) = _
  rw [accS_add, accS_add, accS_add]
  simp only [valL, partAt]
  simp

theorem of_ok (b : Nat → Int) (hb : isKey b) : CallOK Try.prog 8 [key b] [] (el (numK b % 57896044618658097711785492504343953926634992332820282019728792003956564819968 % 57896044618658097711785492504343953926634992332820282019728792003956564819949)) [] := by
  have i7 : inW (partAt b 7) := part_in hb 0
  have i15 : inW (partAt b 15) := part_in hb 8
  have i23 : inW (partAt b 23) := part_in hb 16
  have i31 : inW (partAt b 31) := part_in hb 24
  have e63 := and63 _ i31
  have hm : inW (andV (partAt b 31) 9223372036854775807) := by rw [e63]; exact inHalf (by omega) (by omega)
  have h := call_ok S_ok C2_ok 100 _ (of_run b) (Obs.all_append.2 ⟨by
    intro p hp
    unfold ofO at hp
    obtain ⟨i, hi, rfl⟩ := List.mem_map.1 hp
    exact isV_u64 (part_ob hb i), by simp only [all_cons, all_nil, and_true]; exact ⟨i7, i15, i23, hm⟩⟩)
  obtain ⟨t, w, h1, h2, h3, h4, h5⟩ : ∃ t w, partAt b 31 = w + 9223372036854775808 * t ∧ andV (partAt b 31) 9223372036854775807 = w ∧ 0 ≤ w ∧ w < 9223372036854775808 ∧ 0 ≤ t :=
    ⟨partAt b 31 / 9223372036854775808, partAt b 31 % 9223372036854775808, by omega, e63, by omega, by omega, by have := i31.1; omega⟩
  have hv := top_val (partAt b 7) (partAt b 15) (partAt b 23) h1
  have hr := val255 i7 i15 i23 ⟨h3, h4⟩
  rw [h2] at h
  have e : lessV (valL [partAt b 7, partAt b 15, partAt b 23, w]) = numK b % 57896044618658097711785492504343953926634992332820282019728792003956564819968 % 57896044618658097711785492504343953926634992332820282019728792003956564819949 := by
    rw [numK_val, hv]
    generalize valL [partAt b 7, partAt b 15, partAt b 23, w] = V at *
    rw [Int.add_mul_emod_self_left]
    unfold lessV; split <;> omega
  rw [e] at h
  exact h

end Go.Proofs.Ytmbeonieabofaaa
