import Derived.Test.YtmbeonieabofaaaFj
set_option linter.unusedVariables false
set_option linter.unusedSimpArgs false
namespace Go.Proofs.Ytmbeonieabofaaa
open Go.Ab

/-! ### a power modulo, reckoned -/
def pmGo : Nat → Nat → Nat → Nat → Nat → Nat
  | 0, _, _, _, acc => acc
  | k + 1, m, b, e, acc => pmGo k m (b * b % m) (e / 2) (if e % 2 = 1 then acc * b % m else acc)

theorem pmGo_spec (m : Nat) : ∀ (k b e acc : Nat), e < 2 ^ k → pmGo k m b e acc % m = acc * b ^ e % m
  | 0, b, e, acc, h => by
    have : e = 0 := by omega
    subst this; simp [pmGo]
  | k + 1, b, e, acc, h => by
    have he : e / 2 < 2 ^ k := by rw [Nat.pow_succ] at h; omega
    simp only [pmGo]
    rw [pmGo_spec m k _ _ _ he]
    have hb : b ^ e = (b * b) ^ (e / 2) * b ^ (e % 2) := by
      rw [← Nat.pow_two, ← Nat.pow_mul, ← Nat.pow_add]; congr 1; omega
    rw [hb]
    split
    · rename_i h1
      rw [h1, Nat.pow_one, Nat.mul_mod, ← Nat.pow_mod, ← Nat.mul_mod, Nat.mod_mul_mod]
      congr 1
      rw [Nat.mul_assoc, Nat.mul_comm b, ]
    · rename_i h1
      have : e % 2 = 0 := by omega
      rw [this, Nat.pow_zero, Nat.mul_one, Nat.mul_mod, ← Nat.pow_mod, ← Nat.mul_mod]


theorem pm_val : pmGo 256 57896044618658097711785492504343953926634992332820282019728792003956564819949 2 57896044618658097711785492504343953926634992332820282019728792003956564819947 1 = 28948022309329048855892746252171976963317496166410141009864396001978282409975 := by decide +kernel
theorem pw_of (b k v : Nat) (hk : k < 2 ^ 256) (h : pmGo 256 57896044618658097711785492504343953926634992332820282019728792003956564819949 b k 1 = v) : pw (b : Int) k = ((v % 57896044618658097711785492504343953926634992332820282019728792003956564819949 : Nat) : Int) := by
  have h2 := pmGo_spec 57896044618658097711785492504343953926634992332820282019728792003956564819949 256 b k 1 hk
  rw [h, Nat.one_mul] at h2
  have e : (b : Int) ^ k = ((b ^ k : Nat) : Int) := by simp
  unfold pw
  rw [e, h2]
  simp

end Go.Proofs.Ytmbeonieabofaaa
