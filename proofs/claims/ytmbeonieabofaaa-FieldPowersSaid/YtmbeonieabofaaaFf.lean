import Derived.Test.YtmbeonieabofaaaFe
set_option linter.unusedVariables false
set_option linter.unusedSimpArgs false
namespace Go.Proofs.Ytmbeonieabofaaa
open Go.Ab

theorem mod_in (x : Int) : inF (x % 57896044618658097711785492504343953926634992332820282019728792003956564819949) := by unfold inF; omega

theorem sub_run (x y m r : Int) : runFn S (exec S C2 60) (QF [(1, [(2, .call (el m) []), (3, .call (el r) [])])]) 13 [el x, el y] [] = some (el r, [], [CallOK S.P 18 [el y] [] (el m) [], CallOK S.P 11 [el x, el m] [] (el r) []]) := by kernel_rfl
theorem sub_ok (x y : Int) (hx : inF x) (hy : inF y) : CallOK Try.prog 13 [el x, el y] [] (el ((x - y) % 57896044618658097711785492504343953926634992332820282019728792003956564819949)) [] := by
  have h := call_ok S_ok C2_ok 60 _ (sub_run x y ((-y) % 57896044618658097711785492504343953926634992332820282019728792003956564819949) ((x + (-y) % 57896044618658097711785492504343953926634992332820282019728792003956564819949) % 57896044618658097711785492504343953926634992332820282019728792003956564819949)) (by
    simp only [all_cons, all_nil, and_true]
    exact ⟨neg_ok y hy, add_ok x _ hx (mod_in _)⟩)
  rw [show (x + (-y) % 57896044618658097711785492504343953926634992332820282019728792003956564819949) % 57896044618658097711785492504343953926634992332820282019728792003956564819949 = (x - y) % 57896044618658097711785492504343953926634992332820282019728792003956564819949 by omega] at h
  exact h

theorem square_run (x r : Int) : runFn S (exec S C2 60) (QF [(1, [(2, .call (el r) [])])]) 17 [el x] [] = some (el r, [], [CallOK S.P 15 [el x, el x] [] (el r) []]) := by kernel_rfl
theorem square_ok (x : Int) (hx : inF x) : CallOK Try.prog 17 [el x] [] (el ((x * x) % 57896044618658097711785492504343953926634992332820282019728792003956564819949)) [] :=
  call_ok S_ok C2_ok 60 _ (square_run x _) (by simp only [all_cons, all_nil, and_true]; exact mul_ok x x hx hx)

theorem small_run (n : Int) : runFn S (exec S C2 60) [] 25 [u64 n] [] = some (.agg [u64 n, u64 0, u64 0, u64 0], [], []) := by kernel_rfl
theorem small_ok (n : Int) (hn : inW n) : CallOK Try.prog 25 [u64 n] [] (el n) [] := by
  have h := call_ok S_ok C2_ok 60 _ (small_run n) (by simp only [all_nil])
  have e := limbs_val hn in0 in0 in0
  rw [show valL [n, 0, 0, 0] = n by simp only [valL]; omega] at e
  unfold el
  rw [e]
  exact h

theorem limbs_inj {x y : Int} (hx : inF x) (hy : inF y) (h : limbs x = limbs y) : x = y := by
  have h1 := val_limbs hx.1 (Int.lt_trans hx.2 (by decide))
  have h2 := val_limbs hy.1 (Int.lt_trans hy.2 (by decide))
  rw [← h1, h, h2]


theorem equal_run (a b c d e f g h : Int) : runFn S (exec S C2 60) [] 26 [.agg [u64 a, u64 b, u64 c, u64 d], .agg [u64 e, u64 f, u64 g, u64 h]] [] = some (bo (a == e && (b == f && (c == g && (d == h && true)))), [], []) := by kernel_rfl
theorem equal_ok (x y : Int) (hx : inF x) (hy : inF y) : CallOK Try.prog 26 [el x, el y] [] (bo (decide (x = y))) [] := by
  have e : decide (x = y) = (x % 18446744073709551616 == y % 18446744073709551616 && (x / 18446744073709551616 % 18446744073709551616 == y / 18446744073709551616 % 18446744073709551616 && (x / 340282366920938463463374607431768211456 % 18446744073709551616 == y / 340282366920938463463374607431768211456 % 18446744073709551616 && (x / 6277101735386680763835789423207666416102355444464034512896 % 18446744073709551616 == y / 6277101735386680763835789423207666416102355444464034512896 % 18446744073709551616 && true)))) := by
    rw [Bool.eq_iff_iff]
    simp only [decide_eq_true_eq, Bool.and_eq_true, beq_iff_eq, and_true]
    refine ⟨fun h => by rw [h]; exact ⟨rfl, rfl, rfl, rfl⟩, fun ⟨h1, h2, h3, h4⟩ => limbs_inj hx hy ?_⟩
    unfold limbs
    rw [h1, h2, h3, h4]
  rw [e]
  exact call_ok S_ok C2_ok 60 _ (equal_run _ _ _ _ _ _ _ _) (by simp only [all_nil])

theorem odd_run (a b c d : Int) : runFn S (exec S C2 60) [] 35 [.agg [u64 a, u64 b, u64 c, u64 d]] [] = some (bo (andV a 1 == 1), [], []) := by kernel_rfl
theorem odd_ok (x : Int) (hx : inF x) : CallOK Try.prog 35 [el x] [] (bo (decide (x % 2 = 1))) [] := by
  have e1 : andV (x % 18446744073709551616) 1 = x % 18446744073709551616 % 2 := and_mask _ 1 (by omega) (limbs_in x _ (.head _))
  have e : decide (x % 2 = 1) = (andV (x % 18446744073709551616) 1 == 1) := by
    rw [e1, Bool.eq_iff_iff]
    simp only [decide_eq_true_eq, beq_iff_eq]
    omega
  rw [e]
  exact call_ok S_ok C2_ok 60 _ (odd_run _ _ _ _) (by simp only [all_nil])

def xorV (a b : Int) : Int := IntKind.u64.wrap (BitVec.ofInt 64 a ^^^ BitVec.ofInt 64 b).toNat
def maskV (s : Bool) : Int := if s then 18446744073709551615 else 0
def selX (m a e : Int) : Int := xorV a (andV m (xorV a e))
theorem select_run (a b c d e f g h x0 x1 x2 x3 : Int) (s : Bool) : runFn S (exec S C2 60) (QF [(7, [(15, fo (u64 x0))]), (7, [(15, fo (u64 x1))]), (7, [(15, fo (u64 x2))]), (7, [(15, fo (u64 x3))])]) 33 [.agg [u64 a, u64 b, u64 c, u64 d], .agg [u64 e, u64 f, u64 g, u64 h], bo s] [] =
    some (.agg [u64 x0, u64 x1, u64 x2, u64 x3], [], [isV (u64 (selX (maskV s) a e)) (u64 x0), isV (u64 (selX (maskV s) b f)) (u64 x1), isV (u64 (selX (maskV s) c g)) (u64 x2), isV (u64 (selX (maskV s) d h)) (u64 x3)]) := by
  cases s <;> kernel_rfl

theorem xor_nat (a b : Nat) (ha : a < 2 ^ 64) (hb : b < 2 ^ 64) : xorV (a : Int) (b : Int) = ((a ^^^ b : Nat) : Int) := by
  unfold xorV
  rw [BitVec.ofInt_natCast, BitVec.ofInt_natCast, BitVec.toNat_xor, BitVec.toNat_ofNat, BitVec.toNat_ofNat, Nat.mod_eq_of_lt ha, Nat.mod_eq_of_lt hb]
  have : a ^^^ b < 2 ^ 64 := Nat.xor_lt_two_pow ha hb
  show wr _ = _
  rw [wr_eq]; omega

theorem sel_eq (s : Bool) (a e : Int) (ha : inW a) (he : inW e) : selX (maskV s) a e = if s then e else a := by
  obtain ⟨A, rfl⟩ := Int.eq_ofNat_of_zero_le ha.1
  obtain ⟨E, rfl⟩ := Int.eq_ofNat_of_zero_le he.1
  have hA : A < 2 ^ 64 := by have := ha.2; omega
  have hE : E < 2 ^ 64 := by have := he.2; omega
  have hX : A ^^^ E < 2 ^ 64 := Nat.xor_lt_two_pow hA hE
  unfold selX
  rw [xor_nat A E hA hE]
  cases s
  · have : andV (maskV false) ((A ^^^ E : Nat) : Int) = ((0 : Nat) : Int) := by
      unfold andV maskV
      simp
      rfl
    rw [this, xor_nat A 0 hA (by omega)]
    simp
  · have : andV (maskV true) ((A ^^^ E : Nat) : Int) = ((A ^^^ E : Nat) : Int) := by
      unfold andV maskV
      rw [BitVec.ofInt_natCast]
      show wr _ = _
      rw [if_pos rfl, show (18446744073709551615 : Int) = ((18446744073709551615 : Nat) : Int) from rfl, BitVec.ofInt_natCast, BitVec.toNat_and, BitVec.toNat_ofNat, BitVec.toNat_ofNat, Nat.mod_eq_of_lt hX, show 18446744073709551615 % 2 ^ 64 = 2 ^ 64 - 1 from rfl, Nat.and_comm, Nat.and_two_pow_sub_one_eq_mod, Nat.mod_eq_of_lt hX, wr_eq]
      omega
    rw [this, xor_nat A _ hA hX, ← Nat.xor_assoc, Nat.xor_self, Nat.zero_xor]
    simp

theorem select_ok (x y : Int) (s : Bool) : CallOK Try.prog 33 [el x, el y, bo s] [] (el (if s then y else x)) [] := by
  have hx := limbs_in x
  have hy := limbs_in y
  have h := call_ok S_ok C2_ok 60 _ (select_run _ _ _ _ _ _ _ _ _ _ _ _ s) (by
    simp only [all_cons, all_nil, and_true]
    exact ⟨isV_u64 (sel_eq s _ _ (hx _ (.head _)) (hy _ (.head _))), isV_u64 (sel_eq s _ _ (hx _ (.tail _ (.head _))) (hy _ (.tail _ (.head _)))), isV_u64 (sel_eq s _ _ (hx _ (.tail _ (.tail _ (.head _)))) (hy _ (.tail _ (.tail _ (.head _))))), isV_u64 (sel_eq s _ _ (hx _ (.tail _ (.tail _ (.tail _ (.head _))))) (hy _ (.tail _ (.tail _ (.tail _ (.head _))))))⟩)
  cases s <;> exact h

theorem swap_run (x y a b : Int) (s : Bool) : runFn S (exec S C2 60) (QF [(1, [(3, .call (el a) []), (7, .call (el b) [])])]) 32 [el x, el y, bo s] [] = some (.tup [el a, el b], [], [CallOK S.P 33 [el x, el y, bo s] [] (el a) [], CallOK S.P 33 [el y, el x, bo s] [] (el b) []]) := by kernel_rfl
theorem swap_ok (x y : Int) (s : Bool) : CallOK Try.prog 32 [el x, el y, bo s] [] (.tup [el (if s then y else x), el (if s then x else y)]) [] :=
  call_ok S_ok C2_ok 60 _ (swap_run x y _ _ s) (by simp only [all_cons, all_nil, and_true]; exact ⟨select_ok x y s, select_ok y x s⟩)

end Go.Proofs.Ytmbeonieabofaaa
