import Derived.Test.YtmbeonieabofaaaFa
set_option linter.unusedVariables false
set_option linter.unusedSimpArgs false
namespace Go.Proofs.Ytmbeonieabofaaa
open Go.Ab

/-! ### chains with a carry -/
def subGo : List (Int × Int) → Int → List Int × Int × Obs
  | [], b => ([], b, [])
  | (x, y) :: r, b => ((x - y - b) % 18446744073709551616 :: (subGo r (-((x - y - b) / 18446744073709551616))).1, (subGo r (-((x - y - b) / 18446744073709551616))).2.1,
      (0 ≤ x ∧ x < 18446744073709551616 ∧ 0 ≤ y ∧ y < 18446744073709551616 ∧ 0 ≤ b ∧ b ≤ 1) :: (subGo r (-((x - y - b) / 18446744073709551616))).2.2)
def addGo : List (Int × Int) → Int → List Int × Int × Obs
  | [], b => ([], b, [])
  | (x, y) :: r, b => ((x + y + b) % 18446744073709551616 :: (addGo r ((x + y + b) / 18446744073709551616)).1, (addGo r ((x + y + b) / 18446744073709551616)).2.1,
      (0 ≤ x ∧ 0 ≤ y ∧ 0 ≤ b ∧ b ≤ 1) :: (addGo r ((x + y + b) / 18446744073709551616)).2.2)

def valL : List Int → Int
  | [] => 0
  | x :: r => x + 18446744073709551616 * valL r
def powM : Nat → Int
  | 0 => 1
  | n + 1 => 18446744073709551616 * powM n

theorem subGo_spec : ∀ (l : List (Int × Int)) (b : Int), (∀ p ∈ l, inW p.1 ∧ inW p.2) → 0 ≤ b → b ≤ 1 →
    valL (subGo l b).1 - powM l.length * (subGo l b).2.1 = valL (l.map (·.1)) - valL (l.map (·.2)) - b ∧ (∀ s ∈ (subGo l b).1, inW s) ∧ 0 ≤ (subGo l b).2.1 ∧ (subGo l b).2.1 ≤ 1 ∧ (subGo l b).2.2.all ∧ (subGo l b).1.length = l.length
  | [], b, _, h0, h1 => by simp [subGo, valL, powM, all_nil, h0, h1]
  | (x, y) :: r, b, hl, h0, h1 => by
    obtain ⟨⟨hx0, hx1⟩, hy0, hy1⟩ := hl (x, y) (.head _)
    simp only at hx0 hx1 hy0 hy1
    have hb0 : 0 ≤ -((x - y - b) / 18446744073709551616) ∧ -((x - y - b) / 18446744073709551616) ≤ 1 := by omega
    obtain ⟨i1, i2, i3, i4, i5, i6⟩ := subGo_spec r (-((x - y - b) / 18446744073709551616)) (fun p hp => hl p (.tail _ hp)) hb0.1 hb0.2
    simp only [subGo, valL, powM, List.map_cons, List.length_cons]
    refine ⟨?_, ?_, i3, i4, all_cons.2 ⟨⟨hx0, hx1, hy0, hy1, h0, h1⟩, i5⟩, by rw [i6]⟩
    · rw [Int.mul_assoc]
      generalize powM r.length * (subGo r (-((x - y - b) / 18446744073709551616))).2.1 = Z at *
      generalize valL (subGo r (-((x - y - b) / 18446744073709551616))).1 = V at *
      omega
    · intro s hs
      rcases List.mem_cons.1 hs with rfl | hs
      · unfold inW; omega
      · exact i2 s hs

theorem addGo_spec : ∀ (l : List (Int × Int)) (b : Int), (∀ p ∈ l, inW p.1 ∧ inW p.2) → 0 ≤ b → b ≤ 1 →
    valL (addGo l b).1 + powM l.length * (addGo l b).2.1 = valL (l.map (·.1)) + valL (l.map (·.2)) + b ∧ (∀ s ∈ (addGo l b).1, inW s) ∧ 0 ≤ (addGo l b).2.1 ∧ (addGo l b).2.1 ≤ 1 ∧ (addGo l b).2.2.all ∧ (addGo l b).1.length = l.length
  | [], b, _, h0, h1 => by simp [addGo, valL, powM, all_nil, h0, h1]
  | (x, y) :: r, b, hl, h0, h1 => by
    obtain ⟨⟨hx0, hx1⟩, hy0, hy1⟩ := hl (x, y) (.head _)
    simp only at hx0 hx1 hy0 hy1
    have hb0 : 0 ≤ (x + y + b) / 18446744073709551616 ∧ (x + y + b) / 18446744073709551616 ≤ 1 := by omega
    obtain ⟨i1, i2, i3, i4, i5, i6⟩ := addGo_spec r ((x + y + b) / 18446744073709551616) (fun p hp => hl p (.tail _ hp)) hb0.1 hb0.2
    simp only [addGo, valL, powM, List.map_cons, List.length_cons]
    refine ⟨?_, ?_, i3, i4, all_cons.2 ⟨⟨hx0, hy0, h0, h1⟩, i5⟩, by rw [i6]⟩
    · rw [Int.mul_assoc]
      generalize powM r.length * (addGo r ((x + y + b) / 18446744073709551616)).2.1 = Z at *
      generalize valL (addGo r ((x + y + b) / 18446744073709551616)).1 = V at *
      omega
    · intro s hs
      rcases List.mem_cons.1 hs with rfl | hs
      · unfold inW; omega
      · exact i2 s hs

/-! ### an element -/
abbrev pp : Int := 57896044618658097711785492504343953926634992332820282019728792003956564819949
abbrev M4 : Int := 115792089237316195423570985008687907853269984665640564039457584007913129639936

def limbs (n : Int) : List Int := [n % 18446744073709551616, n / 18446744073709551616 % 18446744073709551616, n / 340282366920938463463374607431768211456 % 18446744073709551616, n / 6277101735386680763835789423207666416102355444464034512896 % 18446744073709551616]
def el (n : Int) : AV := .agg ((limbs n).map u64)

theorem limbs_val {a b c d : Int} (ha : inW a) (hb : inW b) (hc : inW c) (hd : inW d) : limbs (valL [a, b, c, d]) = [a, b, c, d] := by
  obtain ⟨a0, a1⟩ := ha
  obtain ⟨b0, b1⟩ := hb
  obtain ⟨c0, c1⟩ := hc
  obtain ⟨d0, d1⟩ := hd
  simp only [limbs, valL, List.cons.injEq, and_true]
  refine ⟨by omega, by omega, by omega, by omega⟩

theorem val_limbs {n : Int} (h0 : 0 ≤ n) (h1 : n < 115792089237316195423570985008687907853269984665640564039457584007913129639936) : valL (limbs n) = n := by
  simp only [limbs, valL]
  omega

theorem limbs_in (n : Int) : ∀ s ∈ limbs n, inW s := by
  intro s hs
  simp only [limbs, List.mem_cons, List.not_mem_nil, or_false] at hs
  unfold inW
  rcases hs with rfl | rfl | rfl | rfl <;> omega

def primeL : List Int := [18446744073709551597, 18446744073709551615, 18446744073709551615, 9223372036854775807]

theorem less_run (a b c d : Int) (z : Bool) : runFn S (exec S noC 60) (QF [(9, [(1, fo (bo z))])]) 36 [.agg [u64 a, u64 b, u64 c, u64 d]] [] =
    some (.agg ((if z then (subGo ([a, b, c, d].zip primeL) 0).1 else [a, b, c, d]).map u64), [], (subGo ([a, b, c, d].zip primeL) 0).2.2 ++ [isV (bo ((subGo ([a, b, c, d].zip primeL) 0).2.1 == 0)) (bo z)]) := by
  cases z <;> kernel_rfl

/-- What 'less' makes of a number of four words. -/
def lessV (n : Int) : Int := if n < 57896044618658097711785492504343953926634992332820282019728792003956564819949 then n else n - 57896044618658097711785492504343953926634992332820282019728792003956564819949

theorem less_ok (a b c d : Int) (ha : inW a) (hb : inW b) (hc : inW c) (hd : inW d) : CallOK Try.prog 36 [.agg [u64 a, u64 b, u64 c, u64 d]] [] (el (lessV (valL [a, b, c, d]))) [] := by
  have hs := subGo_spec ([a, b, c, d].zip primeL) 0 (by
    intro p hp
    simp only [primeL, List.zip_cons_cons, List.zip_nil_right, List.mem_cons, List.not_mem_nil, or_false] at hp
    unfold inW
    rcases hp with rfl | rfl | rfl | rfl <;> simp_all [inW]) (by omega) (by omega)
  obtain ⟨h1, h2, h3, h4, h5, h6⟩ := hs
  have e1 : ([a, b, c, d].zip primeL).map (·.1) = [a, b, c, d] := rfl
  have e2 : ([a, b, c, d].zip primeL).map (·.2) = primeL := rfl
  have e3 : ([a, b, c, d].zip primeL).length = 4 := rfl
  have e4 : powM 4 = 115792089237316195423570985008687907853269984665640564039457584007913129639936 := by decide
  have e5 : valL primeL = 57896044618658097711785492504343953926634992332820282019728792003956564819949 := by decide
  rw [e1, e2, e3, e4, e5] at h1
  rw [e3] at h6
  have hr := call_ok S_ok noC_ok 60 _ (less_run a b c d ((subGo ([a, b, c, d].zip primeL) 0).2.1 == 0)) (Obs.all_append.2 ⟨h5, by simp only [all_cons, all_nil, and_true]; rfl⟩)
  generalize subGo ([a, b, c, d].zip primeL) 0 = q at *
  obtain ⟨ql, qb, qo⟩ := q
  simp only at h1 h2 h3 h4 h5 h6 hr
  match ql, h6 with
  | [s0, s1, s2, s3], _ =>
    have q0 := h2 s0 (by simp)
    have q1 := h2 s1 (by simp)
    have q2 := h2 s2 (by simp)
    have q3 := h2 s3 (by simp)
    have hv : 0 ≤ valL [s0, s1, s2, s3] ∧ valL [s0, s1, s2, s3] < 115792089237316195423570985008687907853269984665640564039457584007913129639936 := by
      simp only [valL]; unfold inW at *; omega
    have hw : 0 ≤ valL [a, b, c, d] ∧ valL [a, b, c, d] < 115792089237316195423570985008687907853269984665640564039457584007913129639936 := by
      simp only [valL]; unfold inW at *; omega
    by_cases hz : qb = 0
    · subst hz
      have : el (lessV (valL [a, b, c, d])) = .agg ([s0, s1, s2, s3].map u64) := by
        have e : lessV (valL [a, b, c, d]) = valL [s0, s1, s2, s3] := by unfold lessV; split <;> omega
        rw [e]; unfold el; rw [limbs_val q0 q1 q2 q3]
      rw [this]
      exact hr
    · have hz' : (qb == 0) = false := by simpa using hz
      rw [hz'] at hr
      have : el (lessV (valL [a, b, c, d])) = .agg ([a, b, c, d].map u64) := by
        have e : lessV (valL [a, b, c, d]) = valL [a, b, c, d] := by
          unfold lessV; split
          · rfl
          · omega
        rw [e]; unfold el; rw [limbs_val ha hb hc hd]
      rw [this]
      exact hr

end Go.Proofs.Ytmbeonieabofaaa
