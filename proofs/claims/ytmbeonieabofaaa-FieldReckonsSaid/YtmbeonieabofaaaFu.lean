import Derived.Test.YtmbeonieabofaaaFt
set_option linter.unusedVariables false
set_option linter.unusedSimpArgs false
namespace Go.Proofs.Ytmbeonieabofaaa
open Go.Ab

/-! ### Mod: what it comes to -/
theorem valD_split (D : Nat → Int) (m : Nat) : ∀ n, valD D (m + n) = valD D m + pB m * valD (fun i => D (m + i)) n
  | 0 => by simp [valD]
  | n + 1 => by
    rw [← Nat.add_assoc]
    simp only [valD]
    rw [valD_split D m n]
    have : pB (m + n) = pB m * pB n := by unfold pB; rw [Nat.pow_add]; simp
    rw [this]
    generalize pB m = a
    generalize pB n = b
    grind
theorem valD_low (D : Nat → Int) (N : Nat) : ∀ n, valD (lowD (16 + N) D (fun i => D i + 38 * D (16 + i))) n = valD D n + 38 * valD (fun i => D (16 + i)) (min n N)
  | 0 => by simp [valD]
  | n + 1 => by
    simp only [valD]
    rw [valD_low D N n]
    unfold lowD
    by_cases h : n < 16 + N - 16
    · rw [if_pos h, show min (n + 1) N = n + 1 by omega, show min n N = n by omega]
      simp only [valD]
      generalize valD (fun i => D (16 + i)) n = a
      generalize pB n = b
      grind
    · rw [if_neg h, show min (n + 1) N = N by omega, show min n N = N by omega]
      generalize valD (fun i => D (16 + i)) N = a
      generalize pB n = b
      grind
theorem valD_ext (E : Nat → Int) (top : Int) : valD (extD 16 E top) 17 = valD E 16 + top * 115792089237316195423570985008687907853269984665640564039457584007913129639936 := by
  show valD (extD 16 E top) 16 + extD 16 E top 16 * pB 16 = _
  rw [pB16, valD_congr (D := extD 16 E top) (E := E) 16 (fun i hi => by simp [extD, hi])]
  simp [extD]

theorem isG_of {D : Nat → Int} (h : isD D) : isG D := fun i => by have := h i; omega
theorem carD_D (D : Nat → Int) : isD (carD D) := fun i => by unfold carD; omega
theorem extD_D {E : Nat → Int} {top : Int} (h : isD E) (h0 : 0 ≤ top) (h1 : top < 65536) : isD (extD 16 E top) := fun i => by
  unfold extD; split
  · exact h i
  · exact ⟨h0, h1⟩
theorem car_norm {E : Nat → Int} (h : isD E) : ∀ n, carC E n = 0
  | 0 => rfl
  | n + 1 => by simp only [carC]; rw [car_norm h n]; have := h n; omega
theorem carD_norm {E : Nat → Int} (h : isD E) : carD E = E := by
  funext i
  unfold carD; rw [car_norm h i]; have := h i; omega

/-- One round of the first loop: what the digits come to. -/
structure RoundV (N : Nat) (D : Nat → Int) where
  L : Nat → Int
  low : Nat → Int
  hG : isG low
  hv : valD low 16 = valD D 16 + 38 * valD (fun i => D (16 + i)) (N - 16)
def mkRound (N : Nat) (hN : 16 ≤ N) (hN2 : N ≤ 32) (D : Nat → Int) (hD : isD D) : RoundV N D where
  L := fun i => D i + 38 * D (16 + i)
  low := lowD N D (fun i => D i + 38 * D (16 + i))
  hG := fun i => by
    have := hD i; have := hD (16 + i)
    unfold lowD
    split
    · show 0 ≤ D i + 38 * D (16 + i) ∧ D i + 38 * D (16 + i) < _
      omega
    · omega
  hv := by
    have h := valD_low D (N - 16) 16
    rw [show 16 + (N - 16) = N by omega, show min 16 (N - 16) = N - 16 by omega] at h
    exact h

theorem round_obs (N : Nat) (hN : 16 < N) (hN2 : N ≤ 32) (D : Nat → Int) (hD : isD D) (hc : carC (lowD N D (fun i => D i + 38 * D (16 + i))) 16 < 65536) (more : Bool) (hm : more = decide (0 < carC (lowD N D (fun i => D i + 38 * D (16 + i))) 16)) :
    Obs.all (roundO N D (fun i => D i + 38 * D (16 + i)) (carD (lowD N D (fun i => D i + 38 * D (16 + i)))) more (carC (lowD N D (fun i => D i + 38 * D (16 + i))) 16)) := by
  refine Obs.all_append.2 ⟨all_map fun i hi => isV_u64 ?_, ?_⟩
  · have := hD i; have := hD (16 + i)
    rw [wr_id (x := 38 * D (16 + i)) (by omega) (by omega), wr_id (by omega) (by omega)]
  · simp only [all_cons, all_nil, and_true]
    exact car_ok _ (mkRound N (by omega) hN2 D hD).hG 16 (.inl rfl) hc false more hm

theorem low_val (N : Nat) (hN : 16 ≤ N) (hN2 : N ≤ 32) (D : Nat → Int) (hD : isD D) : ∃ (lo hi : Int), valD D 16 = lo ∧ 0 ≤ lo ∧ lo < 115792089237316195423570985008687907853269984665640564039457584007913129639936 ∧ 0 ≤ hi ∧ hi < pB (N - 16) ∧ valD D N = lo + 115792089237316195423570985008687907853269984665640564039457584007913129639936 * hi ∧
    valD (lowD N D (fun i => D i + 38 * D (16 + i))) 16 = lo + 38 * hi := by
  have h1 := valD_range 16 (fun i _ => hD i)
  have h2 := valD_range (N - 16) (D := fun i => D (16 + i)) (fun i _ => hD _)
  rw [pB16] at h1
  have h3 := valD_split D 16 (N - 16)
  rw [show 16 + (N - 16) = N by omega, pB16] at h3
  exact ⟨_, _, rfl, h1.1, h1.2, h2.1, h2.2, h3, (mkRound N hN hN2 D hD).hv⟩

/-- A round: the carried digits' value, the carry. -/
theorem low_car (N : Nat) (hN : 16 ≤ N) (hN2 : N ≤ 32) (D : Nat → Int) (hD : isD D) : ∃ (lo hi v c : Int), valD D 16 = lo ∧ 0 ≤ lo ∧ lo < 115792089237316195423570985008687907853269984665640564039457584007913129639936 ∧ 0 ≤ hi ∧ hi < pB (N - 16) ∧ valD D N = lo + 115792089237316195423570985008687907853269984665640564039457584007913129639936 * hi ∧
    valD (carD (lowD N D (fun i => D i + 38 * D (16 + i)))) 16 = v ∧ carC (lowD N D (fun i => D i + 38 * D (16 + i))) 16 = c ∧ 0 ≤ v ∧ v < 115792089237316195423570985008687907853269984665640564039457584007913129639936 ∧ 0 ≤ c ∧ v + c * 115792089237316195423570985008687907853269984665640564039457584007913129639936 = lo + 38 * hi := by
  obtain ⟨lo, hi, e1, l0, l1, h0, h1, e2, e3⟩ := low_val N hN hN2 D hD
  have hc := carD_val (lowD N D (fun i => D i + 38 * D (16 + i))) 16
  rw [e3, pB16] at hc
  have hr := valD_inN (fun i (_ : i < 16) => carD_D (lowD N D (fun i => D i + 38 * D (16 + i))) i)
  have hcr := carC_r (mkRound N hN hN2 D hD).hG 16
  exact ⟨lo, hi, _, _, e1, l0, l1, h0, h1, e2, rfl, rfl, hr.1, hr.2, hcr.1, hc⟩

theorem nE_val (E : Nat → Int) (more : Bool) (top : Int) (hm : more = decide (0 < top)) (h0 : 0 ≤ top) : valD (nE more E top) (nN more) = valD E 16 + top * 115792089237316195423570985008687907853269984665640564039457584007913129639936 := by
  subst hm
  by_cases h : 0 < top
  · simp only [nE, nN, h, decide_true, if_true]; exact valD_ext E top
  · have : top = 0 := by omega
    subst this; simp [nE, nN]
theorem nE_D {E : Nat → Int} (hE : isD E) (more : Bool) {top : Int} (h0 : 0 ≤ top) (h1 : top < 65536) : isD (nE more E top) := by
  cases more
  · exact hE
  · exact extD_D hE h0 h1

/-- The loop, from 17 digits in the second place. -/
theorem loop_b (N0 : Nat) (D0 : Nat → Int) (e : Bool) (D : Nat → Int) (hD : isD D) (hs : valD D 17 < 39 * 115792089237316195423570985008687907853269984665640564039457584007913129639936 ∧ True) :
    ∃ (n : Nat) (E : Nat → Int), TriL S.P (LB Try.f39 0) 2 n (modT 2 17) [lstD N0 D0 e, zB, lstD 17 D false] (.exit 0) (modT 2 16) [lstD N0 D0 e, zB, lstD 16 E false] ∧ isD E ∧ valD E 16 % 57896044618658097711785492504343953926634992332820282019728792003956564819949 = valD D 17 % 57896044618658097711785492504343953926634992332820282019728792003956564819949 := by
  have endB : ∀ E, TriL S.P (LB Try.f39 0) 2 1 (modT 2 16) [lstD N0 D0 e, zB, lstD 16 E false] (.exit 0) (modT 2 16) [lstD N0 D0 e, zB, lstD 16 E false] := fun E =>
    tril_end (by simp) (tri_exec S_ok noC_ok 60 _ _ mod_reg (mod_endB N0 D0 E e) (by simp only [all_nil]))
  have step : ∀ (D : Nat → Int), isD D → ∀ more, more = decide (0 < carC (lowD 17 D (fun i => D i + 38 * D (16 + i))) 16) → carC (lowD 17 D (fun i => D i + 38 * D (16 + i))) 16 < 65536 → ∀ n t' h',
      TriL S.P (LB Try.f39 0) 2 n (modT 2 (nN more)) [lstD N0 D0 e, zB, lstD (nN more) (nE more (carD (lowD 17 D (fun i => D i + 38 * D (16 + i)))) (carC (lowD 17 D (fun i => D i + 38 * D (16 + i))) 16)) false] (.exit 0) t' h' →
      TriL S.P (LB Try.f39 0) 2 (n + 1) (modT 2 17) [lstD N0 D0 e, zB, lstD 17 D false] (.exit 0) t' h' := fun D hD more hm hc n t' h' hn =>
    tril_step' (sel_exec S_ok noC_ok 60 _ [0, 2] (idsB more) 2 mod_reg (mod_b17 N0 D0 D _ _ more e _) (round_obs 17 (by omega) (by omega) D hD hc more hm) (by cases more <;> rfl) (by cases more <;> rfl)) hn
  obtain ⟨lo, hi, v, c, e1, l0, l1, h0, h1, e2, e3, e4, v0, v1, c0, e5⟩ := low_car 17 (by omega) (by omega) D hD
  have hp1 : pB (17 - 16) = 65536 := by decide +kernel
  rw [hp1] at h1
  by_cases hc : c = 0
  · subst hc
    refine ⟨_, _, step D hD false (by rw [e4]; rfl) (by rw [e4]; omega) 1 _ _ (endB _), carD_D _, ?_⟩
    rw [show nE false (carD (lowD 17 D (fun i => D i + 38 * D (16 + i)))) (carC (lowD 17 D (fun i => D i + 38 * D (16 + i))) 16) = carD (lowD 17 D (fun i => D i + 38 * D (16 + i))) from rfl, e3, e2]
    omega
  · have hc1 : c = 1 := by omega
    have hD2 : isD (nE true (carD (lowD 17 D (fun i => D i + 38 * D (16 + i)))) (carC (lowD 17 D (fun i => D i + 38 * D (16 + i))) 16)) := nE_D (carD_D _) true (by omega) (by omega)
    have hv2 := nE_val (carD (lowD 17 D (fun i => D i + 38 * D (16 + i)))) true (carC (lowD 17 D (fun i => D i + 38 * D (16 + i))) 16) (by rw [e4, hc1]; rfl) (by omega)
    rw [e3, e4] at hv2
    generalize hDD : nE true (carD (lowD 17 D (fun i => D i + 38 * D (16 + i)))) (carC (lowD 17 D (fun i => D i + 38 * D (16 + i))) 16) = D2 at *
    obtain ⟨lo', hi', v', c', f1, m0, m1, g0, g1, f2, f3, f4, w0, w1, d0, f5⟩ := low_car 17 (by omega) (by omega) D2 hD2
    rw [hp1] at g1
    have hv3 : valD D2 17 = v + c * 115792089237316195423570985008687907853269984665640564039457584007913129639936 := by rw [← hDD, e4]; exact hv2
    have hc' : c' = 0 := by omega
    subst hc'
    refine ⟨_, _, step D hD true (by rw [e4, hc1]; rfl) (by rw [e4]; omega) 2 _ _ (by rw [hDD]; exact step D2 hD2 false (by rw [f4]; rfl) (by rw [f4]; omega) 1 _ _ (endB _)), carD_D _, ?_⟩
    rw [f3, e2]
    omega

/-- The loop, from the start. -/
theorem loop_a (N : Nat) (hN : N = 17 ∨ N = 31 ∨ N = 32) (D : Nat → Int) (hD : isD D) (e : Bool) :
    ∃ E : Nat → Int, TriOK S.P (.loop (LB Try.f39 0)) (modT 0 N) [lstD N D e, zB] (.exit 0) (modT 2 16) [lstD N D e, zB, lstD 16 E false] ∧ isD E ∧ valD E 16 % 57896044618658097711785492504343953926634992332820282019728792003956564819949 = valD D N % 57896044618658097711785492504343953926634992332820282019728792003956564819949 := by
  have hround : ∀ L E more top, RoundA N D L E more e top := fun L E more top => by
    rcases hN with rfl | rfl | rfl
    · exact mod_a17 D L E more e top
    · exact mod_a31 D L E more e top
    · exact mod_a32 D L E more e top
  obtain ⟨lo, hi, v, c, e1, l0, l1, h0, h1, e2, e3, e4, v0, v1, c0, e5⟩ := low_car N (by omega) (by omega) D hD
  have hp : pB (N - 16) ≤ 115792089237316195423570985008687907853269984665640564039457584007913129639936 := by
    rw [← pB16]
    unfold pB
    exact Int.ofNat_le.2 (Nat.pow_le_pow_right (by omega) (by omega))
  have hc38 : c < 39 := by omega
  have step : ∀ more, more = decide (0 < carC (lowD N D (fun i => D i + 38 * D (16 + i))) 16) → ∀ n t' h',
      TriL S.P (LB Try.f39 0) 2 n (modT 2 (nN more)) [lstD N D e, zB, lstD (nN more) (nE more (carD (lowD N D (fun i => D i + 38 * D (16 + i)))) (carC (lowD N D (fun i => D i + 38 * D (16 + i))) 16)) false] (.exit 0) t' h' →
      TriL S.P (LB Try.f39 0) 2 (n + 1) (modT 0 N) [lstD N D e, zB] (.exit 0) t' h' := fun more hm n t' h' hn =>
    tril_step' (sel_exec S_ok noC_ok 60 _ [0, 2] (idsA more) 2 mod_reg (hround _ _ more _) (round_obs N (by omega) (by omega) D hD (by rw [e4]; omega) more hm) (by cases more <;> rfl) (by cases more <;> rfl)) hn
  by_cases hc : c = 0
  · subst hc
    refine ⟨_, tril_tri (step false (by rw [e4]; rfl) 1 _ _ (tril_end (by simp) (tri_exec S_ok noC_ok 60 _ _ mod_reg (mod_endB N D _ e) (by simp only [all_nil])))), carD_D _, ?_⟩
    rw [show nE false (carD (lowD N D (fun i => D i + 38 * D (16 + i)))) (carC (lowD N D (fun i => D i + 38 * D (16 + i))) 16) = carD (lowD N D (fun i => D i + 38 * D (16 + i))) from rfl, e3, e2]
    omega
  · have hD2 : isD (nE true (carD (lowD N D (fun i => D i + 38 * D (16 + i)))) (carC (lowD N D (fun i => D i + 38 * D (16 + i))) 16)) := nE_D (carD_D _) true (by omega) (by omega)
    have hv2 := nE_val (carD (lowD N D (fun i => D i + 38 * D (16 + i)))) true (carC (lowD N D (fun i => D i + 38 * D (16 + i))) 16) (by rw [e4]; simp; omega) (by omega)
    rw [e3, e4] at hv2
    obtain ⟨n, E, hl, hE, hv⟩ := loop_b N D e _ hD2 ⟨by show valD _ (nN true) < _; rw [e4, hv2]; omega, trivial⟩
    refine ⟨E, tril_tri (step true (by rw [e4]; simp; omega) n _ _ hl), hE, ?_⟩
    rw [hv, show (17 : Nat) = nN true from rfl, e4, hv2, e2]
    omega

end Go.Proofs.Ytmbeonieabofaaa
