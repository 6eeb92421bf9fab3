import Derived.Test.YtmbeonieabofaaaFc
set_option linter.unusedVariables false
set_option linter.unusedSimpArgs false
namespace Go.Proofs.Ytmbeonieabofaaa
open Go.Ab

/-! ### fold -/
def pre (x y c : Int) : Prop := 0 ≤ x ∧ 0 ≤ y ∧ 0 ≤ c ∧ c ≤ 1
def sumO (x y c s k : Int) : List Prop := [isV (u64 ((x + y + c) % 18446744073709551616)) (u64 s), isV (u64 ((x + y + c) / 18446744073709551616)) (u64 k)]

theorem fold_run (a b c d n t0 d1 s0 k0 s1 k1 s2 k2 s3 u0 v0 u1 v1 u2 v2 u3 v3 t1 u3' x0 y0 x1 y1 x2 y2 x3 y3 m m' hi lo : Int) :
    runFn S (exec S C1 60) (QF [(1, [(1, .call (.tup [u64 hi, u64 lo]) [])]), (2, [(2, fo (u64 t0))]), (3, [(2, fo (u64 d1))]), (5, [(5, fo (u64 s0)), (6, fo (u64 k0))]), (6, [(6, fo (u64 s1)), (7, fo (u64 k1))]), (7, [(5, fo (u64 s2)), (6, fo (u64 k2))]), (8, [(3, fo (u64 s3))]),
      (9, [(3, fo (u64 m)), (6, fo (u64 u0)), (7, fo (u64 v0))]), (13, [(7, fo (u64 u1)), (8, fo (u64 v1))]), (13, [(7, fo (u64 u2)), (8, fo (u64 v2))]), (13, [(7, fo (u64 u3)), (8, fo (u64 v3))]),
      (14, [(2, fo (u64 t1))]), (15, [(2, fo (u64 u3'))]), (16, [(3, fo (u64 m')), (6, fo (u64 x0)), (7, fo (u64 y0))]), (20, [(7, fo (u64 x1)), (8, fo (u64 y1))]), (20, [(7, fo (u64 x2)), (8, fo (u64 y2))]), (20, [(7, fo (u64 x3)), (8, fo (u64 y3))])]) 41 [.agg [u64 a, u64 b, u64 c, u64 d], u64 n] [] =
    some (el (lessV (valL [x0, x1, x2, x3])), [], [CallOK S.P 40 [u64 n, u64 38] [] (.tup [u64 hi, u64 lo]) [], isV (u64 (shrV d 63)) (u64 t0), isV (u64 (andV d 9223372036854775807)) (u64 d1), pre a lo 0] ++ sumO a lo 0 s0 k0 ++ [pre b hi k0] ++ sumO b hi k0 s1 k1 ++ [pre c 0 k1] ++ sumO c 0 k1 s2 k2 ++
      [isV (u64 (wr (d1 + k2))) (u64 s3), isV (u64 (wr (19 * t0))) (u64 m), pre s0 m 0] ++ sumO s0 m 0 u0 v0 ++ [pre s1 0 v0] ++ sumO s1 0 v0 u1 v1 ++ [pre s2 0 v1] ++ sumO s2 0 v1 u2 v2 ++ [pre s3 0 v2] ++ sumO s3 0 v2 u3 v3 ++
      [isV (u64 (shrV u3 63)) (u64 t1), isV (u64 (andV u3 9223372036854775807)) (u64 u3'), isV (u64 (wr (19 * t1))) (u64 m'), pre u0 m' 0] ++ sumO u0 m' 0 x0 y0 ++ [pre u1 0 y0] ++ sumO u1 0 y0 x1 y1 ++ [pre u2 0 y1] ++ sumO u2 0 y1 x2 y2 ++ [pre u3' 0 y2] ++ sumO u3' 0 y2 x3 y3 ++ [inW x0, inW x1, inW x2, inW x3]) := by
  kernel_rfl


theorem sum_ex (x y c : Int) (hx : inW x) (hy : inW y) (h0 : 0 ≤ c) (h1 : c ≤ 1) : ∃ s k, pre x y c ∧ Obs.all (sumO x y c s k) ∧ s + 18446744073709551616 * k = x + y + c ∧ inW s ∧ 0 ≤ k ∧ k ≤ 1 := by
  obtain ⟨x0, x1⟩ := hx
  obtain ⟨y0, y1⟩ := hy
  exact ⟨_, _, ⟨x0, y0, h0, h1⟩, by simp only [sumO, all_cons, all_nil, and_true]; exact ⟨rfl, rfl⟩, by omega, by unfold inW; omega, by omega, by omega⟩

theorem in0 : inW 0 := by unfold inW; omega

theorem chain4 {a b c d p x0 x1 x2 x3 k0 k1 k2 k3 : Int} (e0 : x0 + 18446744073709551616 * k0 = a + p + 0) (e1 : x1 + 18446744073709551616 * k1 = b + 0 + k0) (e2 : x2 + 18446744073709551616 * k2 = c + 0 + k1) (e3 : x3 + 18446744073709551616 * k3 = d + 0 + k2) :
    valL [x0, x1, x2, x3] + 115792089237316195423570985008687907853269984665640564039457584007913129639936 * k3 = valL [a, b, c, d] + p := by
  simp only [valL]; omega
theorem chain3 {a b c d p q x0 x1 x2 x3 k0 k1 k2 : Int} (e0 : x0 + 18446744073709551616 * k0 = a + p + 0) (e1 : x1 + 18446744073709551616 * k1 = b + q + k0) (e2 : x2 + 18446744073709551616 * k2 = c + 0 + k1) (e3 : x3 = d + k2) :
    valL [x0, x1, x2, x3] = valL [a, b, c, d] + (p + 18446744073709551616 * q) := by
  simp only [valL]; omega
theorem top_val (a b c : Int) {x y t : Int} (h : x = y + 9223372036854775808 * t) : valL [a, b, c, x] = valL [a, b, c, y] + 57896044618658097711785492504343953926634992332820282019728792003956564819968 * t := by
  simp only [valL]; omega
theorem val255 {a b c d : Int} (ha : inW a) (hb : inW b) (hc : inW c) (hd : 0 ≤ d ∧ d < 9223372036854775808) : 0 ≤ valL [a, b, c, d] ∧ valL [a, b, c, d] < 57896044618658097711785492504343953926634992332820282019728792003956564819968 := by
  unfold inW at *; simp only [valL]; omega
theorem val256 {a b c d : Int} (ha : inW a) (hb : inW b) (hc : inW c) (hd : inW d) : 0 ≤ valL [a, b, c, d] ∧ valL [a, b, c, d] < 115792089237316195423570985008687907853269984665640564039457584007913129639936 := by
  unfold inW at *; simp only [valL]; omega
theorem fold_math {n lo hi A A1 B C C1 D t0 t1 m m' v3 y3 : Int} (ehl : lo + 18446744073709551616 * hi = 38 * n) (c1 : B = A1 + (lo + 18446744073709551616 * hi)) (c2 : C + 115792089237316195423570985008687907853269984665640564039457584007913129639936 * v3 = B + m) (c3 : D + 115792089237316195423570985008687907853269984665640564039457584007913129639936 * y3 = C1 + m')
    (q1 : A = A1 + 57896044618658097711785492504343953926634992332820282019728792003956564819968 * t0) (q2 : C = C1 + 57896044618658097711785492504343953926634992332820282019728792003956564819968 * t1)
    (r1 : 0 ≤ A1 ∧ A1 < 57896044618658097711785492504343953926634992332820282019728792003956564819968) (r2 : 0 ≤ C1 ∧ C1 < 57896044618658097711785492504343953926634992332820282019728792003956564819968) (r3 : 0 ≤ C ∧ C < 115792089237316195423570985008687907853269984665640564039457584007913129639936) (r4 : 0 ≤ D ∧ D < 115792089237316195423570985008687907853269984665640564039457584007913129639936)
    (fm : m = 19 * t0) (fm' : m' = 19 * t1) (g0 : 0 ≤ t0) (g1 : t0 ≤ 1) (g2 : 0 ≤ t1) (g3 : t1 ≤ 1) (g4 : 0 ≤ v3) (g5 : v3 ≤ 1) (g6 : 0 ≤ y3) (g7 : y3 ≤ 1) (hn : 0 ≤ n) (hn' : n < 18446744073709551616) :
    lessV D = (A + 115792089237316195423570985008687907853269984665640564039457584007913129639936 * n) % 57896044618658097711785492504343953926634992332820282019728792003956564819949 := by
  have hv3 : v3 = 0 := by omega
  have hy3 : y3 = 0 := by omega
  subst hv3; subst hy3
  have : (A + 115792089237316195423570985008687907853269984665640564039457584007913129639936 * n) = D + 57896044618658097711785492504343953926634992332820282019728792003956564819949 * (t0 + t1 + 2 * n) := by omega
  rw [this, Int.add_mul_emod_self_left]
  have hD : D < 115792089237316195423570985008687907853269984665640564039457584007913129639898 := by omega
  unfold lessV; split <;> omega

theorem top_split {x t y : Int} (hx : inW x) (ht : t = x / 9223372036854775808) (hy : y = x % 9223372036854775808) : x = y + 9223372036854775808 * t ∧ 0 ≤ t ∧ t ≤ 1 ∧ 0 ≤ y ∧ y < 9223372036854775808 := by
  unfold inW at hx; omega
theorem in19 {t m : Int} (hm : m = wr (19 * t)) (h0 : 0 ≤ t) (h1 : t ≤ 1) : m = 19 * t ∧ inW m := by
  rw [hm, wr_eq]; unfold inW; omega
theorem inTop {y k s : Int} (hs : s = wr (y + k)) (h0 : 0 ≤ y) (h1 : y < 9223372036854775808) (h2 : 0 ≤ k) (h3 : k ≤ 1) : s = y + k ∧ inW s := by
  rw [hs, wr_eq]; unfold inW; omega
theorem inHalf {y : Int} (h0 : 0 ≤ y) (h1 : y < 9223372036854775808) : inW y := by unfold inW; omega

theorem fold_ok (a b c d n : Int) (ha : inW a) (hb : inW b) (hc : inW c) (hd : inW d) (hn : inW n) :
    CallOK Try.prog 41 [.agg [u64 a, u64 b, u64 c, u64 d], u64 n] [] (el ((valL [a, b, c, d] + 115792089237316195423570985008687907853269984665640564039457584007913129639936 * n) % 57896044618658097711785492504343953926634992332820282019728792003956564819949)) [] := by
  have hmul := mul64_ok n 38 hn (by unfold inW; omega)
  obtain ⟨hi, ehi⟩ : ∃ hi, hi = n * 38 / 18446744073709551616 := ⟨_, rfl⟩
  obtain ⟨lo, elo⟩ : ∃ lo, lo = n * 38 % 18446744073709551616 := ⟨_, rfl⟩
  have hin : inW hi := by unfold inW at *; omega
  have lin : inW lo := by unfold inW at *; omega
  have ehl : lo + 18446744073709551616 * hi = 38 * n := by omega
  have hi38 : hi ≤ 37 := by unfold inW at *; omega
  rw [← ehi, ← elo] at hmul
  obtain ⟨t0, et0⟩ : ∃ t, t = shrV d 63 := ⟨_, rfl⟩
  obtain ⟨d1, ed1⟩ : ∃ t, t = andV d 9223372036854775807 := ⟨_, rfl⟩
  have ft0 : t0 = d / 9223372036854775808 := by rw [et0, shr63]
  have fd1 : d1 = d % 9223372036854775808 := by rw [ed1, and63 d hd]
  have htd := top_split hd ft0 fd1
  clear ehi elo ft0 fd1
  obtain ⟨s0, k0, p0, o0, e0, i0, g0, l0⟩ := sum_ex a lo 0 ha lin (Int.le_refl 0) (by decide)
  obtain ⟨s1, k1, p1, o1, e1, i1, g1, l1⟩ := sum_ex b hi k0 hb hin g0 l0
  obtain ⟨s2, k2, p2, o2, e2, i2, g2, l2⟩ := sum_ex c 0 k1 hc in0 g1 l1
  obtain ⟨s3, es3⟩ : ∃ t, t = wr (d1 + k2) := ⟨_, rfl⟩
  obtain ⟨fs3, is3⟩ := inTop es3 htd.2.2.2.1 htd.2.2.2.2 g2 l2
  obtain ⟨m, em⟩ : ∃ t, t = wr (19 * t0) := ⟨_, rfl⟩
  obtain ⟨fm, im⟩ := in19 em htd.2.1 htd.2.2.1
  obtain ⟨u0, v0, p3, o3, e3, i3, g3, l3⟩ := sum_ex s0 m 0 i0 im (Int.le_refl 0) (by decide)
  obtain ⟨u1, v1, p4, o4, e4, i4, g4, l4⟩ := sum_ex s1 0 v0 i1 in0 g3 l3
  obtain ⟨u2, v2, p5, o5, e5, i5, g5, l5⟩ := sum_ex s2 0 v1 i2 in0 g4 l4
  obtain ⟨u3, v3, p6, o6, e6, i6, g6, l6⟩ := sum_ex s3 0 v2 is3 in0 g5 l5
  obtain ⟨t1, et1⟩ : ∃ t, t = shrV u3 63 := ⟨_, rfl⟩
  obtain ⟨w3, ew3⟩ : ∃ t, t = andV u3 9223372036854775807 := ⟨_, rfl⟩
  have ft1 : t1 = u3 / 9223372036854775808 := by rw [et1, shr63]
  have fw3 : w3 = u3 % 9223372036854775808 := by rw [ew3, and63 u3 i6]
  have htu := top_split i6 ft1 fw3
  clear ft1 fw3
  have iw3 : inW w3 := inHalf htu.2.2.2.1 htu.2.2.2.2
  obtain ⟨m', em'⟩ : ∃ t, t = wr (19 * t1) := ⟨_, rfl⟩
  obtain ⟨fm', im'⟩ := in19 em' htu.2.1 htu.2.2.1
  obtain ⟨x0, y0, p7, o7, e7, i7, g7, l7⟩ := sum_ex u0 m' 0 i3 im' (Int.le_refl 0) (by decide)
  obtain ⟨x1, y1, p8, o8, e8, i8, g8, l8⟩ := sum_ex u1 0 y0 i4 in0 g7 l7
  obtain ⟨x2, y2, p9, o9, e9, i9, g9, l9⟩ := sum_ex u2 0 y1 i5 in0 g8 l8
  obtain ⟨x3, y3, p10, o10, e10, i10, g10, l10⟩ := sum_ex w3 0 y2 iw3 in0 g9 l9
  have hr := call_ok S_ok C1_ok 60 _ (fold_run a b c d n t0 d1 s0 k0 s1 k1 s2 k2 s3 u0 v0 u1 v1 u2 v2 u3 v3 t1 w3 x0 y0 x1 y1 x2 y2 x3 y3 m m' hi lo) (by
    simp only [Obs.all_append, all_cons, all_nil, and_true]
    exact ⟨⟨⟨⟨⟨⟨⟨⟨⟨⟨⟨⟨⟨⟨⟨⟨⟨⟨⟨⟨⟨⟨⟨hmul, isV_u64 et0.symm, isV_u64 ed1.symm, p0⟩, o0⟩, p1⟩, o1⟩, p2⟩, o2⟩, isV_u64 es3.symm, isV_u64 em.symm, p3⟩, o3⟩, p4⟩, o4⟩, p5⟩, o5⟩, p6⟩, o6⟩, isV_u64 et1.symm, isV_u64 ew3.symm, isV_u64 em'.symm, p7⟩, o7⟩, p8⟩, o8⟩, p9⟩, o9⟩, p10⟩, o10⟩, i7, i8, i9, i10⟩)
  have c1 := chain3 e0 e1 e2 fs3
  have c2 := chain4 e3 e4 e5 e6
  have c3 := chain4 e7 e8 e9 e10
  have q1 := top_val a b c (x := d) htd.1
  have q2 := top_val u0 u1 u2 (x := u3) htu.1
  have r1 := val255 ha hb hc htd.2.2.2
  have r2 := val255 i3 i4 i5 htu.2.2.2
  have r3 := val256 i3 i4 i5 i6
  have r4 := val256 i7 i8 i9 i10
  have e := fold_math ehl c1 c2 c3 q1 q2 r1 r2 r3 r4 fm fm' htd.2.1 htd.2.2.1 htu.2.1 htu.2.2.1 g6 l6 g10 l10 hn.1 hn.2
  rw [e] at hr
  exact hr

end Go.Proofs.Ytmbeonieabofaaa
