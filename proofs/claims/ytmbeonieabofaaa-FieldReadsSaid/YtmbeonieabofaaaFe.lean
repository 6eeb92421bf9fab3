import Derived.Test.YtmbeonieabofaaaFd
set_option linter.unusedVariables false
set_option linter.unusedSimpArgs false
namespace Go.Proofs.Ytmbeonieabofaaa
open Go.Ab

def foldC : Rec0 := fun args foot => match args, foot with
  | [.agg [.raw (.int .u64 a), .raw (.int .u64 b), .raw (.int .u64 c), .raw (.int .u64 d)], .raw (.int .u64 n)], [] =>
    some (el ((valL [a, b, c, d] + 115792089237316195423570985008687907853269984665640564039457584007913129639936 * n) % 57896044618658097711785492504343953926634992332820282019728792003956564819949), [], [inW a, inW b, inW c, inW d, inW n])
  | _, _ => none
noncomputable def C2 : Cons := fun f => if f == 41 then some foldC else C1 f
theorem C2_ok : ConsOK Try.prog C2 := by
  intro f k hk args foot v foot' obs h ho
  unfold C2 at hk
  split at hk
  · rename_i e
    obtain rfl : f = 41 := by simpa using e
    simp only [Option.some.injEq] at hk; subst hk
    unfold foldC at h
    split at h
    · simp only [Option.some.injEq, Prod.mk.injEq] at h
      obtain ⟨rfl, rfl, rfl⟩ := h
      simp only [all_cons, all_nil, and_true] at ho
      exact fold_ok _ _ _ _ _ ho.1 ho.2.1 ho.2.2.1 ho.2.2.2.1 ho.2.2.2.2
    · cases h
  · exact C1_ok f k hk args foot v foot' obs h ho

/-! ### the product -/
def mac (x y w o s h : Int) : List Prop := [inW x, inW y, pre (x * y % 18446744073709551616) w 0, pre ((x * y % 18446744073709551616 + w + 0) % 18446744073709551616) o 0,
  isV (u64 (((x * y % 18446744073709551616 + w + 0) % 18446744073709551616 + o + 0) % 18446744073709551616)) (u64 s),
  isV (u64 (wr (wr (x * y / 18446744073709551616 + (x * y % 18446744073709551616 + w + 0) / 18446744073709551616) + ((x * y % 18446744073709551616 + w + 0) % 18446744073709551616 + o + 0) / 18446744073709551616))) (u64 h)]

theorem mac_ex (x y w o : Int) (hx : inW x) (hy : inW y) (hw : inW w) (ho : inW o) : ∃ s h, Obs.all (mac x y w o s h) ∧ s + 18446744073709551616 * h = x * y + w + o ∧ inW s ∧ inW h := by
  have hp : 0 ≤ x * y ∧ x * y ≤ 340282366920938463426481119284349108225 := by
    refine ⟨Int.mul_nonneg hx.1 hy.1, ?_⟩
    have h1 : x * y ≤ 18446744073709551615 * y := Int.mul_le_mul_of_nonneg_right (by have := hx.2; omega) hy.1
    have := hy.2
    omega
  have p1 : pre (x * y % 18446744073709551616) w 0 := by unfold pre; have := hw.1; omega
  have p2 : pre ((x * y % 18446744073709551616 + w + 0) % 18446744073709551616) o 0 := by unfold pre; have := ho.1; omega
  refine ⟨_, _, by
    simp only [mac, all_cons, all_nil, and_true]
    exact ⟨hx, hy, p1, p2, rfl, rfl⟩, ?_, ?_, ?_⟩
  · generalize x * y = q at *
    unfold inW at *
    rw [wr_eq, wr_eq]; omega
  · unfold inW; omega
  · unfold inW; rw [wr_eq]; omega

theorem mul_run (x0 x1 x2 x3 y0 y1 y2 y3 s00 h00 s01 h01 s02 h02 s03 h03 s10 h10 s11 h11 s12 h12 s13 h13 s20 h20 s21 h21 s22 h22 s23 h23 s30 h30 s31 h31 s32 h32 s33 h33 r0 o0 r1 o1 r2 o2 r3 o3 : Int) : runFn S (exec S C2 60) (QF [(13, [(4, fo (u64 s00))]), (14, [(2, fo (u64 h00))]), (13, [(4, fo (u64 s01))]), (14, [(2, fo (u64 h01))]), (13, [(4, fo (u64 s02))]), (14, [(2, fo (u64 h02))]), (13, [(4, fo (u64 s03))]), (14, [(2, fo (u64 h03))]), (13, [(4, fo (u64 s10))]), (14, [(2, fo (u64 h10))]), (13, [(4, fo (u64 s11))]), (14, [(2, fo (u64 h11))]), (13, [(4, fo (u64 s12))]), (14, [(2, fo (u64 h12))]), (13, [(4, fo (u64 s13))]), (14, [(2, fo (u64 h13))]), (13, [(4, fo (u64 s20))]), (14, [(2, fo (u64 h20))]), (13, [(4, fo (u64 s21))]), (14, [(2, fo (u64 h21))]), (13, [(4, fo (u64 s22))]), (14, [(2, fo (u64 h22))]), (13, [(4, fo (u64 s23))]), (14, [(2, fo (u64 h23))]), (13, [(4, fo (u64 s30))]), (14, [(2, fo (u64 h30))]), (13, [(4, fo (u64 s31))]), (14, [(2, fo (u64 h31))]), (13, [(4, fo (u64 s32))]), (14, [(2, fo (u64 h32))]), (13, [(4, fo (u64 s33))]), (14, [(2, fo (u64 h33))]), (28, [(4, fo (u64 r0))]), (29, [(2, fo (u64 o0))]), (28, [(4, fo (u64 r1))]), (29, [(2, fo (u64 o1))]), (28, [(4, fo (u64 r2))]), (29, [(2, fo (u64 o2))]), (28, [(4, fo (u64 r3))]), (29, [(2, fo (u64 o3))])]) 15 [.agg [u64 x0, u64 x1, u64 x2, u64 x3], .agg [u64 y0, u64 y1, u64 y2, u64 y3]] [] =
    some (el ((valL [r0, r1, r2, r3] + 115792089237316195423570985008687907853269984665640564039457584007913129639936 * o3) % 57896044618658097711785492504343953926634992332820282019728792003956564819949), [], mac x0 y0 0 0 s00 h00 ++ mac x0 y1 0 h00 s01 h01 ++ mac x0 y2 0 h01 s02 h02 ++ mac x0 y3 0 h02 s03 h03 ++ mac x1 y0 s01 0 s10 h10 ++ mac x1 y1 s02 h10 s11 h11 ++ mac x1 y2 s03 h11 s12 h12 ++ mac x1 y3 h03 h12 s13 h13 ++ mac x2 y0 s11 0 s20 h20 ++ mac x2 y1 s12 h20 s21 h21 ++ mac x2 y2 s13 h21 s22 h22 ++ mac x2 y3 h13 h22 s23 h23 ++ mac x3 y0 s21 0 s30 h30 ++ mac x3 y1 s22 h30 s31 h31 ++ mac x3 y2 s23 h31 s32 h32 ++ mac x3 y3 h23 h32 s33 h33 ++ mac s31 38 s00 0 r0 o0 ++ mac s32 38 s10 o0 r1 o1 ++ mac s33 38 s20 o1 r2 o2 ++ mac h33 38 s30 o2 r3 o3 ++ [inW r0, inW r1, inW r2, inW r3, inW o3]) := by
  kernel_rfl

theorem row4 {x y0 y1 y2 y3 w0 w1 w2 w3 s0 s1 s2 s3 h0 h1 h2 h3 : Int} (e0 : s0 + 18446744073709551616 * h0 = x * y0 + w0 + 0) (e1 : s1 + 18446744073709551616 * h1 = x * y1 + w1 + h0) (e2 : s2 + 18446744073709551616 * h2 = x * y2 + w2 + h1) (e3 : s3 + 18446744073709551616 * h3 = x * y3 + w3 + h2) :
    valL [s0, s1, s2, s3] + 115792089237316195423570985008687907853269984665640564039457584007913129639936 * h3 = x * valL [y0, y1, y2, y3] + valL [w0, w1, w2, w3] := by
  have e : x * valL [y0, y1, y2, y3] = x * y0 + 18446744073709551616 * (x * y1) + 340282366920938463463374607431768211456 * (x * y2) + 6277101735386680763835789423207666416102355444464034512896 * (x * y3) := by simp only [valL]; grind
  rw [e]
  generalize x * y0 = p0 at *
  generalize x * y1 = p1 at *
  generalize x * y2 = p2 at *
  generalize x * y3 = p3 at *
  simp only [valL]; omega
theorem row38 {v0 v1 v2 v3 w0 w1 w2 w3 s0 s1 s2 s3 h0 h1 h2 h3 : Int} (e0 : s0 + 18446744073709551616 * h0 = v0 * 38 + w0 + 0) (e1 : s1 + 18446744073709551616 * h1 = v1 * 38 + w1 + h0) (e2 : s2 + 18446744073709551616 * h2 = v2 * 38 + w2 + h1) (e3 : s3 + 18446744073709551616 * h3 = v3 * 38 + w3 + h2) :
    valL [s0, s1, s2, s3] + 115792089237316195423570985008687907853269984665640564039457584007913129639936 * h3 = 38 * valL [v0, v1, v2, v3] + valL [w0, w1, w2, w3] := by
  simp only [valL]; omega
theorem in38 : inW 38 := by unfold inW; omega
theorem mul_math {x0 x1 x2 x3 Y a0 a1 a2 a3 a4 b1 b2 b3 b4 b5 c2 c3 c4 c5 c6 d3 d4 d5 d6 d7 R o : Int}
    (e0 : valL [a0, a1, a2, a3] + 115792089237316195423570985008687907853269984665640564039457584007913129639936 * a4 = x0 * Y + valL [0, 0, 0, 0]) (e1 : valL [b1, b2, b3, b4] + 115792089237316195423570985008687907853269984665640564039457584007913129639936 * b5 = x1 * Y + valL [a1, a2, a3, a4])
    (e2 : valL [c2, c3, c4, c5] + 115792089237316195423570985008687907853269984665640564039457584007913129639936 * c6 = x2 * Y + valL [b2, b3, b4, b5]) (e3 : valL [d3, d4, d5, d6] + 115792089237316195423570985008687907853269984665640564039457584007913129639936 * d7 = x3 * Y + valL [c3, c4, c5, c6])
    (er : R + 115792089237316195423570985008687907853269984665640564039457584007913129639936 * o = 38 * valL [d4, d5, d6, d7] + valL [a0, b1, c2, d3]) :
    (R + 115792089237316195423570985008687907853269984665640564039457584007913129639936 * o) % 57896044618658097711785492504343953926634992332820282019728792003956564819949 = (valL [x0, x1, x2, x3] * Y) % 57896044618658097711785492504343953926634992332820282019728792003956564819949 := by
  have e : valL [x0, x1, x2, x3] * Y = x0 * Y + 18446744073709551616 * (x1 * Y) + 340282366920938463463374607431768211456 * (x2 * Y) + 6277101735386680763835789423207666416102355444464034512896 * (x3 * Y) := by simp only [valL]; grind
  have : valL [x0, x1, x2, x3] * Y = R + 115792089237316195423570985008687907853269984665640564039457584007913129639936 * o + 57896044618658097711785492504343953926634992332820282019728792003956564819949 * (2 * valL [d4, d5, d6, d7]) := by
    rw [e]
    generalize x0 * Y = p0 at *
    generalize x1 * Y = p1 at *
    generalize x2 * Y = p2 at *
    generalize x3 * Y = p3 at *
    simp only [valL] at *
    omega
  rw [this, Int.add_mul_emod_self_left]

theorem mul_limbs (x0 x1 x2 x3 y0 y1 y2 y3 : Int) (ix0 : inW x0) (ix1 : inW x1) (ix2 : inW x2) (ix3 : inW x3) (iy0 : inW y0) (iy1 : inW y1) (iy2 : inW y2) (iy3 : inW y3) : CallOK Try.prog 15 [.agg [u64 x0, u64 x1, u64 x2, u64 x3], .agg [u64 y0, u64 y1, u64 y2, u64 y3]] [] (el ((valL [x0, x1, x2, x3] * valL [y0, y1, y2, y3]) % 57896044618658097711785492504343953926634992332820282019728792003956564819949)) [] := by
  obtain ⟨s00, h00, m0, e0, is00, ih00⟩ := mac_ex x0 y0 0 0 ix0 iy0 in0 in0
  obtain ⟨s01, h01, m1, e1, is01, ih01⟩ := mac_ex x0 y1 0 h00 ix0 iy1 in0 ih00
  obtain ⟨s02, h02, m2, e2, is02, ih02⟩ := mac_ex x0 y2 0 h01 ix0 iy2 in0 ih01
  obtain ⟨s03, h03, m3, e3, is03, ih03⟩ := mac_ex x0 y3 0 h02 ix0 iy3 in0 ih02
  obtain ⟨s10, h10, m4, e4, is10, ih10⟩ := mac_ex x1 y0 s01 0 ix1 iy0 is01 in0
  obtain ⟨s11, h11, m5, e5, is11, ih11⟩ := mac_ex x1 y1 s02 h10 ix1 iy1 is02 ih10
  obtain ⟨s12, h12, m6, e6, is12, ih12⟩ := mac_ex x1 y2 s03 h11 ix1 iy2 is03 ih11
  obtain ⟨s13, h13, m7, e7, is13, ih13⟩ := mac_ex x1 y3 h03 h12 ix1 iy3 ih03 ih12
  obtain ⟨s20, h20, m8, e8, is20, ih20⟩ := mac_ex x2 y0 s11 0 ix2 iy0 is11 in0
  obtain ⟨s21, h21, m9, e9, is21, ih21⟩ := mac_ex x2 y1 s12 h20 ix2 iy1 is12 ih20
  obtain ⟨s22, h22, m10, e10, is22, ih22⟩ := mac_ex x2 y2 s13 h21 ix2 iy2 is13 ih21
  obtain ⟨s23, h23, m11, e11, is23, ih23⟩ := mac_ex x2 y3 h13 h22 ix2 iy3 ih13 ih22
  obtain ⟨s30, h30, m12, e12, is30, ih30⟩ := mac_ex x3 y0 s21 0 ix3 iy0 is21 in0
  obtain ⟨s31, h31, m13, e13, is31, ih31⟩ := mac_ex x3 y1 s22 h30 ix3 iy1 is22 ih30
  obtain ⟨s32, h32, m14, e14, is32, ih32⟩ := mac_ex x3 y2 s23 h31 ix3 iy2 is23 ih31
  obtain ⟨s33, h33, m15, e15, is33, ih33⟩ := mac_ex x3 y3 h23 h32 ix3 iy3 ih23 ih32
  obtain ⟨r0, o0, m16, e16, ir0, io0⟩ := mac_ex s31 38 s00 0 is31 in38 is00 in0
  obtain ⟨r1, o1, m17, e17, ir1, io1⟩ := mac_ex s32 38 s10 o0 is32 in38 is10 io0
  obtain ⟨r2, o2, m18, e18, ir2, io2⟩ := mac_ex s33 38 s20 o1 is33 in38 is20 io1
  obtain ⟨r3, o3, m19, e19, ir3, io3⟩ := mac_ex h33 38 s30 o2 ih33 in38 is30 io2
  have hr := call_ok S_ok C2_ok 60 _ (mul_run x0 x1 x2 x3 y0 y1 y2 y3 s00 h00 s01 h01 s02 h02 s03 h03 s10 h10 s11 h11 s12 h12 s13 h13 s20 h20 s21 h21 s22 h22 s23 h23 s30 h30 s31 h31 s32 h32 s33 h33 r0 o0 r1 o1 r2 o2 r3 o3) (by
    simp only [Obs.all_append]
    exact ⟨⟨⟨⟨⟨⟨⟨⟨⟨⟨⟨⟨⟨⟨⟨⟨⟨⟨⟨⟨m0, m1⟩, m2⟩, m3⟩, m4⟩, m5⟩, m6⟩, m7⟩, m8⟩, m9⟩, m10⟩, m11⟩, m12⟩, m13⟩, m14⟩, m15⟩, m16⟩, m17⟩, m18⟩, m19⟩, by simp only [all_cons, all_nil, and_true]; exact ⟨ir0, ir1, ir2, ir3, io3⟩⟩)
  have f0 := row4 e0 e1 e2 e3
  have f1 := row4 e4 e5 e6 e7
  have f2 := row4 e8 e9 e10 e11
  have f3 := row4 e12 e13 e14 e15
  have f4 := row38 e16 e17 e18 e19
  have e := mul_math f0 f1 f2 f3 f4
  rw [e] at hr
  exact hr

theorem mul_ok (x y : Int) (hx : inF x) (hy : inF y) : CallOK Try.prog 15 [el x, el y] [] (el ((x * y) % 57896044618658097711785492504343953926634992332820282019728792003956564819949)) [] := by
  have hm := mul_limbs _ _ _ _ _ _ _ _ (limbs_in x _ (.head _)) (limbs_in x _ (.tail _ (.head _))) (limbs_in x _ (.tail _ (.tail _ (.head _)))) (limbs_in x _ (.tail _ (.tail _ (.tail _ (.head _))))) (limbs_in y _ (.head _)) (limbs_in y _ (.tail _ (.head _))) (limbs_in y _ (.tail _ (.tail _ (.head _)))) (limbs_in y _ (.tail _ (.tail _ (.tail _ (.head _)))))
  have hx' := val_limbs hx.1 (Int.lt_trans hx.2 (by decide))
  have hy' := val_limbs hy.1 (Int.lt_trans hy.2 (by decide))
  unfold limbs at hx' hy'
  rw [hx', hy'] at hm
  exact hm

end Go.Proofs.Ytmbeonieabofaaa
