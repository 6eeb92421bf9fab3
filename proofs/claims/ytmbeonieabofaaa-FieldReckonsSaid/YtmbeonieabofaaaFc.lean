import Derived.Test.YtmbeonieabofaaaFb
set_option linter.unusedVariables false
set_option linter.unusedSimpArgs false
namespace Go.Proofs.Ytmbeonieabofaaa
open Go.Ab

def lessC : Rec0 := fun args foot => match args, foot with
  | [.agg [.raw (.int .u64 a), .raw (.int .u64 b), .raw (.int .u64 c), .raw (.int .u64 d)]], [] => some (el (lessV (valL [a, b, c, d])), [], [inW a, inW b, inW c, inW d])
  | _, _ => none
def mul64C : Rec0 := fun args foot => match args, foot with
  | [.raw (.int .u64 x), .raw (.int .u64 y)], [] => some (.tup [u64 (x * y / 18446744073709551616), u64 (x * y % 18446744073709551616)], [], [inW x, inW y])
  | _, _ => none
noncomputable def C1 : Cons := fun f => if f == 36 then some lessC else if f == 40 then some mul64C else none
theorem C1_ok : ConsOK Try.prog C1 := by
  intro f k hk args foot v foot' obs h ho
  unfold C1 at hk
  split at hk
  · rename_i e
    obtain rfl : f = 36 := by simpa using e
    simp only [Option.some.injEq] at hk; subst hk
    unfold lessC at h
    split at h
    · simp only [Option.some.injEq, Prod.mk.injEq] at h
      obtain ⟨rfl, rfl, rfl⟩ := h
      simp only [all_cons, all_nil, and_true] at ho
      exact less_ok _ _ _ _ ho.1 ho.2.1 ho.2.2.1 ho.2.2.2
    · cases h
  · split at hk
    · rename_i e
      obtain rfl : f = 40 := by simpa using e
      simp only [Option.some.injEq] at hk; subst hk
      unfold mul64C at h
      split at h
      · simp only [Option.some.injEq, Prod.mk.injEq] at h
        obtain ⟨rfl, rfl, rfl⟩ := h
        simp only [all_cons, all_nil, and_true] at ho
        exact mul64_ok _ _ ho.1 ho.2
      · cases h
    · cases hk

theorem add_run (a b c d e f g h : Int) : runFn S (exec S C1 60) [] 11 [.agg [u64 a, u64 b, u64 c, u64 d], .agg [u64 e, u64 f, u64 g, u64 h]] [] =
    some (el (lessV (valL (addGo ([a, b, c, d].zip [e, f, g, h]) 0).1)), [], (addGo ([a, b, c, d].zip [e, f, g, h]) 0).2.2 ++ (addGo ([a, b, c, d].zip [e, f, g, h]) 0).1.map inW) := by
  kernel_rfl

theorem neg_run (a b c d : Int) : runFn S (exec S C1 60) [] 18 [.agg [u64 a, u64 b, u64 c, u64 d]] [] =
    some (el (lessV (valL (subGo (primeL.zip [a, b, c, d]) 0).1)), [], (subGo (primeL.zip [a, b, c, d]) 0).2.2 ++ (subGo (primeL.zip [a, b, c, d]) 0).1.map inW) := by
  kernel_rfl

theorem all_inW {l : List Int} (h : ∀ s ∈ l, inW s) : Obs.all (l.map inW) := by
  intro p hp
  obtain ⟨s, hs, rfl⟩ := List.mem_map.1 hp
  exact h s hs

def inF (x : Int) : Prop := 0 ≤ x ∧ x < 57896044618658097711785492504343953926634992332820282019728792003956564819949
abbrev P5 : Int := 57896044618658097711785492504343953926634992332820282019728792003956564819949

theorem zip_in {l m : List Int} (hl : ∀ s ∈ l, inW s) (hm : ∀ s ∈ m, inW s) : ∀ p ∈ l.zip m, inW p.1 ∧ inW p.2 := fun p hp => by
  obtain ⟨h1, h2⟩ := List.of_mem_zip (a := p.1) (b := p.2) hp
  exact ⟨hl _ h1, hm _ h2⟩

theorem add_ok (x y : Int) (hx : inF x) (hy : inF y) : CallOK Try.prog 11 [el x, el y] [] (el ((x + y) % 57896044618658097711785492504343953926634992332820282019728792003956564819949)) [] := by
  obtain ⟨h1, h2, h3, h4, h5, h6⟩ := addGo_spec ((limbs x).zip (limbs y)) 0 (zip_in (limbs_in x) (limbs_in y)) (by omega) (by omega)
  have hr := call_ok S_ok C1_ok 60 _ (add_run (x % 18446744073709551616) _ _ _ (y % 18446744073709551616) _ _ _) (Obs.all_append.2 ⟨h5, all_inW h2⟩)
  have e1 : ((limbs x).zip (limbs y)).map (·.1) = limbs x := rfl
  have e2 : ((limbs x).zip (limbs y)).map (·.2) = limbs y := rfl
  have e3 : ((limbs x).zip (limbs y)).length = 4 := rfl
  have e4 : powM 4 = 115792089237316195423570985008687907853269984665640564039457584007913129639936 := by decide
  obtain ⟨hx0, hx1⟩ := hx
  obtain ⟨hy0, hy1⟩ := hy
  rw [e1, e2, e3, e4, val_limbs hx0 (by omega), val_limbs hy0 (by omega)] at h1
  change CallOK Try.prog 11 [el x, el y] [] (el (lessV (valL (addGo ((limbs x).zip (limbs y)) 0).1))) [] at hr
  rw [e3] at h6
  generalize addGo ((limbs x).zip (limbs y)) 0 = q at *
  obtain ⟨ql, qb, qo⟩ := q
  simp only at h1 h2 h3 h4 h5 h6 hr
  have hq : 0 ≤ valL ql ∧ valL ql < 115792089237316195423570985008687907853269984665640564039457584007913129639936 := by
    match ql, h6 with
    | [s0, s1, s2, s3], _ =>
      have q0 := h2 s0 (by simp)
      have q1 := h2 s1 (by simp)
      have q2 := h2 s2 (by simp)
      have q3 := h2 s3 (by simp)
      simp only [valL]; unfold inW at *; omega
  have e : lessV (valL ql) = (x + y) % 57896044618658097711785492504343953926634992332820282019728792003956564819949 := by unfold lessV; split <;> omega
  rw [e] at hr
  exact hr

theorem neg_ok (x : Int) (hx : inF x) : CallOK Try.prog 18 [el x] [] (el ((-x) % 57896044618658097711785492504343953926634992332820282019728792003956564819949)) [] := by
  have hp : ∀ s ∈ primeL, inW s := by intro s hs; simp only [primeL, List.mem_cons, List.not_mem_nil, or_false] at hs; unfold inW; rcases hs with rfl | rfl | rfl | rfl <;> omega
  obtain ⟨h1, h2, h3, h4, h5, h6⟩ := subGo_spec (primeL.zip (limbs x)) 0 (zip_in hp (limbs_in x)) (by omega) (by omega)
  have hr := call_ok S_ok C1_ok 60 _ (neg_run (x % 18446744073709551616) _ _ _) (Obs.all_append.2 ⟨h5, all_inW h2⟩)
  have e1 : (primeL.zip (limbs x)).map (·.1) = primeL := rfl
  have e2 : (primeL.zip (limbs x)).map (·.2) = limbs x := rfl
  have e3 : (primeL.zip (limbs x)).length = 4 := rfl
  have e4 : powM 4 = 115792089237316195423570985008687907853269984665640564039457584007913129639936 := by decide
  have e5 : valL primeL = 57896044618658097711785492504343953926634992332820282019728792003956564819949 := by decide
  obtain ⟨hx0, hx1⟩ := hx
  rw [e1, e2, e3, e4, e5, val_limbs hx0 (by omega)] at h1
  change CallOK Try.prog 18 [el x] [] (el (lessV (valL (subGo (primeL.zip (limbs x)) 0).1))) [] at hr
  rw [e3] at h6
  generalize subGo (primeL.zip (limbs x)) 0 = q at *
  obtain ⟨ql, qb, qo⟩ := q
  simp only at h1 h2 h3 h4 h5 h6 hr
  have hq : 0 ≤ valL ql ∧ valL ql < 115792089237316195423570985008687907853269984665640564039457584007913129639936 := by
    match ql, h6 with
    | [s0, s1, s2, s3], _ =>
      have q0 := h2 s0 (by simp)
      have q1 := h2 s1 (by simp)
      have q2 := h2 s2 (by simp)
      have q3 := h2 s3 (by simp)
      simp only [valL]; unfold inW at *; omega
  have e : lessV (valL ql) = (-x) % 57896044618658097711785492504343953926634992332820282019728792003956564819949 := by unfold lessV; split <;> omega
  rw [e] at hr
  exact hr

end Go.Proofs.Ytmbeonieabofaaa
