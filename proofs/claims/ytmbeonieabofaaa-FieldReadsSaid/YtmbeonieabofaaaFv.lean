import Derived.Test.YtmbeonieabofaaaFu
set_option linter.unusedVariables false
set_option linter.unusedSimpArgs false
namespace Go.Proofs.Ytmbeonieabofaaa
open Go.Ab

theorem pB15 : pB 15 = 1766847064778384329583297500742918515827483896875618958121606201292619776 := by decide +kernel
theorem top_dig {E : Nat → Int} (hE : isD E) : ∃ lo, valD E 16 = lo + E 15 * 1766847064778384329583297500742918515827483896875618958121606201292619776 ∧ 0 ≤ lo ∧ lo < 1766847064778384329583297500742918515827483896875618958121606201292619776 := by
  have h := valD_range 15 (fun i _ => hE i)
  rw [pB15] at h
  exact ⟨valD E 15, by show valD E 15 + E 15 * pB 15 = _; rw [pB15], h.1, h.2⟩

def rdOf (E : Nat → Int) : Rd := ⟨1, E 15 - 32768, E 0 + 19, carD (fun i => if i = 0 then E 0 + 19 else if i = 15 then E 15 - 32768 else E i)⟩
theorem rdOf_D (E : Nat → Int) : rdD E (rdOf E) = fun i => if i = 0 then E 0 + 19 else if i = 15 then E 15 - 32768 else E i := rfl
theorem rd_val (E : Nat → Int) : valD (rdD E (rdOf E)) 16 = valD E 16 - 57896044618658097711785492504343953926634992332820282019728792003956564819949 := by
  rw [rdOf_D]
  have h0 : pB 0 = 1 := by decide +kernel
  have h15 := pB15
  simp [valD]
  rw [h0, h15]
  omega

theorem rd_ok {E : Nat → Int} (hE : isD E) (h : E 15 > 32767) : isD (rdOf E).E ∧ valD (rdOf E).E 16 = valD E 16 - 57896044618658097711785492504343953926634992332820282019728792003956564819949 ∧
    Obs.all [isV (bo (decide (E 15 > 32767))) (bo true), isV (u64 (wr ((E 15).tdiv 32768))) (u64 (rdOf E).top), isV (u64 ((E 15).tmod 32768)) (u64 (rdOf E).rem), isV (u64 (wr (E 0 + wr (19 * (rdOf E).top)))) (u64 (rdOf E).v),
      CallOK S.P 42 [.slice 0 0 16 none] [lstD 16 (rdD E (rdOf E)) false] (.slice 0 0 16 none) [lstD 16 (rdOf E).E false]] := by
  have h15 := hE 15
  have h0 := hE 0
  have hG : isG (rdD E (rdOf E)) := fun i => by
    rw [rdOf_D]
    have := hE i
    show 0 ≤ (if i = 0 then E 0 + 19 else if i = 15 then E 15 - 32768 else E i) ∧ (if i = 0 then E 0 + 19 else if i = 15 then E 15 - 32768 else E i) < _
    split
    · omega
    · split <;> omega
  have hc := carD_val (rdD E (rdOf E)) 16
  have hr := valD_inN (fun i (_ : i < 16) => carD_D (rdD E (rdOf E)) i)
  have hcr := carC_r hG 16
  have hV := valD_inN (fun i (_ : i < 16) => hE i)
  rw [rd_val, pB16] at hc
  unfold inN at hr hV
  have hc0 : carC (rdD E (rdOf E)) 16 = 0 := by omega
  have hcar := car_ok (rdD E (rdOf E)) hG 16 (.inl rfl) (by omega) false false (by rw [hc0]; rfl)
  refine ⟨carD_D _, ?_, ?_⟩
  · show valD (carD (rdD E (rdOf E))) 16 = _
    rw [hc0] at hc; omega
  · simp only [all_cons, all_nil, and_true]
    refine ⟨isV_bo (decide_eq_true h), isV_u64 ?_, isV_u64 ?_, isV_u64 ?_, hcar⟩
    · rw [Int.tdiv_eq_ediv_of_nonneg (by omega), wr_id (by omega) (by omega)]; show _ = (1 : Int); omega
    · rw [Int.tmod_eq_emod_of_nonneg (by omega)]; show _ = E 15 - 32768; omega
    · show wr (E 0 + wr (19 * 1)) = E 0 + 19
      rw [wr_id (x := 19 * 1) (by omega) (by omega), wr_id (by omega) (by omega)]; omega

theorem rds_ex {E : Nat → Int} (hE : isD E) : ∃ rs : List Rd, (rs = [] ∨ (∃ r, rs = [r]) ∨ ∃ r r', rs = [r, r']) ∧ Obs.all (rdsO E rs) ∧ isD (lastE E rs) ∧ valD (lastE E rs) 16 < 57896044618658097711785492504343953926634992332820282019728792003956564819968 ∧
    valD (lastE E rs) 16 % 57896044618658097711785492504343953926634992332820282019728792003956564819949 = valD E 16 % 57896044618658097711785492504343953926634992332820282019728792003956564819949 := by
  have stop : ∀ {E : Nat → Int}, isD E → ¬ E 15 > 32767 → valD E 16 < 57896044618658097711785492504343953926634992332820282019728792003956564819968 := fun hE h => by
    obtain ⟨lo, e, l0, l1⟩ := top_dig hE
    omega
  have nil : ∀ {E : Nat → Int}, ¬ E 15 > 32767 → Obs.all (rdsO E []) := fun h => by
    simp only [rdsO, all_cons, all_nil, and_true]; exact isV_bo (decide_eq_false h)
  by_cases h1 : E 15 > 32767
  · obtain ⟨d1, v1, o1⟩ := rd_ok hE h1
    by_cases h2 : (rdOf E).E 15 > 32767
    · obtain ⟨d2, v2, o2⟩ := rd_ok d1 h2
      have hV := valD_inN (fun i (_ : i < 16) => hE i)
      unfold inN at hV
      have h3 : ¬ (rdOf (rdOf E).E).E 15 > 32767 := by
        obtain ⟨lo, e, l0, l1⟩ := top_dig d2
        omega
      refine ⟨[rdOf E, rdOf (rdOf E).E], .inr (.inr ⟨_, _, rfl⟩), Obs.all_append.2 ⟨o1, Obs.all_append.2 ⟨o2, nil h3⟩⟩, d2, stop d2 h3, ?_⟩
      show valD (rdOf (rdOf E).E).E 16 % _ = _
      rw [v2, v1]; omega
    · refine ⟨[rdOf E], .inr (.inl ⟨_, rfl⟩), Obs.all_append.2 ⟨o1, nil h2⟩, d1, stop d1 h2, ?_⟩
      show valD (rdOf E).E 16 % _ = _
      rw [v1]; omega
  · exact ⟨[], .inl rfl, nil h1, hE, stop hE h1, rfl⟩

theorem mod_fin (b N0 : Nat) (D0 D : Nat → Int) (e : Bool) (hb : (b = 0 ∧ N0 = 16) ∨ b = 2) (F E : Nat → Int) (hF : F = if b = 0 then D0 else D) (hG : isG F) (hc0 : carC F 16 = 0) (hEF : E = carD F)
    (hl : TriOK S.P (.loop (LB Try.f39 0)) (modT 0 N0) [lstD N0 D0 e, zB] (.exit 0) (modT b 16) (modH b N0 D0 D e)) :
    CallOK Try.prog 39 [.slice 0 0 N0 none] [lstD N0 D0 e] (num (valD E 16 % 57896044618658097711785492504343953926634992332820282019728792003956564819949)) [lstD N0 D0 e] := by
  have hE : isD E := by rw [hEF]; exact carD_D F
  have hcar := car_ok F hG 16 (.inl rfl) (by rw [hc0]; omega) false false (by rw [hc0]; rfl)
  rw [hc0, ← hEF] at hcar
  obtain ⟨rs, hrs, ho, hd, hlt, hv⟩ := rds_ex hE
  have hW := valD_range 16 (fun i _ => hd i)
  have hrun : ∀ lt y, RunFin b N0 D0 D E e rs lt y := fun lt y => by
    rcases hb with ⟨rfl, rfl⟩ | rfl
    · rcases hrs with rfl | ⟨r, rfl⟩ | ⟨r, r', rfl⟩
      · exact fin_a0 _ _ _ _ _ _
      · exact fin_a1 _ _ _ _ _ _ _
      · exact fin_a2 _ _ _ _ _ _ _ _
    · rcases hrs with rfl | ⟨r, rfl⟩ | ⟨r, r', rfl⟩
      · exact fin_b0 _ _ _ _ _ _ _
      · exact fin_b1 _ _ _ _ _ _ _ _
      · exact fin_b2 _ _ _ _ _ _ _ _ _
  have hN : numA (lastE E rs) = num (valD (lastE E rs) 16) := numA_num (fun i _ => hd i)
  have inW' : inN (valD (lastE E rs) 16) := valD_inN (fun i _ => hd i)
  have inP : inN 57896044618658097711785492504343953926634992332820282019728792003956564819949 := by unfold inN; omega
  have hless := rless_ok _ _ inW' inP
  rw [← hN] at hless
  have hcall := call_ok S_ok noC_ok 80 _ (hrun (decide (valD (lastE E rs) 16 < 57896044618658097711785492504343953926634992332820282019728792003956564819949)) (valD (lastE E rs) 16 - 57896044618658097711785492504343953926634992332820282019728792003956564819949)) (by
    refine Obs.all_append.2 ⟨?_, ?_⟩
    · simp only [all_cons, all_nil, and_true]
      exact ⟨TriOK.pre [0, 2] hl, by rw [← hF]; exact hcar⟩
    · refine Obs.all_append.2 ⟨Obs.all_append.2 ⟨ho, ?_⟩, ?_⟩
      · simp only [all_cons, all_nil, and_true]; exact ⟨rprime_ok, hless⟩
      · split
        · simp only [all_nil]
        · rename_i hn
          have hmin := rminus_ok _ _ inW' inP (by simp at hn; omega)
          rw [← hN] at hmin
          simp only [all_cons, all_nil, and_true]; exact ⟨rprime_ok, hmin⟩)
  have e2 : num (valD E 16 % 57896044618658097711785492504343953926634992332820282019728792003956564819949) =
      if decide (valD (lastE E rs) 16 < 57896044618658097711785492504343953926634992332820282019728792003956564819949) = true then numA (lastE E rs) else num (valD (lastE E rs) 16 - 57896044618658097711785492504343953926634992332820282019728792003956564819949) := by
    rw [hN, ← hv]
    by_cases h : valD (lastE E rs) 16 < 57896044618658097711785492504343953926634992332820282019728792003956564819949
    · rw [if_pos (decide_eq_true h)]; congr 1; omega
    · rw [if_neg (by simpa using h)]; congr 1; omega
  rw [e2]
  exact hcall

/-- Mod, of digits below 65536. -/
theorem mod_ok (N : Nat) (hN : N = 16 ∨ N = 17 ∨ N = 31 ∨ N = 32) (D : Nat → Int) (hD : isD D) (e : Bool) :
    CallOK Try.prog 39 [.slice 0 0 N none] [lstD N D e] (num (valD D N % 57896044618658097711785492504343953926634992332820282019728792003956564819949)) [lstD N D e] := by
  rcases hN with rfl | hN
  · exact mod_fin 0 16 D D e (.inl ⟨rfl, rfl⟩) D D rfl (isG_of hD) (car_norm hD 16) (carD_norm hD).symm (tril_tri (tril_end (by simp) (tri_exec S_ok noC_ok 60 _ _ mod_reg (mod_endA D e) (by simp only [all_nil]))))
  · obtain ⟨E, hl, hE, hv⟩ := loop_a N hN D hD e
    have := mod_fin 2 N D E e (.inr rfl) E E rfl (isG_of hE) (car_norm hE 16) (carD_norm hE).symm hl
    rw [hv] at this
    exact this

/-- Mod, of sixteen digits that may be great. -/
theorem mod_ok16 (D : Nat → Int) (hD : ∀ i, 0 ≤ D i ∧ D i < 131072) (e : Bool) :
    CallOK Try.prog 39 [.slice 0 0 16 none] [lstD 16 D e] (num (valD D 16 % 57896044618658097711785492504343953926634992332820282019728792003956564819949)) [lstD 16 D e] := by
  have hG : isG D := fun i => by have := hD i; omega
  have hl : TriOK S.P (.loop (LB Try.f39 0)) (modT 0 16) [lstD 16 D e, zB] (.exit 0) (modT 0 16) [lstD 16 D e, zB] := tril_tri (tril_end (by simp) (tri_exec S_ok noC_ok 60 _ _ mod_reg (mod_endA D e) (by simp only [all_nil])))
  have hcb : ∀ n, 0 ≤ carC D n ∧ carC D n ≤ 2 := fun n => by
    induction n with
    | zero => simp [carC]
    | succ n ih => have := hD n; simp only [carC]; omega
  have hc := hcb 16
  have hv := carD_val D 16
  rw [pB16] at hv
  by_cases h0 : carC D 16 = 0
  · have := mod_fin 0 16 D D e (.inl ⟨rfl, rfl⟩) D (carD D) rfl hG h0 rfl hl
    rw [h0] at hv
    rw [show valD (carD D) 16 = valD D 16 by omega] at this
    exact this
  · have hD2 : isD (extD 16 (carD D) (carC D 16)) := extD_D (carD_D D) hc.1 (by omega)
    have hm := mod_ok 17 (.inr (.inl rfl)) (extD 16 (carD D) (carC D 16)) hD2 false
    rw [valD_ext, hv] at hm
    have hcar := car_ok D hG 16 (.inl rfl) (by omega) false true (by simp; omega)
    exact call_ok S_ok noC_ok 80 _ (again_run D (carD D) e (carC D 16) _) (by
      simp only [all_cons, all_nil, and_true]
      exact ⟨TriOK.pre [0, 2] hl, hcar, hm⟩)

end Go.Proofs.Ytmbeonieabofaaa
