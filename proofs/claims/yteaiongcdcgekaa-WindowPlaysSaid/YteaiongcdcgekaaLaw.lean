import Derived.Test.YteaiongcdcgekaaPlay
set_option linter.unusedVariables false
set_option linter.unusedSimpArgs false
namespace Go.Proofs.Yteaiongcdcgekaa
open Go.Ab

/-! The plain law: what the window keeps is what the list says. No program here. -/

theorem and_nat (a b : Nat) (ha : a < 2 ^ 64) (hb : b < 2 ^ 64) : andV (a : Int) (b : Int) = ((a &&& b : Nat) : Int) := by
  unfold andV
  rw [BitVec.ofInt_natCast, BitVec.ofInt_natCast, wrap_u64, BitVec.toNat_and, BitVec.toNat_ofNat, BitVec.toNat_ofNat, Nat.mod_eq_of_lt ha, Nat.mod_eq_of_lt hb]
  have : a &&& b < 2 ^ 64 := Nat.and_lt_two_pow a hb
  omega
theorem or_nat (a b : Nat) (ha : a < 2 ^ 64) (hb : b < 2 ^ 64) : orV (a : Int) (b : Int) = ((a ||| b : Nat) : Int) := by
  unfold orV
  rw [BitVec.ofInt_natCast, BitVec.ofInt_natCast, wrap_u64, BitVec.toNat_or, BitVec.toNat_ofNat, BitVec.toNat_ofNat, Nat.mod_eq_of_lt ha, Nat.mod_eq_of_lt hb]
  have : a ||| b < 2 ^ 64 := Nat.or_lt_two_pow ha hb
  omega
theorem shr_nat (a d : Nat) (hd : d < 64) : shrV (a : Int) (d : Int) = ((a >>> d : Nat) : Int) := by
  unfold shrV
  rw [Int.toNat_natCast, Nat.min_eq_left (by omega), Int.fdiv_eq_ediv_of_nonneg _ (Int.le_of_lt (Int.pow_pos (by omega))), Nat.shiftRight_eq_div_pow]
  simp
theorem shl_nat (a d : Nat) (hd : d < 64) : shlV (a : Int) (d : Int) = ((a <<< d % 2 ^ 64 : Nat) : Int) := by
  unfold shlV
  rw [Int.toNat_natCast, Nat.min_eq_left (by omega), wrap_u64, Nat.shiftLeft_eq]
  simp

theorem bit_nat (a d : Nat) (ha : a < 2 ^ 64) (hd : d < 64) : (andV (shrV (a : Int) (d : Int)) 1 == 1) = a.testBit d := by
  have h1 : a >>> d < 2 ^ 64 := Nat.lt_of_le_of_lt (by rw [Nat.shiftRight_eq_div_pow]; exact Nat.div_le_self _ _) ha
  rw [shr_nat a d hd, show (1 : Int) = ((1 : Nat) : Int) from rfl, and_nat _ _ h1 (by omega)]
  rw [Nat.and_one_is_mod, Nat.testBit_eq_decide_div_mod_eq, Nat.shiftRight_eq_div_pow]
  generalize a / 2 ^ d = z
  rw [Bool.eq_iff_iff, beq_iff_eq, decide_eq_true_eq]
  omega

structure Inv (C : List Int) (g b : Int) : Prop where
  ex : ∃ G B : Nat, g = G ∧ b = B ∧ G < 2 ^ 64 ∧ B < 2 ^ 64 ∧ (∀ y ∈ C, 0 ≤ y) ∧ (G : Int) ∈ C ∧ (∀ y ∈ C, y ≤ G) ∧ ∀ i, i < 64 → (B.testBit i = true ↔ i ≤ G ∧ ((G - i : Nat) : Int) ∈ C)

theorem gmax_go : ∀ (L : List Int) (m : Int), (∀ y ∈ L, y ≤ L.foldl (fun m x => if x > m then x else m) m) ∧ m ≤ L.foldl (fun m x => if x > m then x else m) m ∧ (L.foldl (fun m x => if x > m then x else m) m = m ∨ L.foldl (fun m x => if x > m then x else m) m ∈ L)
  | [], m => by simp
  | x :: r, m => by
    obtain ⟨h1, h2, h3⟩ := gmax_go r (if x > m then x else m)
    simp only [List.foldl_cons]
    refine ⟨fun y hy => ?_, ?_, ?_⟩
    · rcases List.mem_cons.1 hy with rfl | hy
      · split at h2 <;> split <;> first | omega | simp_all <;> omega
      · exact h1 y hy
    · split at h2 <;> split <;> simp_all <;> omega
    · rcases h3 with h3 | h3
      · rw [h3]
        split
        · exact .inr (.head _)
        · exact .inl rfl
      · exact .inr (.tail _ h3)

theorem gmax_eq {C : List Int} {G : Nat} (hm : (G : Int) ∈ C) (hle : ∀ y ∈ C, y ≤ G) : gmax C = G := by
  obtain ⟨h1, h2, h3⟩ := gmax_go C 0
  have := h1 _ hm
  change (G : Int) ≤ gmax C at this
  rcases h3 with h3 | h3
  · change gmax C = 0 at h3; omega
  · have := hle _ h3; change gmax C ≤ G at this; omega

theorem Inv.ne {C : List Int} {g b : Int} (h : Inv C g b) : b ≠ 0 := by
  obtain ⟨G, B, rfl, rfl, hG, hB, hnn, hm, hle, hb⟩ := h.ex
  intro e
  obtain rfl : B = 0 := by omega
  have := (hb 0 (by omega)).2 ⟨by omega, by simpa using hm⟩
  simp at this

theorem Inv.pos {C : List Int} {g b : Int} (h : Inv C g b) : 0 < C.length := by
  obtain ⟨G, B, rfl, rfl, hG, hB, hnn, hm, hle, hb⟩ := h.ex
  exact List.length_pos_of_mem hm

theorem Inv.alike {C : List Int} {g b : Int} (h : Inv C g b) (X : Nat) (hX : X < 2 ^ 64) : Alike C g b X := by
  have hbne := h.ne
  have hpos := h.pos
  obtain ⟨G, B, rfl, rfl, hG, hB, hnn, hm, hle, hb⟩ := h.ex
  have hgm := gmax_eq hm hle
  have hB1 : ((B : Int) != 0) = true := by simpa using hbne
  have hin : inB G B X = decide (X ≤ G) := by unfold inB; rw [hB1]; simp
  have hB0 : ((B : Int) == 0) = false := by simpa using hbne
  have hold : oldV C X = (decide (X < G) && decide (G - X ≥ 64)) := by
    unfold oldV
    rw [hgm, wrap_u64]
    by_cases hlt : X < G
    · have e : ((G : Int) - X) % 18446744073709551616 = ((G - X : Nat) : Int) := by omega
      rw [e]
      have e2 : decide (((G - X : Nat) : Int) ≥ 64) = decide (G - X ≥ 64) := by congr 1; apply propext; omega
      rw [e2]; simp [hlt, hpos]
    · simp [hlt]
  have hd : X ≤ G → dV G X = ((G - X : Nat) : Int) := fun hle' => by unfold dV; rw [wrap_u64]; omega
  have hfar : X ≤ G → farB G X = decide (G - X ≥ 64) := fun hle' => by unfold farB; rw [hd hle']; congr 1; apply propext; omega
  have hbit : X ≤ G → G - X < 64 → bitB G B X = decide ((X : Int) ∈ C) := fun hle' hlt => by
    unfold bitB
    rw [hd hle', bit_nat B _ hB hlt]
    have := hb (G - X) hlt
    rw [show G - (G - X) = X by omega] at this
    rw [Bool.eq_iff_iff, this, decide_eq_true_eq]
    exact ⟨fun h => h.2, fun h => ⟨by omega, h⟩⟩
  have hnot : ¬ X ≤ G → (X : Int) ∉ C := fun hgt hmem => by have := hle _ hmem; omega
  refine ⟨by rw [hB0, hgm]; simp, by simp [hB0, hpos], ?_, ?_⟩
  · unfold cameV rcameV
    rw [hin, hold]
    by_cases hle' : X ≤ G
    · rw [hd hle']
      by_cases hlt : G - X < 64
      · rw [hbit hle' hlt]
        have : decide (((G - X : Nat) : Int) < 64) = true := by simp; omega
        rw [this]
        simp [hle', show ¬ (G - X ≥ 64) by omega]
      · have : decide (((G - X : Nat) : Int) < 64) = false := by simp; omega
        rw [this]
        have h2 : X < G := by omega
        simp [h2, show G - X ≥ 64 by omega]
    · simp [hle', hnot hle']
  · unfold chk rchk rcameV
    rw [hin, hold]
    by_cases hle' : X ≤ G
    · rw [hfar hle']
      by_cases hlt : G - X < 64
      · rw [hbit hle' hlt]
        by_cases hmem : (X : Int) ∈ C <;> simp [checkV, hle', hmem, show ¬ (64 ≤ G - X) by omega]
      · have h2 : X < G := by omega
        simp [checkV, hle', h2, show G - X ≥ 64 by omega, show 64 ≤ G - X by omega]
    · simp [checkV, hle', hnot hle', show ¬ X < G by omega]


theorem first_chk (x : Int) : chk 0 0 x = 0 := by simp [chk, checkV, inB]
theorem first_g (x : Int) : tG 0 0 x = x := by unfold tG; rw [first_chk]; simp [takeG, inB]
theorem first_b (x : Int) : tB 0 0 x = 1 := by unfold tB; rw [first_chk]; simp [takeB, inB]

theorem Inv.first (X : Nat) (hX : X < 2 ^ 64) : Inv [(X : Int)] (X : Int) 1 := by
  refine ⟨X, 1, rfl, rfl, hX, by omega, by simp, by simp, by simp, fun i hi => ?_⟩
  rw [Nat.testBit_one_eq_true_iff_self_eq_zero]
  simp
  omega

theorem kept_g {g b x : Int} (h : chk g b x ≠ 0) : tG g b x = g := by simp [tG, takeG, h]
theorem kept_b {g b x : Int} (h : chk g b x ≠ 0) : tB g b x = b := by simp [tB, takeB, h]

theorem Inv.step {C : List Int} {g b : Int} (h : Inv C g b) (X : Nat) (hX : X < 2 ^ 64) (hc : chk g b X = 0) : Inv (C ++ [(X : Int)]) (tG g b X) (tB g b X) := by
  have hbne := h.ne
  have hal := (h.alike X hX).check
  obtain ⟨G, B, rfl, rfl, hG, hB, hnn, hm, hle, hb⟩ := h.ex
  have hB0 : ((B : Int) == 0) = false := by simpa using hbne
  have hB1 : ((B : Int) != 0) = true := by simpa using hbne
  have hin : inB G B X = decide (X ≤ G) := by unfold inB; rw [hB1]; simp
  have hne : (chk (G : Int) (B : Int) (X : Int) != 0) = false := by rw [hc]; rfl
  have hmem' : ∀ y : Int, y ∈ C ++ [(X : Int)] ↔ y ∈ C ∨ y = X := fun y => by simp
  unfold tG tB
  rw [hne, hin, hB0]
  by_cases hle' : X ≤ G
  · have hd : dV G X = ((G - X : Nat) : Int) := by unfold dV; rw [wrap_u64]; omega
    have hlt : G - X < 64 := by
      rcases Nat.lt_or_ge (G - X) 64 with q | q
      · exact q
      · have : farB G X = true := by unfold farB; rw [hd]; simp; omega
        simp [chk, checkV, hin, hle', this] at hc
    rw [hd]
    simp only [takeG, takeB, hle', decide_true, if_true, Bool.false_eq_true, if_false]
    have e1 : shlV 1 ((G - X : Nat) : Int) = ((1 <<< (G - X) % 2 ^ 64 : Nat) : Int) := shl_nat 1 (G - X) hlt
    have e2 : 1 <<< (G - X) % 2 ^ 64 = 2 ^ (G - X) := by
      rw [Nat.one_shiftLeft]; exact Nat.mod_eq_of_lt (Nat.pow_lt_pow_right (by omega) hlt)
    have h2 : 2 ^ (G - X) < 2 ^ 64 := Nat.pow_lt_pow_right (by omega) hlt
    rw [e1, e2, or_nat B _ hB h2]
    refine ⟨G, B ||| 2 ^ (G - X), rfl, rfl, hG, Nat.or_lt_two_pow hB h2, ?_, (hmem' _).2 (.inl hm), ?_, fun i hi => ?_⟩
    · intro y hy; rcases (hmem' y).1 hy with hy | rfl
      · exact hnn y hy
      · omega
    · intro y hy; rcases (hmem' y).1 hy with hy | rfl
      · exact hle y hy
      · omega
    · rw [Nat.testBit_or, Bool.or_eq_true, hb i hi, Nat.testBit_two_pow, decide_eq_true_eq, hmem']
      constructor
      · rintro (⟨q1, q2⟩ | rfl)
        · exact ⟨q1, .inl q2⟩
        · exact ⟨by omega, .inr (by omega)⟩
      · rintro ⟨q1, q2 | q2⟩
        · exact .inl ⟨q1, q2⟩
        · exact .inr (by omega)
  · have hd : dV X G = ((X - G : Nat) : Int) := by unfold dV; rw [wrap_u64]; omega
    have hnn' : ∀ y ∈ C ++ [(X : Int)], 0 ≤ y := fun y hy => by
      rcases (hmem' y).1 hy with hy | rfl
      · exact hnn y hy
      · omega
    have hle2 : ∀ y ∈ C ++ [(X : Int)], y ≤ X := fun y hy => by
      rcases (hmem' y).1 hy with hy | rfl
      · have := hle y hy; omega
      · omega
    rw [hd]
    simp only [takeG, takeB, hle', decide_false, Bool.false_eq_true, if_false]
    by_cases hfar : X - G ≥ 64
    · have : decide (((X - G : Nat) : Int) ≥ 64) = true := by simp; omega
      rw [this]
      simp only [if_true]
      rw [show orV 0 1 = ((0 ||| 1 : Nat) : Int) from or_nat 0 1 (by omega) (by omega)]
      refine ⟨X, 0 ||| 1, rfl, rfl, hX, by decide, hnn', (hmem' _).2 (.inr rfl), hle2, fun i hi => ?_⟩
      rw [show (0 ||| 1 : Nat) = 1 from rfl, Nat.testBit_one_eq_true_iff_self_eq_zero, hmem']
      constructor
      · rintro rfl; exact ⟨by omega, .inr rfl⟩
      · rintro ⟨q1, q2 | q2⟩
        · have := hle _ q2; omega
        · omega
    · have : decide (((X - G : Nat) : Int) ≥ 64) = false := by simp; omega
      rw [this]
      simp only [Bool.false_eq_true, if_false]
      have hm64 : B <<< (X - G) % 2 ^ 64 < 2 ^ 64 := Nat.mod_lt _ (by omega)
      rw [shl_nat B (X - G) (by omega), show (1 : Int) = ((1 : Nat) : Int) from rfl, or_nat _ 1 hm64 (by omega)]
      refine ⟨X, B <<< (X - G) % 2 ^ 64 ||| 1, rfl, rfl, hX, Nat.or_lt_two_pow hm64 (by omega), hnn', (hmem' _).2 (.inr rfl), hle2, fun i hi => ?_⟩
      rw [Nat.testBit_or, Nat.testBit_mod_two_pow, Nat.testBit_shiftLeft, Bool.or_eq_true, Nat.testBit_one_eq_true_iff_self_eq_zero, hmem']
      simp only [Bool.and_eq_true, decide_eq_true_eq]
      constructor
      · rintro (⟨-, q1, q2⟩ | rfl)
        · obtain ⟨r1, r2⟩ := (hb (i - (X - G)) (by omega)).1 q2
          refine ⟨by omega, .inl ?_⟩
          rw [show X - i = G - (i - (X - G)) by omega]; exact r2
        · exact ⟨by omega, .inr rfl⟩
      · rintro ⟨q1, q2 | q2⟩
        · have h3 := hle _ q2
          refine .inl ⟨hi, by omega, (hb _ (by omega)).2 ⟨by omega, ?_⟩⟩
          rw [show G - (i - (X - G)) = X - i by omega]; exact q2
        · exact .inr (by omega)

end Go.Proofs.Yteaiongcdcgekaa
