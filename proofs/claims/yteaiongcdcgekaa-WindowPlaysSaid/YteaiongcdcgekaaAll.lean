import Derived.Test.YteaiongcdcgekaaLaw
import Derived.Test.YteaiongcdcgekaaFun
set_option linter.unusedVariables false
set_option linter.unusedSimpArgs false
namespace Go.Proofs.Yteaiongcdcgekaa
open Go.Ab

theorem und22 : S.P.underlying 22 = some (.slice 23) := by kernel_rfl
theorem inf23 : (S.P.info? 23).map (fun i => (i.size, decide (i.bytes ≤ 4096))) = some (1, true) := by kernel_rfl
theorem zero23 : zeroOf S.P 23 = some [u64 0] := by kernel_rfl
theorem isInt22 : isInt S.P 22 = false := by kernel_rfl

theorem appO_nil {H : Heap} {s b n : Nat} {cells : List AV} {o e : Bool} (hb : hget H b = some ⟨cells, o, e, true⟩) (hn : cells.length = n) (h0 : 0 < n) (h1 : n ≤ 4294967296) :
    appO H s nilS (.slice b 0 n none) = some (.slice s 0 n none, [(s, .live ⟨cells, true, false, true⟩)]) := by
  have hi := inf23
  unfold appO aappend
  rw [und22]
  cases h23 : S.P.info? 23 with
  | none => rw [h23] at hi; cases hi
  | some i =>
    rw [h23] at hi
    simp only [Option.map_some, Option.some.injEq, Prod.mk.injEq, decide_eq_true_eq] at hi
    have hA : appended S.P H 23 22 (.slice b 0 n none) = some ⟨cells, n, true⟩ := by
      subst hn
      unfold appended
      rw [isInt22]
      simp [srcOf, hb]
    simp [h23, zero23, hA, hi, und22, nilS, h1, Nat.ne_of_gt h0]

theorem appO_one {H : Heap} {s b n : Nat} {cells : List AV} {e : Bool} {b2 : Nat} {x : AV} {o2 e2 : Bool} {c2 : Option Nat} (hb : hget H b = some ⟨cells, true, e, true⟩) (hn : cells.length = n) (hb2 : hget H b2 = some ⟨[x], o2, e2, true⟩) (h1 : n + 1 ≤ 4294967296) :
    appO H s (.slice b 0 n none) (.slice b2 0 1 c2) = some (.slice s 0 (n + 1) none, [(b, .gone), (s, .live ⟨cells ++ [x], true, false, true⟩)]) := by
  have hi := inf23
  unfold appO aappend
  rw [und22]
  cases h23 : S.P.info? 23 with
  | none => rw [h23] at hi; cases hi
  | some i =>
    rw [h23] at hi
    simp only [Option.map_some, Option.some.injEq, Prod.mk.injEq, decide_eq_true_eq] at hi
    have hA : appended S.P H 23 22 (.slice b2 0 1 c2) = some ⟨[x], 1, true⟩ := by
      unfold appended
      rw [isInt22]
      simp [srcOf, hb2]
    simp [h23, zero23, hA, hi, und22, hb, hn, h1]

/-! ### the states -/
structure St where
  C : List Int
  g : Int
  b : Int
def stp (s : St) (x : Int) : St := ⟨if chk s.g s.b x = 0 then s.C ++ [x] else s.C, tG s.g s.b x, tB s.g s.b x⟩
def stN (L : List Int) (j : Nat) : St := (L.take j).foldl stp ⟨[], 0, 0⟩

theorem stN_succ {L : List Int} {j : Nat} {x : Int} (hx : L[j]? = some x) : stN L (j + 1) = stp (stN L j) x := by
  unfold stN
  rw [List.take_add_one, hx]
  simp [List.foldl_append]

theorem stN_inv (L : List Int) (hL : ∀ y ∈ L, 0 ≤ y ∧ y < 18446744073709551616) : ∀ j, j < L.length → Inv (stN L (j + 1)).C (stN L (j + 1)).g (stN L (j + 1)).b ∧ (stN L (j + 1)).C.length ≤ j + 1
  | 0, hj => by
    have hx : L[0]? = some L[0] := List.getElem?_eq_getElem hj
    obtain ⟨h0, h1⟩ := hL _ (List.getElem_mem hj)
    rw [stN_succ hx]
    have e : stN L 0 = ⟨[], 0, 0⟩ := rfl
    rw [e]
    obtain ⟨X, hX⟩ := Int.eq_ofNat_of_zero_le h0
    simp only [stp, first_chk, first_g, first_b, if_true, List.nil_append]
    rw [hX]
    exact ⟨Inv.first X (by omega), by simp⟩
  | j + 1, hj => by
    have hx : L[j + 1]? = some L[j + 1] := List.getElem?_eq_getElem hj
    obtain ⟨h0, h1⟩ := hL _ (List.getElem_mem hj)
    obtain ⟨ih, il⟩ := stN_inv L hL j (by omega)
    rw [stN_succ hx]
    obtain ⟨X, hX⟩ := Int.eq_ofNat_of_zero_le h0
    rw [hX]
    by_cases hc : chk (stN L (j + 1)).g (stN L (j + 1)).b X = 0
    · simp only [stp, hc, if_true]
      exact ⟨ih.step X (by omega) hc, by simp; omega⟩
    · simp only [stp, hc, if_false, kept_g hc, kept_b hc]
      exact ⟨ih, by omega⟩

def cAV (j : Nat) (s : St) : AV := if j = 0 then nilS else .slice 2 0 s.C.length none
def hAt (Z : List Int) (j : Nat) (s : St) : Heap := if j = 0 then [lb Z] ++ win 0 0 else [lb Z] ++ win s.g s.b ++ lst s.C

theorem cAV_succ (j : Nat) (s : St) : cAV (j + 1) s = .slice 2 0 s.C.length none := by simp [cAV]
theorem hAt_succ (Z : List Int) (j : Nat) (s : St) : hAt Z (j + 1) s = [lb Z] ++ win s.g s.b ++ lst s.C := by simp [hAt]

theorem plays_tri (Z : List Int) (N : Nat) (q : Int) (hN : N ≤ Z.length) (h200 : N ≤ 200) (h0 : 0 < N) (hZ : ∀ y ∈ Z, 0 ≤ y ∧ y < 18446744073709551616) (hq : 0 ≤ q ∧ q < 18446744073709551616) :
    TriOK S.P (.loop (LB Try.f3 0)) (pT N q 0 nilS) ([lb Z] ++ win 0 0) (.exit 0) (pT N q N (.slice 2 0 (stN (Z.take N) N).C.length none)) ([lb Z] ++ win (stN (Z.take N) N).g (stN (Z.take N) N).b ++ lst (stN (Z.take N) N).C) := by
  have hLl : (Z.take N).length = N := by simp; omega
  have hL : ∀ y ∈ Z.take N, 0 ≤ y ∧ y < 18446744073709551616 := fun y hy => hZ y (List.mem_of_mem_take hy)
  have hcells : 0 < (Z.map u64).length := by simp; omega
  obtain ⟨Qn, hQ⟩ := Int.eq_ofNat_of_zero_le hq.1
  have main := tri_loop_sel (P := S.P) (body := LB Try.f3 0) (x := .exit 0) N (fun j => pT N q j (cAV j (stN (Z.take N) j))) (fun j => hAt Z j (stN (Z.take N) j))
    (t' := pT N q N (.slice 2 0 (stN (Z.take N) N).C.length none)) (h' := [lb Z] ++ win (stN (Z.take N) N).g (stN (Z.take N) N).b ++ lst (stN (Z.take N) N).C) (by simp) ?_ ?_
  · exact main
  · intro j hj
    have hjZ : j < Z.length := by omega
    have hx : (Z.take N)[j]? = some Z[j] := by rw [List.getElem?_take, if_pos hj]; exact List.getElem?_eq_getElem hjZ
    obtain ⟨x0, x1⟩ := hZ _ (List.getElem_mem hjZ)
    have hc : (Z.map u64)[j]? = some (u64 Z[j]) := by simp [hjZ]
    have hidx : isO (idxO [lb Z] N j) (.ptr 0 j) := idx_ok hj hcells
    have hld : isO (ldO [lb Z] j) (u64 Z[j]) := ld_ok hc
    obtain ⟨X, hX⟩ := Int.eq_ofNat_of_zero_le x0
    cases j with
    | zero =>
      rw [stN_succ hx]
      have e : stN (Z.take N) 0 = ⟨[], 0, 0⟩ := rfl
      rw [e]
      simp only [stp, first_chk, first_g, first_b, if_true, List.nil_append, cAV, hAt, Nat.zero_add, Nat.succ_ne_zero, if_false]
      have hinv : Inv [Z[0]] Z[0] 1 := by rw [hX]; exact Inv.first X (by omega)
      have htake := take_ok 0 0 Z[0]
      rw [first_chk, first_g, first_b] at htake
      have hlk : ∀ y : Int, 0 ≤ y → y < 18446744073709551616 → CallOK S.P 11 [.ptr 0 0, .slice 1 0 1 none, u64 y] (win Z[0] 1 ++ lst [Z[0]]) (bo true) (win Z[0] 1 ++ lst [Z[0]]) := fun y y0 y1 => by
        obtain ⟨Y, rfl⟩ := Int.eq_ofNat_of_zero_le y0
        exact looks_ok [Z[0]] Z[0] 1 Y (by simp) (hinv.alike Y (by omega))
      exact sel_exec S_ok C2_ok 60 _ [0, 1, 4, 5, 6, 7] [0, 1, 31] 2 plays_reg (round_first Z N q Z[0] 0 0 Z[0] 1) (by
        simp only [all_cons, all_nil, and_true]
        exact ⟨isB_dec (by simp; omega), hidx, hld, htake, hidx, hld, rfl, rfl, hidx, hld, hlk q hq.1 hq.2, hidx, hld, hlk _ x0 x1, hidx, hld, looks_nil _⟩) rfl rfl
    | succ j =>
      obtain ⟨hinv, hlen⟩ := stN_inv (Z.take N) hL j (by omega)
      rw [stN_succ hx]
      generalize stN (Z.take N) (j + 1) = s at hinv hlen
      have hpos := hinv.pos
      have hal := (hinv.alike X (by omega)).check
      rw [← hX] at hal
      have hlk : ∀ y : Int, 0 ≤ y → y < 18446744073709551616 → CallOK S.P 11 [.ptr 0 0, .slice 1 0 s.C.length none, u64 y] (win s.g s.b ++ lst s.C) (bo true) (win s.g s.b ++ lst s.C) := fun y y0 y1 => by
        obtain ⟨Y, rfl⟩ := Int.eq_ofNat_of_zero_le y0
        exact looks_ok s.C s.g s.b Y (by omega) (hinv.alike Y (by omega))
      have hrc := rcheck_ok s.C Z[j + 1] (by omega)
      by_cases hc0 : chk s.g s.b Z[j + 1] = 0
      · have hinv2 : Inv (s.C ++ [Z[j + 1]]) (tG s.g s.b Z[j + 1]) (tB s.g s.b Z[j + 1]) := by rw [hX] at hc0 ⊢; exact hinv.step X (by omega) hc0
        have hlk2 : ∀ y : Int, 0 ≤ y → y < 18446744073709551616 → CallOK S.P 11 [.ptr 0 0, .slice 1 0 (s.C.length + 1) none, u64 y] (win (tG s.g s.b Z[j + 1]) (tB s.g s.b Z[j + 1]) ++ lst (s.C ++ [Z[j + 1]])) (bo true) (win (tG s.g s.b Z[j + 1]) (tB s.g s.b Z[j + 1]) ++ lst (s.C ++ [Z[j + 1]])) := fun y y0 y1 => by
          obtain ⟨Y, rfl⟩ := Int.eq_ofNat_of_zero_le y0
          rw [show s.C.length + 1 = (s.C ++ [Z[j + 1]]).length by simp]
          exact looks_ok (s.C ++ [Z[j + 1]]) (tG s.g s.b Z[j + 1]) (tB s.g s.b Z[j + 1]) Y (by simp; omega) (hinv2.alike Y (by omega))
        have e1 : stp s Z[j + 1] = ⟨s.C ++ [Z[j + 1]], tG s.g s.b Z[j + 1], tB s.g s.b Z[j + 1]⟩ := by simp [stp, hc0]
        rw [e1]
        simp only [cAV_succ, hAt_succ]
        rw [show (s.C ++ [Z[j + 1]]).length = s.C.length + 1 by simp]
        exact sel_exec S_ok C2_ok 60 _ [0, 1, 4, 5, 6, 7] [0, 1, 32] 2 plays_reg (round_take Z s.C N s.C.length (j + 1) q Z[j + 1] (chk s.g s.b Z[j + 1]) (rchk s.C Z[j + 1]) ((j + 1 : Nat) + 1 : Int) s.g s.b (tG s.g s.b Z[j + 1]) (tB s.g s.b Z[j + 1])) (by
          simp only [all_cons, all_nil, and_true]
          refine ⟨isB_dec (by simp; omega), hidx, hld, take_ok _ _ _, hidx, hld, hrc, by unfold isB; rw [hal]; simp, by unfold isB; rw [hc0]; rfl, appO_nil (o := true) (e := false) rfl (by simp) hpos (by omega), hidx, hld, ?_, hlk2 q hq.1 hq.2, hidx, hld, hlk2 _ x0 x1, hidx, hld, hlk _ x0 x1, inc_ok _ (by omega) (by omega)⟩
          have := appO_one (H := app ([lb Z] ++ win (tG s.g s.b Z[j + 1]) (tB s.g s.b Z[j + 1]) ++ lst s.C ++ win s.g s.b) [(8, .live ⟨s.C.map u64, true, false, true⟩), (28, .live ⟨[u64 Z[j + 1]], true, true, true⟩)]) (s := 32) (b := 8) (n := s.C.length) (cells := s.C.map u64) (e := false) (b2 := 28) (x := u64 Z[j + 1]) (o2 := true) (e2 := true) (c2 := some 1) rfl (by simp) rfl (by omega)
          rw [this]; simp) rfl rfl
      · rw [show stp s Z[j + 1] = s by simp [stp, hc0, kept_g hc0, kept_b hc0]]
        have htk := take_ok s.g s.b Z[j + 1]
        rw [kept_g hc0, kept_b hc0] at htk
        simp only [cAV_succ, hAt_succ]
        exact sel_exec S_ok C2_ok 60 _ [0, 1, 4, 5, 6, 7] [0, 1, 2] 2 plays_reg (round_not Z s.C N s.C.length (j + 1) q Z[j + 1] (chk s.g s.b Z[j + 1]) (rchk s.C Z[j + 1]) ((j + 1 : Nat) + 1 : Int) s.g s.b s.g s.b) (by
          simp only [all_cons, all_nil, and_true]
          exact ⟨isB_dec (by simp; omega), hidx, hld, htk, hidx, hld, hrc, by unfold isB; rw [hal]; simp, by unfold isB; simp [hc0], hlk q hq.1 hq.2, hidx, hld, hlk _ x0 x1, hidx, hld, hlk _ x0 x1, inc_ok _ (by omega) (by omega)⟩) rfl rfl
  · have hne : N ≠ 0 := by omega
    simp only [cAV, hAt, if_neg hne]
    exact tri_exec S_ok C2_ok 60 _ _ plays_reg (round_end Z (stN (Z.take N) N).C N (stN (Z.take N) N).C.length N q (stN (Z.take N) N).g (stN (Z.take N) N).b) (by
      simp only [all_cons, all_nil]; exact ⟨isB_dec (by simp), trivial⟩)

theorem plays_ok (Z : List Int) (N : Nat) (q : Int) (hN : N ≤ Z.length) (h0 : 0 < N) (hZ : ∀ y ∈ Z, 0 ≤ y ∧ y < 18446744073709551616) (hq : 0 ≤ q ∧ q < 18446744073709551616) : CallOK Try.prog 3 [sl N, u64 q] [lb Z] (bo true) [lb Z] := by
  by_cases h200 : N ≤ 200
  · have hL : ∀ y ∈ Z.take N, 0 ≤ y ∧ y < 18446744073709551616 := fun y hy => hZ y (List.mem_of_mem_take hy)
    obtain ⟨hinv, hlen⟩ := stN_inv (Z.take N) hL (N - 1) (by simp; omega)
    rw [show N - 1 + 1 = N by omega] at hinv hlen
    obtain ⟨Qn, hQ⟩ := Int.eq_ofNat_of_zero_le hq.1
    refine call_ok S_ok C2_ok 80 _ (plays_run Z (stN (Z.take N) N).C N (stN (Z.take N) N).C.length q (stN (Z.take N) N).g (stN (Z.take N) N).b) ?_
    simp only [all_cons, all_nil, and_true]
    refine ⟨isB_dec (by simp; omega), TriOK.pre [0, 1, 4, 5, 6, 7] (plays_tri Z N q hN h200 h0 hZ hq), ?_⟩
    rw [hQ]
    exact looks_ok _ _ _ Qn (by omega) (hinv.alike Qn (by omega))
  · refine call_ok S_ok C2_ok 80 _ (plays_long Z N q) ?_
    simp only [all_cons, all_nil, and_true]
    exact isB_dec (by simp; omega)

theorem plays_nil (a : Option Addr) (c : Nat) (q : Int) : CallOK Try.prog 3 [.raw (.slice a 0 c), u64 q] [] (bo true) [] :=
  call_ok S_ok C2_ok 80 _ (plays_none a c q) (by simp only [all_nil])

end Go.Proofs.Yteaiongcdcgekaa
