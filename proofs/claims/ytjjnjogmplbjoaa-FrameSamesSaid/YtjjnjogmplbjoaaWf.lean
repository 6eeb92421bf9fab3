import Derived.Test.YtjjnjogmplbjoaaWe
set_option linter.unusedVariables false
set_option linter.unusedSimpArgs false
namespace Go.Proofs.Ytjjnjogmplbjoaa
open Go.Ab

/-! ### Big -/
def bH (x y z : Int) (R : List KRow) (n : Nat) : Heap := [.rows R, .live ⟨[u64 x, i64 y, u32 z, sl 0 n], true, true, false⟩]
def bT (s j : Int) : T := [none, some (.ptr 1 0), none, some (i64 s), some (i64 j)] ++ List.replicate 28 none
def bLive : List Nat := [1, 3, 4]
def cut1 (k : Int) : Int := if 20001 < k then 20001 else k
theorem big_round (R : List KRow) (n : Nat) (x y z s s' m i' : Int) (j : Nat) (d : Dt) :
    (exec S noC 60 (LB Try.f8 0) (bT s j) (bH x y z R n) (QF [(3, [(4, fo (bo true)), (7, fo (bo true))]), (5, [(4, fo (.ptr 0 j)), (5, .op (d.v 2) (d.view 2)), (7, fo (i64 m)), (8, fo (i64 s'))]), (4, [(1, fo (i64 i'))])])).bind (fun r => (Ab.pick [0, 1] r.h [0, 1]).map fun h2 => (r.x, renT (pos [0, 1]) (maskT bLive r.t), h2, r.obs)) =
    some (.normal, bT s' i', bH x y z R n, [isV (bo (decide ((j : Int) < n))) (bo true), isV (bo (decide ((j : Int) ≤ 10))) (bo true), isO (ixR (bH x y z R n) 0 n j) (.ptr 0 j), ldx S.P (bH x y z R n) 2 29 0 j = some (d.v 2, d.view 2), isV (i64 (cut1 d.len)) (i64 m), isV (i64 (w64 (s + m))) (i64 s'), isV (i64 (w64 ((j : Int) + 1))) (i64 i')]) := by
  cases d <;> kernel_rfl
theorem big_end1 (R : List KRow) (n : Nat) (x y z s i : Int) :
    (exec S noC 60 (LB Try.f8 0) (bT s i) (bH x y z R n) (QF [(3, [(4, fo (bo false))])])).map (fun r => (r.x, maskT bLive r.t, r.h, r.obs)) =
    some (.exit 0, bT s i, bH x y z R n, [isV (bo (decide (i < (n : Int)))) (bo false)]) := by kernel_rfl
theorem big_end2 (R : List KRow) (n : Nat) (x y z s i : Int) :
    (exec S noC 60 (LB Try.f8 0) (bT s i) (bH x y z R n) (QF [(3, [(4, fo (bo true)), (7, fo (bo false))])])).map (fun r => (r.x, maskT bLive r.t, r.h, r.obs)) =
    some (.exit 0, bT s i, bH x y z R n, [isV (bo (decide (i < (n : Int)))) (bo true), isV (bo (decide (i ≤ 10))) (bo false)]) := by kernel_rfl
theorem big_reg : regOK (LB Try.f8 0) = true := by kernel_rfl
def lenAt (R : List KRow) (j : Nat) : Int := match R[j]? with | some r => ((KRow.dt r).len : Int) | none => 0
def accB (R : List KRow) : Nat → Int
  | 0 => 0
  | j + 1 => accB R j + cut1 (lenAt R j)
theorem cut1_le (k : Int) (h : 0 ≤ k) : 0 ≤ cut1 k ∧ cut1 k ≤ 20001 ∧ cut1 k ≤ k := by unfold cut1; split <;> omega
theorem lenAt_nn (R : List KRow) (j : Nat) : 0 ≤ lenAt R j := by unfold lenAt; split <;> omega
theorem accB_le (R : List KRow) : ∀ j, 0 ≤ accB R j ∧ accB R j ≤ 20001 * j
  | 0 => by simp [accB]
  | j + 1 => by
    have := accB_le R j
    have := cut1_le (lenAt R j) (lenAt_nn R j)
    simp only [accB]; omega
theorem big_tri (R : List KRow) (n : Nat) (x y z : Int) (hR : n ≤ R.length) (hg : ∀ r ∈ R, KRow.good r) (k : Nat) (hk : k = if n < 11 then n else 11) :
    TriOK S.P (.loop (LB Try.f8 0)) (bT 0 0) (bH x y z R n) (.exit 0) (bT (accB R k) k) (bH x y z R n) := by
  have hkn : k ≤ n := by split at hk <;> omega
  have hk11 : k ≤ 11 := by split at hk <;> omega
  refine tri_loop (P := S.P) (body := LB Try.f8 0) k (fun j => bT (accB R j) j) (fun _ => bH x y z R n) (by simp) (fun j hj => ?_) ?_
  · obtain ⟨a, ha⟩ := get_lt (show j < R.length by omega)
    have e : lenAt R j = (KRow.dt a).len := by unfold lenAt; rw [ha]
    have b1 := accB_le R j
    have b2 := cut1_le (lenAt R j) (lenAt_nn R j)
    refine tri_exec_sel S_ok noC_ok 60 _ bLive [0, 1] big_reg (big_round R n x y z (accB R j) (accB R (j + 1)) (cut1 (lenAt R j)) ((j + 1 : Nat) : Int) j (KRow.dt a)) ?_ rfl rfl
    simp only [all_cons, all_nil, and_true]
    refine ⟨isV_bo (by simp; omega), isV_bo (by simp; omega), ixR_ok rfl (by omega) (by omega), ldR_ok rfl ha (hg a (List.mem_of_getElem? ha)), isV_int (by rw [e]), isV_int ?_, isV_int ?_⟩
    · rw [w64_id _ (by omega) (by omega)]; rfl
    · rw [w64_id _ (by omega) (by omega)]; omega
  · by_cases h : n < 11
    · rw [if_pos h] at hk
      subst hk
      exact tri_exec S_ok noC_ok 60 _ _ big_reg (big_end1 R k x y z _ k) (by simp only [all_cons, all_nil, and_true]; exact isV_bo (by simp))
    · rw [if_neg h] at hk
      by_cases hn : n = 11
      · exact tri_exec S_ok noC_ok 60 _ _ big_reg (big_end1 R n x y z _ k) (by simp only [all_cons, all_nil, and_true]; exact isV_bo (by simp; omega))
      · exact tri_exec S_ok noC_ok 60 _ _ big_reg (big_end2 R n x y z _ k) (by simp only [all_cons, all_nil, and_true]; exact ⟨isV_bo (by simp; omega), isV_bo (by simp; omega)⟩)
def bT0 (x y z : Int) (n : Nat) : T := [some (.agg [u64 x, i64 y, u32 z, sl 0 n]), some (.ptr 1 0), some (bo false), some (i64 0), some (i64 0)] ++ List.replicate 28 un
theorem big_runA (R : List KRow) (n : Nat) (x y z s k : Int) :
    runFn S (exec S noC 60) ((3, .code (.exit 0) (bT s k) (bH x y z R n)) :: [(6, .ops [(4, fo (bo true))])]) 8 [(Rp.mk x y z (.s R n)).v 0] [.rows R] =
    some (bo true, [.rows R], [TriOK S.P (.loop (LB Try.f8 0)) (bT0 x y z n) (bH x y z R n) (.exit 0) (bT s k) (bH x y z R n), isV (bo (decide ((n : Int) > 10))) (bo true)]) := by kernel_rfl
theorem big_runB (R : List KRow) (n : Nat) (x y z s k : Int) (r : Bool) :
    runFn S (exec S noC 60) ((3, .code (.exit 0) (bT s k) (bH x y z R n)) :: [(6, .ops [(4, fo (bo false)), (6, fo (bo r))])]) 8 [(Rp.mk x y z (.s R n)).v 0] [.rows R] =
    some (bo r, [.rows R], [TriOK S.P (.loop (LB Try.f8 0)) (bT0 x y z n) (bH x y z R n) (.exit 0) (bT s k) (bH x y z R n), isV (bo (decide ((n : Int) > 10))) (bo false), isV (bo (decide (s > 20000))) (bo r)]) := by kernel_rfl
theorem big_none (a : Option Addr) (n : Nat) (x y z : Int) : runFn S (exec S noC 60) [] 8 [(Rp.mk x y z (.e a n)).v 0] [] = some (bo false, [], []) := by kernel_rfl
/-- More parts than 10, or more bytes in them than 20000. -/
def Pt.big : Pt → Bool
  | .e _ _ => false
  | .s R n => decide (10 < n) || decide (20000 < accB R n)
theorem big_ok (c : Rp) (hc : c.p.ok) : CallOK Try.prog 8 [c.v 0] c.p.h (bo c.p.big) c.p.h := by
  obtain ⟨x, y, z, p⟩ := c
  cases p with
  | e a n => exact call_ok S_ok noC_ok 60 _ (big_none a n x y z) (by simp only [all_nil])
  | s R n =>
    have main := big_tri R n x y z hc.2.1 hc.2.2.2 _ rfl
    by_cases h : 10 < n
    · have e : (Pt.s R n).big = true := by simp [Pt.big, h]
      show CallOK _ 8 _ _ (bo (Pt.s R n).big) _
      rw [e]
      refine call_ok S_ok noC_ok 60 _ (big_runA R n x y z (accB R (if n < 11 then n else 11)) ((if n < 11 then n else 11 : Nat) : Int)) ?_
      simp only [all_cons, all_nil, and_true]
      exact ⟨TriOK.pre bLive main, isV_bo (by simp; omega)⟩
    · have e : (Pt.s R n).big = decide (20000 < accB R n) := by simp [Pt.big, h]
      show CallOK _ 8 _ _ (bo (Pt.s R n).big) _
      rw [e]
      rw [if_pos (show n < 11 by omega)] at main
      refine call_ok S_ok noC_ok 60 _ (big_runB R n x y z (accB R n) n (decide (20000 < accB R n))) ?_
      simp only [all_cons, all_nil, and_true]
      exact ⟨TriOK.pre bLive main, isV_bo (by simp; omega), isV_bo (by simp)⟩

theorem known9 : runFn S (exec S noC 200) [] 9 [] [] = some (bo true, [], []) := by kernel_rfl
theorem known9_ok : CallOK Try.prog 9 [] [] (bo true) [] := call_ok S_ok noC_ok 200 _ known9 (by simp only [all_nil])

/-! ### FrameSames -/
def hpF (d d' : Dt) (p p' : Pt) : Heap := d.h ++ (d'.h ++ (p.h ++ p'.h))
def atA (d : Dt) : Nat := d.h.length
def atB (d d' : Dt) : Nat := d.h.length + d'.h.length
def atC (d d' : Dt) (p : Pt) : Nat := d.h.length + d'.h.length + p.h.length

/-- Too long. -/
theorem fs_big (c e : Cm) (f g : Rp) (d d' : Dt) (p p' : Pt) (k : Nat) (hk : k < 4) :
    runFn S (exec S noC 60) (QF [(1, (if k = 0 then [(3, fo (bo true))] else [(3, fo (bo false))] ++ if k = 1 then [(8, fo (bo true))] else [(8, fo (bo false))] ++ if k = 2 then [(12, .call (bo true) p.h)] else [(12, .call (bo false) p.h), (16, .call (bo true) p'.h)])), (2, [(0, .call (bo true) [])])]) 3 [(c.wd d).v 0, (e.wd d').v (atA d), (f.wd p).v (atB d d'), (g.wd p').v (atC d d' p)] (hpF d d' p p') =
    some (bo true, hpF d d' p p', (if k = 0 then [isV (bo (decide ((d.len : Int) > 20000))) (bo true)] else [isV (bo (decide ((d.len : Int) > 20000))) (bo false)] ++ if k = 1 then [isV (bo (decide ((d'.len : Int) > 20000))) (bo true)] else [isV (bo (decide ((d'.len : Int) > 20000))) (bo false)] ++ if k = 2 then [CallOK S.P 8 [(f.wd p).v 0] p.h (bo true) p.h] else [CallOK S.P 8 [(f.wd p).v 0] p.h (bo false) p.h, CallOK S.P 8 [(g.wd p').v 0] p'.h (bo true) p'.h]) ++ [CallOK S.P 9 [] [] (bo true) []]) := by
  have : k = 0 ∨ k = 1 ∨ k = 2 ∨ k = 3 := by omega
  rcases this with rfl | rfl | rfl | rfl <;> cases d <;> cases d' <;> cases p <;> cases p' <;> (show _ = _; kernel_rfl)
theorem fs_run (c e : Cm) (f g : Rp) (d d' : Dt) (p p' : Pt) (r q : Bool) :
    runFn S (exec S noC 60) (QF [(1, [(3, fo (bo false)), (8, fo (bo false)), (12, .call (bo false) p.h), (16, .call (bo false) p'.h)]), (3, [(2, .call (bo r) (hp2 false d d')), (5, .call (bo r) (hp2 false d d')), (6, fo (bo true)), (10, .call (bo q) (hpP false p p')), (13, .call (bo q) (hpP false p p')), (14, fo (bo true)), (19, .call (bo true) d.h), (24, .call (bo true) p'.h), (27, .call (bo true) [])])]) 3 [(c.wd d).v 0, (e.wd d').v (atA d), (f.wd p).v (atB d d'), (g.wd p').v (atC d d' p)] (hpF d d' p p') =
    some (bo true, hpF d d' p p', [isV (bo (decide ((d.len : Int) > 20000))) (bo false), isV (bo (decide ((d'.len : Int) > 20000))) (bo false), CallOK S.P 8 [(f.wd p).v 0] p.h (bo false) p.h, CallOK S.P 8 [(g.wd p').v 0] p'.h (bo false) p'.h,
      CallOK S.P 10 [(c.wd d).v 0, (e.wd d').v (at2 false d)] (hp2 false d d') (bo r) (hp2 false d d'), CallOK S.P 11 [(c.wd d).v 0, (e.wd d').v (at2 false d)] (hp2 false d d') (bo r) (hp2 false d d'), isV (bo (r == r)) (bo true),
      CallOK S.P 12 [(f.wd p).v 0, (g.wd p').v (atP false p)] (hpP false p p') (bo q) (hpP false p p'), CallOK S.P 13 [(f.wd p).v 0, (g.wd p').v (atP false p)] (hpP false p p') (bo q) (hpP false p p'), isV (bo (q == q)) (bo true),
      CallOK S.P 10 [(c.wd d).v 0, (c.wd d).v 0] d.h (bo true) d.h, CallOK S.P 12 [(g.wd p').v 0, (g.wd p').v 0] p'.h (bo true) p'.h, CallOK S.P 9 [] [] (bo true) []]) := by
  cases d <;> cases d' <;> cases p <;> cases p' <;> kernel_rfl
theorem self_eqB (c : Cm) : Cm.eqB c c = true := by
  simp [Cm.eqB, Cm.eqs, (eqKV_iff c.key c.key).2 (fun _ _ => rfl)]
theorem rself_eqB (c : Rp) : Rp.eqB c c = true := by simp [Rp.eqB, Rp.eqs]
theorem samecmd_self (c : Cm) (hc : c.d.ok) : CallOK Try.prog 10 [c.v 0, c.v 0] c.d.h (bo true) c.d.h := by
  have := samecmd_ok true c c (fun _ => rfl) hc hc
  rw [self_eqB] at this
  exact this
theorem samereply_self (c : Rp) (hc : c.p.ok) : CallOK Try.prog 12 [c.v 0, c.v 0] c.p.h (bo true) c.p.h := by
  have := samereply_ok true c c (fun _ => rfl) hc hc
  rw [rself_eqB] at this
  exact this

theorem framesames_ok (c e : Cm) (f g : Rp) (hc : c.d.ok) (he : e.d.ok) (hf : f.p.ok) (hg : g.p.ok) :
    CallOK Try.prog 3 [c.v 0, e.v (atA c.d), f.v (atB c.d e.d), g.v (atC c.d e.d f.p)] (hpF c.d e.d f.p g.p) (bo true) (hpF c.d e.d f.p g.p) := by
  have big (k : Nat) (hk : k < 4) := call_ok S_ok noC_ok 60 _ (fs_big c e f g c.d e.d f.p g.p k hk)
  have b1 := big_ok f hf
  have b2 := big_ok g hg
  by_cases h1 : 20000 < c.d.len
  · refine big 0 (by omega) ?_
    simp only [if_true, List.cons_append, List.nil_append, all_cons, all_nil, and_true]
    exact ⟨isV_bo (by simp; omega), known9_ok⟩
  have k1 : isV (bo (decide ((c.d.len : Int) > 20000))) (bo false) := isV_bo (by simp; omega)
  by_cases h2 : 20000 < e.d.len
  · refine big 1 (by omega) ?_
    simp only [if_true, if_false, Nat.one_ne_zero, List.cons_append, List.nil_append, all_cons, all_nil, and_true]
    exact ⟨k1, isV_bo (by simp; omega), known9_ok⟩
  have k2 : isV (bo (decide ((e.d.len : Int) > 20000))) (bo false) := isV_bo (by simp; omega)
  cases h3 : f.p.big with
  | true =>
    rw [h3] at b1
    refine big 2 (by omega) ?_
    simp only [if_true, if_false, show ¬ (2 = 0) by omega, show ¬ (2 = 1) by omega, List.cons_append, List.nil_append, all_cons, all_nil, and_true]
    exact ⟨k1, k2, b1, known9_ok⟩
  | false =>
    rw [h3] at b1
    cases h4 : g.p.big with
    | true =>
      rw [h4] at b2
      refine big 3 (by omega) ?_
      simp only [if_true, if_false, show ¬ (3 = 0) by omega, show ¬ (3 = 1) by omega, show ¬ (3 = 2) by omega, List.cons_append, List.nil_append, all_cons, all_nil, and_true]
      exact ⟨k1, k2, b1, b2, known9_ok⟩
    | false =>
      rw [h4] at b2
      refine call_ok S_ok noC_ok 60 _ (fs_run c e f g c.d e.d f.p g.p (Cm.eqB c e) (Rp.eqB f g)) ?_
      simp only [all_cons, all_nil, and_true]
      exact ⟨k1, k2, b1, b2, samecmd_ok false c e (by simp) hc he, rsamecmd_ok c e hc he, isV_bo (by simp), samereply_ok false f g (by simp) hf hg, rsamereply_ok f g hf hg, isV_bo (by simp), samecmd_self c hc, samereply_self g hg, known9_ok⟩
end Go.Proofs.Ytjjnjogmplbjoaa
