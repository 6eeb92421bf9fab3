import Derived.Test.YtjjnjogmplbjoaaAbExec
set_option linter.unusedSimpArgs false
set_option linter.unusedVariables false
namespace Go.Ab

/-! A loop whose rounds make memory: behind each round what is no longer wanted is forgotten, and the rest is numbered anew; the blocks that were there ahead of the loop keep their numbers. -/

def renT (ρ : Nat → Option Nat) (t : T) : T := t.map fun o => match o with | some v => renV ρ v | none => none

theorem renT_rel {σ σ' : Sg} {h h' : Heap} {ρ : Nat → Option Nat} (hs : Same ρ σ σ') (hn : ∀ i j, ρ i = some j → nf h i → nf h' j) {t : T} {tmps : Array Value} (ht : TRel σ h t tmps) : TRel σ' h' (renT ρ t) tmps := by
  refine ⟨by unfold renT; simpa using ht.1, fun i v hi => ?_⟩
  unfold renT at hi
  rw [List.getElem?_map] at hi
  cases hx : t[i]? with
  | none => rw [hx] at hi; cases hi
  | some o =>
    rw [hx] at hi
    simp only [Option.map_some, Option.some.injEq] at hi
    cases o with
    | none => cases hi
    | some u =>
      simp only at hi
      obtain ⟨h1, h2⟩ := ht.2 i u hx
      exact ⟨by rw [h1, renV_conc hs hi], renV_inn hn hi h2⟩

/-- Forget and renumber. -/
theorem step_sel {σ0 : Sg} {h0 : Heap} {w0 : World} {σ : Sg} {h : Heap} {w : World} (hst : Step σ0 h0 w0 σ h w) {ids : List Nat} {h' : Heap} (hp : pick ids h ids = some h') (hk : ids.take h0.length = List.range h0.length) (hnd : nodupB ids = true) :
    Step σ0 h0 w0 (selOf ids σ) h' w := by
  have hr := hst.rel
  have hrel := rel_pick hr (nodupB_spec hnd) hp
  have hidx : ∀ j, j < h0.length → ids[j]? = some j := fun j hj => by
    have h1 : (ids.take h0.length)[j]? = some j := by rw [hk]; simp [hj]
    rw [List.getElem?_take, if_pos hj] at h1
    exact h1
  have hlt : ∀ i, nf h0 i → i < h0.length := fun i hi => by
    rcases Nat.lt_or_ge i h0.length with q | q
    · exact q
    · exact absurd hi (free_len h0 i q)
  have hsel : ∀ i, nf h0 i → selOf ids σ i = σ i := fun i hi => by simp [selOf, List.getD, hidx i (hlt i hi)]
  exact ⟨hrel, fun i hi => by rw [hsel i hi]; exact hst.agree i hi, fun i hi => (pick_nf hp (hidx i (hlt i hi))).2 (hst.keeps i hi), hst.os, hst.tape, hst.output, hst.size, hst.frame,
    fun r hr' => hst.owns r (own_pick hr hp hr'), fun r hr' => hst.alls r (any_pick hr hp hr')⟩

/-- What a round leaves: the same with less and renumbered, the first k blocks staying. -/
structure Sel (k : Nat) (t1 : T) (h1 : Heap) (t' : T) (h' : Heap) : Prop where
  ex : ∃ ids live, pick ids h1 ids = some h' ∧ ids.take k = List.range k ∧ nodupB ids = true ∧ renT (pos ids) (maskT live t1) = t'

theorem tri_sel {P : Program} {c : Code} {t : T} {h : Heap} {x : AX} {t1 : T} {h1 : Heap} (hc : TriOK P c t h x t1 h1) {t' : T} {h' : Heap} (hs : Sel h.length t1 h1 t' h') : TriOK P c t h x t' h' := by
  obtain ⟨ids, live, hp, hk, hnd, rfl⟩ := hs.ex
  intro σ w a hr ht Q hQ
  refine hc σ w a hr ht Q fun σ' w' a' s1 s2 s3 => ?_
  exact hQ (selOf ids σ') w' a' (step_sel s1 hp hk hnd) (renT_rel (same_sel ids σ') (fun i j hij hn => (pick_nf hp (pos_spec hij)).2 hn) (maskT_rel s2)) s3

/-- A loop over rounds that each forget. -/
theorem tri_loop_sel {P : Program} {body : Code} (n : Nat) (t : Nat → T) (h : Nat → Heap) {x : AX} {t' : T} {h' : Heap} (hx : x ≠ .normal)
    (hb : ∀ j, j < n → ∃ t1 h1, TriOK P body (t j) (h j) .normal t1 h1 ∧ Sel (h 0).length t1 h1 (t (j + 1)) (h (j + 1)))
    (he : TriOK P body (t n) (h n) x t' h') : TriOK P (.loop body) (t 0) (h 0) x t' h' := by
  intro σ0 w0 a0 hr0 ht0 Q hQ
  have key : ∀ k j, j + k = n → ∀ σ w a, Step σ0 (h 0) w0 σ (h j) w → TRel σ (h j) (t j) a.tmps → a.defers = a0.defers → Code.rounds P body Q (k + 1) a w := by
    intro k
    induction k with
    | zero =>
      intro j hj σ w a hst ht hd
      rw [rounds_succ]
      obtain rfl : j = n := hj
      refine he σ w a hst.rel ht _ fun σ' w' a' s1 s2 s3 => ?_
      have := hQ σ' w' a' (hst.trans s1) s2 (s3.trans hd)
      cases x with
      | normal => exact absurd rfl hx
      | exit id => exact this
      | goto l => exact this
      | ret => exact this
    | succ k ih =>
      intro j hj σ w a hst ht hd
      rw [rounds_succ]
      obtain ⟨t1, h1, hc, hs⟩ := hb j (by omega)
      obtain ⟨ids, live, hp, hk, hnd, he2⟩ := hs.ex
      refine hc σ w a hst.rel ht _ fun σ' w' a' s1 s2 s3 => ?_
      have hst' := step_sel (hst.trans s1) hp hk hnd
      have ht' := renT_rel (same_sel ids σ') (fun i j hij hn => (pick_nf hp (pos_spec hij)).2 hn) (maskT_rel (live := live) s2)
      rw [he2] at ht'
      exact ih (j + 1) (by omega) _ w' a' hst' ht' (s3.trans hd)
  exact wp_loop_rounds (n + 1) (key n 0 (by omega) σ0 w0 a0 (Step.refl hr0) ht0 rfl)


/-- One round by the executor, then less. -/
theorem sel_exec {S : Sys} (hS : SysOK2 S) {C : Cons} (hC : ConsOK S.P C) (n : Nat) (q : FQ) (live ids : List Nat) (k : Nat) {c : Code} {t : T} {h : Heap} {x : AX} {t' : T} {h' : Heap} {obs : Obs} (hreg : regOK c = true)
    (hv : (exec S C n c t h q).bind (fun r => (pick ids r.h ids).map fun h2 => (r.x, renT (pos ids) (maskT live r.t), h2, r.obs)) = some (x, t', h', obs)) (ho : obs.all) (hk : ids.take k = List.range k) (hnd : nodupB ids = true) :
    ∃ t1 h1, TriOK S.P c t h x t1 h1 ∧ Sel k t1 h1 t' h' := by
  rw [Option.bind_eq_some_iff] at hv
  obtain ⟨out, hv, h2⟩ := hv
  simp only [Option.map_eq_some_iff, Prod.mk.injEq] at h2
  obtain ⟨h3, hp, rfl, rfl, rfl, rfl⟩ := h2
  exact ⟨out.t, out.h, (exec_ok hS hC n).1 c t h q out hreg hv ho, ⟨ids, live, hp, hk, hnd, rfl⟩⟩

end Go.Ab
