import Derived.Test.YtjjnjogmplbjoaaAbLoop
set_option linter.unusedSimpArgs false
set_option linter.unusedVariables false
namespace Go.Ab

/-! Loops, round by round: each round's state of its own shape. -/

/-- From this state the loop comes to its end within n rounds; k: the blocks that were there ahead of the loop, which keep their numbers. -/
def TriL (P : Program) (body : Code) (k n : Nat) (t : T) (h : Heap) (x : AX) (t' : T) (h' : Heap) : Prop :=
  ∀ σ0 h0 w0, h0.length = k → ∀ σ w a, Step σ0 h0 w0 σ h w → TRel σ h t a.tmps → ∀ Q : Exit → Act → World → Prop,
    (∀ σ' w' a', Step σ0 h0 w0 σ' h' w' → TRel σ' h' t' a'.tmps → a'.defers = a.defers → Q (cx x) a' w') → Code.rounds P body Q n a w

theorem tril_end {P : Program} {body : Code} {k : Nat} {t : T} {h : Heap} {x : AX} {t' : T} {h' : Heap} (hx : x ≠ .normal) (hb : TriOK P body t h x t' h') : TriL P body k 1 t h x t' h' := by
  intro σ0 h0 w0 hk σ w a hst ht Q hQ
  rw [rounds_succ]
  refine hb σ w a hst.rel ht _ fun σ' w' a' s1 s2 s3 => ?_
  have := hQ σ' w' a' (hst.trans s1) s2 s3
  cases x with
  | normal => exact absurd rfl hx
  | exit id => exact this
  | goto l => exact this
  | ret => exact this

theorem tril_step {P : Program} {body : Code} {k n : Nat} {t : T} {h : Heap} {x : AX} {t1 t2 t' : T} {h1 h2 h' : Heap} (hb : TriOK P body t h .normal t1 h1) (hs : Sel k t1 h1 t2 h2) (hn : TriL P body k n t2 h2 x t' h') : TriL P body k (n + 1) t h x t' h' := by
  intro σ0 h0 w0 hk0 σ w a hst ht Q hQ
  rw [rounds_succ]
  obtain ⟨ids, live, hp, hk, hnd, he2⟩ := hs.ex
  refine hb σ w a hst.rel ht _ fun σ' w' a' s1 s2 s3 => ?_
  subst hk0
  have hst' := step_sel (hst.trans s1) hp hk hnd
  have ht' := renT_rel (same_sel ids σ') (fun i j hij hn => (pick_nf hp (pos_spec hij)).2 hn) (maskT_rel (live := live) s2)
  rw [he2] at ht'
  exact hn σ0 h0 w0 rfl _ w' a' hst' ht' Q fun σ2 w2 a2 r1 r2 r3 => hQ σ2 w2 a2 r1 r2 (r3.trans s3)

theorem tril_step' {P : Program} {body : Code} {k n : Nat} {t : T} {h : Heap} {x : AX} {t2 t' : T} {h2 h' : Heap} (hb : ∃ t1 h1, TriOK P body t h .normal t1 h1 ∧ Sel k t1 h1 t2 h2) (hn : TriL P body k n t2 h2 x t' h') : TriL P body k (n + 1) t h x t' h' := by
  obtain ⟨t1, h1, h3, h4⟩ := hb
  exact tril_step h3 h4 hn

theorem tril_tri {P : Program} {body : Code} {n : Nat} {t : T} {h : Heap} {x : AX} {t' : T} {h' : Heap} (hl : TriL P body h.length n t h x t' h') : TriOK P (.loop body) t h x t' h' := by
  intro σ w a hr ht Q hQ
  exact wp_loop_rounds n (hl σ h w rfl σ w a (Step.refl hr) ht Q hQ)

theorem TriL.pre {P : Program} {body : Code} {k n : Nat} {t : T} {h : Heap} {x : AX} {t' : T} {h' : Heap} (live : List Nat) (hl : TriL P body k n (maskT live t) h x t' h') : TriL P body k n t h x t' h' :=
  fun σ0 h0 w0 hk σ w a hst ht Q hQ => hl σ0 h0 w0 hk σ w a hst (maskT_rel ht) Q hQ

/-- A run, what is left of it renumbered: as one statement. -/
theorem tri_exec_sel {S : Sys} (hS : SysOK2 S) {C : Cons} (hC : ConsOK S.P C) (n : Nat) (q : FQ) (live ids : List Nat) {c : Code} {t : T} {h : Heap} {x : AX} {t' : T} {h' : Heap} {obs : Obs} (hreg : regOK c = true)
    (hv : (exec S C n c t h q).bind (fun r => (pick ids r.h ids).map fun h2 => (r.x, renT (pos ids) (maskT live r.t), h2, r.obs)) = some (x, t', h', obs)) (ho : obs.all) (hk : ids.take h.length = List.range h.length) (hnd : nodupB ids = true) :
    TriOK S.P c t h x t' h' := by
  obtain ⟨t1, h1, h2, h3⟩ := sel_exec hS hC n q live ids h.length hreg hv ho hk hnd
  exact tri_sel h2 h3

end Go.Ab
