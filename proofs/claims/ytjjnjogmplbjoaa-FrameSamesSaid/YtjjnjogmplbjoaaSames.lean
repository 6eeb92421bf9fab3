/-
  FrameSames returns true. Conditions: none beyond the statement's own.
-/
import Derived.Test.YtjjnjogmplbjoaaWg
import Derived.WalkKit
import Derived.Carry
namespace Go.Proofs.Ytjjnjogmplbjoaa.frameSames
open Go.ChangeShapes Go.WideShapes Go.ChangeAt Go.RowKit Go.Ab Go.Proofs.Ytjjnjogmplbjoaa
set_option linter.unusedVariables false

theorem walk {W : World} {v0 v1 v2 v3 : Value} {x0 x1 x2 x3 : Addr} {c e : Cm} {f g : Rp} (o0 : Cm.ok c) (a0 : Cm.At W v0 x0 c) (o1 : Cm.ok e) (a1 : Cm.At W v1 x1 e) (o2 : Rp.ok f) (a2 : Rp.At W v2 x2 f) (o3 : Rp.ok g) (a3 : Rp.At W v3 x3 g) :
    Calls Try.prog 3 #[v0, v1, v2, v3] W fun e w' => e = .returned (.bool true) ∧ Below W.heap.size W w' := by
  have h := framesames_ok c e f g o0.2.2.2.2.2.2.2 o1.2.2.2.2.2.2.2 o2.2.2.2 o3.2.2.2
  let rs : List InB := c.d.ins x0 ++ (e.d.ins x1 ++ (f.p.ins x2 ++ g.p.ins x3))
  have hr : rs.map InB.hb = hpF c.d e.d f.p g.p := by
    show (c.d.ins x0 ++ (e.d.ins x1 ++ (f.p.ins x2 ++ g.p.ins x3))).map InB.hb = _
    simp only [List.map_append, Dt.ins_h, Pt.ins_h]; rfl
  rw [← hr] at h
  have ok : ∀ r ∈ rs, r.ok W := fun r hr => by
    obtain ⟨d0, q0, -⟩ := a0
    obtain ⟨d1, q1, -⟩ := a1
    obtain ⟨d2, q2, -⟩ := a2
    obtain ⟨d3, q3, -⟩ := a3
    rcases List.mem_append.1 hr with h | h
    · exact Dt.ins_ok q0 r h
    · rcases List.mem_append.1 h with h | h
      · exact Dt.ins_ok q1 r h
      · rcases List.mem_append.1 h with h | h
        · exact Pt.ins_ok q2 r h
        · exact Pt.ins_ok q3 r h
  have i0 : ∀ Z n, c.d = .s Z n → rs[0]? = some (.row ⟨.u8, x0, Z⟩) := fun Z n q => by simp [rs, q, Dt.ins]
  have i1 : ∀ Z n, e.d = .s Z n → rs[atA c.d]? = some (.row ⟨.u8, x1, Z⟩) := fun Z n q => by
    show (c.d.ins x0 ++ (e.d.ins x1 ++ (f.p.ins x2 ++ g.p.ins x3)))[c.d.h.length]? = _
    rw [q]
    cases c.d <;> simp [Dt.ins, Dt.h]
  have i2 : ∀ Z n, f.p = .s Z n → rs[atB c.d e.d]? = some (.kr x2 Z) := fun Z n q => by
    show (c.d.ins x0 ++ (e.d.ins x1 ++ (f.p.ins x2 ++ g.p.ins x3)))[c.d.h.length + e.d.h.length]? = _
    rw [q]
    cases c.d <;> cases e.d <;> simp [Dt.ins, Dt.h, Pt.ins]
  have i3 : ∀ Z n, g.p = .s Z n → rs[atC c.d e.d f.p]? = some (.kr x3 Z) := fun Z n q => by
    show (c.d.ins x0 ++ (e.d.ins x1 ++ (f.p.ins x2 ++ g.p.ins x3)))[c.d.h.length + e.d.h.length + f.p.h.length]? = _
    rw [q]
    cases c.d <;> cases e.d <;> cases f.p <;> simp [Dt.ins, Dt.h, Pt.ins, Pt.h]
  have lt : ∀ {i : Nat} {r : InB}, rs[i]? = some r → nf (rs.map InB.hb) i := fun hi => ins_nf rs _ (List.getElem?_eq_some_iff.1 hi).1
  have hc := h.ins ⟨Cm.inn_v (fun Z n q => lt (i0 Z n q)), Cm.inn_v (fun Z n q => lt (i1 Z n q)), Rp.inn_v (fun Z n q => lt (i2 Z n q)), Rp.inn_v (fun Z n q => lt (i3 Z n q)), trivial⟩ ok
  have e : (concs (inSg rs) [c.v 0, e.v (atA c.d), f.v (atB c.d e.d), g.v (atC c.d e.d f.p)]).toArray = #[v0, v1, v2, v3] := by
    simp only [concs, Cm.conc_eq a0 i0, Cm.conc_eq a1 i1, Rp.conc_eq a2 i2, Rp.conc_eq a3 i3]
  rw [e] at hc
  exact hc.mono fun e w' ⟨σ', he, hb⟩ => ⟨he, hb⟩

def wCmd : Value := .agg (#[.int .u64 0, .int .i64 0, .int .u32 0, .int .u32 0, .int .i64 0, .int .i64 0] ++ Array.replicate 32 (.int .u8 0) ++ #[.slice none 0 0])
def wRep : Value := .agg #[.int .u64 0, .int .i64 0, .int .u32 0, .slice none 0 0]

set_option maxRecDepth 100000 in
theorem lifted (os : Os) (started : os.Started) (H : Type) (enc : TypeId × Value → H) :
    ReturnsInHanded {} Try.checked os 3 .any (Rows.frameSamesSpec.pre6 enc Try.prog Try.f3 Rows.frameSamesRow.domain false) (Rows.frameSamesSpec.post enc Try.prog Try.f3 false true false false) := by
  refine returnsInHanded_of_change (C := Try.checked) own started (by kernel_rfl) Try.func3
    (ChangeSpec.witness6 (enc := enc) (C := Try.checked) false ⟨#[], #[wCmd, wCmd, wRep, wRep], []⟩ 8 (by kernel_rfl) (by kernel_rfl) (by kernel_rfl) (by kernel_rfl)) ?_
  intro W base args ds gs before hval0 hW hcnd _
  have hval : ∀ (j : Nat) t v, Try.f3.params[j]? = some t → args[j]? = some v → Value.okWide Try.prog W .any base t v := hval0
  have hW' := hW
  obtain ⟨p, q, hA0, hV, rfl, hfz, hnd⟩ := hW
  have hA : DataW.TrodAll enc Try.prog W 0 (fun _ => true) true Try.f3.params.toList args.toList ds p := hA0
  rw [Try.params3] at hA hval
  obtain ⟨v0, vs0, d0, ds0, p0, q0, hargs, rfl, rfl, h0, r0⟩ := trodAll_cons hA
  obtain ⟨v1, vs1, d1, ds1, p1, q1, rfl, rfl, rfl, h1, r1⟩ := trodAll_cons r0
  obtain ⟨v2, vs2, d2, ds2, p2, q2, rfl, rfl, rfl, h2, r2⟩ := trodAll_cons r1
  obtain ⟨v3, vs3, d3, ds3, p3, q3, rfl, rfl, rfl, h3, r3⟩ := trodAll_cons r2
  obtain ⟨rfl, rfl, rfl⟩ := trodAll_nil r3
  obtain rfl : args = #[v0, v1, v2, v3] := by cases args; simp_all
  obtain ⟨rfl, rfl⟩ := trodVars_none hV
  have lt0 : ∀ x ∈ p0, x.block < W.heap.size := by obtain ⟨m, hm⟩ := h0; exact DataW.trod_lt m _ _ _ hm
  have lt1 : ∀ x ∈ p1, x.block < W.heap.size := by obtain ⟨m, hm⟩ := h1; exact DataW.trod_lt m _ _ _ hm
  have lt2 : ∀ x ∈ p2, x.block < W.heap.size := by obtain ⟨m, hm⟩ := h2; exact DataW.trod_lt m _ _ _ hm
  have lt3 : ∀ x ∈ p3, x.block < W.heap.size := by obtain ⟨m, hm⟩ := h3; exact DataW.trod_lt m _ _ _ hm
  obtain ⟨c, x0, o0, a0⟩ := open_cm (hval 0 31 v0 rfl rfl) h0
  obtain ⟨e, x1, o1, a1⟩ := open_cm (hval 1 31 v1 rfl rfl) h1
  obtain ⟨f, x2, o2, a2⟩ := open_rp (hval 2 34 v2 rfl rfl) h2
  obtain ⟨g, x3, o3, a3⟩ := open_rp (hval 3 34 v3 rfl rfl) h3
  clear hA0 hval0
  refine (walk o0 a0 o1 a1 o2 a2 o3 a3).mono fun e W' ⟨he, bel⟩ => ?_
  subst he
  exact ⟨_, rfl, _, _, _, [], _, [], hW', trodAll_mk1 (shut_bool Try.underlying4 _), (trodAll_cons_mk (Below.trod laidOut (by kernel_rfl) (of_decide_eq_true (by kernel_rfl)) h0 bel lt0) (trodAll_cons_mk (Below.trod laidOut (by kernel_rfl) (of_decide_eq_true (by kernel_rfl)) h1 bel lt1) (trodAll_cons_mk (Below.trod laidOut (by kernel_rfl) (of_decide_eq_true (by kernel_rfl)) h2 bel lt2) (trodAll_cons_mk (Below.trod laidOut (by kernel_rfl) (of_decide_eq_true (by kernel_rfl)) h3 bel lt3) trodAll_mk0)))), rfl, bel.frame _, fun h => by cases h⟩

theorem over : Rows.frameSamesRow.holds Try.pinned (OpenSpec.ofChange Rows.frameSamesSpec) :=
  OpenClaim.holds_of_wide 3 Try.f3 rfl rfl rfl rfl rfl rfl rfl ⟨rfl, rfl, rfl, rfl, rfl⟩ rfl rfl rfl rfl rfl (by kernel_rfl) Try.func3 (by kernel_rfl)
    (of_decide_eq_true (by kernel_rfl)) (by unfold Func.isWrapper; first | (rw [if_pos (by decide +kernel)]; kernel_rfl) | (rw [if_neg (by decide +kernel)]; exact ⟨rfl, rfl⟩))
    (fun os started H enc _ => lifted os started H enc)

theorem proved : Rows.FrameSamesSaid :=
  over
#print axioms proved
end Go.Proofs.Ytjjnjogmplbjoaa.frameSames
