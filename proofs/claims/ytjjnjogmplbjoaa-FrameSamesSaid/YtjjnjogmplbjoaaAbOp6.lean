import Derived.Test.YtjjnjogmplbjoaaAbOp5
set_option linter.unusedSimpArgs false
set_option linter.unusedVariables false
namespace Go.Ab

noncomputable def aslice (P : Program) (h : Heap) (s : Nat) (t : TypeId) (x : AV) (lo hi mx : Option AV) : Option Ans :=
  match P.underlying t, x with
  | some (.array n e), .ptr b off =>
    match hget h b, abounds n n lo hi mx, tySize P e with
    | some blk, some (l, h', m), some z => if off < blk.cells.length then some (.slice b (if m = l then off else off + l * z) (h' - l) (some (m - l)), []) else none
    | _, _, _ => none
  | some (.slice e), .raw (.slice a 0 cap) =>
    match abounds 0 0 lo hi mx, tySize P e with
    | some (0, 0, 0), some _ => (match mx with | some _ => some (.raw (.slice a 0 0), []) | none => some (.raw (.slice a 0 cap), []))
    | _, _ => none
  | some (.slice e), .slice b off len (some c) =>
    match hget h b, abounds len c lo hi mx, tySize P e with
    | some _, some (l, h', m), some z => some (.slice b (if m = l then off else off + l * z) (h' - l) (some (m - l)), [])
    | _, _, _ => none
  | some (.slice e), .slice b off len none =>
    match hget h b, abounds len len lo hi mx, tySize P e with
    | some blk, some (l, h', m), some 1 =>
      if off + len ≤ blk.cells.length then
        match mx with
        | some _ => some (.slice b (if m = l then off else off + l) (h' - l) (some (m - l)), [])
        | none => if l < len then some (.slice b (off + l) (h' - l) none, []) else some (.slice s 0 0 none, [(s, .gone)])
      else none
    | _, _, _ => none
  | _, _ => none

theorem aslice_sound {P : Program} {σ : Sg} {h : Heap} {w : World} (hr : Rel σ h w) {s : Nat} (hs : ¬ nf h s) {t : TypeId} {x v : AV} {lo hi mx : Option AV} {δ : Delta} (hin : x.inn (nf h))
    (hv : aslice P h s t x lo hi mx = some (v, δ)) :
    Res P ((do pure (Next.value (← Instr.sliceAt t (conc σ x) (lo.map (conc σ)) (hi.map (conc σ)) (mx.map (conc σ))))).run P w) σ h w v δ := by
  unfold aslice at hv
  split at hv
  · rename_i n e b off hu
    split at hv
    · rename_i blk l h' m z hb hbd hz
      split at hv
      · rename_i hc
        simp only [Option.some.injEq, Prod.mk.injEq] at hv
        obtain ⟨rfl, rfl⟩ := hv
        obtain ⟨a, ha, _⟩ := live_addr hr hb (by omega)
        refine Res.val hr hin ?_
        unfold Instr.sliceAt
        simp only [Sem.run_bind, run_underlying hu, Result.andThen_ok, conc, Instr.sureAddr, Sem.run_pure, run_bounds hbd, run_sizeOf' hz, ha, Option.getD_some, Option.map_some]
        split <;> simp [addr_add, Nat.add_assoc, *]
      · cases hv
    · cases hv
  · rename_i e a cap hu
    split at hv
    · rename_i z hbd hz
      have h0 : ∀ x : Addr, x.add 0 = x := fun x => by unfold Addr.add; simp
      split at hv
      · rename_i mv
        simp only [Option.some.injEq, Prod.mk.injEq] at hv
        obtain ⟨rfl, rfl⟩ := hv
        refine Res.val hr trivial ?_
        unfold Instr.sliceAt Instr.slice
        simp only [Sem.run_bind, run_underlying hu, Result.andThen_ok, conc, Sem.run_pure, run_bounds (abounds_some hbd (Nat.zero_le cap)), run_sizeOf' hz]
        cases a <;> simp
      · simp only [Option.some.injEq, Prod.mk.injEq] at hv
        obtain ⟨rfl, rfl⟩ := hv
        refine Res.val hr trivial ?_
        unfold Instr.sliceAt Instr.slice
        obtain ⟨hb2, -, -⟩ := abounds_none hbd (Nat.zero_le cap)
        simp only [Sem.run_bind, run_underlying hu, Result.andThen_ok, conc, Sem.run_pure, run_bounds hb2, run_sizeOf' hz]
        cases a <;> simp [h0]
    · cases hv
  · rename_i e b off len c hu
    split at hv
    · rename_i blk l h' m z hb hbd hz
      simp only [Option.some.injEq, Prod.mk.injEq] at hv
      obtain ⟨rfl, rfl⟩ := hv
      refine Res.val hr hin ?_
      unfold Instr.sliceAt Instr.slice
      simp only [Sem.run_bind, run_underlying hu, Result.andThen_ok, conc, Sem.run_pure, Option.getD_some, run_bounds hbd, run_sizeOf' hz]
      split <;> cases (σ b).addr <;> simp [addr_add, Nat.add_assoc, *]
    · cases hv
  · rename_i e b off len hu
    split at hv
    · rename_i blk l h' m hb hbd hz
      split at hv
      · rename_i hc
        have hlen := (hr.len b blk hb).1
        have hcap : len ≤ (σ b).size - off := by omega
        split at hv
        · rename_i mv
          simp only [Option.some.injEq, Prod.mk.injEq] at hv
          obtain ⟨rfl, rfl⟩ := hv
          have hbd' := abounds_some hbd hcap
          refine Res.val hr hin ?_
          unfold Instr.sliceAt Instr.slice
          simp only [Sem.run_bind, run_underlying hu, Result.andThen_ok, conc, Sem.run_pure, Option.getD_none, Option.getD_some, run_bounds hbd', run_sizeOf' hz]
          split <;> cases (σ b).addr <;> simp [addr_add, Nat.add_assoc, *]
        · obtain ⟨hbd1, hb2, hb3⟩ := abounds_none hbd hcap
          split at hv
          · rename_i hlt
            simp only [Option.some.injEq, Prod.mk.injEq] at hv
            obtain ⟨rfl, rfl⟩ := hv
            refine Res.val hr hin ?_
            unfold Instr.sliceAt Instr.slice
            have hne : ¬ (σ b).size - off = l := by omega
            simp only [Sem.run_bind, run_underlying hu, Result.andThen_ok, conc, Sem.run_pure, Option.getD_none, run_bounds hbd1, run_sizeOf' hz, if_neg hne]
            cases (σ b).addr <;> simp [addr_add, Nat.add_assoc, Nat.sub_sub]
          · rename_i hge
            simp only [Option.some.injEq, Prod.mk.injEq] at hv
            obtain ⟨rfl, rfl⟩ := hv
            have e1 : h' - l = 0 := by omega
            refine ⟨_, w, .inl ?_, step_ghost hr hs ⟨(if (σ b).size - off = l then ((σ b).addr.map fun a => ⟨a.block, a.off + off, none⟩) else ((σ b).addr.map fun a => ⟨a.block, a.off + off + l, none⟩)), (σ b).size - off - l⟩, ?_⟩
            · unfold Instr.sliceAt Instr.slice
              simp only [Sem.run_bind, run_underlying hu, Result.andThen_ok, conc, Sem.run_pure, Option.getD_none, run_bounds hbd1, run_sizeOf' hz, e1]
              split <;> cases (σ b).addr <;> simp [addr_add, Nat.add_assoc]
            · show nf (upd h s _) s
              unfold nf; rw [hat_upd]; simp
      · cases hv
    · cases hv
  · cases hv

end Go.Ab
