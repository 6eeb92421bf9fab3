import Derived.Test.YtmbeonieabofaaaAbOp5
set_option linter.unusedSimpArgs false
set_option linter.unusedVariables false
namespace Go.Ab

/-- A number of the executor that stands for an address that is not looked at. -/
theorem step_ghost {σ : Sg} {h : Heap} {w : World} (hr : Rel σ h w) {s : Nat} (hs : ¬ nf h s) (rb : RB) : Step σ h w (fun i => if i = s then rb else σ i) (upd h s .gone) w := by
  have hag : ∀ i, nf h i → (fun i => if i = s then rb else σ i) i = σ i := fun i hi => by
    have : i ≠ s := fun e => hs (e ▸ hi)
    simp [this]
  have hk : ∀ i, nf h i → nf (upd h s .gone) i := fun i hi => nf_upd (by simp) hi
  have hg : ∀ {i bi}, hget (upd h s .gone) i = some bi → hget h i = some bi ∧ (fun i => if i = s then rb else σ i) i = σ i := fun {i bi} hi => by
    rw [hget_upd] at hi
    by_cases e : i = s
    · simp [e] at hi
    · simp only [if_neg e] at hi
      exact ⟨hi, hag i (nf_of_hget hi)⟩
  refine ⟨⟨fun i bi hi => ?_, fun i bi hi => ?_, fun i bi hi => hr.plain i bi (hg hi).1, fun i bi hi => hr.one i bi (hg hi).1,
      fun i bi hi v hv => AV.inn_mono hk v (hr.ids i bi (hg hi).1 v hv), fun i j bi bj x y hi hj hij ho hx hy => ?_⟩,
    hag, hk, rfl, rfl, rfl, Nat.le_refl _, fun _ _ _ => rfl, fun r ⟨i, bi, x, hi, hoi, hx, e⟩ => ?_, fun r ⟨i, bi, x, hi, hx, e⟩ => ?_⟩
  · have := (hr.live i bi (hg hi).1).congr (hr.ids i bi (hg hi).1) hag
    rwa [← (hg hi).2] at this
  · have := hr.len i bi (hg hi).1
    rwa [← (hg hi).2] at this
  · have ei := (hg hi).2
    have ej := (hg hj).2
    simp only at ei ej hx hy
    rw [ei] at hx; rw [ej] at hy; exact hr.inj i j bi bj x y (hg hi).1 (hg hj).1 hij ho hx hy
  · have ei := (hg hi).2
    simp only at ei hx
    rw [ei] at hx; exact .inl ⟨i, bi, x, (hg hi).1, hoi, hx, e⟩
  · have ei := (hg hi).2
    simp only at ei hx
    rw [ei] at hx; exact .inl ⟨i, bi, x, (hg hi).1, hx, e⟩

def aslice (P : Program) (h : Heap) (s : Nat) (t : TypeId) (x : AV) (lo hi mx : Option AV) : Option Ans :=
  match P.underlying t, x with
  | some (.array n e), .ptr b off =>
    match hget h b, abounds n n lo hi mx, tySize P e with
    | some blk, some (l, h', m), some z => if off < blk.cells.length then some (.slice b (if m = l then off else off + l * z) (h' - l) (some (m - l)), []) else none
    | _, _, _ => none
  | some (.slice e), .raw (.slice none 0 0) =>
    match abounds 0 0 lo hi mx, tySize P e with
    | some (0, 0, 0), some _ => some (.raw (.slice none 0 0), [])
    | _, _ => none
  | some (.slice e), .slice b off len (some c) =>
    match hget h b, abounds len c lo hi mx, tySize P e with
    | some _, some (l, h', m), some z => some (.slice b (if m = l then off else off + l * z) (h' - l) (some (m - l)), [])
    | _, _, _ => none
  | some (.slice e), .slice b off len none =>
    match hget h b, abounds len len lo hi mx, tySize P e with
    | some blk, some (l, h', m), some 1 =>
      if off + len ≤ blk.cells.length then
        match mx with
        | some _ => some (.slice b (if m = l then off else off + l) (h' - l) (some (m - l)), [])
        | none => if l < len then some (.slice b (off + l) (h' - l) none, []) else some (.slice s 0 0 none, [(s, .gone)])
      else none
    | _, _, _ => none
  | _, _ => none

theorem aslice_sound {P : Program} {σ : Sg} {h : Heap} {w : World} (hr : Rel σ h w) {s : Nat} (hs : ¬ nf h s) {t : TypeId} {x v : AV} {lo hi mx : Option AV} {δ : Delta} (hin : x.inn (nf h))
    (hv : aslice P h s t x lo hi mx = some (v, δ)) :
    Res P ((do pure (Next.value (← Instr.sliceAt t (conc σ x) (lo.map (conc σ)) (hi.map (conc σ)) (mx.map (conc σ))))).run P w) σ h w v δ := by
  unfold aslice at hv
  split at hv
  · rename_i n e b off hu
    split at hv
    · rename_i blk l h' m z hb hbd hz
      split at hv
      · rename_i hc
        simp only [Option.some.injEq, Prod.mk.injEq] at hv
        obtain ⟨rfl, rfl⟩ := hv
        obtain ⟨a, ha, _⟩ := live_addr hr hb (by omega)
        refine Res.val hr hin ?_
        unfold Instr.sliceAt
        simp only [Sem.run_bind, run_underlying hu, Result.andThen_ok, conc, Instr.sureAddr, Sem.run_pure, run_bounds hbd, run_sizeOf' hz, ha, Option.getD_some, Option.map_some]
        split <;> simp [addr_add, Nat.add_assoc, *]
      · cases hv
    · cases hv
  · rename_i e hu
    split at hv
    · rename_i z hbd hz
      simp only [Option.some.injEq, Prod.mk.injEq] at hv
      obtain ⟨rfl, rfl⟩ := hv
      refine Res.val hr hin ?_
      unfold Instr.sliceAt Instr.slice
      simp [run_underlying hu, conc, run_bounds hbd, run_sizeOf' hz]
    · cases hv
  · rename_i e b off len c hu
    split at hv
    · rename_i blk l h' m z hb hbd hz
      simp only [Option.some.injEq, Prod.mk.injEq] at hv
      obtain ⟨rfl, rfl⟩ := hv
      refine Res.val hr hin ?_
      unfold Instr.sliceAt Instr.slice
      simp only [Sem.run_bind, run_underlying hu, Result.andThen_ok, conc, Sem.run_pure, Option.getD_some, run_bounds hbd, run_sizeOf' hz]
      split <;> cases (σ b).addr <;> simp [addr_add, Nat.add_assoc, *]
    · cases hv
  · rename_i e b off len hu
    split at hv
    · rename_i blk l h' m hb hbd hz
      split at hv
      · rename_i hc
        have hlen := (hr.len b blk hb).1
        have hcap : len ≤ (σ b).size - off := by omega
        split at hv
        · rename_i mv
          simp only [Option.some.injEq, Prod.mk.injEq] at hv
          obtain ⟨rfl, rfl⟩ := hv
          have hbd' := abounds_some hbd hcap
          refine Res.val hr hin ?_
          unfold Instr.sliceAt Instr.slice
          simp only [Sem.run_bind, run_underlying hu, Result.andThen_ok, conc, Sem.run_pure, Option.getD_none, Option.getD_some, run_bounds hbd', run_sizeOf' hz]
          split <;> cases (σ b).addr <;> simp [addr_add, Nat.add_assoc, *]
        · obtain ⟨hbd1, hb2, hb3⟩ := abounds_none hbd hcap
          split at hv
          · rename_i hlt
            simp only [Option.some.injEq, Prod.mk.injEq] at hv
            obtain ⟨rfl, rfl⟩ := hv
            refine Res.val hr hin ?_
            unfold Instr.sliceAt Instr.slice
            have hne : ¬ (σ b).size - off = l := by omega
            simp only [Sem.run_bind, run_underlying hu, Result.andThen_ok, conc, Sem.run_pure, Option.getD_none, run_bounds hbd1, run_sizeOf' hz, if_neg hne]
            cases (σ b).addr <;> simp [addr_add, Nat.add_assoc, Nat.sub_sub]
          · rename_i hge
            simp only [Option.some.injEq, Prod.mk.injEq] at hv
            obtain ⟨rfl, rfl⟩ := hv
            have e1 : h' - l = 0 := by omega
            refine ⟨_, w, .inl ?_, step_ghost hr hs ⟨(if (σ b).size - off = l then ((σ b).addr.map fun a => ⟨a.block, a.off + off, none⟩) else ((σ b).addr.map fun a => ⟨a.block, a.off + off + l, none⟩)), (σ b).size - off - l⟩, ?_⟩
            · unfold Instr.sliceAt Instr.slice
              simp only [Sem.run_bind, run_underlying hu, Result.andThen_ok, conc, Sem.run_pure, Option.getD_none, run_bounds hbd1, run_sizeOf' hz, e1]
              split <;> cases (σ b).addr <;> simp [addr_add, Nat.add_assoc]
            · show nf (upd h s _) s
              unfold nf; rw [hat_upd]; simp
      · cases hv
    · cases hv
  · cases hv

end Go.Ab
