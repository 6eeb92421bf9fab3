import Derived.Test.YtjjnjogmplbjoaaAbOp10
set_option linter.unusedSimpArgs false
set_option linter.unusedVariables false
namespace Go.Ab

noncomputable def evs (t : List (Option AV)) : List Operand → Option (List AV)
  | [] => some []
  | x :: r => match ev t x, evs t r with | some v, some vs => some (v :: vs) | _, _ => none

noncomputable def evO (t : List (Option AV)) : Option Operand → Option (Option AV)
  | none => some none
  | some x => (ev t x).map some

theorem evs_sound {σ : Sg} {h : Heap} {t : List (Option AV)} {a : Act} (ht : TRel σ h t a.tmps) : ∀ {l : List Operand} {vs : List AV}, evs t l = some vs → l.map a.eval = concs σ vs ∧ inns (nf h) vs
  | [], vs, h => by simp only [evs, Option.some.injEq] at h; subst h; exact ⟨rfl, trivial⟩
  | x :: r, vs, h => by
    simp only [evs] at h
    split at h
    · rename_i v vs' hv hvs
      simp only [Option.some.injEq] at h; subst h
      obtain ⟨h1, h2⟩ := evs_sound ht hvs
      obtain ⟨h3, h4⟩ := ev_sound ht hv
      exact ⟨by simp [h1, h3, concs], h4, h2⟩
    · cases h

theorem evO_sound {σ : Sg} {h : Heap} {t : List (Option AV)} {a : Act} (ht : TRel σ h t a.tmps) {x : Option Operand} {v : Option AV} (hv : evO t x = some v) : x.map a.eval = v.map (conc σ) := by
  cases x with
  | none => simp only [evO, Option.some.injEq] at hv; subst hv; rfl
  | some x =>
    simp only [evO, Option.map_eq_some_iff] at hv
    obtain ⟨u, hu, rfl⟩ := hv
    simp [(ev_sound ht hu).1]

noncomputable def abuiltin (P : Program) (s : Nat) (h : Heap) (b : Builtin) (ts : Array TypeId) (args : List AV) : Option Ans :=
  match b, ts.toList, args with
  | .len, [t], [x] => (alenx P h t x).map (·, [])
  | .min, _, [x, y] => (amin2 x y).map (·, [])
  | .max, _, [x, y] => (amax2 x y).map (·, [])
  | .delete, [t, _], [x, y] => (adelete P h t x y).map (AV.tup [], ·)
  | .copy, [t, _], [x, y] => acopy P h t x y
  | .append, [t, t1], [x, y] => aappend P h s t t1 x y
  | _, _, _ => none

theorem abuiltin_sound {P : Program} {s : Nat} {σ : Sg} {h : Heap} {w : World} (hr : Rel σ h w) (hs : ¬ nf h s) {b : Builtin} {ts : Array TypeId} {args : List AV} {v : AV} {δ : Delta} (hv : abuiltin P s h b ts args = some (v, δ)) (ty : TypeId) (cs : Array Bool) :
    Res P ((builtin b ts ty cs (concs σ args).toArray).run P w) σ h w v δ := by
  unfold abuiltin at hv
  split at hv
  · rename_i t x hts
    simp only [Option.map_eq_some_iff, Prod.mk.injEq] at hv
    obtain ⟨u, hu, rfl, rfl⟩ := hv
    have he : ts = #[t] := by apply Array.ext'; simpa using hts
    subst he
    obtain ⟨h1, h2⟩ := alenx_sound hr hu ty #[t] rfl
    exact Res.val hr (h2 _) h1
  · rename_i x y
    simp only [Option.map_eq_some_iff, Prod.mk.injEq] at hv
    obtain ⟨u, hu, rfl, rfl⟩ := hv
    obtain ⟨h1, h2⟩ := amin2_sound (P := P) hu σ w ty ts
    exact Res.val hr (h2 _) h1
  · rename_i x y
    simp only [Option.map_eq_some_iff, Prod.mk.injEq] at hv
    obtain ⟨u, hu, rfl, rfl⟩ := hv
    obtain ⟨h1, h2⟩ := amax2_sound (P := P) hu σ w ty ts
    exact Res.val hr (h2 _) h1
  · rename_i t t2 x y hts
    simp only [Option.map_eq_some_iff, Prod.mk.injEq] at hv
    obtain ⟨u, hu, rfl, rfl⟩ := hv
    have he : ts = #[t, t2] := by apply Array.ext'; simpa using hts
    subst he
    obtain ⟨w', h1, h2⟩ := adelete_sound hr hu
    refine ⟨σ, w', .inl ?_, h2, trivial⟩
    show Sem.run P (do pure (Next.value (← Builtin.delete_ #[t, t2] ty (concs σ [x, y]).toArray))) w = _
    have : (concs σ [x, y]).toArray = #[conc σ x, conc σ y] := rfl
    rw [this, Sem.run_bind, h1]
    rfl
  · rename_i t t1 x y hts
    have he : ts = #[t, t1] := by apply Array.ext'; simpa using hts
    subst he
    exact acopy_sound hr hv
  · rename_i t t1 x y hts
    have he : ts = #[t, t1] := by apply Array.ext'; simpa using hts
    subst he
    exact aappend_sound hr hs hv
  · cases hv

noncomputable def aarrayX (P : Program) (h : Heap) (t : TypeId) (x : AV) : Option AV :=
  match x with
  | .slice b off len c => if hasAt h b off = true then aarrayAt P t (.slice b off len c) else none
  | _ => none
theorem aarrayX_sound {P : Program} {σ : Sg} {h : Heap} {w : World} (hr : Rel σ h w) {t : TypeId} {x v : AV} (hv : aarrayX P h t x = some v) :
    (Instr.arrayAt t (conc σ x)).run P w = .ok (conc σ v) w ∧ ∀ p : Nat → Prop, x.inn p → v.inn p := by
  unfold aarrayX at hv
  split at hv
  · rename_i b off len c
    split at hv
    · rename_i hh
      refine aarrayAt_sound hv (fun b' off' len' c' he => ?_)
      cases he
      obtain ⟨a, ha, -⟩ := hasAt_addr hr hh
      exact ⟨a, ha⟩
    · cases hv
  · cases hv

noncomputable def aop (P : Program) (s : Nat) (t : List (Option AV)) (h : Heap) (o : Oper) : Option Ans :=
  match o.op with
  | .move x | .assign x => (ev t x).map (·, [])
  | .pick c a b =>
    match ev t c with
    | some (.raw (.bool true)) => (ev t a).map (·, [])
    | some (.raw (.bool false)) => (ev t b).map (·, [])
    | _ => none
  | .alloc ty => match zeroOf P ty with | some z => if allOne z = true then some (.ptr s 0, [(s, .live ⟨z, true, true, true⟩)]) else none | none => none
  | .box _ x =>
    match ev t x with
    | some v => match cellsOf v with | some cs => if allOne cs = true then some (.ptr s 0, [(s, .live ⟨cs, true, true, allRaw cs⟩)]) else none | none => none
    | none => none
  | .build ty parts => match evParts t parts.toList with | some ps => (abuild P ty ps).map (·, []) | none => none
  | .buildSlice ty n parts => match evParts t parts.toList with | some ps => abuildSlice P s ty n ps | none => none
  | .load ty x => match ev t x with | some (.ptr b off) => ldx P h s ty b off | _ => none
  | .store ty x y => match ev t x, ev t y with | some (.ptr b off), some v => (stv P h ty b off v).map (AV.raw undef, ·) | _, _ => none
  | .nilCheck x => match ev t x with | some (.ptr b off) => some (.ptr b off, []) | some (.func f c) => some (.func f c, []) | _ => none
  | .binOp op ty x y _ => match ev t x, ev t y with | some u, some v => (abinx P h op ty u v).map (·, []) | _, _ => none
  | .unOp op _ x => match ev t x with | some u => (aun op u).map (·, []) | none => none
  | .convert src dst x => match ev t x with | some u => aconvx P h s src dst u | none => none
  | .sliceToArrayPointer ty x => match ev t x with | some u => (aarrayX P h ty u).map (·, []) | none => none
  | .makeInterface ty x => match ev t x with | some u => (amakeI P ty u).map (·, []) | none => none
  | .typeAssert x _ ty ok => match ev t x with | some u => (aassert P u ty ok).map (·, []) | none => none
  | .makeMap _ none => some (.map s, [(s, .obj (.mp [] 0))])
  | .lookup ty x k ok => match ev t x, ev t k with | some u, some v => (alookup P h ty u v ok).map (·, []) | _, _ => none
  | .mapUpdate ty m k x | .insert ty m k x => match ev t m, ev t k, ev t x with | some u, some v, some y => (aupdate P h ty u v y).map (AV.raw undef, ·) | _, _, _ => none
  | .range ty x => match ev t x with | some u => arange P h s ty u | none => none
  | .next x isS => match ev t x with | some u => anext h u isS | none => none
  | .entry x => match ev t x with | some u => (aentry h u).map (·, []) | none => none
  | .makeFunc (.func f) first cap => if first.isEmpty then match evs t cap.toList with | some vs => some (.func f vs, []) | none => none else none
  | .makeSlice ty l c => match ev t l, ev t c with | some u, some v => amakeSlice P s ty u v | _, _ => none
  | .slice ty x lo hi mx => match ev t x, evO t lo, evO t hi, evO t mx with | some v, some l, some k, some m => aslice P h s ty v l k m | _, _, _, _ => none
  | .fieldAddr ty x f => match ev t x with | some u => (afield P ty u f).map (·, []) | none => none
  | .field ty x f => match ev t x with | some u => (afld P ty u f).map (·, []) | none => none
  | .indexAddr ty x i => match ev t x, ev t i with | some u, some v => (aindexAddr P h ty u v).map (·, []) | _, _ => none
  | .index ty x i => match ev t x, ev t i with | some u, some v => (aindex P ty u v).map (·, []) | _, _ => none
  | .extract x i => match ev t x with | some u => (aextract u i).map (·, []) | none => none
  | .call { callee := .builtin b, args, argTypes } => match evs t args.toList with | some vs => abuiltin P s h b argTypes vs | none => none
  | _ => none

theorem aop_sound {P : Program} {s : Nat} {t : List (Option AV)} {σ : Sg} {h : Heap} {w : World} (hr : Rel σ h w) {a : Act} (ht : TRel σ h t a.tmps) (hs : ¬ nf h s) {o : Oper} {v : AV} {δ : Delta} (hv : aop P s t h o = some (v, δ)) :
    Res P ((execOp a.eval o).run P w) σ h w v δ := by
  obtain ⟨dst, op, type, ps, after, guard⟩ := o
  unfold aop at hv
  simp only at hv
  split at hv
  · rename_i x
    simp only [Option.map_eq_some_iff, Prod.mk.injEq] at hv
    obtain ⟨u, hu, rfl, rfl⟩ := hv
    obtain ⟨h1, h2⟩ := ev_sound ht hu
    exact Res.same hr h2 (by simp [execOp, h1])
  · rename_i x
    simp only [Option.map_eq_some_iff, Prod.mk.injEq] at hv
    obtain ⟨u, hu, rfl, rfl⟩ := hv
    obtain ⟨h1, h2⟩ := ev_sound ht hu
    exact Res.same hr h2 (by simp [execOp, h1])
  · rename_i c x y
    split at hv
    · rename_i hc
      simp only [Option.map_eq_some_iff, Prod.mk.injEq] at hv
      obtain ⟨u, hu, rfl, rfl⟩ := hv
      obtain ⟨h1, h2⟩ := ev_sound ht hu
      obtain ⟨h3, -⟩ := ev_sound ht hc
      exact Res.same hr h2 (by simp [execOp, h1, h3, conc, asBool])
    · rename_i hc
      simp only [Option.map_eq_some_iff, Prod.mk.injEq] at hv
      obtain ⟨u, hu, rfl, rfl⟩ := hv
      obtain ⟨h1, h2⟩ := ev_sound ht hu
      obtain ⟨h3, -⟩ := ev_sound ht hc
      exact Res.same hr h2 (by simp [execOp, h1, h3, conc, asBool])
    · cases hv
  · rename_i ty
    split at hv
    · rename_i z hz
      split at hv
      · rename_i hone
        simp only [Option.some.injEq, Prod.mk.injEq] at hv
        obtain ⟨rfl, rfl⟩ := hv
        obtain ⟨zv, hzv, rfl⟩ := zeroOf_spec hz
        refine Res.new hr hs _ ty true _ (fun _ => rawCells_raw zv) hone ((inns_iff _ _).1 (raw_inns _ zv)) (fun σ' hσ => ?_) (fun p hp => hp)
        rw [rawCells_concs]
        unfold Instr.alloc
        simp only [Sem.run_bind, run_zeroValue' hzv, Result.andThen_ok]
        simp [newVar, newRow, conc, hσ, World.alloc_eq]
      · cases hv
    · cases hv
  · rename_i ty x
    split at hv
    · rename_i u hu
      split at hv
      · rename_i cs hcs
        split at hv
        · rename_i hone
          simp only [Option.some.injEq, Prod.mk.injEq] at hv
          obtain ⟨rfl, rfl⟩ := hv
          obtain ⟨h1, h2⟩ := ev_sound ht hu
          refine Res.new hr hs cs ty _ _ (fun h => h) hone (cellsOf_inn hcs h2) (fun σ' hσ => ?_) (fun p hp => hp)
          unfold Instr.box
          simp [newVar, newRow, conc, hσ, World.alloc_eq, h1, cellsOf_conc hcs]
        · cases hv
      · cases hv
    · cases hv
  · rename_i ty parts
    split at hv
    · rename_i vs hvs
      simp only [Option.map_eq_some_iff, Prod.mk.injEq] at hv
      obtain ⟨u, hu, rfl, rfl⟩ := hv
      obtain ⟨h1, h2⟩ := evParts_sound ht hvs
      obtain ⟨h3, h4⟩ := abuild_sound hu σ w
      have hp : (parts.map fun (p : Nat × Operand) => (p.1, a.eval p.2)) = (vs.map fun p => (p.1, conc σ p.2)).toArray := by
        apply Array.ext'; simpa using h1
      refine Res.val hr (h4 _ h2) ?_
      rw [← hp] at h3
      exact h3
    · cases hv
  · rename_i ty n parts
    split at hv
    · rename_i vs hvs
      obtain ⟨h1, h2⟩ := evParts_sound ht hvs
      have hp : (parts.map fun (p : Nat × Operand) => (p.1, a.eval p.2)) = (vs.map fun p => (p.1, conc σ p.2)).toArray := by
        apply Array.ext'; simpa using h1
      have := abuildSlice_sound hr hs h2 hv
      rw [← hp] at this
      exact this
    · cases hv
  · rename_i ty x
    split at hv
    · rename_i b off hu
      obtain ⟨h1, -⟩ := ev_sound ht hu
      have := ldx_sound hr hs hv
      have e : (execOp a.eval ⟨dst, .load ty x, type, ps, after, guard⟩).run P w = (do pure (Next.value (← loadVar ty ⟨((σ b).addr.getD default).block, ((σ b).addr.getD default).off + off, none⟩)) : Sem Next).run P w := by
        simp only [execOp, Instr.loadAt, h1, conc, Instr.sureAddr, Sem.run_bind, Sem.run_pure, Result.andThen_ok]
      rw [e]; exact this
    · cases hv
  · rename_i ty x y
    split at hv
    · rename_i b off u hx hy
      simp only [Option.map_eq_some_iff, Prod.mk.injEq] at hv
      obtain ⟨δ', hδ, rfl, rfl⟩ := hv
      obtain ⟨h1, -⟩ := ev_sound ht hx
      obtain ⟨h2, h3⟩ := ev_sound ht hy
      obtain ⟨w', hw, hst⟩ := stv_sound hr h3 hδ
      refine ⟨σ, w', .inr ⟨?_, rfl⟩, hst, trivial⟩
      simp only [execOp, Instr.storeAt, h1, h2, conc, Instr.sureAddr, Sem.run_bind, Sem.run_pure, Result.andThen_ok, hw]
    · cases hv
  · rename_i x
    split at hv
    · rename_i b off hu
      simp only [Option.some.injEq, Prod.mk.injEq] at hv
      obtain ⟨rfl, rfl⟩ := hv
      obtain ⟨h1, h2⟩ := ev_sound ht hu
      exact Res.same hr h2 (by simp [execOp, h1, conc])
    · rename_i f c hu
      simp only [Option.some.injEq, Prod.mk.injEq] at hv
      obtain ⟨rfl, rfl⟩ := hv
      obtain ⟨h1, h2⟩ := ev_sound ht hu
      exact Res.same hr h2 (by simp [execOp, h1, conc])
    · cases hv
  · rename_i op ty x y ty'
    split at hv
    · rename_i u u' hx hy
      simp only [Option.map_eq_some_iff, Prod.mk.injEq] at hv
      obtain ⟨r, hr', rfl, rfl⟩ := hv
      obtain ⟨h1, -⟩ := ev_sound ht hx
      obtain ⟨h2, -⟩ := ev_sound ht hy
      obtain ⟨h3, h4⟩ := abinx_sound hr hr' x y
      refine Res.val hr (h4 _) ?_
      rw [h1, h2]; exact h3
    · cases hv
  · rename_i op ty x
    split at hv
    · rename_i u hx
      simp only [Option.map_eq_some_iff, Prod.mk.injEq] at hv
      obtain ⟨r, hr', rfl, rfl⟩ := hv
      obtain ⟨h1, -⟩ := ev_sound ht hx
      obtain ⟨h3, h4⟩ := aun_sound (P := P) hr' σ w
      refine Res.val hr (h4 _) ?_
      rw [h1]; exact h3
    · cases hv
  · rename_i src d x
    split at hv
    · rename_i u hx
      obtain ⟨h1, -⟩ := ev_sound ht hx
      have := aconvx_sound hr hs hv
      rw [← h1] at this
      exact this
    · cases hv
  · rename_i ty x
    split at hv
    · rename_i u hx
      simp only [Option.map_eq_some_iff, Prod.mk.injEq] at hv
      obtain ⟨r, hr', rfl, rfl⟩ := hv
      obtain ⟨h1, h2⟩ := ev_sound ht hx
      obtain ⟨h3, h4⟩ := aarrayX_sound hr hr'
      refine Res.val hr (h4 _ h2) ?_
      rw [h1]; exact h3
    · cases hv
  · rename_i ty x
    split at hv
    · rename_i u hx
      simp only [Option.map_eq_some_iff, Prod.mk.injEq] at hv
      obtain ⟨r, hr', rfl, rfl⟩ := hv
      obtain ⟨h1, h2⟩ := ev_sound ht hx
      obtain ⟨h3, h4⟩ := amakeI_sound hr' σ w
      refine Res.val hr (h4 _ h2) ?_
      rw [h1]; exact h3
    · cases hv
  · rename_i x xt ty ok
    split at hv
    · rename_i u hx
      simp only [Option.map_eq_some_iff, Prod.mk.injEq] at hv
      obtain ⟨r, hr', rfl, rfl⟩ := hv
      obtain ⟨h1, h2⟩ := ev_sound ht hx
      obtain ⟨h3, h4⟩ := aassert_sound (xt := xt) hr' σ w
      refine Res.val hr (h4 _ h2) ?_
      rw [h1]; exact h3
    · cases hv
  · rename_i ty
    simp only [Option.some.injEq, Prod.mk.injEq] at hv
    obtain ⟨rfl, rfl⟩ := hv
    refine ⟨_, _, .inl ?_, step_obj hr hs (.mp [] 0) (fun e he => by cases he), ?_⟩
    · simp [execOp, Instr.makeMap, conc, concO]
    · show nf (upd h s _) s
      unfold nf; rw [hat_upd]; simp
  · rename_i ty x k ok
    split at hv
    · rename_i u u' hx hy
      simp only [Option.map_eq_some_iff, Prod.mk.injEq] at hv
      obtain ⟨r, hr', rfl, rfl⟩ := hv
      obtain ⟨h1, -⟩ := ev_sound ht hx
      obtain ⟨h2, -⟩ := ev_sound ht hy
      obtain ⟨h3, h4⟩ := alookup_sound hr hr'
      refine Res.val hr h4 ?_
      rw [h1, h2]; exact h3
    · cases hv
  · rename_i ty m k x
    split at hv
    · rename_i u u' u2 hm hk hx
      simp only [Option.map_eq_some_iff, Prod.mk.injEq] at hv
      obtain ⟨δ', hδ, rfl, rfl⟩ := hv
      obtain ⟨h1, -⟩ := ev_sound ht hm
      obtain ⟨h2, h2'⟩ := ev_sound ht hk
      obtain ⟨h3, h3'⟩ := ev_sound ht hx
      obtain ⟨w', hw, hst⟩ := aupdate_sound hr h2' h3' hδ
      refine ⟨σ, w', .inr ⟨?_, rfl⟩, hst, trivial⟩
      simp only [execOp, h1, h2, h3, Sem.run_bind, hw, Result.andThen_ok, Sem.run_pure]
    · cases hv
  · rename_i ty m k x
    split at hv
    · rename_i u u' u2 hm hk hx
      simp only [Option.map_eq_some_iff, Prod.mk.injEq] at hv
      obtain ⟨δ', hδ, rfl, rfl⟩ := hv
      obtain ⟨h1, -⟩ := ev_sound ht hm
      obtain ⟨h2, h2'⟩ := ev_sound ht hk
      obtain ⟨h3, h3'⟩ := ev_sound ht hx
      obtain ⟨w', hw, hst⟩ := aupdate_sound hr h2' h3' hδ
      refine ⟨σ, w', .inr ⟨?_, rfl⟩, hst, trivial⟩
      simp only [execOp, h1, h2, h3, Sem.run_bind, hw, Result.andThen_ok, Sem.run_pure]
    · cases hv
  · rename_i ty x
    split at hv
    · rename_i u hx
      obtain ⟨h1, h2⟩ := ev_sound ht hx
      have := arange_sound hr hs h2 hv
      rw [← h1] at this
      exact this
    · cases hv
  · rename_i x isS
    split at hv
    · rename_i u hx
      obtain ⟨h1, h2⟩ := ev_sound ht hx
      have := anext_sound (P := P) (ty := type) hr hv
      rw [← h1] at this
      exact this
    · cases hv
  · rename_i x
    split at hv
    · rename_i u hx
      simp only [Option.map_eq_some_iff, Prod.mk.injEq] at hv
      obtain ⟨r, hr', rfl, rfl⟩ := hv
      obtain ⟨h1, -⟩ := ev_sound ht hx
      obtain ⟨h3, h4⟩ := aentry_sound (P := P) hr hr'
      refine Res.val hr h4 ?_
      rw [h1]; exact h3
    · cases hv
  · rename_i f first cap
    split at hv
    · rename_i hf
      split at hv
      · rename_i vs hvs
        simp only [Option.some.injEq, Prod.mk.injEq] at hv
        obtain ⟨rfl, rfl⟩ := hv
        obtain ⟨h1, h2⟩ := evs_sound ht hvs
        have hf0 : first = #[] := by simpa using hf
        have hc : cap.map a.eval = (concs σ vs).toArray := by apply Array.ext'; simpa using h1
        refine Res.val hr h2 ?_
        simp [Instr.makeFunc, hf0, hc, conc]
      · cases hv
    · cases hv
  · rename_i ty l c
    split at hv
    · rename_i u u' hx hy
      obtain ⟨h1, -⟩ := ev_sound ht hx
      obtain ⟨h2, -⟩ := ev_sound ht hy
      have := amakeSlice_sound hr hs hv
      rw [← h1, ← h2] at this
      exact this
    · cases hv
  · rename_i ty x lo hi mx
    split at hv
    · rename_i u l k m hx hl hk hm
      obtain ⟨h1, h2⟩ := ev_sound ht hx
      have := aslice_sound hr hs h2 hv
      rw [← h1, ← evO_sound ht hl, ← evO_sound ht hk, ← evO_sound ht hm] at this
      exact this
    · cases hv
  · rename_i ty x f
    split at hv
    · rename_i u hx
      simp only [Option.map_eq_some_iff, Prod.mk.injEq] at hv
      obtain ⟨r, hr', rfl, rfl⟩ := hv
      obtain ⟨h1, h2⟩ := ev_sound ht hx
      obtain ⟨h3, h4⟩ := afield_sound hr' σ w
      refine Res.val hr (h4 _ h2) ?_
      rw [h1]; exact h3
    · cases hv
  · rename_i ty x f
    split at hv
    · rename_i u hx
      simp only [Option.map_eq_some_iff, Prod.mk.injEq] at hv
      obtain ⟨r, hr', rfl, rfl⟩ := hv
      obtain ⟨h1, h2⟩ := ev_sound ht hx
      obtain ⟨h3, h4⟩ := afld_sound hr' σ w
      refine Res.val hr (h4 _ h2) ?_
      rw [h1]; exact h3
    · cases hv
  · rename_i ty x i
    split at hv
    · rename_i u u' hx hy
      simp only [Option.map_eq_some_iff, Prod.mk.injEq] at hv
      obtain ⟨r, hr', rfl, rfl⟩ := hv
      obtain ⟨h1, h1'⟩ := ev_sound ht hx
      obtain ⟨h2, -⟩ := ev_sound ht hy
      obtain ⟨h3, h4⟩ := aindexAddr_sound hr hr'
      refine Res.val hr (h4 _ h1') ?_
      rw [h1, h2]; exact h3
    · cases hv
  · rename_i ty x i
    split at hv
    · rename_i u u' hx hy
      simp only [Option.map_eq_some_iff, Prod.mk.injEq] at hv
      obtain ⟨r, hr', rfl, rfl⟩ := hv
      obtain ⟨h1, h1'⟩ := ev_sound ht hx
      obtain ⟨h2, -⟩ := ev_sound ht hy
      obtain ⟨h3, h4⟩ := aindex_sound hr' σ w
      refine Res.val hr (h4 _ h1') ?_
      rw [h1, h2]; exact h3
    · cases hv
  · rename_i x i
    split at hv
    · rename_i u hx
      simp only [Option.map_eq_some_iff, Prod.mk.injEq] at hv
      obtain ⟨r, hr', rfl, rfl⟩ := hv
      obtain ⟨h1, h2⟩ := ev_sound ht hx
      obtain ⟨h3, h4⟩ := aextract_sound (P := P) hr' σ w
      refine Res.val hr (h4 _ h2) ?_
      rw [h1]; exact h3
    · cases hv
  · rename_i b args ts
    split at hv
    · rename_i vs hvs
      obtain ⟨h1, h2⟩ := evs_sound ht hvs
      have hc : args.map a.eval = (concs σ vs).toArray := by apply Array.ext'; simpa using h1
      have := abuiltin_sound hr hs hv type (args.map fun | .const _ => true | _ => false)
      simp only [execOp, resolve, Sem.run_bind, Sem.run_pure, Result.andThen_ok, invoke, hc]
      exact this
    · cases hv
  · cases hv

end Go.Ab
