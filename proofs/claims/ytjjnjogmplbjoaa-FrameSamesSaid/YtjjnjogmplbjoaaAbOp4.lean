import Derived.Test.YtjjnjogmplbjoaaAbOp3
set_option linter.unusedSimpArgs false
set_option linter.unusedVariables false
namespace Go.Ab

/-! ### struct and array values, slice literals -/
noncomputable def afill (place : Nat → Option (Nat × Nat)) (cells : List AV) : List (Nat × AV) → Option (List AV)
  | [] => some cells
  | (i, v) :: rest =>
    match place i, cellsOf v with
    | some (off, size), some vs => if lenF vs = size ∧ off + size ≤ lenF cells then afill place (splice cells off vs) rest else none
    | _, _ => none

theorem foldl_set (vs : List Value) : ∀ (n off : Nat) (arr : Array Value), off + n + vs.length ≤ arr.size →
    ((vs.zipIdx n).foldl (fun cs p => cs.setIfInBounds (off + p.2) p.1) arr) = (arr.toList.take (off + n) ++ vs ++ arr.toList.drop (off + n + vs.length)).toArray := by
  induction vs with
  | nil => intro n off arr h; simp
  | cons v r ih =>
    intro n off arr h
    simp only [List.length_cons] at h
    rw [List.zipIdx_cons, List.foldl_cons, ih (n + 1) off _ (by simp; omega)]
    have e := list_seg_step arr.toList (off + n) v r (by simp; omega)
    rw [show off + (n + 1) = off + n + 1 by omega]
    simp only [Array.toList_setIfInBounds]
    rw [e]
    simp

theorem splice_concs (σ : Sg) (cs : List AV) (off : Nat) (vs : List AV) : concs σ (splice cs off vs) = (concs σ cs).take off ++ concs σ vs ++ (concs σ cs).drop (off + vs.length) := by
  simp [splice_eq, concs_eq, List.map_take, List.map_drop]

theorem afill_sound {place : Nat → Option (Nat × Nat)} (σ : Sg) : ∀ {parts : List (Nat × AV)} {cells out : List AV}, afill place cells parts = some out →
    Instr.fill place (concs σ cells).toArray (parts.map fun p : Nat × AV => (p.1, conc σ p.2)) = some (concs σ out).toArray ∧ (∀ p : Nat → Prop, inns p cells → (∀ q ∈ parts, q.2.inn p) → inns p out)
  | [], cells, out, h => by simp only [afill, Option.some.injEq] at h; subst h; exact ⟨rfl, fun _ h _ => h⟩
  | (i, v) :: rest, cells, out, h => by
    simp only [afill] at h
    split at h
    · rename_i off size vs hp hc
      split at h
      · rename_i hl
        simp only [lenF_eq] at hl
        obtain ⟨h1, h2⟩ := hl
        obtain ⟨ih1, ih2⟩ := afill_sound σ h
        have hsz : (concs σ vs).length = vs.length := by simp [concs_eq]
        refine ⟨?_, fun p hpc hq => ih2 p ((inns_iff _ _).2 fun c hc' => ?_) fun q hq' => hq q (by simp [hq'])⟩
        · simp only [List.map_cons, Instr.fill, hp, cellsOf_conc hc]
          have hne : ¬ ((concs σ vs).toArray.size ≠ size ∨ off + (concs σ vs).toArray.size > (concs σ cells).toArray.size) := by
            simp only [List.size_toArray, hsz, show (concs σ cells).length = cells.length by simp [concs_eq]]; omega
          have hz : (concs σ vs).toArray.zipIdx.foldl (fun cs p => cs.setIfInBounds (off + p.2) p.1) (concs σ cells).toArray = (concs σ (splice cells off vs)).toArray := by
            rw [splice_concs]
            have := foldl_set (concs σ vs) 0 off (concs σ cells).toArray (by simp [concs_eq]; omega)
            simp only [Nat.add_zero, hsz] at this
            rw [← this]
            simp [← Array.foldl_toList, Array.toList_zipIdx]
          simp only [Bool.or_eq_true, decide_eq_true_eq]
          rw [if_neg (by simpa using hne)]
          exact (congrArg (fun z => Instr.fill place z _) hz).trans ih1
        · rcases mem_splice hc' with hc' | hc'
          · exact (inns_iff _ _).1 hpc c hc'
          · exact cellsOf_inn hc (hq (i, v) (by simp)) c hc'
      · cases h
    · cases h

noncomputable def evParts (t : List (Option AV)) : List (Nat × Operand) → Option (List (Nat × AV))
  | [] => some []
  | (i, x) :: r => match ev t x, evParts t r with | some v, some vs => some ((i, v) :: vs) | _, _ => none

theorem evParts_sound {σ : Sg} {h : Heap} {t : List (Option AV)} {a : Act} (ht : TRel σ h t a.tmps) : ∀ {l : List (Nat × Operand)} {vs : List (Nat × AV)}, evParts t l = some vs →
    (l.map fun p => (p.1, a.eval p.2)) = (vs.map fun p => (p.1, conc σ p.2)) ∧ ∀ q ∈ vs, q.2.inn (nf h)
  | [], vs, h => by simp only [evParts, Option.some.injEq] at h; subst h; simp
  | (i, x) :: r, vs, h => by
    simp only [evParts] at h
    split at h
    · rename_i v vs' hv hvs
      simp only [Option.some.injEq] at h; subst h
      obtain ⟨h1, h2⟩ := evParts_sound ht hvs
      obtain ⟨h3, h4⟩ := ev_sound ht hv
      refine ⟨by simp only [List.map_cons, h1, h3], fun q hq => ?_⟩
      rcases List.mem_cons.1 hq with rfl | hq
      · exact h4
      · exact h2 q hq
    · cases h

def placesOf (P : Program) : List Field → Option (List (Nat × Nat))
  | [] => some []
  | f :: r => match tySize P f.type, placesOf P r with | some n, some ps => some ((f.offset, n) :: ps) | _, _ => none

theorem run_places {P : Program} (w : World) : ∀ {fs : List Field} {ps : List (Nat × Nat)}, placesOf P fs = some ps →
    (fs.mapM (m := Sem) fun f => do pure (f.offset, ← sizeOf f.type)).run P w = .ok ps w
  | [], ps, h => by simp only [placesOf, Option.some.injEq] at h; subst h; rfl
  | f :: r, ps, h => by
    simp only [placesOf] at h
    split at h
    · rename_i n ps' hn hps
      simp only [Option.some.injEq] at h; subst h
      have ih := run_places w hps
      simp only [List.mapM_cons, Sem.run_bind, run_sizeOf' hn, Result.andThen_ok, Sem.run_pure, ih]
    · cases h

def zeroOf (P : Program) (t : TypeId) : Option (List AV) := ((P.info? t).bind (·.zero)).map rawCells

noncomputable def abuild (P : Program) (t : TypeId) (parts : List (Nat × AV)) : Option AV :=
  match zeroOf P t, P.underlying t with
  | some z, some (.struct fs) =>
    match placesOf P fs.toList with
    | some ps => (afill (fun i => ps[i]?) z parts).map .agg
    | none => none
  | some z, some (.array _ e) =>
    match tySize P e with
    | some n => (afill (fun i => some (i * n, n)) z parts).map .agg
    | none => none
  | _, _ => none

theorem zeroOf_spec {P : Program} {t : TypeId} {z : List AV} (h : zeroOf P t = some z) : ∃ v, (P.info? t).bind (·.zero) = some v ∧ z = rawCells v := by
  unfold zeroOf at h
  cases hh : (P.info? t).bind (·.zero) with
  | none => simp [hh] at h
  | some v => simp [hh] at h; exact ⟨v, rfl, h.symm⟩

theorem raw_inns (p : Nat → Prop) (v : Value) : inns p (rawCells v) := (inns_iff _ _).2 fun c hc => by obtain ⟨x, _, rfl⟩ := List.mem_map.1 hc; trivial

theorem abuild_sound {P : Program} {t : TypeId} {parts : List (Nat × AV)} {v : AV} (h : abuild P t parts = some v) (σ : Sg) (w : World) :
    (Instr.build t (parts.map fun p : Nat × AV => (p.1, conc σ p.2)).toArray).run P w = .ok (conc σ v) w ∧ ∀ p : Nat → Prop, (∀ q ∈ parts, q.2.inn p) → v.inn p := by
  unfold abuild at h
  split at h
  · rename_i z fs hz hu
    obtain ⟨zv, hzv, rfl⟩ := zeroOf_spec hz
    split at h
    · rename_i ps hps
      cases hf : afill (fun i => ps[i]?) (rawCells zv) parts with
      | none => simp [hf] at h
      | some out =>
        simp only [hf, Option.map_some, Option.some.injEq] at h; subst h
        obtain ⟨h1, h2⟩ := afill_sound σ hf
        refine ⟨?_, fun p hp => h2 p (raw_inns p zv) hp⟩
        unfold Instr.build
        have hm : (fs.mapM (m := Sem) fun f => do pure (f.offset, ← sizeOf f.type)).run P w = .ok ps.toArray w := by
          rw [Array.mapM_eq_mapM_toList]
          simp only [Sem.run_map, run_places w hps, Result.andThen_ok]
        rw [rawCells_concs] at h1
        simp only [Sem.run_bind, run_zeroValue' hzv, Result.andThen_ok, run_underlying hu, hm]
        simp only [List.getElem?_toArray, h1, conc, Sem.run_pure]
    · cases h
  · rename_i z n e hz hu
    obtain ⟨zv, hzv, rfl⟩ := zeroOf_spec hz
    split at h
    · rename_i m hm
      cases hf : afill (fun i => some (i * m, m)) (rawCells zv) parts with
      | none => simp [hf] at h
      | some out =>
        simp only [hf, Option.map_some, Option.some.injEq] at h; subst h
        obtain ⟨h1, h2⟩ := afill_sound σ hf
        refine ⟨?_, fun p hp => h2 p (raw_inns p zv) hp⟩
        unfold Instr.build
        rw [rawCells_concs] at h1
        simp only [Sem.run_bind, run_zeroValue' hzv, Result.andThen_ok, run_underlying hu, run_sizeOf' hm, h1, conc, Sem.run_pure]
    · cases h
  · cases h

/-- n cells of a zero value, over and over. -/
def zerosN (z : List AV) (n : Nat) : List AV := (List.range n).map fun i => z.getD (i % z.length) (.raw undef)

theorem zerosN_concs (σ : Sg) (zv : Value) (n : Nat) (h : 0 < zv.cells.size ∨ n = 0) : (concs σ (zerosN (rawCells zv) n)).toArray = (Array.range n).map (fun i => zv.cells[i % zv.cells.size]!) := by
  apply Array.ext'
  simp only [zerosN, concs_eq, List.map_map, Array.toList_map, Array.toList_range]
  apply List.map_congr_left
  intro i hi
  have hl : (rawCells zv).length = zv.cells.size := by simp [rawCells]
  have hlt : i % zv.cells.size < zv.cells.size := by
    rcases h with h | h
    · exact Nat.mod_lt _ h
    · subst h; simp at hi
  simp only [Function.comp_apply, hl, List.getD, rawCells]
  rw [List.getElem?_map]
  simp [hlt, conc]

noncomputable def abuildSlice (P : Program) (s : Nat) (t : TypeId) (len : Nat) (parts : List (Nat × AV)) : Option Ans :=
  match P.underlying t with
  | some (.slice e) =>
    match tySize P e, zeroOf P e with
    | some n, some z =>
      if len * n ≤ 16777216 ∧ 0 < z.length then
        match afill (fun i => some (i * n, n)) (zerosN z (len * n)) parts with
        | some out => if allOne out = true then some (.slice s 0 len (some len), [(s, .live ⟨out, true, true, allRaw out⟩)]) else none
        | none => none
      else none
    | _, _ => none
  | _ => none

theorem abuildSlice_sound {P : Program} {σ : Sg} {h : Heap} {w : World} (hr : Rel σ h w) {s : Nat} (hs : ¬ nf h s) {t : TypeId} {len : Nat} {parts : List (Nat × AV)} (hq : ∀ q ∈ parts, q.2.inn (nf h)) {v : AV} {δ : Delta}
    (hv : abuildSlice P s t len parts = some (v, δ)) :
    Res P ((do pure (Next.value (← Instr.buildSlice t len (parts.map fun p : Nat × AV => (p.1, conc σ p.2)).toArray))).run P w) σ h w v δ := by
  unfold abuildSlice at hv
  split at hv
  · rename_i e hu
    split at hv
    · rename_i n z hn hz
      obtain ⟨zv, hzv, rfl⟩ := zeroOf_spec hz
      split at hv
      · rename_i hc
        split at hv
        · rename_i out hf
          split at hv
          · rename_i hone
            simp only [Option.some.injEq, Prod.mk.injEq] at hv
            obtain ⟨rfl, rfl⟩ := hv
            obtain ⟨h1, h2⟩ := afill_sound σ hf
            have hz0 : 0 < zv.cells.size := by have := hc.2; simpa [rawCells] using this
            rw [zerosN_concs σ zv _ (.inl hz0)] at h1
            refine Res.new hr hs out e (allRaw out) _ (fun h => h) hone ((inns_iff _ _).1 (h2 _ ((inns_iff _ _).2 fun c hc' => ?_) hq)) (fun σ' hσ => ?_) (fun p hp => hp)
            · obtain ⟨i, _, rfl⟩ := List.mem_map.1 hc'
              have hl : (rawCells zv).length = zv.cells.size := by simp [rawCells]
              have : i % (rawCells zv).length < (rawCells zv).length := Nat.mod_lt _ (by omega)
              simp only [List.getD, List.getElem?_eq_getElem this, Option.getD_some]
              exact (inns_iff _ _).1 (raw_inns _ zv) _ (List.getElem_mem this)
            · unfold Instr.buildSlice
              have hle : ¬ len * n > 2 ^ 24 := by have := hc.1; simp only [show (2:Nat) ^ 24 = 16777216 from rfl]; omega
              simp only [Sem.run_bind, run_underlying hu, Result.andThen_ok, run_sizeOf' hn, if_neg hle]
              by_cases h0 : len * n = 0
              · simp only [if_pos h0, Sem.run_pure, Result.andThen_ok]
                rw [h0] at h1
                rw [h0]
                have e0 : ∀ f : Nat → Value, (Array.range 0).map f = #[] := fun f => by apply Array.ext'; simp
                rw [e0] at h1
                simp only [Sem.run_bind, Sem.run_pure, Result.andThen_ok]
                rw [e0]
                simp only [h1, Sem.run_bind]
                simp [newRow, conc, hσ, World.alloc_eq]
              · simp only [if_neg h0, Sem.run_bind, run_zeroValue' hzv, Result.andThen_ok, Sem.run_pure, h1]
                simp [newRow, conc, hσ, World.alloc_eq]
          · cases hv
        · cases hv
      · cases hv
    · cases hv
  · cases hv

end Go.Ab
