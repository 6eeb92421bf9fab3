import Derived.Test.YtjjnjogmplbjoaaAbOp9
import Derived.MapKept
import Derived.WideKeyRuns
import Derived.Maps.RangeRun
set_option linter.unusedSimpArgs false
set_option linter.unusedVariables false
namespace Go.Ab

/-! ### maps: keys -/
def keyOK (P : Program) (kt : TypeId) (k : AV) : Bool :=
  match P.underlying kt, k with
  | some (.int kk), .raw (.int k' _) => k' == kk
  | some (.array n e), .agg cs => n == cs.length && isInt P e && tySize P e == some 1
  | _, _ => false

noncomputable def sameK (P : Program) (kt : TypeId) (x y : AV) : Option Bool :=
  match P.underlying kt, x, y with
  | some (.int _), .raw (.int k a), .raw (.int k' b) => if k = k' then some (a == b) else none
  | some (.array _ _), .agg xs, .agg ys => arrEq P kt xs ys
  | _, _, _ => none

noncomputable def findE (P : Program) (kt : TypeId) (k : AV) (es : List AEnt) : Nat → Option (Option (Nat × AV)) :=
  List.rec (motive := fun _ => Nat → Option (Option (Nat × AV))) (fun _ => some none) (fun e _ ih i => match sameK P kt k e.key with | some true => some (some (i, e.val)) | some false => ih (i + 1) | none => none) es
theorem eraseIdx_map' {α β : Type} (f : α → β) : ∀ (l : List α) (i : Nat), (l.map f).eraseIdx i = (l.eraseIdx i).map f
  | [], _ => rfl
  | _ :: _, 0 => rfl
  | a :: l, i + 1 => by simp [eraseIdx_map' f l i]
theorem findE_nil (P : Program) (kt : TypeId) (k : AV) (i : Nat) : findE P kt k [] i = some none := rfl
theorem findE_cons (P : Program) (kt : TypeId) (k : AV) (e : AEnt) (es : List AEnt) (i : Nat) : findE P kt k (e :: es) i = match sameK P kt k e.key with | some true => some (some (i, e.val)) | some false => findE P kt k es (i + 1) | none => none := rfl

theorem findE_at {P : Program} {kt : TypeId} {k : AV} : ∀ {es : List AEnt} {i j : Nat} {v : AV}, findE P kt k es i = some (some (j, v)) → ∃ m e, j = i + m ∧ es[m]? = some e ∧ e.val = v ∧ sameK P kt k e.key = some true
  | [], i, j, v, h => by rw [findE_nil] at h; cases h
  | e :: es, i, j, v, h => by
    rw [findE_cons] at h
    split at h
    · rename_i hs
      simp only [Option.some.injEq, Prod.mk.injEq] at h
      obtain ⟨rfl, rfl⟩ := h
      exact ⟨0, e, rfl, rfl, rfl, hs⟩
    · obtain ⟨m, e', h1, h2, h3, h4⟩ := findE_at h
      exact ⟨m + 1, e', by omega, by simpa using h2, h3, h4⟩
    · cases h

theorem run_findE_int {P : Program} {kt : TypeId} {kk : IntKind} (hu : P.underlying kt = some (.int kk)) (σ : Sg) (k : AV) : ∀ {es : List AEnt} {i : Nat} {r : Option (Nat × AV)}, findE P kt k es i = some r →
    Instr.findNow (.int kk) (conc σ k) (es.map (AEnt.conc σ)) i = some (r.map fun p => (p.1, conc σ p.2))
  | [], i, r, h => by
    rw [findE_nil] at h
    simp only [Option.some.injEq] at h; subst h
    rfl
  | e :: es, i, r, h => by
    have hsn : ∀ b, sameK P kt k e.key = some b → Instr.sameNow (.int kk) (conc σ k) (AEnt.conc σ e).key = some b := fun b hb => by
      unfold sameK at hb
      rw [hu] at hb
      split at hb
      · rename_i kx a ky c _ hk he
        split at hb
        · rename_i hkk
          simp only [AEnt.conc, he, conc, Instr.sameNow, hkk, if_true]
          exact hb
        · cases hb
      · rename_i h1 _; cases h1
      · cases hb
    rw [findE_cons] at h
    rw [List.map_cons]
    unfold Instr.findNow
    split at h
    · rename_i hs
      rw [hsn _ hs]
      simp only [Option.some.injEq] at h; subst h
      rfl
    · rename_i hs
      rw [hsn _ hs]
      exact run_findE_int hu σ k h
    · cases h

theorem run_findE_arr {P : Program} {kt e : TypeId} {n : Nat} (hu : P.underlying kt = some (.array n e)) (σ : Sg) (w : World) (k : AV) : ∀ {es : List AEnt} {i : Nat} {r : Option (Nat × AV)}, findE P kt k es i = some r →
    (Instr.findAsking kt (conc σ k) (es.map (AEnt.conc σ)) i).run P w = .ok (r.map fun p => (p.1, conc σ p.2)) w
  | [], i, r, h => by
    rw [findE_nil] at h
    simp only [Option.some.injEq] at h; subst h
    rfl
  | x :: es, i, r, h => by
    have hsn : ∀ b, sameK P kt k x.key = some b → (Op.equal kt (conc σ k) (AEnt.conc σ x).key).run P w = .ok b w := fun b hb => by
      unfold sameK at hb
      rw [hu] at hb
      split at hb
      · rename_i h1 _; cases h1
      · rename_i xs ys _ hk he
        simp only [AEnt.conc, he, conc]
        exact (arrEq_sound hb σ w).1
      · cases hb
    rw [findE_cons] at h
    rw [List.map_cons]
    unfold Instr.findAsking
    split at h
    · rename_i hs
      simp only [Option.some.injEq] at h; subst h
      simp only [Sem.run_bind, hsn _ hs, Result.andThen_ok, if_true]
      rfl
    · rename_i hs
      simp only [Sem.run_bind, hsn _ hs, Result.andThen_ok, Bool.false_eq_true, if_false]
      exact run_findE_arr hu σ w k h
    · cases h

theorem run_findE {P : Program} {kt : TypeId} {k : AV} (hk : keyOK P kt k = true) {es : List AEnt} {r : Option (Nat × AV)} (h : findE P kt k es 0 = some r) (σ : Sg) (w : World) :
    (Instr.findKey kt (conc σ k) (es.map (AEnt.conc σ))).run P w = .ok (r.map fun p => (p.1, conc σ p.2)) w := by
  unfold keyOK at hk
  split at hk
  · rename_i kk k' n hu
    have := run_findE_int hu σ _ h
    simp [Instr.findKey, run_underlying hu, Result.andThen, this]
  · rename_i n e cs hu
    rw [run_findKey_eq w (by rw [hu])]
    exact run_findE_arr hu σ w _ h
  · cases hk

theorem run_part_any {P : Program} {e : TypeId} (hi : isInt P e = true) (cs : Array Value) (i : Nat) (v : Value) (hv : cs[i]? = some v) (w : World) : (part e cs i).run P w = .ok v w := by
  obtain ⟨k, hk⟩ := isInt_spec hi
  have : (isAgg e).run P w = .ok false w := run_isAgg (b := false) (by simp [tyAgg, hk]) w
  unfold part
  simp [this, hv]

theorem run_keyCheck {P : Program} {kt : TypeId} {k : AV} (hk : keyOK P kt k = true) (σ : Sg) (w : World) (em : Bool) : (Instr.checkKey em 10000 kt (conc σ k)).run P w = .ok () w := by
  unfold keyOK at hk
  split at hk
  · rename_i kk k' n hu
    have := MapKept.run_checkKey (w := w) (k := .int k' n) hu (by simpa [MapKept.IsKey] using hk) em 9999
    exact this
  · rename_i n e cs hu
    simp only [Bool.and_eq_true, beq_iff_eq] at hk
    obtain ⟨⟨h1, h2⟩, h3⟩ := hk
    obtain ⟨ke, hke⟩ := isInt_spec h2
    have key : ∀ d, (Instr.checkKey em (d + 2) kt (.agg (concs σ cs).toArray)).run P w = .ok () w := fun d => by
      unfold Instr.checkKey
      simp only [Sem.run_bind, run_underlying hu, Result.andThen_ok]
      rw [Std.Legacy.Range.forIn_eq_forIn_range']
      have loop : ∀ (m s : Nat), s + m ≤ cs.length → Sem.run P (forIn (m := Sem) (List.range' s m 1) PUnit.unit fun i _ => do
          Instr.checkKey em (d + 1) e (← part e (concs σ cs).toArray (i * (← sizeOf e)))
          pure (ForInStep.yield PUnit.unit)) w = .ok PUnit.unit w := by
        intro m
        induction m with
        | zero => intro s _; simp [List.range']
        | succ m ih =>
          intro s hs
          have hc : cs[s]? = some cs[s] := List.getElem?_eq_getElem (by omega)
          have hp : (part e (concs σ cs).toArray (s * 1)).run P w = .ok (conc σ cs[s]) w := run_part_any h2 _ _ _ (by simp [concs_eq, hc]) w
          have hck : (Instr.checkKey em (d + 1) e (conc σ cs[s])).run P w = .ok () w := by
            unfold Instr.checkKey
            simp [run_underlying hke]
          simp only [List.range'_succ, List.forIn_cons, Sem.run_bind, run_sizeOf' h3, Result.andThen_ok, hp, hck, Sem.run_pure]
          exact ih (s + 1) (by omega)
      have hsz : [:n].size = cs.length := by simp [Std.Legacy.Range.size, h1]
      rw [hsz]
      have := loop cs.length 0 (by omega)
      simp only [Sem.run_bind] at this ⊢
      rw [this]; rfl
    exact key 9998
  · cases hk

theorem eqCells_same {σ : Sg} {n : Nat} : ∀ {xs ys : List AV}, eqCells xs ys = some true → ((concs σ ys).zip (concs σ xs)).all (fun p => Instr.sameBits n p.1 p.2) = true
  | [], [], _ => rfl
  | x :: xs, y :: ys, h => by
    obtain ⟨k, a, c, r, rfl, rfl, hr, hb⟩ := eqCells_cons h
    have hb' := hb.symm
    simp only [Bool.and_eq_true, beq_iff_eq] at hb'
    obtain ⟨e1, e2⟩ := hb'
    subst e1; subst e2
    simp only [concs, List.zip_cons_cons, List.all_cons, Bool.and_eq_true]
    exact ⟨by cases n <;> simp [conc, Instr.sameBits], eqCells_same hr⟩
  | [], _ :: _, h => by simp [eqCells] at h
  | x :: xs, [], h => by cases x <;> (try rename_i v; cases v) <;> simp [eqCells] at h

theorem sameK_bits {P : Program} {kt : TypeId} {x y : AV} (h : sameK P kt x y = some true) (σ : Sg) : Instr.sameBits 10000 (conc σ y) (conc σ x) = true := by
  unfold sameK at h
  split at h
  · split at h
    · rename_i hk
      simp only [Option.some.injEq, beq_iff_eq] at h
      subst hk; subst h
      simp [conc, Instr.sameBits]
    · cases h
  · rename_i xs ys _
    unfold arrEq at h
    split at h
    · split at h
      · simp only [conc]
        unfold Instr.sameBits
        have hl := eqCells_len h
        simp only [Bool.and_eq_true, beq_iff_eq, List.size_toArray]
        refine ⟨by simp [concs_eq, hl], ?_⟩
        simpa using eqCells_same (σ := σ) (n := 9999) h
      · cases h
    · cases h
  · cases h

/-! ### maps: what is done with them -/
def zeroV (P : Program) (t : TypeId) : Option AV :=
  match (P.info? t).bind (·.zero) with
  | some (.agg cs) => some (.agg (cs.toList.map .raw))
  | some v => some (.raw v)
  | none => none
theorem run_zeroV {P : Program} {t : TypeId} {v : AV} (h : zeroV P t = some v) (σ : Sg) (w : World) : (zeroValue t).run P w = .ok (conc σ v) w ∧ ∀ p : Nat → Prop, v.inn p := by
  unfold zeroV at h
  split at h
  · rename_i cs hz
    simp only [Option.some.injEq] at h; subst h
    rw [run_zeroValue' hz]
    refine ⟨?_, fun p => (inns_iff _ _).2 fun c hc => by obtain ⟨x, _, rfl⟩ := List.mem_map.1 hc; trivial⟩
    congr 1
    simp [conc, concs_eq, Function.comp_def]
  · rename_i hz
    simp only [Option.some.injEq] at h; subst h
    rw [run_zeroValue' hz]
    exact ⟨rfl, fun _ => trivial⟩
  · cases h

noncomputable def mapAt (h : Heap) (x : AV) : Option (List AEnt × Nat) :=
  match x with
  | .map b => match hat h b with | .obj (.mp es c) => some (es, c) | _ => none
  | _ => none
theorem mapAt_spec {h : Heap} {x : AV} {es : List AEnt} {c : Nat} (hm : mapAt h x = some (es, c)) : ∃ b, x = .map b ∧ hat h b = .obj (.mp es c) := by
  unfold mapAt at hm
  split at hm
  · rename_i b
    split at hm
    · rename_i es' c' hb
      simp only [Option.some.injEq, Prod.mk.injEq] at hm
      obtain ⟨rfl, rfl⟩ := hm
      exact ⟨b, rfl, hb⟩
    · cases hm
  · cases hm

def found (P : Program) (et : TypeId) (ok : Bool) (r : Option (Nat × AV)) : Option AV :=
  match r with
  | some (_, v) => some (if ok then .tup [v, .raw (.bool true)] else v)
  | none => (zeroV P et).map fun z => if ok then .tup [z, .raw (.bool false)] else z

noncomputable def alookup (P : Program) (h : Heap) (t : TypeId) (x k : AV) (ok : Bool) : Option AV :=
  match P.underlying t with
  | some (.map kt et) =>
    if keyOK P kt k = true then
      match x with
      | .raw (.map none) => found P et ok none
      | x => match mapAt h x with | some (es, _) => (findE P kt k es 0).bind (found P et ok) | none => none
    else none
  | _ => none

theorem alookup_sound {P : Program} {σ : Sg} {h : Heap} {w : World} (hr : Rel σ h w) {t : TypeId} {x k : AV} {ok : Bool} {v : AV} (hv : alookup P h t x k ok = some v) :
    (Instr.lookup t (conc σ x) (conc σ k) ok).run P w = .ok (conc σ v) w ∧ v.inn (nf h) := by
  unfold alookup at hv
  split at hv
  · rename_i kt et hu
    split at hv
    · rename_i hk
      split at hv
      · unfold found at hv
        simp only [Option.map_eq_some_iff] at hv
        obtain ⟨z, hz, rfl⟩ := hv
        obtain ⟨h1, h2⟩ := run_zeroV hz σ w
        unfold Instr.lookup
        have hfk : (Instr.findKey kt (conc σ k) []).run P w = .ok none w := by
          have := run_findE hk (findE_nil P kt k 0) σ w
          exact this
        simp only [conc, Sem.run_bind, run_underlying hu, Result.andThen_ok, Sem.run_pure, run_keyCheck hk, hfk, h1]
        cases ok
        · exact ⟨by simp, h2 _⟩
        · exact ⟨by simp [conc, concs], ⟨h2 _, trivial, trivial⟩⟩
      · split at hv
        · rename_i es c hm
          obtain ⟨b, rfl, hb⟩ := mapAt_spec hm
          rw [Option.bind_eq_some_iff] at hv
          obtain ⟨r, hr', hf⟩ := hv
          obtain ⟨⟨a, ha, hoff, hsp, hg⟩, hin⟩ := hr.objs b _ hb
          have hg' : w.heap[a.block]? = some (.map (es.map (AEnt.conc σ)).toArray c) := hg
          unfold Instr.lookup
          have hfk := run_findE hk hr' σ w
          simp only [conc, ha, Option.getD_some, Sem.run_bind, run_underlying hu, Result.andThen_ok, MapKept.run_getObj_map hg', Sem.run_pure, run_keyCheck hk, hfk]
          unfold found at hf
          cases r with
          | none =>
            simp only [Option.map_eq_some_iff] at hf
            obtain ⟨z, hz, rfl⟩ := hf
            obtain ⟨h1, h2⟩ := run_zeroV hz σ w
            simp only [Option.map_none, Sem.run_bind, h1, Result.andThen_ok, Sem.run_pure]
            cases ok
            · exact ⟨by simp, h2 _⟩
            · exact ⟨by simp [conc, concs], ⟨h2 _, trivial, trivial⟩⟩
          | some p =>
            obtain ⟨j, u⟩ := p
            simp only [Option.some.injEq] at hf
            subst hf
            obtain ⟨m, e, -, he, rfl, -⟩ := findE_at hr'
            have hu2 := (hin e (List.mem_of_getElem? he)).2
            simp only [Option.map_some, Sem.run_pure, Result.andThen_ok]
            cases ok
            · exact ⟨by simp, hu2⟩
            · exact ⟨by simp [conc, concs], ⟨hu2, trivial, trivial⟩⟩
        · cases hv
    · cases hv
  · cases hv

noncomputable def aupdate (P : Program) (h : Heap) (t : TypeId) (m k x : AV) : Option Delta :=
  match P.underlying t, m with
  | some (.map kt _), .map b =>
    match mapAt h (.map b) with
    | some (es, c) =>
      if keyOK P kt k = true then
        match findE P kt k es 0 with
        | some (some (i, _)) => match nth es i with | some e => some [(b, .obj (.mp (setF es i ⟨k, x, e.born⟩) c))] | none => none
        | some none => some [(b, .obj (.mp (appF es [⟨k, x, c⟩]) (c + 1)))]
        | none => none
      else none
    | none => none
  | _, _ => none

theorem aupdate_sound {P : Program} {σ : Sg} {h : Heap} {w : World} (hr : Rel σ h w) {t : TypeId} {m k x : AV} (hk' : k.inn (nf h)) (hx' : x.inn (nf h)) {δ : Delta} (hv : aupdate P h t m k x = some δ) :
    ∃ w', (Instr.mapUpdate t (conc σ m) (conc σ k) (conc σ x)).run P w = .ok () w' ∧ Step σ h w σ (app h δ) w' := by
  unfold aupdate at hv
  split at hv
  · rename_i kt et b hu
    split at hv
    · rename_i es c hm
      obtain ⟨b', e, hb⟩ := mapAt_spec hm
      cases e
      split at hv
      · rename_i hk
        have hobj := hr.objs b _ hb
        have hin : ∀ e ∈ es, e.key.inn (nf h) ∧ e.val.inn (nf h) := hobj.2
        split at hv
        · rename_i i u hf
          obtain ⟨m', e, hi, he, rfl, hs⟩ := findE_at hf
          have hi' : i = m' := by omega
          subst hi'
          rw [nth_eq, he] at hv
          simp only [Option.some.injEq] at hv; subst hv
          rw [setF_eq]
          obtain ⟨r, ha, hg, hst⟩ := step_seto hr hb (.mp (es.set i ⟨k, x, e.born⟩) c) (fun y hy => by
            rcases List.mem_or_eq_of_mem_set hy with q | q
            · exact hin y q
            · subst q; exact ⟨hk', hx'⟩)
          have hg' : w.heap[r]? = some (.map (es.map (AEnt.conc σ)).toArray c) := hg
          refine ⟨_, ?_, hst⟩
          unfold Instr.mapUpdate
          have hfk := run_findE hk hf σ w
          have hkey : ((es.map (AEnt.conc σ)).toArray[i]?.map (·.key)).getD (conc σ k) = conc σ e.key := by simp [he, AEnt.conc]
          have hstay : (Instr.keyThatStays (conc σ e.key) (conc σ k)).run P w = .ok (conc σ k) w := by
            unfold Instr.keyThatStays
            rw [if_pos (sameK_bits hs σ)]
            rfl
          simp only [conc, ha, Option.getD_some, Sem.run_bind, run_underlying hu, Result.andThen_ok, MapKept.run_getObj_map hg', run_keyCheck hk, hfk, Option.map_some, hkey, hstay]
          rw [MapKept.run_setObj_map _ hg']
          congr 2
          congr 1
          simp only [concO]
          congr 1
          apply Array.ext'
          simp only [Array.toList_modify]
          apply List.ext_getElem?
          intro j
          simp only [List.getElem?_modify, List.getElem?_map, List.getElem?_set]
          by_cases ej : i = j
          · subst ej
            have hlt : i < es.length := (List.getElem?_eq_some_iff.1 he).1
            have he2 : es[i] = e := by rw [List.getElem?_eq_getElem hlt] at he; exact Option.some.inj he
            simp [he, hlt, AEnt.conc, he2]
          · simp [ej]
        · rename_i hf
          simp only [Option.some.injEq] at hv; subst hv
          rw [appF_eq]
          obtain ⟨r, ha, hg, hst⟩ := step_seto hr hb (.mp (es ++ [⟨k, x, c⟩]) (c + 1)) (fun y hy => by
            rcases List.mem_append.1 hy with q | q
            · exact hin y q
            · simp only [List.mem_singleton] at q; subst q; exact ⟨hk', hx'⟩)
          have hg' : w.heap[r]? = some (.map (es.map (AEnt.conc σ)).toArray c) := hg
          refine ⟨_, ?_, hst⟩
          unfold Instr.mapUpdate
          have hfk := run_findE hk hf σ w
          simp only [conc, ha, Option.getD_some, Sem.run_bind, run_underlying hu, Result.andThen_ok, MapKept.run_getObj_map hg', run_keyCheck hk, hfk, Option.map_none]
          rw [MapKept.run_setObj_map _ hg']
          congr 3
          simp [concO, AEnt.conc]
        · cases hv
      · cases hv
    · cases hv
  · cases hv

noncomputable def adelete (P : Program) (h : Heap) (t : TypeId) (m k : AV) : Option Delta :=
  match P.underlying t, m with
  | some (.map kt _), .map b =>
    match mapAt h (.map b) with
    | some (es, c) =>
      if keyOK P kt k = true then
        match findE P kt k es 0 with
        | some (some (i, _)) => some [(b, .obj (.mp (es.eraseIdx i) c))]
        | some none => some [(b, .obj (.mp es c))]
        | none => none
      else none
    | none => none
  | _, _ => none

theorem adelete_sound {P : Program} {σ : Sg} {h : Heap} {w : World} (hr : Rel σ h w) {t t2 ty : TypeId} {m k : AV} {δ : Delta} (hv : adelete P h t m k = some δ) :
    ∃ w', (Builtin.delete_ #[t, t2] ty #[conc σ m, conc σ k]).run P w = .ok (.tuple #[]) w' ∧ Step σ h w σ (app h δ) w' := by
  unfold adelete at hv
  split at hv
  · rename_i kt et b hu
    split at hv
    · rename_i es c hm
      obtain ⟨b', e, hb⟩ := mapAt_spec hm
      cases e
      split at hv
      · rename_i hk
        have hobj := hr.objs b _ hb
        have hin : ∀ e ∈ es, e.key.inn (nf h) ∧ e.val.inn (nf h) := hobj.2
        split at hv
        · rename_i i u hf
          simp only [Option.some.injEq] at hv; subst hv
          obtain ⟨r, ha, hg, hst⟩ := step_seto hr hb (.mp (es.eraseIdx i) c) (fun y hy => hin y (List.mem_of_mem_eraseIdx hy))
          have hg' : w.heap[r]? = some (.map (es.map (AEnt.conc σ)).toArray c) := hg
          refine ⟨_, ?_, hst⟩
          unfold Builtin.delete_
          have hfk := run_findE hk hf σ w
          simp only [List.getElem?_toArray, List.getElem?_cons_zero, List.getElem?_cons_succ, conc, ha, Option.getD_some, Sem.run_bind, run_underlying hu, Result.andThen_ok, MapKept.run_getObj_map hg', run_keyCheck hk, hfk, Option.map_some]
          rw [MapKept.run_setObj_map _ hg']
          simp only [Result.andThen_ok, Sem.run_pure]
          congr 3
          simp only [concO]
          congr 1
          apply Array.ext'
          simp only [Array.eraseIdxIfInBounds, List.size_toArray, List.length_map]
          split
          · simp [Array.toList_eraseIdx, eraseIdx_map']
          · rename_i hlt
            rw [List.eraseIdx_of_length_le (by simpa using hlt)]
        · rename_i hf
          simp only [Option.some.injEq] at hv; subst hv
          obtain ⟨r, ha, hg, hst⟩ := step_seto hr hb (.mp es c) hin
          have hg' : w.heap[r]? = some (.map (es.map (AEnt.conc σ)).toArray c) := hg
          refine ⟨_, ?_, hst⟩
          unfold Builtin.delete_
          have hfk := run_findE hk hf σ w
          simp only [List.getElem?_toArray, List.getElem?_cons_zero, List.getElem?_cons_succ, conc, ha, Option.getD_some, Sem.run_bind, run_underlying hu, Result.andThen_ok, MapKept.run_getObj_map hg', run_keyCheck hk, hfk, Option.map_none]
          rw [MapKept.run_setObj_map _ hg']
          rfl
        · cases hv
      · cases hv
    · cases hv
  · cases hv

noncomputable def alenx (P : Program) (h : Heap) (t : TypeId) (x : AV) : Option AV :=
  match x with
  | .map b => match P.underlying t, mapAt h (.map b) with | some (.map _ _), some (es, _) => some (.raw (.int .i64 (lenF es))) | _, _ => none
  | .raw (.map none) => match P.underlying t with | some (.map _ _) => some (.raw (.int .i64 0)) | _ => none
  | _ => alen P t x

theorem alenx_sound {P : Program} {σ : Sg} {h : Heap} {w : World} (hr : Rel σ h w) {t : TypeId} {x v : AV} (hv : alenx P h t x = some v) (ty : TypeId) (ts : Array TypeId) (ht : ts[0]? = some t) :
    (Builtin.len_ ts ty #[conc σ x]).run P w = .ok (conc σ v) w ∧ ∀ p : Nat → Prop, v.inn p := by
  unfold alenx at hv
  split at hv
  · rename_i b
    split at hv
    · rename_i k e es c hu hm
      obtain ⟨b', e', hb⟩ := mapAt_spec hm
      cases e'
      simp only [Option.some.injEq] at hv; subst hv
      obtain ⟨⟨a, ha, hoff, hsp, hg⟩, hin⟩ := hr.objs b _ hb
      have hg' : w.heap[a.block]? = some (.map (es.map (AEnt.conc σ)).toArray c) := hg
      refine ⟨?_, fun _ => trivial⟩
      unfold Builtin.len_
      simp [ht, run_underlying hu, conc, ha, MapKept.run_getObj_map hg', goInt, lenF_eq]
    · cases hv
  · split at hv
    · rename_i k e hu
      simp only [Option.some.injEq] at hv; subst hv
      refine ⟨?_, fun _ => trivial⟩
      unfold Builtin.len_
      simp [ht, run_underlying hu, conc, goInt]
    · cases hv
  · exact alen_sound hv σ w ty ts ht

/-! ### ranges -/
noncomputable def arange (P : Program) (h : Heap) (s : Nat) (t : TypeId) (x : AV) : Option Ans :=
  match P.underlying t, x with
  | some .string, .raw (.string sb) => some (.ptr s 0, [(s, .obj (.strIter sb 0))])
  | some (.map _ _), .raw (.map none) => some (.ptr s 0, [(s, .obj (.mapIter none 0 [] 0))])
  | some (.map _ _), .map b => match mapAt h (.map b) with | some (_, c) => some (.ptr s 0, [(s, .obj (.mapIter (some b) c [] c))]) | none => none
  | _, _ => none

theorem arange_sound {P : Program} {σ : Sg} {h : Heap} {w : World} (hr : Rel σ h w) {s : Nat} (hs : ¬ nf h s) {t : TypeId} {x v : AV} (hx : x.inn (nf h)) {δ : Delta} (hv : arange P h s t x = some (v, δ)) :
    Res P ((do pure (Next.value (← Instr.range t (conc σ x)))).run P w) σ h w v δ := by
  unfold arange at hv
  split at hv
  · rename_i sb hu
    simp only [Option.some.injEq, Prod.mk.injEq] at hv
    obtain ⟨rfl, rfl⟩ := hv
    refine ⟨_, _, .inl ?_, step_obj hr hs (.strIter sb 0) trivial, ?_⟩
    · simp [Instr.range, run_underlying hu, conc, concO]
    · show nf (upd h s _) s
      unfold nf; rw [hat_upd]; simp
  · rename_i k e hu
    simp only [Option.some.injEq, Prod.mk.injEq] at hv
    obtain ⟨rfl, rfl⟩ := hv
    refine ⟨_, _, .inl ?_, step_obj hr hs (.mapIter none 0 [] 0) (fun b hb => by cases hb), ?_⟩
    · simp [Instr.range, run_underlying hu, conc, concO]
    · show nf (upd h s _) s
      unfold nf; rw [hat_upd]; simp
  · rename_i k e b hu
    split at hv
    · rename_i es c hm
      obtain ⟨b', e', hb⟩ := mapAt_spec hm
      cases e'
      simp only [Option.some.injEq, Prod.mk.injEq] at hv
      obtain ⟨rfl, rfl⟩ := hv
      obtain ⟨⟨a, ha, hoff, hsp, hg⟩, hin⟩ := hr.objs b _ hb
      have hg' : w.heap[a.block]? = some (.map (es.map (AEnt.conc σ)).toArray c) := hg
      refine ⟨_, _, .inl ?_, step_obj hr hs (.mapIter (some b) c [] c) (fun b' hb' => by cases hb'; exact hx), ?_⟩
      · simp [Instr.range, run_underlying hu, conc, concO, ha, MapKept.run_getObj_map hg']
      · show nf (upd h s _) s
        unfold nf; rw [hat_upd]; simp
    · cases hv
  · cases hv

def leftE (es : List AEnt) (seen : List Nat) : List AEnt := es.filter fun e => !seen.contains e.born

noncomputable def anext (h : Heap) (x : AV) (isS : Bool) : Option Ans :=
  match x with
  | .ptr b 0 =>
    match hat h b, isS with
    | .obj (.strIter sb p), true =>
      if p < lenF sb.data.toList then some (.tup [.raw (.bool true), .raw (.int .i64 p), .raw (.int .i32 (Utf8.decode sb p).1)], [(b, .obj (.strIter sb (p + (Utf8.decode sb p).2)))])
      else some (.tup [.raw (.bool false)], [])
    | .obj (.mapIter none _ _ _), false => some (.tup [.raw (.bool false)], [])
    | .obj (.mapIter (some m) since seen last), false =>
      match mapAt h (.map m) with
      | some (es, c) =>
        if (!seen.isEmpty && !es.isEmpty && es.all fun e => decide (e.born ≥ last)) = false then
          match leftE es seen with
          | [] => some (.tup [.raw (.bool false)], [])
          | [e] => if e.born < since then some (.tup [.raw (.bool true), e.key, e.val], [(b, .obj (.mapIter (some m) since (seen ++ [e.born]) c))]) else none
          | _ => none
        else none
      | none => none
    | _, _ => none
  | _ => none

theorem run_getObj_of {P : Program} {w : World} {r : Nat} {o : Obj} (hb : w.heap[r]? = some o) (hk : (∃ s p, o = .stringIter s p) ∨ ∃ m a b c, o = .mapIter m a b c) : (getObj r).run P w = .ok o w := by
  rcases hk with ⟨s, p, rfl⟩ | ⟨m, a, b, c, rfl⟩ <;> simp [getObj, Sem.run, hb]
theorem run_setObj_of {P : Program} {w : World} {r : Nat} {o : Obj} (o' : Obj) (hb : w.heap[r]? = some o) (hk : (∃ s p, o = .stringIter s p) ∨ ∃ m a b c, o = .mapIter m a b c) : (setObj r o').run P w = .ok () { w with heap := w.heap.setIfInBounds r o' } := by
  rcases hk with ⟨s, p, rfl⟩ | ⟨m, a, b, c, rfl⟩ <;> simp [setObj, Sem.run, hb]

theorem anext_sound {P : Program} {σ : Sg} {h : Heap} {w : World} (hr : Rel σ h w) {x v : AV} {isS : Bool} {ty : TypeId} {δ : Delta} (hv : anext h x isS = some (v, δ)) :
    Res P ((do pure (Next.value (← Instr.next (conc σ x) isS ty))).run P w) σ h w v δ := by
  unfold anext at hv
  split at hv
  · rename_i b
    split at hv
    · rename_i sb p hb
      obtain ⟨⟨a, ha, hoff, hsp, hg⟩, hin⟩ := hr.objs b _ hb
      have hg' : w.heap[a.block]? = some (.stringIter sb p) := hg
      have hconc : conc σ (.ptr b 0) = .pointer (some ⟨a.block, 0, none⟩) := by simp [conc, ha, hoff]
      split at hv
      · rename_i hlt
        rw [lenF_eq] at hlt
        simp only [Option.some.injEq, Prod.mk.injEq] at hv
        obtain ⟨rfl, rfl⟩ := hv
        obtain ⟨r, ha2, hg2, hst⟩ := step_seto hr hb (.strIter sb (p + (Utf8.decode sb p).2)) trivial
        have hra : r = a.block := by rw [ha] at ha2; cases ha2; rfl
        subst hra
        refine ⟨σ, _, .inl ?_, hst, ⟨trivial, trivial, trivial, trivial⟩⟩
        rw [hconc]
        have hlt' : p < sb.size := by simpa using hlt
        unfold Instr.next
        simp only [Sem.run_bind, run_getObj_of hg' (.inl ⟨_, _, rfl⟩), Result.andThen_ok, if_pos hlt']
        simp only [Sem.run_bind, run_setObj_of _ hg' (.inl ⟨_, _, rfl⟩), Result.andThen_ok, Sem.run_pure, conc, concs, concO, goInt]
      · rename_i hlt
        rw [lenF_eq] at hlt
        simp only [Option.some.injEq, Prod.mk.injEq] at hv
        obtain ⟨rfl, rfl⟩ := hv
        refine Res.val hr ⟨trivial, trivial⟩ ?_
        rw [hconc]
        have hlt' : ¬ p < sb.size := by simpa using hlt
        unfold Instr.next
        simp only [Sem.run_bind, run_getObj_of hg' (.inl ⟨_, _, rfl⟩), Result.andThen_ok, if_neg hlt', Sem.run_pure, conc, concs]
    · rename_i a1 a2 a3 hb
      obtain ⟨⟨a, ha, hoff, hsp, hg⟩, hin⟩ := hr.objs b _ hb
      have hg' : w.heap[a.block]? = some (.mapIter none a1 a2.toArray a3) := hg
      have hconc : conc σ (.ptr b 0) = .pointer (some ⟨a.block, 0, none⟩) := by simp [conc, ha, hoff]
      simp only [Option.some.injEq, Prod.mk.injEq] at hv
      obtain ⟨rfl, rfl⟩ := hv
      refine Res.val hr ⟨trivial, trivial⟩ ?_
      rw [hconc]
      unfold Instr.next
      simp only [Sem.run_bind, run_getObj_of hg' (.inr ⟨_, _, _, _, rfl⟩), Result.andThen_ok, Sem.run_pure, conc, concs]
    · rename_i m since seen last hb
      obtain ⟨⟨a, ha, hoff, hsp, hg⟩, hin⟩ := hr.objs b _ hb
      split at hv
      · rename_i es c hm
        obtain ⟨m', e', hmb⟩ := mapAt_spec hm
        cases e'
        obtain ⟨⟨am, ham, -, -, hgm⟩, hinm⟩ := hr.objs m _ hmb
        have hgm' : w.heap[am.block]? = some (.map (es.map (AEnt.conc σ)).toArray c) := hgm
        have hg' : w.heap[a.block]? = some (.mapIter (some am.block) since seen.toArray last) := by
          have := hg
          simp only [concO, Option.map_some, ham, Option.getD_some] at this
          exact this
        have hconc : conc σ (.ptr b 0) = .pointer (some ⟨a.block, 0, none⟩) := by simp [conc, ha, hoff]
        split at hv
        · rename_i hchk
          have hchk' : (!seen.toArray.isEmpty && !(es.map (AEnt.conc σ)).toArray.isEmpty && (es.map (AEnt.conc σ)).toArray.all (fun x => decide (x.born ≥ last))) = false := by
            rw [← hchk]
            congr 1
            · congr 1
              · cases seen <;> simp
              · cases es <;> simp
            · simp [AEnt.conc, Function.comp_def, List.all_eq, List.all_map]
          have hleft : (es.map (AEnt.conc σ)).toArray.filter (fun e => !seen.toArray.contains e.born) = ((leftE es seen).map (AEnt.conc σ)).toArray := by
            apply Array.ext'
            simp only [leftE, List.filter_toArray, List.filter_map]
            congr 1
            apply List.filter_congr
            intro x _
            by_cases hx : x.born ∈ seen <;> simp [hx, AEnt.conc]
          have hbody : (Instr.next (conc σ (.ptr b 0)) false ty).run P w = (do
              let left := ((leftE es seen).map (AEnt.conc σ)).toArray
              let old := left.filter (·.born < since)
              let new := left.filter (·.born ≥ since)
              let candidates := (if old.isEmpty then #[none] else #[]) ++ (old ++ new).map some
              match candidates[← choose (.mapNext candidates.size)]? with
              | some (some e) => do
                setObj a.block (.mapIter (some am.block) since (seen.toArray.push e.born) c)
                pure (.tuple #[.bool true, e.key, e.val])
              | some none => pure (.tuple #[.bool false])
              | none => stuck "Next: no such candidate" : Sem Value).run P w := by
            rw [hconc]
            unfold Instr.next
            simp only [Sem.run_bind, run_getObj_of hg' (.inr ⟨_, _, _, _, rfl⟩), Result.andThen_ok, MapKept.run_getObj_map hgm', hchk', Bool.false_eq_true, if_false, hleft]
            rfl
          split at hv
          · rename_i hl
            simp only [Option.some.injEq, Prod.mk.injEq] at hv
            obtain ⟨rfl, rfl⟩ := hv
            refine Res.val hr ⟨trivial, trivial⟩ ?_
            rw [hbody, hl]
            simp [choose, Sem.run, Question.forced, conc, concs]
          · rename_i e hl
            split at hv
            · rename_i hbs
              simp only [Option.some.injEq, Prod.mk.injEq] at hv
              obtain ⟨rfl, rfl⟩ := hv
              have hem : e ∈ es := by
                have : e ∈ leftE es seen := by rw [hl]; simp
                exact (List.mem_filter.1 this).1
              obtain ⟨hek, hev⟩ := hinm e hem
              obtain ⟨r, ha2, hg2, hst⟩ := step_seto hr hb (.mapIter (some m) since (seen ++ [e.born]) c) (fun b' hb' => by cases hb'; exact nf_of_used (by rw [hmb]; rfl))
              have hra : r = a.block := by rw [ha] at ha2; cases ha2; rfl
              subst hra
              refine ⟨σ, _, .inl ?_, hst, ⟨trivial, AV.inn_mono hst.keeps _ hek, AV.inn_mono hst.keeps _ hev, trivial⟩⟩
              rw [Sem.run_bind, hbody, hl]
              have hb1 : (AEnt.conc σ e).born = e.born := rfl
              have hf1 : Array.filter (fun x : MapEntry => decide (x.born < since)) (List.map (AEnt.conc σ) [e]).toArray = #[AEnt.conc σ e] := by simp [hb1, hbs]
              have hf2 : Array.filter (fun x : MapEntry => decide (x.born ≥ since)) (List.map (AEnt.conc σ) [e]).toArray = #[] := by simp [hb1]; omega
              simp only [hf1, hf2]
              have hch : (Question.mapNext 1).forced = true := by simp [Question.forced]
              simp [hch, run_setObj_of _ hg' (.inr ⟨_, _, _, _, rfl⟩), conc, concs, concO, ham, AEnt.conc]
            · cases hv
          · cases hv
        · cases hv
      · cases hv
    · cases hv
  · cases hv

noncomputable def aentry (h : Heap) (x : AV) : Option AV :=
  match x with
  | .ptr b 0 =>
    match hat h b with
    | .obj (.mapIter (some m) _ seen stepped) =>
      match mapAt h (.map m), seen.getLast? with
      | some (es, c), some stamp => if c = stepped then (match es.find? (fun e => e.born == stamp) with | some e => some (.tup [e.key, e.val]) | none => none) else none
      | _, _ => none
    | _ => none
  | _ => none

theorem aentry_sound {P : Program} {σ : Sg} {h : Heap} {w : World} (hr : Rel σ h w) {x v : AV} (hv : aentry h x = some v) :
    (Instr.entry (conc σ x)).run P w = .ok (conc σ v) w ∧ v.inn (nf h) := by
  unfold aentry at hv
  split at hv
  · rename_i b
    split at hv
    · rename_i m since seen stepped hb
      split at hv
      · rename_i es c stamp hm hl
        split at hv
        · rename_i hc
          split at hv
          · rename_i e hf
            simp only [Option.some.injEq] at hv; subst hv
            obtain ⟨m', e', hmb⟩ := mapAt_spec hm
            cases e'
            obtain ⟨⟨a, ha, hoff, hsp, hg⟩, hin⟩ := hr.objs b _ hb
            obtain ⟨⟨am, ham, -, -, hgm⟩, hinm⟩ := hr.objs m _ hmb
            have hgm' : w.heap[am.block]? = some (.map (es.map (AEnt.conc σ)).toArray c) := hgm
            have hg' : w.heap[a.block]? = some (.mapIter (some am.block) since seen.toArray stepped) := by
              have := hg
              simp only [concO, Option.map_some, ham, Option.getD_some] at this
              exact this
            have hem := List.mem_of_find?_eq_some hf
            obtain ⟨hek, hev⟩ := hinm e hem
            refine ⟨?_, ⟨hek, hev, trivial⟩⟩
            have hconc : conc σ (.ptr b 0) = .pointer (some ⟨a.block, 0, none⟩) := by simp [conc, ha, hoff]
            rw [hconc]
            unfold Instr.entry
            have hback : seen.toArray.back? = some stamp := by simpa using hl
            have hfind : (es.map (AEnt.conc σ)).toArray.find? (fun x => x.born == stamp) = some (AEnt.conc σ e) := by
              simp only [List.find?_toArray, List.find?_map]
              have : ((fun x : MapEntry => x.born == stamp) ∘ AEnt.conc σ) = fun e : AEnt => e.born == stamp := rfl
              rw [this, hf]; rfl
            simp only [Sem.run_bind, run_getObj_of hg' (.inr ⟨_, _, _, _, rfl⟩), Result.andThen_ok, hback, MapKept.run_getObj_map hgm']
            have hne : (c != stepped) = false := by simp [hc]
            simp only [hne, Bool.false_eq_true, if_false, hfind, Sem.run_pure, conc, concs, AEnt.conc]
          · cases hv
        · cases hv
      · cases hv
    · cases hv
  · cases hv

end Go.Ab
