import Derived.Test.YtjjnjogmplbjoaaAbOp
set_option linter.unusedSimpArgs false
set_option linter.unusedVariables false
namespace Go.Ab

abbrev Ans := AV × Delta

/-- What an operation comes to, run in the model. -/
def Res (P : Program) (r : Result Next) (σ : Sg) (h : Heap) (w : World) (v : AV) (δ : Delta) : Prop :=
  ∃ σ' w', (r = .ok (.value (conc σ' v)) w' ∨ (r = .ok .skip w' ∧ v = .raw undef)) ∧ Step σ h w σ' (app h δ) w' ∧ v.inn (nf (app h δ))

theorem Res.same {P : Program} {r : Result Next} {σ : Sg} {h : Heap} {w : World} {v : AV} (hr : Rel σ h w) (hv : v.inn (nf h)) (he : r = .ok (.value (conc σ v)) w) : Res P r σ h w v [] :=
  ⟨σ, w, .inl he, Step.refl hr, hv⟩

/-- An operation that only yields a value. -/
theorem Res.val {P : Program} {s : Sem Value} {σ : Sg} {h : Heap} {w : World} {v : AV} (hr : Rel σ h w) (hv : v.inn (nf h)) (he : s.run P w = .ok (conc σ v) w) :
    Res P ((do pure (Next.value (← s))).run P w) σ h w v [] :=
  Res.same hr hv (by simp [he])

/-- An operation that makes a block. -/
theorem Res.new {P : Program} {s : Sem Value} {σ : Sg} {h : Heap} {w : World} {n : Nat} (hr : Rel σ h w) (hs : ¬ nf h n) (cs : List AV) (ty : TypeId) (pl : Bool) (v : AV)
    (hpl : pl = true → allRaw cs = true) (hone : allOne cs = true) (hid : ∀ v ∈ cs, v.inn (nf h))
    (he : ∀ σ' : Sg, σ' n = ⟨some ⟨w.heap.size, 0, none⟩, cs.length⟩ → s.run P w = .ok (conc σ' v) (w.alloc (.cells (concs σ cs).toArray ty)))
    (hin : ∀ p : Nat → Prop, p n → v.inn p) :
    Res P ((do pure (Next.value (← s))).run P w) σ h w v [(n, .live ⟨cs, true, true, pl⟩)] := by
  have hst := step_new hr hs cs ty pl true (fun e => by simpa [allRaw] using hpl e) (by simpa [allOne] using hone) hid [] (fun _ => rfl) (0, 0) (.inr (Nat.le_refl _))
  simp only [List.append_nil, List.length_nil, Nat.add_zero] at hst
  rw [← concs_eq] at hst
  have hx := he (fun i => if i = n then (⟨some ⟨w.heap.size, 0, none⟩, cs.length⟩ : RB) else σ i) (if_pos rfl)
  refine ⟨_, _, .inl ?_, hst, hin _ ?_⟩
  · rw [Sem.run_bind, hx]
    rfl
  · show nf (upd h n _) n
    unfold nf; rw [hat_upd]; simp

theorem rawCells_concs (σ : Sg) (v : Value) : (concs σ (rawCells v)).toArray = v.cells := by
  simp [rawCells, concs_eq, Function.comp_def, conc]

theorem rawCells_raw (v : Value) : allRaw (rawCells v) = true := by
  simp [allRaw, rawCells, AV.isRaw]

/-! ### equality of arrays of numbers -/
def eqCells : List AV → List AV → Option Bool
  | [], [] => some true
  | .raw (.int k a) :: xs, .raw (.int k' b) :: ys => if k = k' then (eqCells xs ys).map fun r => (a == b) && r else none
  | _, _ => none

def isInt (P : Program) (t : TypeId) : Bool := match P.underlying t with | some (.int _) => true | _ => false
def isPtr (P : Program) (t : TypeId) : Bool := match P.underlying t with | some (.pointer _) => true | _ => false
def isMap (P : Program) (t : TypeId) : Bool := match P.underlying t with | some (.map _ _) => true | _ => false
def arrOf (P : Program) (t : TypeId) : Option (Nat × TypeId) := match P.underlying t with | some (.array n e) => some (n, e) | _ => none

theorem isInt_spec {P : Program} {t : TypeId} (h : isInt P t = true) : ∃ k, P.underlying t = some (.int k) := by
  unfold isInt at h; split at h
  · rename_i k hk; exact ⟨k, hk⟩
  · cases h
theorem isPtr_spec {P : Program} {t : TypeId} (h : isPtr P t = true) : ∃ e, P.underlying t = some (.pointer e) := by
  unfold isPtr at h; split at h
  · rename_i k hk; exact ⟨k, hk⟩
  · cases h
theorem isMap_spec {P : Program} {t : TypeId} (h : isMap P t = true) : ∃ k e, P.underlying t = some (.map k e) := by
  unfold isMap at h; split at h
  · rename_i k e hk; exact ⟨k, e, hk⟩
  · cases h
theorem arrOf_spec {P : Program} {t : TypeId} {n : Nat} {e : TypeId} (h : arrOf P t = some (n, e)) : P.underlying t = some (.array n e) := by
  unfold arrOf at h; split at h
  · rename_i k hk; simp only [Option.some.injEq, Prod.mk.injEq] at h; obtain ⟨rfl, rfl⟩ := h; assumption
  · cases h

def isEq : BinOp → Option Bool
  | .eql => some true
  | .neq => some false
  | _ => none
def eqv (op : BinOp) (b : Bool) : Option AV :=
  match op with
  | .eql => some (.raw (.bool b))
  | .neq => some (.raw (.bool (!b)))
  | _ => none

def arrEq (P : Program) (t : TypeId) (xs ys : List AV) : Option Bool :=
  match arrOf P t with
  | some (n, e) => if n = xs.length ∧ isInt P e = true ∧ tySize P e = some 1 ∧ P.eqGuardType P.depth t = false then eqCells xs ys else none
  | none => none

def abin (P : Program) (op : BinOp) (t : TypeId) (x y : AV) : Option AV :=
  match x, y with
  | .raw (.pointer none), .raw (.pointer none) => if isPtr P t = true then eqv op true else none
  | .raw (.map none), .raw (.map none) => if isMap P t = true then eqv op true else none
  | .map _, .raw (.map none) => if isMap P t = true then eqv op false else none
  | .raw a, .raw b => (pbin P op t a b).map .raw
  | .ptr _ _, .raw (.pointer none) => if isPtr P t = true then eqv op false else none
  | .agg xs, .agg ys => (arrEq P t xs ys).bind (eqv op)
  | _, _ => none

theorem run_equalIn_ptr {P : Program} {t e : TypeId} (hu : P.underlying t = some (.pointer e)) (a : Option Addr) (w : World) (d : Nat) : (Op.equalIn (d + 1) t (.pointer a) (.pointer none)).run P w = .ok a.isNone w := by
  cases a <;> simp [Op.equalIn, run_underlying hu]

theorem run_equalIn_map {P : Program} {t k e : TypeId} (hu : P.underlying t = some (.map k e)) (a : Option Nat) (w : World) (d : Nat) : (Op.equalIn (d + 1) t (.map a) (.map none)).run P w = .ok a.isNone w := by
  cases a <;> simp [Op.equalIn, run_underlying hu]

theorem run_part_int {P : Program} {e : TypeId} {k : IntKind} (hu : P.underlying e = some (.int k)) (cs : Array Value) (i : Nat) (v : Value) (hv : cs[i]? = some v) (w : World) : (part e cs i).run P w = .ok v w := by
  have : (isAgg e).run P w = .ok false w := run_isAgg (b := false) (by simp [tyAgg, hu]) w
  unfold part
  simp [this, hv]

theorem eqCells_len : ∀ {xs ys : List AV} {b : Bool}, eqCells xs ys = some b → xs.length = ys.length
  | [], [], _, _ => rfl
  | .raw (.int k a) :: xs, .raw (.int k' b) :: ys, _, h => by
    simp only [eqCells] at h
    split at h
    · cases hh : eqCells xs ys with
      | none => simp [hh] at h
      | some r => simp [eqCells_len hh]
    · cases h

theorem eqCells_cons {x y : AV} {xs ys : List AV} {b : Bool} (h : eqCells (x :: xs) (y :: ys) = some b) :
    ∃ k a c r, x = .raw (.int k a) ∧ y = .raw (.int k c) ∧ eqCells xs ys = some r ∧ b = ((a == c) && r) := by
  unfold eqCells at h
  split at h
  · rename_i h1 _; cases h1
  · rename_i k a xs' k' c ys' h1 h2
    injection h1 with h1 h1'
    injection h2 with h2 h2'
    subst h1; subst h1'; subst h2; subst h2'
    split at h
    · rename_i hk
      subst hk
      cases hh : eqCells xs ys with
      | none => simp [hh] at h
      | some r => simp [hh] at h; exact ⟨k, a, c, r, rfl, rfl, rfl, h.symm⟩
    · cases h
  · cases h

theorem run_eq_loop {P : Program} {e : TypeId} {k0 : IntKind} (hu : P.underlying e = some (.int k0)) (d : Nat) (σ : Sg) (w : World) (X Y : Array Value) : ∀ (xs ys : List AV) (b : Bool) (s : Nat), eqCells xs ys = some b →
    (∀ (j : Nat) v, xs[j]? = some v → X[s + j]? = some (conc σ v)) → (∀ (j : Nat) v, ys[j]? = some v → Y[s + j]? = some (conc σ v)) →
    Sem.run P (forIn (m := Sem) (List.range' s xs.length 1) ((none : Option Bool), ()) fun i r => do
        let u ← part e X (i * 1)
        let v ← part e Y (i * 1)
        let q ← Op.equalIn (d + 1) e u v
        if (!q) = true then pure (ForInStep.done (some false, ())) else pure (ForInStep.yield (none, ()))) w =
      .ok (if b = true then (none, ()) else (some false, ())) w
  | [], [], b, s, h, _, _ => by
    simp only [eqCells, Option.some.injEq] at h; subst h
    simp [List.range']
  | [], y :: ys, b, s, h, _, _ => by simp [eqCells] at h
  | x :: xs, [], b, s, h, _, _ => by cases x <;> (try rename_i v; cases v) <;> simp [eqCells] at h
  | x :: xs, y :: ys, b, s, h, hx, hy => by
    obtain ⟨k, a, c, r, rfl, rfl, hr, rfl⟩ := eqCells_cons h
    have h1 : (part e X (s * 1)).run P w = .ok (.int k a) w := run_part_int hu X (s * 1) _ (by simpa [conc] using hx 0 _ rfl) w
    have h2 : (part e Y (s * 1)).run P w = .ok (.int k c) w := run_part_int hu Y (s * 1) _ (by simpa [conc] using hy 0 _ rfl) w
    have h3 : (Op.equalIn (d + 1) e (.int k a) (.int k c)).run P w = .ok (a == c) w := run_equalIn_int w d e k k0 a c hu
    have ih := run_eq_loop hu d σ w X Y xs ys r (s + 1) hr (fun j v hv => by have := hx (j + 1) v (by simpa using hv); rwa [show s + (j + 1) = s + 1 + j by omega] at this)
      (fun j v hv => by have := hy (j + 1) v (by simpa using hv); rwa [show s + (j + 1) = s + 1 + j by omega] at this)
    simp only [List.length_cons, List.range'_succ, List.forIn_cons, Sem.run_bind, h1, h2, h3, Result.andThen_ok, Sem.run_ite]
    by_cases e1 : a = c
    · subst e1
      simp only [beq_self_eq_true, Bool.not_true, Bool.false_eq_true, if_false, Sem.run_pure, Result.andThen_ok, Bool.true_and]
      exact ih
    · have : (a == c) = false := by simpa using e1
      simp only [this, Bool.not_false, if_true, Sem.run_pure, Result.andThen_ok, Bool.false_and, Bool.false_eq_true, if_false]

theorem arrEq_sound {P : Program} {t : TypeId} {xs ys : List AV} {b : Bool} (h : arrEq P t xs ys = some b) (σ : Sg) (w : World) :
    (Op.equal t (.agg (concs σ xs).toArray) (.agg (concs σ ys).toArray)).run P w = .ok b w ∧ P.eqGuardType P.depth t = false := by
  unfold arrEq at h
  split at h
  · rename_i n e ha
    split at h
    · rename_i hc
      obtain ⟨h1, h2, h3, h4⟩ := hc
      obtain ⟨k0, hk⟩ := isInt_spec h2
      refine ⟨?_, h4⟩
      have key : ∀ d, (Op.equalIn (d + 2) t (.agg (concs σ xs).toArray) (.agg (concs σ ys).toArray)).run P w = .ok b w := fun d => by
        simp only [Op.equalIn, Sem.run_bind, run_underlying (arrOf_spec ha), Result.andThen_ok, run_sizeOf' h3]
        rw [Std.Legacy.Range.forIn_eq_forIn_range']
        have hl := run_eq_loop hk d σ w (concs σ xs).toArray (concs σ ys).toArray xs ys b 0 h (fun j v hv => by simp [concs_eq, hv]) (fun j v hv => by simp [concs_eq, hv])
        have hsz : ([:n].size) = xs.length := by simp [Std.Legacy.Range.size, h1]
        simp only [Op.equalIn] at hl
        rw [hsz]
        simp only [hl, Result.andThen_ok]
        cases b <;> simp
      exact key 9998
    · cases h
  · cases h

theorem abin_sound {P : Program} {op : BinOp} {t : TypeId} {x y v : AV} (h : abin P op t x y = some v) (σ : Sg) (w : World) (ox oy : Operand) :
    ((do eqGuard op t ox oy (conc σ x) (conc σ y); binOp op t (conc σ x) (conc σ y)) : Sem Value).run P w = .ok (conc σ v) w ∧ (∀ p : Nat → Prop, v.inn p) := by
  unfold abin at h
  split at h
  · split at h
    · rename_i hp
      obtain ⟨e, he⟩ := isPtr_spec hp
      have := run_equalIn_ptr he none w 9999
      cases op <;> simp only [eqv, Option.some.injEq] at h <;> first | (cases h; done) | skip
      all_goals
        subst h
        refine ⟨?_, fun _ => trivial⟩
        simp only [conc, Sem.run_bind, eqGuard_plain _ t ox oy (.pointer _) _ rfl, Result.andThen_ok, binOp]
        show Result.andThen ((Op.equalIn (9999 + 1) t _ _).run P w) _ = _
        rw [this]
        rfl
    · cases h
  · split at h
    · rename_i hp
      obtain ⟨k, e, he⟩ := isMap_spec hp
      have := run_equalIn_map he none w 9999
      cases op <;> simp only [eqv, Option.some.injEq] at h <;> first | (cases h; done) | skip
      all_goals
        subst h
        refine ⟨?_, fun _ => trivial⟩
        simp only [conc, Sem.run_bind, eqGuard_plain _ t ox oy (.map _) _ rfl, Result.andThen_ok, binOp]
        show Result.andThen ((Op.equalIn (9999 + 1) t _ _).run P w) _ = _
        rw [this]
        rfl
    · cases h
  · split at h
    · rename_i hp
      obtain ⟨k, e, he⟩ := isMap_spec hp
      cases op <;> simp only [eqv, Option.some.injEq] at h <;> first | (cases h; done) | skip
      all_goals
        subst h
        refine ⟨?_, fun _ => trivial⟩
        simp only [conc, Sem.run_bind, eqGuard_plain _ t ox oy (.map _) _ rfl, Result.andThen_ok, binOp]
        show Result.andThen ((Op.equalIn (9999 + 1) t _ _).run P w) _ = _
        rw [run_equalIn_map he _ w 9999]
        rfl
    · cases h
  · rename_i a b _ _
    cases hb : pbin P op t a b with
    | none => simp [hb] at h
    | some u =>
      simp only [hb, Option.map_some, Option.some.injEq] at h
      subst h
      refine ⟨?_, fun _ => trivial⟩
      simp only [conc, Sem.run_bind, eqGuard_plain op t ox oy a b (pbin_plain hb), Result.andThen_ok, pbin_sound hb]
  · split at h
    · rename_i hp
      obtain ⟨e, he⟩ := isPtr_spec hp
      cases op <;> simp only [eqv, Option.some.injEq] at h <;> first | (cases h; done) | skip
      all_goals
        subst h
        refine ⟨?_, fun _ => trivial⟩
        simp only [conc, Sem.run_bind, eqGuard_plain _ t ox oy (.pointer _) _ rfl, Result.andThen_ok, binOp]
        show Result.andThen ((Op.equalIn (9999 + 1) t _ _).run P w) _ = _
        rw [run_equalIn_ptr he _ w 9999]
        rfl
    · cases h
  · rename_i xs ys
    cases hb : arrEq P t xs ys with
    | none => simp [hb] at h
    | some b =>
      simp only [hb, Option.bind_some] at h
      obtain ⟨h1, h2⟩ := arrEq_sound hb σ w
      cases op <;> simp only [eqv, Option.some.injEq] at h <;> first | (cases h; done) | skip
      all_goals
        subst h
        refine ⟨?_, fun _ => trivial⟩
        simp only [conc, Sem.run_bind, run_eqGuard_agg _ _ _ _ _ _ _ h2, Result.andThen_ok, binOp, h1, Sem.run_pure]
  · cases h

end Go.Ab
