import Derived.Test.YtmbeonieabofaaaAbRegion
set_option linter.unusedSimpArgs false
set_option linter.unusedVariables false
namespace Go.Ab

def hide (E : List Nat) (h : Heap) : Heap := if E.isEmpty then h else (List.range h.length).map fun i => if E.contains i then .free else hat h i

theorem hat_hide (E : List Nat) (h : Heap) (i : Nat) : hat (hide E h) i = if E.contains i then .free else hat h i := by
  unfold hide
  split
  · rename_i he
    have : E = [] := by simpa using he
    subst this; simp
  · by_cases hi : i < h.length
    · simp [hat, List.getD, hi]
    · have h1 : h[i]? = none := List.getElem?_eq_none (by omega)
      have h2 : (List.range h.length)[i]? = none := List.getElem?_eq_none (by simp; omega)
      simp only [hat, List.getD, List.getElem?_map, h2, Option.map_none, Option.getD_none, h1]
      split <;> rfl

abbrev Trace := List (AV × Delta)

def drawRun (S : Sys) (rec : Rec) (F : List (Nat × Forced)) (Es : List (List Nat)) (ops : Array Oper) (base : Nat) : List Oper → Nat → T → Heap → Option (T × Heap × Trace × Obs)
  | [], _, t, h => some (t, h, [], [])
  | o :: rest, i, t, h =>
    match awanted ops t o with
    | some true =>
      match ostep S rec F 4 i (base + 4 * i) t (hide (Es.getD i []) h) o with
      | some (v, δ, obs) =>
        match drawRun S rec F Es ops base rest (i + 1) (put t o.dst v) (app h δ) with
        | some (t', h', R, obs') => some (t', h', (v, δ) :: R, obs ++ obs')
        | none => none
      | none => none
    | some false =>
      match drawRun S rec F Es ops base rest (i + 1) (put t o.dst (.raw undef)) h with
      | some (t', h', R, obs') => some (t', h', (.raw undef, []) :: R, obs')
      | none => none
    | none => none

def nothing : AV × Delta := (.raw undef, [])

def eff (l : List Oper) (R : Trace) (k : Nat) (st : T × Heap) : T × Heap := (put st.1 (l[k]?.bind (·.dst)) (R.getD k nothing).1, app st.2 (R.getD k nothing).2)

def stAt (l : List Oper) (R : Trace) (k : Nat) (st : T × Heap) : T × Heap := (List.range k).foldl (fun s j => eff l R j s) st

theorem stAt_cons (o : Oper) (l : List Oper) (r : AV × Delta) (R : Trace) (k : Nat) (st : T × Heap) : stAt (o :: l) (r :: R) (k + 1) st = stAt l R k (put st.1 o.dst r.1, app st.2 r.2) := by
  unfold stAt
  rw [List.range_succ_eq_map, List.foldl_cons, List.foldl_map]
  congr 1

theorem drawRun_spec {S : Sys} {rec : Rec} {F : List (Nat × Forced)} {Es : List (List Nat)} {ops : Array Oper} {base : Nat} : ∀ (l : List Oper) (i : Nat) (t : T) (h : Heap) (t' : T) (h' : Heap) (R : Trace) (obs : Obs),
    drawRun S rec F Es ops base l i t h = some (t', h', R, obs) → obs.all →
    R.length = l.length ∧ (t', h') = stAt l R l.length (t, h) ∧ ∀ (k : Nat) o, l[k]? = some o →
      (awanted ops (stAt l R k (t, h)).1 o = some true ∧ ∃ ob : Obs, ob.all ∧ ostep S rec F 4 (i + k) (base + 4 * (i + k)) (stAt l R k (t, h)).1 (hide (Es.getD (i + k) []) (stAt l R k (t, h)).2) o = some ((R.getD k nothing).1, (R.getD k nothing).2, ob)) ∨
      (awanted ops (stAt l R k (t, h)).1 o = some false ∧ R.getD k nothing = nothing)
  | [], i, t, h, t', h', R, obs, hv, ho => by
    simp only [drawRun, Option.some.injEq, Prod.mk.injEq] at hv
    obtain ⟨rfl, rfl, rfl, rfl⟩ := hv
    exact ⟨rfl, rfl, fun k o hk => by simp at hk⟩
  | o :: rest, i, t, h, t', h', R, obs, hv, ho => by
    simp only [drawRun] at hv
    split at hv
    · rename_i hw
      split at hv
      · rename_i v δ ob hstep
        split at hv
        · rename_i t2 h2 R2 ob2 hrest
          simp only [Option.some.injEq, Prod.mk.injEq] at hv
          obtain ⟨rfl, rfl, rfl, rfl⟩ := hv
          obtain ⟨ho1, ho2⟩ := Obs.all_append.1 ho
          obtain ⟨h1, h2, h3⟩ := drawRun_spec rest (i + 1) _ _ _ _ _ _ hrest ho2
          refine ⟨by simp [h1], by rw [List.length_cons, stAt_cons]; exact h2, fun k o' hk => ?_⟩
          cases k with
          | zero =>
            simp only [List.getElem?_cons_zero, Option.some.injEq] at hk; subst hk
            exact .inl ⟨hw, ob, ho1, hstep⟩
          | succ k =>
            simp only [List.getElem?_cons_succ] at hk
            have := h3 k o' hk
            rw [stAt_cons]
            rw [show i + (k + 1) = i + 1 + k by omega]
            simpa [List.getD] using this
        · cases hv
      · cases hv
    · rename_i hw
      split at hv
      · rename_i t2 h2 R2 ob2 hrest
        simp only [Option.some.injEq, Prod.mk.injEq] at hv
        obtain ⟨rfl, rfl, rfl, rfl⟩ := hv
        obtain ⟨h1, h2, h3⟩ := drawRun_spec rest (i + 1) _ _ _ _ _ _ hrest ho
        refine ⟨by simp [h1], by rw [List.length_cons, stAt_cons]; exact h2, fun k o' hk => ?_⟩
        cases k with
        | zero =>
          simp only [List.getElem?_cons_zero, Option.some.injEq] at hk; subst hk
          exact .inr ⟨hw, rfl⟩
        | succ k =>
          simp only [List.getElem?_cons_succ] at hk
          have := h3 k o' hk
          rw [stAt_cons]
          rw [show i + (k + 1) = i + 1 + k by omega]
          simp only [show app h [] = h from rfl]
          simpa [List.getD] using this
      · cases hv
    · cases hv

/-! ### what is asked of a region's text, and of what its operations touch -/
def staticOK (ops : Array Oper) : Bool :=
  ops.toList.zipIdx.all fun (o, j) =>
    o.after.toList.all (fun e => !bindsB e || decide (e.on < j)) &&
    (match o.op with | .select .. => false | _ => true) &&
    ops.toList.zipIdx.all fun (x, i) => !(decide (i < j)) || ordB (bef ops.toList []) i j || x.apart ops o

def dynOK (B : List Nat) (n base : Nat) (Es ws : List (List Nat)) : Bool :=
  (List.range n).all fun j =>
    (ws.getD j []).isEmpty ||
      (((ws.getD j []).all fun id => decide (id < base) || ((id - base) / 4 == j) || ordB B ((id - base) / 4) j) &&
       (List.range n).all fun i => i == j || ordB B i j || ordB B j i || ((ws.getD j []).all fun id => (Es.getD i []).contains id && !(ws.getD i []).contains id))

theorem staticOK_spec {ops : Array Oper} (h : staticOK ops = true) :
    (∀ (j : Nat) o, ops[j]? = some o → ∀ e ∈ o.after, bindsB e = true → e.on < j) ∧
    (∀ (i j : Nat) x o, ops[i]? = some x → ops[j]? = some o → i < j → ordB (bef ops.toList []) i j = true ∨ x.apart ops o = true) := by
  simp only [staticOK, List.all_eq_true] at h
  have hz : ∀ (j : Nat) o, ops[j]? = some o → (o, j) ∈ ops.toList.zipIdx := fun j o ho => by
    rw [List.mem_iff_getElem?]
    exact ⟨j, by rw [List.getElem?_zipIdx]; simp [ho]⟩
  refine ⟨fun j o ho e he hb => ?_, fun i j x o hx ho hij => ?_⟩
  · have := h _ (hz j o ho)
    simp only [Bool.and_eq_true, List.all_eq_true, Bool.or_eq_true, Bool.not_eq_true', decide_eq_true_eq] at this
    rcases this.1.1 e (by simpa using he) with q | q
    · rw [hb] at q; cases q
    · exact q
  · have := h _ (hz j o ho)
    simp only [Bool.and_eq_true, List.all_eq_true, Bool.or_eq_true, Bool.not_eq_true', decide_eq_false_iff_not] at this
    rcases this.2 _ (hz i x hx) with (q | q) | q
    · exact absurd hij q
    · exact .inl q
    · exact .inr q

theorem dynOK_spec {B : List Nat} {n base : Nat} {Es ws : List (List Nat)} (h : dynOK B n base Es ws = true) (hw : ∀ j, n ≤ j → ws.getD j [] = []) :
    (∀ (j id : Nat), id ∈ ws.getD j [] → id < base ∨ (id - base) / 4 = j ∨ ordB B ((id - base) / 4) j = true) ∧
    (∀ (i j id : Nat), i < n → i ≠ j → id ∈ ws.getD j [] → ordB B i j = true ∨ ordB B j i = true ∨ (id ∈ Es.getD i [] ∧ id ∉ ws.getD i [])) := by
  simp only [dynOK, List.all_eq_true, List.mem_range, Bool.or_eq_true, Bool.and_eq_true] at h
  have hj : ∀ j id, id ∈ ws.getD j [] → j < n := fun j id hid => by
    rcases Nat.lt_or_ge j n with h' | h'
    · exact h'
    · rw [hw j h'] at hid; cases hid
  refine ⟨fun j id hid => ?_, fun i j id hi hij hid => ?_⟩
  · rcases h j (hj j id hid) with q | ⟨q, -⟩
    · rw [List.isEmpty_iff.1 q] at hid; cases hid
    · rcases q id hid with (q | q) | q
      · exact .inl (by simpa using q)
      · exact .inr (.inl (by simpa using q))
      · exact .inr (.inr q)
  · rcases h j (hj j id hid) with q | ⟨-, q⟩
    · rw [List.isEmpty_iff.1 q] at hid; cases hid
    · rcases q i hi with ((q | q) | q) | q
      · exact absurd (by simpa using q) hij
      · exact .inl q
      · exact .inr (.inl q)
      · right; right
        have := q id hid
        simpa using this

end Go.Ab
