import Derived.Test.YtjjnjogmplbjoaaAbRegion
set_option linter.unusedSimpArgs false
set_option linter.unusedVariables false
namespace Go.Ab

noncomputable def hide (E : List Nat) (h : Heap) : Heap := if E.isEmpty then h else (List.range h.length).map fun i => if E.contains i then .free else hat h i

theorem hat_hide (E : List Nat) (h : Heap) (i : Nat) : hat (hide E h) i = if E.contains i then .free else hat h i := by
  unfold hide
  split
  · rename_i he
    have : E = [] := by simpa using he
    subst this; simp
  · rw [hat_eq]
    by_cases hi : i < h.length
    · simp [List.getD, hi]
    · have h1 : h[i]? = none := List.getElem?_eq_none (by omega)
      have h2 : (List.range h.length)[i]? = none := List.getElem?_eq_none (by simp; omega)
      simp only [List.getD, List.getElem?_map, h2, Option.map_none, Option.getD_none, hat_eq, h1]
      split <;> rfl

abbrev Trace := List (AV × Delta)

noncomputable def drawRun (S : Sys) (rec : Rec) (F : List (Nat × Forced)) (Es : List (List Nat)) (ops : Array Oper) (base : Nat) : List Oper → Nat → T → Heap → Option (T × Heap × Trace × Obs)
  | [], _, t, h => some (t, h, [], [])
  | o :: rest, i, t, h =>
    match awanted ops t o with
    | some true =>
      match ostep S rec F 4 i (base + 4 * i) t (hide (Es.getD i []) h) o with
      | some (v, δ, obs) =>
        match drawRun S rec F Es ops base rest (i + 1) (put t o.dst v) (app h δ) with
        | some (t', h', R, obs') => some (t', h', (v, δ) :: R, obs ++ obs')
        | none => none
      | none => none
    | some false =>
      match drawRun S rec F Es ops base rest (i + 1) (put t o.dst (.raw undef)) h with
      | some (t', h', R, obs') => some (t', h', (.raw undef, []) :: R, obs')
      | none => none
    | none => none

def nothing : AV × Delta := (.raw undef, [])

noncomputable def eff (l : List Oper) (R : Trace) (k : Nat) (st : T × Heap) : T × Heap := (put st.1 (l[k]?.bind (·.dst)) (R.getD k nothing).1, app st.2 (R.getD k nothing).2)

noncomputable def stAt (l : List Oper) (R : Trace) (k : Nat) (st : T × Heap) : T × Heap := (List.range k).foldl (fun s j => eff l R j s) st

theorem stAt_cons (o : Oper) (l : List Oper) (r : AV × Delta) (R : Trace) (k : Nat) (st : T × Heap) : stAt (o :: l) (r :: R) (k + 1) st = stAt l R k (put st.1 o.dst r.1, app st.2 r.2) := by
  unfold stAt
  rw [List.range_succ_eq_map, List.foldl_cons, List.foldl_map]
  congr 1

theorem drawRun_spec {S : Sys} {rec : Rec} {F : List (Nat × Forced)} {Es : List (List Nat)} {ops : Array Oper} {base : Nat} : ∀ (l : List Oper) (i : Nat) (t : T) (h : Heap) (t' : T) (h' : Heap) (R : Trace) (obs : Obs),
    drawRun S rec F Es ops base l i t h = some (t', h', R, obs) → obs.all →
    R.length = l.length ∧ (t', h') = stAt l R l.length (t, h) ∧ ∀ (k : Nat) o, l[k]? = some o →
      (awanted ops (stAt l R k (t, h)).1 o = some true ∧ ∃ ob : Obs, ob.all ∧ ostep S rec F 4 (i + k) (base + 4 * (i + k)) (stAt l R k (t, h)).1 (hide (Es.getD (i + k) []) (stAt l R k (t, h)).2) o = some ((R.getD k nothing).1, (R.getD k nothing).2, ob)) ∨
      (awanted ops (stAt l R k (t, h)).1 o = some false ∧ R.getD k nothing = nothing)
  | [], i, t, h, t', h', R, obs, hv, ho => by
    simp only [drawRun, Option.some.injEq, Prod.mk.injEq] at hv
    obtain ⟨rfl, rfl, rfl, rfl⟩ := hv
    exact ⟨rfl, rfl, fun k o hk => by simp at hk⟩
  | o :: rest, i, t, h, t', h', R, obs, hv, ho => by
    simp only [drawRun] at hv
    split at hv
    · rename_i hw
      split at hv
      · rename_i v δ ob hstep
        split at hv
        · rename_i t2 h2 R2 ob2 hrest
          simp only [Option.some.injEq, Prod.mk.injEq] at hv
          obtain ⟨rfl, rfl, rfl, rfl⟩ := hv
          obtain ⟨ho1, ho2⟩ := Obs.all_append.1 ho
          obtain ⟨h1, h2, h3⟩ := drawRun_spec rest (i + 1) _ _ _ _ _ _ hrest ho2
          refine ⟨by simp [h1], by rw [List.length_cons, stAt_cons]; exact h2, fun k o' hk => ?_⟩
          cases k with
          | zero =>
            simp only [List.getElem?_cons_zero, Option.some.injEq] at hk; subst hk
            exact .inl ⟨hw, ob, ho1, hstep⟩
          | succ k =>
            simp only [List.getElem?_cons_succ] at hk
            have := h3 k o' hk
            rw [stAt_cons]
            rw [show i + (k + 1) = i + 1 + k by omega]
            simpa [List.getD] using this
        · cases hv
      · cases hv
    · rename_i hw
      split at hv
      · rename_i t2 h2 R2 ob2 hrest
        simp only [Option.some.injEq, Prod.mk.injEq] at hv
        obtain ⟨rfl, rfl, rfl, rfl⟩ := hv
        obtain ⟨h1, h2, h3⟩ := drawRun_spec rest (i + 1) _ _ _ _ _ _ hrest ho
        refine ⟨by simp [h1], by rw [List.length_cons, stAt_cons]; exact h2, fun k o' hk => ?_⟩
        cases k with
        | zero =>
          simp only [List.getElem?_cons_zero, Option.some.injEq] at hk; subst hk
          exact .inr ⟨hw, rfl⟩
        | succ k =>
          simp only [List.getElem?_cons_succ] at hk
          have := h3 k o' hk
          rw [stAt_cons]
          rw [show i + (k + 1) = i + 1 + k by omega]
          simp only [show app h [] = h from rfl]
          simpa [List.getD] using this
      · cases hv
    · cases hv

/-! ### what is asked of a region's text, and of what its operations touch -/
def staticOK (ops : Array Oper) : Bool :=
  ops.toList.zipIdx.all fun (o, j) =>
    o.after.toList.all (fun e => !bindsB e || decide (e.on < j)) &&
    (match o.op with | .select .. => false | _ => true) &&
    ops.toList.zipIdx.all fun (x, i) => !(decide (i < j)) || ordB (bef ops.toList []) i j || x.apart ops o

noncomputable def allN (f : Nat → Bool) (n : Nat) : Bool := Nat.rec (motive := fun _ => Bool) true (fun k ih => match f k with | true => ih | false => false) n
theorem allN_iff (f : Nat → Bool) : ∀ n, allN f n = true ↔ ∀ k, k < n → f k = true
  | 0 => by show true = true ↔ _; simp
  | n + 1 => by
    have e : allN f (n + 1) = match f n with | true => allN f n | false => false := rfl
    rw [e]
    cases h : f n with
    | true =>
      simp only [allN_iff f n]
      exact ⟨fun h1 k hk => by rcases Nat.lt_succ_iff_lt_or_eq.1 hk with q | q; exact h1 k q; rw [q]; exact h, fun h1 k hk => h1 k (by omega)⟩
    | false =>
      simp only [Bool.false_eq_true, false_iff]
      intro h1
      have := h1 n (by omega)
      rw [h] at this; cases this
noncomputable def bitAt (B : List Nat) (i j : Nat) : Bool := Nat.testBit ((nth B j).getD 0) i
theorem bitAt_eq (B : List Nat) (i j : Nat) : bitAt B i j = ordB B i j := by unfold bitAt ordB; rw [nth_eq, List.getD_eq_getElem?_getD]
noncomputable def atL (ws : List (List Nat)) (j : Nat) : List Nat := (nth ws j).getD []
theorem atL_eq (ws : List (List Nat)) (j : Nat) : atL ws j = ws.getD j [] := by unfold atL; rw [nth_eq, List.getD_eq_getElem?_getD]

noncomputable def dynOK (B : List Nat) (n base : Nat) (Es ws : List (List Nat)) : Bool :=
  allN (fun j =>
    match atL ws j with
    | [] => true
    | w :: r =>
      ((w :: r).all fun id => decide (id < base) || ((id - base) / 4 == j) || bitAt B ((id - base) / 4) j) &&
       allN (fun i => i == j || bitAt B i j || bitAt B j i || ((w :: r).all fun id => (atL Es i).contains id && !(atL ws i).contains id)) n) n

theorem staticOK_spec {ops : Array Oper} (h : staticOK ops = true) :
    (∀ (j : Nat) o, ops[j]? = some o → ∀ e ∈ o.after, bindsB e = true → e.on < j) ∧
    (∀ (i j : Nat) x o, ops[i]? = some x → ops[j]? = some o → i < j → ordB (bef ops.toList []) i j = true ∨ x.apart ops o = true) := by
  simp only [staticOK, List.all_eq_true] at h
  have hz : ∀ (j : Nat) o, ops[j]? = some o → (o, j) ∈ ops.toList.zipIdx := fun j o ho => by
    rw [List.mem_iff_getElem?]
    exact ⟨j, by rw [List.getElem?_zipIdx]; simp [ho]⟩
  refine ⟨fun j o ho e he hb => ?_, fun i j x o hx ho hij => ?_⟩
  · have := h _ (hz j o ho)
    simp only [Bool.and_eq_true, List.all_eq_true, Bool.or_eq_true, Bool.not_eq_true', decide_eq_true_eq] at this
    rcases this.1.1 e (by simpa using he) with q | q
    · rw [hb] at q; cases q
    · exact q
  · have := h _ (hz j o ho)
    simp only [Bool.and_eq_true, List.all_eq_true, Bool.or_eq_true, Bool.not_eq_true', decide_eq_false_iff_not] at this
    rcases this.2 _ (hz i x hx) with (q | q) | q
    · exact absurd hij q
    · exact .inl q
    · exact .inr q

theorem dynOK_spec {B : List Nat} {n base : Nat} {Es ws : List (List Nat)} (h : dynOK B n base Es ws = true) (hw : ∀ j, n ≤ j → ws.getD j [] = []) :
    (∀ (j id : Nat), id ∈ ws.getD j [] → id < base ∨ (id - base) / 4 = j ∨ ordB B ((id - base) / 4) j = true) ∧
    (∀ (i j id : Nat), i < n → i ≠ j → id ∈ ws.getD j [] → ordB B i j = true ∨ ordB B j i = true ∨ (id ∈ Es.getD i [] ∧ id ∉ ws.getD i [])) := by
  unfold dynOK at h
  rw [allN_iff] at h
  have hj : ∀ j id, id ∈ ws.getD j [] → j < n := fun j id hid => by
    rcases Nat.lt_or_ge j n with h' | h'
    · exact h'
    · rw [hw j h'] at hid; cases hid
  have full : ∀ j id, id ∈ ws.getD j [] → ((ws.getD j []).all fun id => decide (id < base) || ((id - base) / 4 == j) || ordB B ((id - base) / 4) j) = true ∧
      ∀ i, i < n → (i == j || ordB B i j || ordB B j i || ((ws.getD j []).all fun id => (Es.getD i []).contains id && !(ws.getD i []).contains id)) = true := fun j id hid => by
    have := h j (hj j id hid)
    rw [atL_eq] at this
    cases hws : ws.getD j [] with
    | nil => rw [hws] at hid; cases hid
    | cons w r =>
      rw [hws] at this
      simp only [Bool.and_eq_true, allN_iff, bitAt_eq, atL_eq] at this
      exact this
  refine ⟨fun j id hid => ?_, fun i j id hi hij hid => ?_⟩
  · have := List.all_eq_true.1 (full j id hid).1 id hid
    simp only [Bool.or_eq_true, decide_eq_true_eq, beq_iff_eq] at this
    rcases this with (q | q) | q
    · exact .inl q
    · exact .inr (.inl q)
    · exact .inr (.inr q)
  · have := (full j id hid).2 i hi
    simp only [Bool.or_eq_true, beq_iff_eq] at this
    rcases this with ((q | q) | q) | q
    · exact absurd q hij
    · exact .inl q
    · exact .inr (.inl q)
    · right; right
      have := List.all_eq_true.1 q id hid
      simpa using this

end Go.Ab
