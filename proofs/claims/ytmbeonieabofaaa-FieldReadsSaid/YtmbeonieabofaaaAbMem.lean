import Derived.Test.YtmbeonieabofaaaAbCore
set_option linter.unusedSimpArgs false
set_option linter.unusedVariables false
namespace Go.Ab

theorem run_storeCells_fr (P : Program) (g o : Nat) (t : TypeId) (fr : Nat × Nat) : ∀ (vs : List Value) (i : Nat) (cur : Array Value) (w : World), w.heap[g]? = some (.cells cur t fr) → o + i + vs.length ≤ cur.size → (∀ v ∈ vs, v.oneCell' = true) →
    (∀ j, i ≤ j → j < i + vs.length → ¬ (fr.1 ≤ o + j ∧ o + j < fr.2)) →
    (storeCells ⟨g, o, none⟩ vs i).run P w = .ok () (w.setRow g (cur.toList.take (o + i) ++ vs ++ cur.toList.drop (o + i + vs.length)).toArray)
  | [], i, cur, w, hg, _, _, _ => by
    simp only [storeCells, List.append_nil, List.length_nil, Nat.add_zero, List.take_append_drop, Array.toArray_toList]
    rw [setRow_self w g cur t fr hg]
    rfl
  | v :: rest, i, cur, w, hg, hl, h1, hf => by
    have hi : o + i < cur.size := by simp at hl; omega
    have hadd : (⟨g, o, none⟩ : Addr).add i = ⟨g, o + i, none⟩ := by unfold Addr.add; split <;> simp_all
    have hcell : w.cell? ⟨g, o + i, none⟩ = some cur[o + i] := by simp [World.cell?, hg, hi]
    have hfro : w.frozen? ⟨g, o + i, none⟩ = false := by
      have := hf i (Nat.le_refl _) (by simp)
      obtain ⟨lo, hi'⟩ := fr
      simp only [World.frozen?, hg]
      simp only [Bool.and_eq_false_iff, decide_eq_false_iff_not]
      by_cases hh : lo ≤ o + i
      · exact .inr (fun h => this ⟨hh, h⟩)
      · exact .inl hh
    have hst : (store ((⟨g, o, none⟩ : Addr).add i) v).run P w = .ok () (w.setRow g (cur.setIfInBounds (o + i) v)) := by
      rw [hadd, run_store P w _ v _ (h1 v (by simp)), hcell]
      simp [hfro, setCell_eq_setRow w g (o + i) cur t fr v hg]
    have ih := run_storeCells_fr P g o t fr rest (i + 1) (cur.setIfInBounds (o + i) v) (w.setRow g (cur.setIfInBounds (o + i) v)) (setRow_heap w g cur _ t _ hg) (by simp at hl ⊢; omega) (fun x hx => h1 x (by simp [hx])) (fun j h1 h2 => hf j (by omega) (by simp; omega))
    simp only [storeCells, Sem.run_bind, hst, Result.andThen_ok, ih, setRow_setRow]
    congr 3
    have e := list_seg_step cur.toList (o + i) v rest (by simp at hl ⊢; omega)
    simpa [Array.toList_setIfInBounds, Nat.add_assoc] using e

def splice (cs : List AV) (off : Nat) (vs : List AV) : List AV := cs.take off ++ vs ++ cs.drop (off + vs.length)

theorem mem_splice {cs : List AV} {off : Nat} {vs : List AV} {v : AV} (h : v ∈ splice cs off vs) : v ∈ cs ∨ v ∈ vs := by
  unfold splice at h
  simp only [List.mem_append] at h
  rcases h with (h | h) | h
  · exact .inl (List.mem_of_mem_take h)
  · exact .inr h
  · exact .inl (List.mem_of_mem_drop h)

theorem seg_get {α : Type} (l vs : List α) (o : Nat) (ho : o ≤ l.length) (j : Nat) :
    (l.take o ++ vs ++ l.drop (o + vs.length))[j]? = if j < o then l[j]? else if j < o + vs.length then vs[j - o]? else l[j]? := by
  have e : (l.take o).length = o := by rw [List.length_take]; omega
  rw [List.append_assoc]
  by_cases h1 : j < o
  · rw [if_pos h1, List.getElem?_append_left (by omega), List.getElem?_take, if_pos h1]
  · rw [if_neg h1, List.getElem?_append_right (by omega), e]
    by_cases h2 : j < o + vs.length
    · rw [if_pos h2, List.getElem?_append_left (by omega)]
    · rw [if_neg h2, List.getElem?_append_right (by omega), List.getElem?_drop, show o + vs.length + (j - o - vs.length) = j by omega]

theorem splice_get {cs : List AV} {off : Nat} {vs : List AV} (ho : off ≤ cs.length) (j : Nat) :
    (splice cs off vs)[j]? = if j < off then cs[j]? else if j < off + vs.length then vs[j - off]? else cs[j]? := seg_get cs vs off ho j

/-- Cells of an own block are written (behind the end too, as far as the room goes). -/
theorem step_write {σ : Sg} {h : Heap} {w : World} (P : Program) (hr : Rel σ h w) {b : Nat} {blk : Blk} (hb : hget h b = some blk) (ho : blk.own = true) {a : Addr} (ha : (σ b).addr = some a)
    (off : Nat) (vs : List AV) (hoff : off ≤ blk.cells.length) (hfit : off + vs.length ≤ (σ b).size) (hone : ∀ v ∈ vs, v.one = true) (hid : ∀ v ∈ vs, v.inn (nf h))
    (pl ex : Bool) (hpl : pl = true → blk.pl = true ∧ ∀ v ∈ vs, v.isRaw = true) (hex : ex = true → blk.exact = true) :
    ∃ w', (storeCells ⟨a.block, a.off + off, none⟩ (concs σ vs)).run P w = .ok () w' ∧ Step σ h w σ (upd h b (.live ⟨splice blk.cells off vs, true, ex, pl⟩)) w' := by
  have hB := hr.live b blk hb
  have hlen := hr.len b blk hb
  unfold BOK at hB
  simp only [ha] at hB
  obtain ⟨hsp, arr, ty, fr, hg, hc, hown⟩ := hB
  obtain ⟨hsz, hfr⟩ := hown ho
  have hrun := run_storeCells_fr P a.block (a.off + off) ty fr (concs σ vs) 0 arr w hg (by simp [concs_eq]; omega)
    (fun v hv => by rw [concs_eq] at hv; obtain ⟨x, hx, rfl⟩ := List.mem_map.1 hv; exact AV.one_conc (hone x hx))
    (fun j _ hj => by have := hfr (off + j) (by simp [concs_eq] at hj; omega); rwa [← Nat.add_assoc] at this)
  have hk : ∀ i, nf h i → nf (upd h b (.live ⟨splice blk.cells off vs, true, ex, pl⟩)) i := fun i hi => nf_upd (by simp) hi
  have hsl : (splice blk.cells off vs).length ≤ (σ b).size ∧ ((splice blk.cells off vs).length = blk.cells.length ∨ (splice blk.cells off vs).length = off + vs.length) ∧ blk.cells.length ≤ (splice blk.cells off vs).length := by
    unfold splice; simp only [List.length_append, List.length_take, List.length_drop]
    have := hlen.1
    omega
  refine ⟨_, hrun, ⟨?_, ?_, ?_, ?_, ?_, ?_⟩, fun _ _ => rfl, hk, rfl, rfl, rfl, by simp, ?_, ?_, ?_⟩
  · intro i bi hi
    rw [hget_upd] at hi
    by_cases e : i = b
    · subst e
      simp only [if_true, Option.some.injEq] at hi
      subst hi
      unfold BOK
      simp only [ha]
      refine ⟨hsp, _, ty, fr, setRow_heap w a.block arr _ ty fr hg, fun j v hv => ?_, fun _ => ⟨?_, hfr⟩⟩
      · rw [splice_get hoff] at hv
        have hl1 : (concs σ vs).length = vs.length := by simp [concs_eq]
        rw [List.getElem?_toArray, Nat.add_zero, seg_get _ _ _ (by simp; omega), hl1]
        by_cases h1 : j < off
        · simp only [if_pos h1] at hv
          rw [if_pos (by omega)]
          simpa using hc j v hv
        · simp only [if_neg h1] at hv
          rw [if_neg (by omega)]
          by_cases h2 : j < off + vs.length
          · simp only [if_pos h2] at hv
            rw [if_pos (by omega), concs_eq, List.getElem?_map, show a.off + j - (a.off + off) = j - off by omega, hv]
            rfl
          · simp only [if_neg h2] at hv
            rw [if_neg (by omega)]
            simpa using hc j v hv
      · simp [concs_eq]; omega
    · simp only [if_neg e] at hi
      have := hr.live i bi hi
      cases hai : (σ i).addr with
      | none => unfold BOK at *; simp only [hai] at *; exact this
      | some ai =>
        have hne : a.block ≠ ai.block := hr.inj b i blk bi a ai hb hi (Ne.symm e) ho ha hai
        unfold BOK at *
        simp only [hai] at *
        obtain ⟨q1, arr', ty', fr', q2, q3⟩ := this
        exact ⟨q1, arr', ty', fr', by rw [setRow_other _ _ _ _ (Ne.symm hne)]; exact q2, q3⟩
  · intro i bi hi
    rw [hget_upd] at hi
    by_cases e : i = b
    · subst e
      simp only [if_true, Option.some.injEq] at hi
      subst hi
      exact ⟨hsl.1, fun he => by have := hlen.2 (hex he); rcases hsl with ⟨q1, q2, q3⟩; simp only at *; omega⟩
    · simp only [if_neg e] at hi; exact hr.len i bi hi
  · intro i bi hi
    rw [hget_upd] at hi
    by_cases e : i = b
    · simp only [if_pos e, Option.some.injEq] at hi
      subst hi
      intro hp v hv
      rcases mem_splice hv with hv | hv
      · exact hr.plain b blk hb (hpl hp).1 v hv
      · exact (hpl hp).2 v hv
    · simp only [if_neg e] at hi; exact hr.plain i bi hi
  · intro i bi hi
    rw [hget_upd] at hi
    by_cases e : i = b
    · simp only [if_pos e, Option.some.injEq] at hi
      subst hi
      intro v hv
      rcases mem_splice hv with hv | hv
      · exact hr.one b blk hb v hv
      · exact hone v hv
    · simp only [if_neg e] at hi; exact hr.one i bi hi
  · intro i bi hi v hv
    rw [hget_upd] at hi
    by_cases e : i = b
    · simp only [if_pos e, Option.some.injEq] at hi
      subst hi
      rcases mem_splice hv with hv | hv
      · exact AV.inn_mono hk v (hr.ids b blk hb v hv)
      · exact AV.inn_mono hk v (hid v hv)
    · simp only [if_neg e] at hi; exact AV.inn_mono hk v (hr.ids i bi hi v hv)
  · intro i j bi bj x y hi hj hij hoi hx hy
    rw [hget_upd] at hi hj
    by_cases e : i = b
    · have e' : j ≠ b := fun e' => hij (e.trans e'.symm)
      simp only [if_neg e'] at hj
      subst e
      exact hr.inj i j blk bj x y hb hj hij ho hx hy
    · simp only [if_neg e] at hi
      by_cases e' : j = b
      · subst e'; exact hr.inj i j bi blk x y hi hb hij hoi hx hy
      · simp only [if_neg e'] at hj; exact hr.inj i j bi bj x y hi hj hij hoi hx hy
  · intro r hr' hn
    rw [setRow_other]
    exact fun e => hn ⟨b, blk, a, hb, ho, ha, e.symm⟩
  · rintro r ⟨i, bi, x, hi, hoi, hx, rfl⟩
    rw [hget_upd] at hi
    by_cases e : i = b
    · subst e; exact .inl ⟨i, blk, x, hb, ho, hx, rfl⟩
    · simp only [if_neg e] at hi; exact .inl ⟨i, bi, x, hi, hoi, hx, rfl⟩
  · rintro r ⟨i, bi, x, hi, hx, rfl⟩
    rw [hget_upd] at hi
    by_cases e : i = b
    · subst e; exact .inl ⟨i, blk, x, hb, hx, rfl⟩
    · simp only [if_neg e] at hi; exact .inl ⟨i, bi, x, hi, hx, rfl⟩

/-- An own block goes on under a new number, from a place on; the old number is spent. -/
theorem step_move {σ : Sg} {h : Heap} {w : World} (hr : Rel σ h w) {b s : Nat} {blk : Blk} (hb : hget h b = some blk) (hs : ¬ nf h s) (o : Nat) (hoc : o ≤ blk.cells.length) (pl : Bool) (hpl : pl = true → blk.pl = true) :
    Step σ h w (fun i => if i = s then ⟨(σ b).addr.map fun a => ⟨a.block, a.off + o, none⟩, (σ b).size - o⟩ else σ i) (upd (upd h b .gone) s (.live ⟨blk.cells.drop o, blk.own, false, pl⟩)) w := by
  have hag : ∀ i, nf h i → (fun i => if i = s then (⟨(σ b).addr.map fun a => ⟨a.block, a.off + o, none⟩, (σ b).size - o⟩ : RB) else σ i) i = σ i := fun i hi => by
    have : i ≠ s := fun e => hs (e ▸ hi)
    simp [this]
  have hk : ∀ i, nf h i → nf (upd (upd h b .gone) s (.live ⟨blk.cells.drop o, blk.own, false, pl⟩)) i := fun i hi => nf_upd (by simp) (nf_upd (by simp) hi)
  have hget' : ∀ i, hget (upd (upd h b .gone) s (.live ⟨blk.cells.drop o, blk.own, false, pl⟩)) i = if i = s then some ⟨blk.cells.drop o, blk.own, false, pl⟩ else if i = b then none else hget h i := fun i => by
    rw [hget_upd, hget_upd]
  have hB := hr.live b blk hb
  refine ⟨⟨?_, ?_, ?_, ?_, ?_, ?_⟩, hag, hk, rfl, rfl, rfl, Nat.le_refl _, fun _ _ _ => rfl, ?_, ?_⟩
  · intro i bi hi
    rw [hget'] at hi
    by_cases e : i = s
    · simp only [if_pos e, Option.some.injEq] at hi ⊢
      subst hi
      have hB' := hB.congr (hr.ids b blk hb) hag
      unfold BOK at hB' ⊢
      cases ha : (σ b).addr with
      | none => simp only [ha, Option.map_none] at hB' ⊢; exact ⟨by simp [hB'.1], by omega⟩
      | some a =>
        simp only [ha, Option.map_some] at hB' ⊢
        obtain ⟨q1, arr, ty, fr, q2, q3, q4⟩ := hB'
        refine ⟨trivial, arr, ty, fr, q2, fun j v hv => ?_, fun ho => ?_⟩
        · rw [List.getElem?_drop] at hv
          have := q3 (o + j) v hv
          rwa [Nat.add_assoc]
        · obtain ⟨q5, q6⟩ := q4 ho
          refine ⟨by have := (hr.len b blk hb).1; omega, fun j hj => ?_⟩
          have := q6 (o + j) (by omega)
          rwa [Nat.add_assoc]
    · simp only [if_neg e] at hi ⊢
      by_cases e' : i = b
      · simp [e'] at hi
      · simp only [if_neg e'] at hi
        exact (hr.live i bi hi).congr (hr.ids i bi hi) hag
  · intro i bi hi
    rw [hget'] at hi
    by_cases e : i = s
    · simp only [if_pos e, Option.some.injEq] at hi ⊢
      subst hi
      exact ⟨by have := (hr.len b blk hb).1; simp; omega, fun h => by cases h⟩
    · simp only [if_neg e] at hi ⊢
      by_cases e' : i = b
      · simp [e'] at hi
      · simp only [if_neg e'] at hi; exact hr.len i bi hi
  · intro i bi hi
    rw [hget'] at hi
    by_cases e : i = s
    · simp only [if_pos e, Option.some.injEq] at hi
      subst hi
      exact fun hp v hv => hr.plain b blk hb (hpl hp) v (List.mem_of_mem_drop hv)
    · simp only [if_neg e] at hi
      by_cases e' : i = b
      · simp [e'] at hi
      · simp only [if_neg e'] at hi; exact hr.plain i bi hi
  · intro i bi hi
    rw [hget'] at hi
    by_cases e : i = s
    · simp only [if_pos e, Option.some.injEq] at hi
      subst hi
      exact fun v hv => hr.one b blk hb v (List.mem_of_mem_drop hv)
    · simp only [if_neg e] at hi
      by_cases e' : i = b
      · simp [e'] at hi
      · simp only [if_neg e'] at hi; exact hr.one i bi hi
  · intro i bi hi v hv
    rw [hget'] at hi
    by_cases e : i = s
    · simp only [if_pos e, Option.some.injEq] at hi
      subst hi
      exact AV.inn_mono hk v (hr.ids b blk hb v (List.mem_of_mem_drop hv))
    · simp only [if_neg e] at hi
      by_cases e' : i = b
      · simp [e'] at hi
      · simp only [if_neg e'] at hi; exact AV.inn_mono hk v (hr.ids i bi hi v hv)
  · intro i j bi bj x y hi hj hij hoi hx hy
    rw [hget'] at hi hj
    by_cases e : i = s
    · have e' : j ≠ s := fun e' => hij (e.trans e'.symm)
      simp only [if_pos e, Option.some.injEq] at hi hx
      simp only [if_neg e'] at hj hy
      subst hi
      by_cases e2 : j = b
      · simp [e2] at hj
      · simp only [if_neg e2] at hj
        cases hab : (σ b).addr with
        | none => simp [hab] at hx
        | some a =>
          simp only [hab, Option.map_some, Option.some.injEq] at hx
          subst hx
          exact hr.inj b j blk bj a y hb hj (Ne.symm e2) hoi hab hy
    · simp only [if_neg e] at hi hx
      by_cases e2 : i = b
      · simp [e2] at hi
      · simp only [if_neg e2] at hi
        by_cases e' : j = s
        · simp only [if_pos e', Option.some.injEq] at hj hy
          cases hab : (σ b).addr with
          | none => simp [hab] at hy
          | some a =>
            simp only [hab, Option.map_some, Option.some.injEq] at hy
            subst hy
            exact hr.inj i b bi blk x a hi hb e2 hoi hx hab
        · simp only [if_neg e'] at hj hy
          by_cases e3 : j = b
          · simp [e3] at hj
          · simp only [if_neg e3] at hj
            exact hr.inj i j bi bj x y hi hj hij hoi hx hy
  · rintro r ⟨i, bi, x, hi, hoi, hx, rfl⟩
    rw [hget'] at hi
    by_cases e : i = s
    · simp only [if_pos e, Option.some.injEq] at hi hx
      subst hi
      cases hab : (σ b).addr with
      | none => simp [hab] at hx
      | some a =>
        simp only [hab, Option.map_some, Option.some.injEq] at hx
        subst hx
        exact .inl ⟨b, blk, a, hb, hoi, hab, rfl⟩
    · simp only [if_neg e] at hi hx
      by_cases e2 : i = b
      · simp [e2] at hi
      · simp only [if_neg e2] at hi
        exact .inl ⟨i, bi, x, hi, hoi, hx, rfl⟩
  · rintro r ⟨i, bi, x, hi, hx, rfl⟩
    rw [hget'] at hi
    by_cases e : i = s
    · simp only [if_pos e, Option.some.injEq] at hi hx
      cases hab : (σ b).addr with
      | none => simp [hab] at hx
      | some a =>
        simp only [hab, Option.map_some, Option.some.injEq] at hx
        subst hx
        exact .inl ⟨b, blk, a, hb, hab, rfl⟩
    · simp only [if_neg e] at hi hx
      by_cases e2 : i = b
      · simp [e2] at hi
      · simp only [if_neg e2] at hi
        exact .inl ⟨i, bi, x, hi, hx, rfl⟩

/-- A block is no longer looked at. -/
theorem step_kill {σ : Sg} {h : Heap} {w : World} (hr : Rel σ h w) {b : Nat} (hb : nf h b) : Step σ h w σ (upd h b .gone) w := by
  have hk : ∀ i, nf h i → nf (upd h b .gone) i := fun i hi => nf_upd (by simp) hi
  have hg : ∀ {i bi}, hget (upd h b .gone) i = some bi → hget h i = some bi := fun {i bi} hi => by
    rw [hget_upd] at hi
    by_cases e : i = b
    · simp [e] at hi
    · simpa [e] using hi
  exact ⟨⟨fun i bi hi => hr.live i bi (hg hi), fun i bi hi => hr.len i bi (hg hi), fun i bi hi => hr.plain i bi (hg hi), fun i bi hi => hr.one i bi (hg hi),
      fun i bi hi v hv => AV.inn_mono hk v (hr.ids i bi (hg hi) v hv), fun i j bi bj x y hi hj => hr.inj i j bi bj x y (hg hi) (hg hj)⟩,
    fun _ _ => rfl, hk, rfl, rfl, rfl, Nat.le_refl _, fun _ _ _ => rfl, fun r ⟨i, bi, x, hi, hoi, hx, e⟩ => .inl ⟨i, bi, x, hg hi, hoi, hx, e⟩, fun r ⟨i, bi, x, hi, hx, e⟩ => .inl ⟨i, bi, x, hg hi, hx, e⟩⟩

/-- The cells of a block are read. -/
theorem run_cells {σ : Sg} {h : Heap} {w : World} (P : Program) (hr : Rel σ h w) {b : Nat} {blk : Blk} (hb : hget h b = some blk) (off : Nat) (vs : List AV) (hv : ∀ j v, vs[j]? = some v → blk.cells[off + j]? = some v)
    {a : Addr} (ha : (σ b).addr = some a) : (loadCells ⟨a.block, a.off + off, none⟩ vs.length).run P w = .ok (concs σ vs).toArray w := by
  have hB := hr.live b blk hb
  unfold BOK at hB
  simp only [ha] at hB
  obtain ⟨hsp, arr, ty, fr, hg, hc, -⟩ := hB
  have := run_loadCells_list (P := P) w ⟨a.block, a.off + off, none⟩ (concs σ vs) (fun j v hj => by
    rw [concs_eq, List.getElem?_map] at hj
    cases hvj : vs[j]? with
    | none => simp [hvj] at hj
    | some x =>
      simp only [hvj, Option.map_some, Option.some.injEq] at hj
      subst hj
      have h2 := hc (off + j) x (hv j x hvj)
      have hadd : (⟨a.block, a.off + off, none⟩ : Addr).add j = ⟨a.block, a.off + off + j, none⟩ := by unfold Addr.add; split <;> simp_all
      rw [hadd]
      simp only [World.cell?, hg]
      simpa [Nat.add_assoc] using h2)
  rwa [show (concs σ vs).length = vs.length by simp [concs_eq]] at this

theorem run_cell {σ : Sg} {h : Heap} {w : World} (P : Program) (hr : Rel σ h w) {b : Nat} {blk : Blk} (hb : hget h b = some blk) (off : Nat) (v : AV) (hv : blk.cells[off]? = some v) :
    ∃ a, (σ b).addr = some a ∧ w.cell? ⟨a.block, a.off + off, none⟩ = some (conc σ v) := by
  have hB := hr.live b blk hb
  unfold BOK at hB
  cases ha : (σ b).addr with
  | none => simp only [ha] at hB; rw [hB.1] at hv; simp at hv
  | some a =>
    simp only [ha] at hB
    obtain ⟨hsp, arr, ty, fr, hg, hc, -⟩ := hB
    exact ⟨a, rfl, by simp only [World.cell?, hg]; simpa using hc off v hv⟩

end Go.Ab
