import Derived.Test.YtjjnjogmplbjoaaAbOp8
set_option linter.unusedSimpArgs false
set_option linter.unusedVariables false
namespace Go.Ab

mutual
def renV (ρ : Nat → Option Nat) : AV → Option AV
  | .raw v => some (.raw v)
  | .ptr b off => (ρ b).map fun b => .ptr b off
  | .slice b off len cap => (ρ b).map fun b => .slice b off len cap
  | .agg cs => (renL ρ cs).map .agg
  | .func f cap => (renL ρ cap).map (.func f)
  | .tup vs => (renL ρ vs).map .tup
  | .map b => (ρ b).map .map
  | .iface t v => (renV ρ v).map (.iface t)
def renL (ρ : Nat → Option Nat) : List AV → Option (List AV)
  | [] => some []
  | v :: r => match renV ρ v, renL ρ r with | some v, some r => some (v :: r) | _, _ => none
end

/-- Both ends name the same memory. -/
def Same (ρ : Nat → Option Nat) (σ σ' : Sg) : Prop := ∀ i j, ρ i = some j → σ' j = σ i

mutual
theorem renV_conc {ρ : Nat → Option Nat} {σ σ' : Sg} (h : Same ρ σ σ') : ∀ {v v' : AV}, renV ρ v = some v' → conc σ' v' = conc σ v
  | .raw _, _, hv => by simp only [renV, Option.some.injEq] at hv; subst hv; rfl
  | .ptr b off, _, hv => by
    simp only [renV, Option.map_eq_some_iff] at hv
    obtain ⟨j, hj, rfl⟩ := hv
    simp [conc, h b j hj]
  | .slice b off len cap, _, hv => by
    simp only [renV, Option.map_eq_some_iff] at hv
    obtain ⟨j, hj, rfl⟩ := hv
    simp [conc, h b j hj]
  | .agg cs, _, hv => by
    simp only [renV, Option.map_eq_some_iff] at hv
    obtain ⟨j, hj, rfl⟩ := hv
    simp [conc, renL_conc h hj]
  | .func f cs, _, hv => by
    simp only [renV, Option.map_eq_some_iff] at hv
    obtain ⟨j, hj, rfl⟩ := hv
    simp [conc, renL_conc h hj]
  | .tup cs, _, hv => by
    simp only [renV, Option.map_eq_some_iff] at hv
    obtain ⟨j, hj, rfl⟩ := hv
    simp [conc, renL_conc h hj]
  | .map b, _, hv => by
    simp only [renV, Option.map_eq_some_iff] at hv
    obtain ⟨j, hj, rfl⟩ := hv
    simp [conc, h b j hj]
  | .iface t v, _, hv => by
    simp only [renV, Option.map_eq_some_iff] at hv
    obtain ⟨j, hj, rfl⟩ := hv
    simp [conc, renV_conc h hj]
theorem renL_conc {ρ : Nat → Option Nat} {σ σ' : Sg} (h : Same ρ σ σ') : ∀ {l l' : List AV}, renL ρ l = some l' → concs σ' l' = concs σ l
  | [], _, hl => by simp only [renL, Option.some.injEq] at hl; subst hl; rfl
  | v :: r, _, hl => by
    simp only [renL] at hl
    split at hl
    · rename_i v' r' hv hr
      simp only [Option.some.injEq] at hl; subst hl
      simp [concs, renV_conc h hv, renL_conc h hr]
    · cases hl
end

mutual
theorem renV_inn {ρ : Nat → Option Nat} {p q : Nat → Prop} (h : ∀ i j, ρ i = some j → p i → q j) : ∀ {v v' : AV}, renV ρ v = some v' → v.inn p → v'.inn q
  | .raw _, _, hv, _ => by simp only [renV, Option.some.injEq] at hv; subst hv; trivial
  | .ptr b off, _, hv, hp => by
    simp only [renV, Option.map_eq_some_iff] at hv
    obtain ⟨j, hj, rfl⟩ := hv
    exact h b j hj hp
  | .slice b off len cap, _, hv, hp => by
    simp only [renV, Option.map_eq_some_iff] at hv
    obtain ⟨j, hj, rfl⟩ := hv
    exact h b j hj hp
  | .agg cs, _, hv, hp => by
    simp only [renV, Option.map_eq_some_iff] at hv
    obtain ⟨j, hj, rfl⟩ := hv
    exact renL_inn h hj hp
  | .func f cs, _, hv, hp => by
    simp only [renV, Option.map_eq_some_iff] at hv
    obtain ⟨j, hj, rfl⟩ := hv
    exact renL_inn h hj hp
  | .tup cs, _, hv, hp => by
    simp only [renV, Option.map_eq_some_iff] at hv
    obtain ⟨j, hj, rfl⟩ := hv
    exact renL_inn h hj hp
  | .map b, _, hv, hp => by
    simp only [renV, Option.map_eq_some_iff] at hv
    obtain ⟨j, hj, rfl⟩ := hv
    exact h b j hj hp
  | .iface t v, _, hv, hp => by
    simp only [renV, Option.map_eq_some_iff] at hv
    obtain ⟨j, hj, rfl⟩ := hv
    show j.inn q
    exact renV_inn (v := v) h hj hp
theorem renL_inn {ρ : Nat → Option Nat} {p q : Nat → Prop} (h : ∀ i j, ρ i = some j → p i → q j) : ∀ {l l' : List AV}, renL ρ l = some l' → inns p l → inns q l'
  | [], _, hl, _ => by simp only [renL, Option.some.injEq] at hl; subst hl; trivial
  | v :: r, _, hl, hp => by
    simp only [renL] at hl
    split at hl
    · rename_i v' r' hv hr
      simp only [Option.some.injEq] at hl; subst hl
      exact ⟨renV_inn h hv hp.1, renL_inn h hr hp.2⟩
    · cases hl
end

theorem renV_one {ρ : Nat → Option Nat} {v v' : AV} (h : renV ρ v = some v') : v'.one = v.one ∧ v'.isRaw = v.isRaw := by
  cases v with
  | raw v => simp only [renV, Option.some.injEq] at h; subst h; exact ⟨rfl, rfl⟩
  | ptr b o => simp only [renV, Option.map_eq_some_iff] at h; obtain ⟨j, _, rfl⟩ := h; exact ⟨rfl, rfl⟩
  | slice b o l c => simp only [renV, Option.map_eq_some_iff] at h; obtain ⟨j, _, rfl⟩ := h; exact ⟨rfl, rfl⟩
  | agg cs => simp only [renV, Option.map_eq_some_iff] at h; obtain ⟨j, _, rfl⟩ := h; exact ⟨rfl, rfl⟩
  | func f cs => simp only [renV, Option.map_eq_some_iff] at h; obtain ⟨j, _, rfl⟩ := h; exact ⟨rfl, rfl⟩
  | tup cs => simp only [renV, Option.map_eq_some_iff] at h; obtain ⟨j, _, rfl⟩ := h; exact ⟨rfl, rfl⟩
  | map b => simp only [renV, Option.map_eq_some_iff] at h; obtain ⟨j, _, rfl⟩ := h; exact ⟨rfl, rfl⟩
  | iface t v => simp only [renV, Option.map_eq_some_iff] at h; obtain ⟨j, _, rfl⟩ := h; exact ⟨rfl, rfl⟩

theorem renL_get {ρ : Nat → Option Nat} : ∀ {l l' : List AV}, renL ρ l = some l' → l'.length = l.length ∧ ∀ (j : Nat) v', l'[j]? = some v' → ∃ v, l[j]? = some v ∧ renV ρ v = some v'
  | [], _, h => by simp only [renL, Option.some.injEq] at h; subst h; simp
  | v :: r, _, h => by
    simp only [renL] at h
    split at h
    · rename_i v' r' hv hr
      simp only [Option.some.injEq] at h; subst h
      obtain ⟨h1, h2⟩ := renL_get hr
      refine ⟨by simp [h1], fun j w hj => ?_⟩
      cases j with
      | zero => simp only [List.getElem?_cons_zero, Option.some.injEq] at hj; subst hj; exact ⟨v, rfl, hv⟩
      | succ j => simp only [List.getElem?_cons_succ] at hj ⊢; exact h2 j w hj
    · cases h

def renEs (ρ : Nat → Option Nat) : List AEnt → Option (List AEnt)
  | [] => some []
  | e :: r => match renV ρ e.key, renV ρ e.val, renEs ρ r with | some k, some v, some r => some (⟨k, v, e.born⟩ :: r) | _, _, _ => none
def renO (ρ : Nat → Option Nat) : AObj → Option AObj
  | .mp es c => (renEs ρ es).map fun es => .mp es c
  | .strIter s p => some (.strIter s p)
  | .mapIter none a b c => some (.mapIter none a b c)
  | .mapIter (some m) a b c => (ρ m).map fun m => .mapIter (some m) a b c

theorem renEs_conc {ρ : Nat → Option Nat} {σ σ' : Sg} (h : Same ρ σ σ') : ∀ {l l' : List AEnt}, renEs ρ l = some l' → l'.map (AEnt.conc σ') = l.map (AEnt.conc σ)
  | [], _, hl => by simp only [renEs, Option.some.injEq] at hl; subst hl; rfl
  | e :: r, _, hl => by
    simp only [renEs] at hl
    split at hl
    · rename_i k' v' r' hk hv hr
      simp only [Option.some.injEq] at hl; subst hl
      simp only [List.map_cons, AEnt.conc, renV_conc h hv, renV_conc h hk]
      rw [show r'.map (AEnt.conc σ') = r.map (AEnt.conc σ) from renEs_conc h hr]
    · cases hl
theorem renO_conc {ρ : Nat → Option Nat} {σ σ' : Sg} (h : Same ρ σ σ') {o o' : AObj} (hv : renO ρ o = some o') : concO σ' o' = concO σ o := by
  unfold renO at hv
  split at hv
  · simp only [Option.map_eq_some_iff] at hv
    obtain ⟨es, hes, rfl⟩ := hv
    simp only [concO, renEs_conc h hes]
  · simp only [Option.some.injEq] at hv; subst hv; rfl
  · simp only [Option.some.injEq] at hv; subst hv; rfl
  · rename_i m _ _ _
    simp only [Option.map_eq_some_iff] at hv
    obtain ⟨j, hj, rfl⟩ := hv
    simp [concO, h m j hj]
theorem renEs_inn {ρ : Nat → Option Nat} {p q : Nat → Prop} (h : ∀ i j, ρ i = some j → p i → q j) : ∀ {l l' : List AEnt}, renEs ρ l = some l' → (∀ e ∈ l, e.key.inn p ∧ e.val.inn p) → ∀ e ∈ l', e.key.inn q ∧ e.val.inn q
  | [], _, hl, _ => by simp only [renEs, Option.some.injEq] at hl; subst hl; simp
  | e :: r, _, hl, hp => by
    simp only [renEs] at hl
    split at hl
    · rename_i k' v' r' hk hv hr
      simp only [Option.some.injEq] at hl; subst hl
      intro x hx
      rcases List.mem_cons.1 hx with rfl | hx
      · exact ⟨renV_inn h hk (hp e (.head _)).1, renV_inn h hv (hp e (.head _)).2⟩
      · exact renEs_inn h hr (fun y hy => hp y (.tail _ hy)) x hx
    · cases hl
theorem renO_inn {ρ : Nat → Option Nat} {p q : Nat → Prop} (h : ∀ i j, ρ i = some j → p i → q j) {o o' : AObj} (hv : renO ρ o = some o') (hp : o.inn p) : o'.inn q := by
  unfold renO at hv
  split at hv
  · simp only [Option.map_eq_some_iff] at hv
    obtain ⟨es, hes, rfl⟩ := hv
    exact renEs_inn h hes hp
  · simp only [Option.some.injEq] at hv; subst hv; trivial
  · simp only [Option.some.injEq] at hv; subst hv; intro b hb; cases hb
  · rename_i m _ _ _
    simp only [Option.map_eq_some_iff] at hv
    obtain ⟨j, hj, rfl⟩ := hv
    intro b hb
    cases hb
    exact h m j hj (hp m rfl)

def renB (ρ : Nat → Option Nat) : HB → Option HB
  | .free => some .free
  | .gone => some .gone
  | .live b => if b.pl = true then some (.live b) else (renL ρ b.cells).map fun cs => .live { b with cells := cs }
  | .obj o => (renO ρ o).map .obj
  | .rows rs => some (.rows rs)

/-- The same block under other numbers. -/
structure SameB (ρ : Nat → Option Nat) (b b' : Blk) : Prop where
  own : b'.own = b.own
  exact : b'.exact = b.exact
  pl : b'.pl = b.pl
  len : b'.cells.length = b.cells.length
  get : ∀ (j : Nat) v', b'.cells[j]? = some v' → ∃ v, b.cells[j]? = some v ∧ (renV ρ v = some v')

theorem renB_live {ρ : Nat → Option Nat} {x : HB} {b' : Blk} (h : renB ρ x = some (.live b')) (hpl : ∀ b, x = .live b → b.pl = true → ∀ v ∈ b.cells, v.isRaw = true) : ∃ b, x = .live b ∧ SameB ρ b b' := by
  cases x with
  | free => simp [renB] at h
  | gone => simp [renB] at h
  | obj o => simp [renB] at h
  | rows rs => simp [renB] at h
  | live b =>
    refine ⟨b, rfl, ?_⟩
    simp only [renB] at h
    split at h
    · rename_i hp
      simp only [Option.some.injEq, HB.live.injEq] at h
      subst h
      refine ⟨rfl, rfl, rfl, rfl, fun j v' hv => ⟨v', hv, ?_⟩⟩
      have := hpl b rfl hp v' (List.mem_of_getElem? hv)
      cases v' with
      | raw v => rfl
      | _ => cases this
    · simp only [Option.map_eq_some_iff] at h
      obtain ⟨cs, hcs, hb⟩ := h
      simp only [HB.live.injEq] at hb
      subst hb
      obtain ⟨h1, h2⟩ := renL_get hcs
      exact ⟨rfl, rfl, rfl, h1, h2⟩

theorem renB_obj {ρ : Nat → Option Nat} {x : HB} {o' : AObj} (h : renB ρ x = some (.obj o')) : ∃ o, x = .obj o ∧ renO ρ o = some o' := by
  cases x with
  | free => simp [renB] at h
  | gone => simp [renB] at h
  | rows rs => simp [renB] at h
  | live b => simp only [renB] at h; split at h <;> simp at h
  | obj o =>
    simp only [renB, Option.map_eq_some_iff] at h
    obtain ⟨o2, h2, h3⟩ := h
    cases h3
    exact ⟨o, rfl, h2⟩
theorem renB_rows {ρ : Nat → Option Nat} {x : HB} {rs : List KRow} (h : renB ρ x = some (.rows rs)) : x = .rows rs := by
  cases x with
  | free => simp [renB] at h
  | gone => simp [renB] at h
  | rows rs' => simp [renB] at h; rw [h]
  | live b => simp only [renB] at h; split at h <;> simp at h
  | obj o => simp [renB] at h

/-- The kind of a number stays. -/
theorem renB_kind {ρ : Nat → Option Nat} {x y : HB} (h : renB ρ x = some y) : (y = .free ↔ x = .free) ∧ y.used = x.used ∧ y.owns = x.owns := by
  cases x with
  | free => simp only [renB, Option.some.injEq] at h; subst h; simp
  | gone => simp only [renB, Option.some.injEq] at h; subst h; simp
  | rows rs => simp only [renB, Option.some.injEq] at h; subst h; simp
  | obj o => simp only [renB, Option.map_eq_some_iff] at h; obtain ⟨o2, _, rfl⟩ := h; simp [HB.used, HB.owns]
  | live b =>
    simp only [renB] at h
    split at h
    · simp only [Option.some.injEq] at h; subst h; simp
    · simp only [Option.map_eq_some_iff] at h; obtain ⟨cs, _, rfl⟩ := h; simp [HB.used, HB.owns]

theorem renB_free {ρ : Nat → Option Nat} {x y : HB} (h : renB ρ x = some y) : (y = .free ↔ x = .free) := (renB_kind h).1

theorem SameB.bok {ρ : Nat → Option Nat} {σ σ' : Sg} (hs : Same ρ σ σ') {b b' : Blk} (h : SameB ρ b b') {rb : RB} {w : World} (hb : BOK σ rb b w) : BOK σ' rb b' w := by
  unfold BOK at *
  cases ha : rb.addr with
  | none =>
    simp only [ha] at *
    exact ⟨List.eq_nil_of_length_eq_zero (by rw [h.len, hb.1]; rfl), hb.2⟩
  | some a =>
    simp only [ha] at *
    obtain ⟨h1, arr, ty, fr, hg, hc, ho⟩ := hb
    refine ⟨h1, arr, ty, fr, hg, fun j v' hv => ?_, fun hown => ho (by rw [← h.own]; exact hown)⟩
    obtain ⟨v, hv1, hv2⟩ := h.get j v' hv
    rw [hc j v hv1, renV_conc hs hv2]

theorem Says.ren {ρ : Nat → Option Nat} {σ σ' : Sg} (hs : Same ρ σ σ') {h h' : Heap} (hn : ∀ i j, ρ i = some j → nf h i → nf h' j) {rb : RB} {x y : HB} {w : World} (hx : Says σ h rb x w) (hr : renB ρ x = some y) : Says σ' h' rb y w := by
  refine ⟨fun b' hb => ?_, fun o' ho => ?_, fun rs hrs => ?_⟩
  · subst hb
    obtain ⟨b, rfl, h3⟩ := renB_live hr (fun b hb hpl => (hx.live b hb).2.2.2.1 hpl)
    obtain ⟨q1, q2, q3, q4, q5, q6⟩ := hx.live b rfl
    refine ⟨h3.bok hs q1, by rw [h3.len]; exact q2, by rw [h3.exact, h3.len]; exact q3, fun hpl v' hv => ?_, fun v' hv => ?_, fun v' hv => ?_⟩
    · obtain ⟨k, hk⟩ := List.mem_iff_getElem?.1 hv
      obtain ⟨v, g1, g2⟩ := h3.get k v' hk
      rw [(renV_one g2).2]
      exact q4 (by rw [← h3.pl]; exact hpl) v (List.mem_of_getElem? g1)
    · obtain ⟨k, hk⟩ := List.mem_iff_getElem?.1 hv
      obtain ⟨v, g1, g2⟩ := h3.get k v' hk
      rw [(renV_one g2).1]
      exact q5 v (List.mem_of_getElem? g1)
    · obtain ⟨k, hk⟩ := List.mem_iff_getElem?.1 hv
      obtain ⟨v, g1, g2⟩ := h3.get k v' hk
      exact renV_inn hn g2 (q6 v (List.mem_of_getElem? g1))
  · subst ho
    obtain ⟨o, rfl, h3⟩ := renB_obj hr
    obtain ⟨⟨a, g1, g2, g3, g4⟩, g5⟩ := hx.obj o rfl
    exact ⟨⟨a, g1, g2, g3, by rw [renO_conc hs h3]; exact g4⟩, renO_inn hn h3 g5⟩
  · subst hrs
    have := renB_rows hr
    subst this
    exact hx.rows rs rfl

def pos : List Nat → Nat → Option Nat
  | [], _ => none
  | x :: r, i => if x == i then some 0 else (pos r i).map (· + 1)

theorem pos_spec : ∀ {ids : List Nat} {i j : Nat}, pos ids i = some j → ids[j]? = some i
  | [], _, _, h => by cases h
  | x :: r, i, j, h => by
    simp only [pos] at h
    split at h
    · rename_i e
      simp only [Option.some.injEq] at h; subst h
      simp only [beq_iff_eq] at e; subst e; rfl
    · simp only [Option.map_eq_some_iff] at h
      obtain ⟨k, hk, rfl⟩ := h
      simpa using pos_spec hk

theorem pos_mem : ∀ {ids : List Nat} {i : Nat}, i ∈ ids → ∃ j, pos ids i = some j
  | x :: r, i, h => by
    simp only [pos]
    by_cases e : x = i
    · exact ⟨0, by simp [e]⟩
    · have : i ∈ r := by rcases List.mem_cons.1 h with h | h; exact absurd h.symm e; exact h
      obtain ⟨j, hj⟩ := pos_mem this
      exact ⟨j + 1, by simp [e, hj]⟩

noncomputable def pick (ids0 : List Nat) (h : Heap) : List Nat → Option Heap
  | [] => some []
  | i :: r => match renB (pos ids0) (hat h i), pick ids0 h r with | some x, some xs => some (x :: xs) | _, _ => none

theorem hat_nil (i : Nat) : hat [] i = .free := by rw [hat_eq]; simp
theorem hat_zero (x : HB) (r : Heap) : hat (x :: r) 0 = x := by rw [hat_eq]; simp
theorem hat_succ (x : HB) (r : Heap) (i : Nat) : hat (x :: r) (i + 1) = hat r i := by rw [hat_eq, hat_eq]; simp

theorem pick_get {ids0 : List Nat} {h : Heap} : ∀ {ids : List Nat} {foot : Heap}, pick ids0 h ids = some foot → foot.length = ids.length ∧ ∀ (j i : Nat), ids[j]? = some i → renB (pos ids0) (hat h i) = some (hat foot j)
  | [], foot, hp => by simp only [pick, Option.some.injEq] at hp; subst hp; simp
  | i :: r, foot, hp => by
    simp only [pick] at hp
    split at hp
    · rename_i x xs hx hxs
      simp only [Option.some.injEq] at hp; subst hp
      obtain ⟨h1, h2⟩ := pick_get hxs
      refine ⟨by simp [h1], fun j i' hj => ?_⟩
      cases j with
      | zero => simp only [List.getElem?_cons_zero, Option.some.injEq] at hj; subst hj; rw [hat_zero]; exact hx
      | succ j =>
        simp only [List.getElem?_cons_succ] at hj
        rw [hat_succ]
        exact h2 j i' hj
    · cases hp

def selOf (ids : List Nat) (σ : Sg) : Sg := fun j => σ (ids.getD j 0)

theorem same_sel (ids : List Nat) (σ : Sg) : Same (pos ids) σ (selOf ids σ) := fun i j h => by
  have := pos_spec h
  simp [selOf, List.getD, this]

theorem pick_at {h : Heap} {ids : List Nat} {foot : Heap} (hp : pick ids h ids = some foot) {j : Nat} (hj : hat foot j ≠ .free) : ∃ i, ids[j]? = some i ∧ renB (pos ids) (hat h i) = some (hat foot j) := by
  obtain ⟨hl, hg⟩ := pick_get hp
  have hjl : j < ids.length := by rw [← hl]; exact hat_lt hj
  have h1 : ids[j]? = some ids[j] := List.getElem?_eq_getElem hjl
  exact ⟨_, h1, hg j _ h1⟩

theorem pick_nf {h : Heap} {ids : List Nat} {foot : Heap} (hp : pick ids h ids = some foot) {i j : Nat} (hj : ids[j]? = some i) : nf foot j ↔ nf h i := by
  have h2 := (pick_get hp).2 j i hj
  exact not_congr (renB_free h2)

theorem used_nf {x : HB} (h : x.used = true) : x ≠ .free := fun e => by rw [e] at h; cases h

/-- A part of the heap, under new numbers. -/
theorem rel_pick {σ : Sg} {h : Heap} {w : World} (hr : Rel σ h w) {ids : List Nat} (hnd : ids.Nodup) {foot : Heap} (hp : pick ids h ids = some foot) : Rel (selOf ids σ) foot w := by
  have hsel : ∀ {j i : Nat}, ids[j]? = some i → selOf ids σ j = σ i := fun {j i} hj => by simp [selOf, List.getD, hj]
  refine Rel.of (fun j => ?_) (fun j rs hj r hm row hrow k a hk ha => ?_) (fun j k a a' hj hk hne ha ha' => ?_)
  · by_cases hf : hat foot j = .free
    · rw [hf]
      exact ⟨fun b hb => (by cases hb), fun o ho => (by cases ho), fun rs hrs => (by cases hrs)⟩
    · obtain ⟨i, h1, h2⟩ := pick_at hp hf
      rw [hsel h1]
      exact (hr.says i).ren (same_sel ids σ) (fun i j hij hn => (pick_nf hp (pos_spec hij)).2 hn) h2
  · obtain ⟨i, h1, h2⟩ := pick_at hp (j := j) (by rw [hj]; simp)
    obtain ⟨i', h1', h2'⟩ := pick_at hp (used_nf (HB.owns_used hk))
    rw [hj] at h2
    rw [hsel h1'] at ha
    exact hr.rinj i rs (renB_rows h2) r hm row hrow i' a (by rw [← (renB_kind h2').2.2]; exact hk) ha
  · obtain ⟨i, h1, h2⟩ := pick_at hp (used_nf (HB.owns_used hj))
    obtain ⟨i', h1', h2'⟩ := pick_at hp (used_nf hk)
    rw [hsel h1] at ha
    rw [hsel h1'] at ha'
    refine hr.inj i i' a a' (by rw [← (renB_kind h2).2.2]; exact hj) (by rw [← (renB_kind h2').2.1]; exact hk) (fun e => hne ?_) ha ha'
    subst e
    have hj' := (List.getElem?_eq_some_iff.1 h1)
    have hk' := (List.getElem?_eq_some_iff.1 h1')
    exact (List.getElem_inj hnd).1 (hj'.2.trans hk'.2.symm)

theorem own_pick {σ : Sg} {h : Heap} {w : World} (hr : Rel σ h w) {ids : List Nat} {foot : Heap} (hp : pick ids h ids = some foot) {r : Nat} (ho : OwnR (selOf ids σ) foot r) : OwnR σ h r := by
  obtain ⟨j, a, hown, ha, hr'⟩ := ho
  obtain ⟨i, h1, h2⟩ := pick_at hp (used_nf (HB.owns_used hown))
  rw [show selOf ids σ j = σ i by simp [selOf, List.getD, h1]] at ha
  exact ⟨i, a, by rw [← (renB_kind h2).2.2]; exact hown, ha, hr'⟩

theorem any_pick {σ : Sg} {h : Heap} {w : World} (hr : Rel σ h w) {ids : List Nat} {foot : Heap} (hp : pick ids h ids = some foot) {r : Nat} (ho : AnyR (selOf ids σ) foot r) : AnyR σ h r := by
  rcases ho with ⟨j, a, hu, ha, hr'⟩ | ⟨j, rs, hj, q⟩
  · obtain ⟨i, h1, h2⟩ := pick_at hp (used_nf hu)
    rw [show selOf ids σ j = σ i by simp [selOf, List.getD, h1]] at ha
    exact .inl ⟨i, a, by rw [← (renB_kind h2).2.1]; exact hu, ha, hr'⟩
  · obtain ⟨i, h1, h2⟩ := pick_at hp (j := j) (by rw [hj]; simp)
    rw [hj] at h2
    exact .inr ⟨i, rs, renB_rows h2, q⟩

end Go.Ab
