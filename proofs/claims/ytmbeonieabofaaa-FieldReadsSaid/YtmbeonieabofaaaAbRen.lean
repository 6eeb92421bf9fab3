import Derived.Test.YtmbeonieabofaaaAbOp8
set_option linter.unusedSimpArgs false
set_option linter.unusedVariables false
namespace Go.Ab

mutual
def renV (ρ : Nat → Option Nat) : AV → Option AV
  | .raw v => some (.raw v)
  | .ptr b off => (ρ b).map fun b => .ptr b off
  | .slice b off len cap => (ρ b).map fun b => .slice b off len cap
  | .agg cs => (renL ρ cs).map .agg
  | .func f cap => (renL ρ cap).map (.func f)
  | .tup vs => (renL ρ vs).map .tup
def renL (ρ : Nat → Option Nat) : List AV → Option (List AV)
  | [] => some []
  | v :: r => match renV ρ v, renL ρ r with | some v, some r => some (v :: r) | _, _ => none
end

/-- Both ends name the same memory. -/
def Same (ρ : Nat → Option Nat) (σ σ' : Sg) : Prop := ∀ i j, ρ i = some j → σ' j = σ i

mutual
theorem renV_conc {ρ : Nat → Option Nat} {σ σ' : Sg} (h : Same ρ σ σ') : ∀ {v v' : AV}, renV ρ v = some v' → conc σ' v' = conc σ v
  | .raw _, _, hv => by simp only [renV, Option.some.injEq] at hv; subst hv; rfl
  | .ptr b off, _, hv => by
    simp only [renV, Option.map_eq_some_iff] at hv
    obtain ⟨j, hj, rfl⟩ := hv
    simp [conc, h b j hj]
  | .slice b off len cap, _, hv => by
    simp only [renV, Option.map_eq_some_iff] at hv
    obtain ⟨j, hj, rfl⟩ := hv
    simp [conc, h b j hj]
  | .agg cs, _, hv => by
    simp only [renV, Option.map_eq_some_iff] at hv
    obtain ⟨j, hj, rfl⟩ := hv
    simp [conc, renL_conc h hj]
  | .func f cs, _, hv => by
    simp only [renV, Option.map_eq_some_iff] at hv
    obtain ⟨j, hj, rfl⟩ := hv
    simp [conc, renL_conc h hj]
  | .tup cs, _, hv => by
    simp only [renV, Option.map_eq_some_iff] at hv
    obtain ⟨j, hj, rfl⟩ := hv
    simp [conc, renL_conc h hj]
theorem renL_conc {ρ : Nat → Option Nat} {σ σ' : Sg} (h : Same ρ σ σ') : ∀ {l l' : List AV}, renL ρ l = some l' → concs σ' l' = concs σ l
  | [], _, hl => by simp only [renL, Option.some.injEq] at hl; subst hl; rfl
  | v :: r, _, hl => by
    simp only [renL] at hl
    split at hl
    · rename_i v' r' hv hr
      simp only [Option.some.injEq] at hl; subst hl
      simp [concs, renV_conc h hv, renL_conc h hr]
    · cases hl
end

mutual
theorem renV_inn {ρ : Nat → Option Nat} {p q : Nat → Prop} (h : ∀ i j, ρ i = some j → p i → q j) : ∀ {v v' : AV}, renV ρ v = some v' → v.inn p → v'.inn q
  | .raw _, _, hv, _ => by simp only [renV, Option.some.injEq] at hv; subst hv; trivial
  | .ptr b off, _, hv, hp => by
    simp only [renV, Option.map_eq_some_iff] at hv
    obtain ⟨j, hj, rfl⟩ := hv
    exact h b j hj hp
  | .slice b off len cap, _, hv, hp => by
    simp only [renV, Option.map_eq_some_iff] at hv
    obtain ⟨j, hj, rfl⟩ := hv
    exact h b j hj hp
  | .agg cs, _, hv, hp => by
    simp only [renV, Option.map_eq_some_iff] at hv
    obtain ⟨j, hj, rfl⟩ := hv
    exact renL_inn h hj hp
  | .func f cs, _, hv, hp => by
    simp only [renV, Option.map_eq_some_iff] at hv
    obtain ⟨j, hj, rfl⟩ := hv
    exact renL_inn h hj hp
  | .tup cs, _, hv, hp => by
    simp only [renV, Option.map_eq_some_iff] at hv
    obtain ⟨j, hj, rfl⟩ := hv
    exact renL_inn h hj hp
theorem renL_inn {ρ : Nat → Option Nat} {p q : Nat → Prop} (h : ∀ i j, ρ i = some j → p i → q j) : ∀ {l l' : List AV}, renL ρ l = some l' → inns p l → inns q l'
  | [], _, hl, _ => by simp only [renL, Option.some.injEq] at hl; subst hl; trivial
  | v :: r, _, hl, hp => by
    simp only [renL] at hl
    split at hl
    · rename_i v' r' hv hr
      simp only [Option.some.injEq] at hl; subst hl
      exact ⟨renV_inn h hv hp.1, renL_inn h hr hp.2⟩
    · cases hl
end

theorem renV_one {ρ : Nat → Option Nat} {v v' : AV} (h : renV ρ v = some v') : v'.one = v.one ∧ v'.isRaw = v.isRaw := by
  cases v with
  | raw v => simp only [renV, Option.some.injEq] at h; subst h; exact ⟨rfl, rfl⟩
  | ptr b o => simp only [renV, Option.map_eq_some_iff] at h; obtain ⟨j, _, rfl⟩ := h; exact ⟨rfl, rfl⟩
  | slice b o l c => simp only [renV, Option.map_eq_some_iff] at h; obtain ⟨j, _, rfl⟩ := h; exact ⟨rfl, rfl⟩
  | agg cs => simp only [renV, Option.map_eq_some_iff] at h; obtain ⟨j, _, rfl⟩ := h; exact ⟨rfl, rfl⟩
  | func f cs => simp only [renV, Option.map_eq_some_iff] at h; obtain ⟨j, _, rfl⟩ := h; exact ⟨rfl, rfl⟩
  | tup cs => simp only [renV, Option.map_eq_some_iff] at h; obtain ⟨j, _, rfl⟩ := h; exact ⟨rfl, rfl⟩

theorem renL_get {ρ : Nat → Option Nat} : ∀ {l l' : List AV}, renL ρ l = some l' → l'.length = l.length ∧ ∀ (j : Nat) v', l'[j]? = some v' → ∃ v, l[j]? = some v ∧ renV ρ v = some v'
  | [], _, h => by simp only [renL, Option.some.injEq] at h; subst h; simp
  | v :: r, _, h => by
    simp only [renL] at h
    split at h
    · rename_i v' r' hv hr
      simp only [Option.some.injEq] at h; subst h
      obtain ⟨h1, h2⟩ := renL_get hr
      refine ⟨by simp [h1], fun j w hj => ?_⟩
      cases j with
      | zero => simp only [List.getElem?_cons_zero, Option.some.injEq] at hj; subst hj; exact ⟨v, rfl, hv⟩
      | succ j => simp only [List.getElem?_cons_succ] at hj ⊢; exact h2 j w hj
    · cases h

def renB (ρ : Nat → Option Nat) : HB → Option HB
  | .free => some .free
  | .gone => some .gone
  | .live b => if b.pl = true then some (.live b) else (renL ρ b.cells).map fun cs => .live { b with cells := cs }

/-- The same block under other numbers. -/
structure SameB (ρ : Nat → Option Nat) (b b' : Blk) : Prop where
  own : b'.own = b.own
  exact : b'.exact = b.exact
  pl : b'.pl = b.pl
  len : b'.cells.length = b.cells.length
  get : ∀ (j : Nat) v', b'.cells[j]? = some v' → ∃ v, b.cells[j]? = some v ∧ (renV ρ v = some v')

theorem renB_live {ρ : Nat → Option Nat} {x : HB} {b' : Blk} (h : renB ρ x = some (.live b')) (hpl : ∀ b, x = .live b → b.pl = true → ∀ v ∈ b.cells, v.isRaw = true) : ∃ b, x = .live b ∧ SameB ρ b b' := by
  cases x with
  | free => simp [renB] at h
  | gone => simp [renB] at h
  | live b =>
    refine ⟨b, rfl, ?_⟩
    simp only [renB] at h
    split at h
    · rename_i hp
      simp only [Option.some.injEq, HB.live.injEq] at h
      subst h
      refine ⟨rfl, rfl, rfl, rfl, fun j v' hv => ⟨v', hv, ?_⟩⟩
      have := hpl b rfl hp v' (List.mem_of_getElem? hv)
      cases v' with
      | raw v => rfl
      | _ => cases this
    · simp only [Option.map_eq_some_iff] at h
      obtain ⟨cs, hcs, hb⟩ := h
      simp only [HB.live.injEq] at hb
      subst hb
      obtain ⟨h1, h2⟩ := renL_get hcs
      exact ⟨rfl, rfl, rfl, h1, h2⟩

theorem renB_free {ρ : Nat → Option Nat} {x y : HB} (h : renB ρ x = some y) : (y = .free ↔ x = .free) ∧ (∀ b', y = .live b' → ∃ b, x = .live b) := by
  cases x with
  | free => simp only [renB, Option.some.injEq] at h; subst h; simp
  | gone => simp only [renB, Option.some.injEq] at h; subst h; simp
  | live b =>
    simp only [renB] at h
    split at h
    · simp only [Option.some.injEq] at h; subst h; simp
    · simp only [Option.map_eq_some_iff] at h; obtain ⟨cs, _, rfl⟩ := h; simp

theorem SameB.bok {ρ : Nat → Option Nat} {σ σ' : Sg} (hs : Same ρ σ σ') {b b' : Blk} (h : SameB ρ b b') {rb : RB} {w : World} (hb : BOK σ rb b w) : BOK σ' rb b' w := by
  unfold BOK at *
  cases ha : rb.addr with
  | none =>
    simp only [ha] at *
    exact ⟨List.eq_nil_of_length_eq_zero (by rw [h.len, hb.1]; rfl), hb.2⟩
  | some a =>
    simp only [ha] at *
    obtain ⟨h1, arr, ty, fr, hg, hc, ho⟩ := hb
    refine ⟨h1, arr, ty, fr, hg, fun j v' hv => ?_, fun hown => ho (by rw [← h.own]; exact hown)⟩
    obtain ⟨v, hv1, hv2⟩ := h.get j v' hv
    rw [hc j v hv1, renV_conc hs hv2]

def pos : List Nat → Nat → Option Nat
  | [], _ => none
  | x :: r, i => if x == i then some 0 else (pos r i).map (· + 1)

theorem pos_spec : ∀ {ids : List Nat} {i j : Nat}, pos ids i = some j → ids[j]? = some i
  | [], _, _, h => by cases h
  | x :: r, i, j, h => by
    simp only [pos] at h
    split at h
    · rename_i e
      simp only [Option.some.injEq] at h; subst h
      simp only [beq_iff_eq] at e; subst e; rfl
    · simp only [Option.map_eq_some_iff] at h
      obtain ⟨k, hk, rfl⟩ := h
      simpa using pos_spec hk

theorem pos_mem : ∀ {ids : List Nat} {i : Nat}, i ∈ ids → ∃ j, pos ids i = some j
  | x :: r, i, h => by
    simp only [pos]
    by_cases e : x = i
    · exact ⟨0, by simp [e]⟩
    · have : i ∈ r := by rcases List.mem_cons.1 h with h | h; exact absurd h.symm e; exact h
      obtain ⟨j, hj⟩ := pos_mem this
      exact ⟨j + 1, by simp [e, hj]⟩

def pick (ids0 : List Nat) (h : Heap) : List Nat → Option Heap
  | [] => some []
  | i :: r => match renB (pos ids0) (hat h i), pick ids0 h r with | some x, some xs => some (x :: xs) | _, _ => none

theorem pick_get {ids0 : List Nat} {h : Heap} : ∀ {ids : List Nat} {foot : Heap}, pick ids0 h ids = some foot → foot.length = ids.length ∧ ∀ (j i : Nat), ids[j]? = some i → renB (pos ids0) (hat h i) = some (hat foot j)
  | [], foot, hp => by simp only [pick, Option.some.injEq] at hp; subst hp; simp
  | i :: r, foot, hp => by
    simp only [pick] at hp
    split at hp
    · rename_i x xs hx hxs
      simp only [Option.some.injEq] at hp; subst hp
      obtain ⟨h1, h2⟩ := pick_get hxs
      refine ⟨by simp [h1], fun j i' hj => ?_⟩
      cases j with
      | zero => simp only [List.getElem?_cons_zero, Option.some.injEq] at hj; subst hj; simpa [hat] using hx
      | succ j =>
        simp only [List.getElem?_cons_succ] at hj
        have := h2 j i' hj
        simpa [hat] using this
    · cases hp

def selOf (ids : List Nat) (σ : Sg) : Sg := fun j => σ (ids.getD j 0)

theorem same_sel (ids : List Nat) (σ : Sg) : Same (pos ids) σ (selOf ids σ) := fun i j h => by
  have := pos_spec h
  simp [selOf, List.getD, this]

theorem pick_live {σ : Sg} {h : Heap} {w : World} (hr : Rel σ h w) {ids : List Nat} {foot : Heap} (hp : pick ids h ids = some foot) {j : Nat} {b' : Blk} (hb : hget foot j = some b') :
    ∃ i b, ids[j]? = some i ∧ hget h i = some b ∧ SameB (pos ids) b b' := by
  obtain ⟨hl, hg⟩ := pick_get hp
  have hj : j < ids.length := by rw [← hl]; exact hget_lt hb
  have h1 : ids[j]? = some ids[j] := List.getElem?_eq_getElem hj
  have h2 := hg j _ h1
  have h3 : hat foot j = .live b' := by
    unfold hget at hb
    split at hb
    · rename_i b hh; simp only [Option.some.injEq] at hb; subst hb; exact hh
    · cases hb
  rw [h3] at h2
  obtain ⟨b, hb1, hb2⟩ := renB_live h2 (fun b hb hpl => hr.plain ids[j] b (by unfold hget; rw [hb]) hpl)
  exact ⟨_, b, h1, by unfold hget; rw [hb1], hb2⟩

theorem pick_nf {h : Heap} {ids : List Nat} {foot : Heap} (hp : pick ids h ids = some foot) {i j : Nat} (hj : ids[j]? = some i) : nf foot j ↔ nf h i := by
  have h2 := (pick_get hp).2 j i hj
  exact not_congr (renB_free h2).1

/-- A part of the heap, under new numbers. -/
theorem rel_pick {σ : Sg} {h : Heap} {w : World} (hr : Rel σ h w) {ids : List Nat} (hnd : ids.Nodup) {foot : Heap} (hp : pick ids h ids = some foot) : Rel (selOf ids σ) foot w := by
  have hsel : ∀ {j i : Nat}, ids[j]? = some i → selOf ids σ j = σ i := fun {j i} hj => by simp [selOf, List.getD, hj]
  refine ⟨fun j b' hb => ?_, fun j b' hb => ?_, fun j b' hb hpl v' hv => ?_, fun j b' hb v' hv => ?_, fun j b' hb v' hv => ?_, fun j k bj bk a a' hj hk hne ho ha ha' => ?_⟩
  · obtain ⟨i, b, h1, h2, h3⟩ := pick_live hr hp hb
    rw [hsel h1]
    exact h3.bok (same_sel ids σ) (hr.live i b h2)
  · obtain ⟨i, b, h1, h2, h3⟩ := pick_live hr hp hb
    rw [hsel h1, h3.len, h3.exact]
    exact hr.len i b h2
  · obtain ⟨i, b, h1, h2, h3⟩ := pick_live hr hp hb
    obtain ⟨k, hk⟩ := List.mem_iff_getElem?.1 hv
    obtain ⟨v, q1, q2⟩ := h3.get k v' hk
    rw [(renV_one q2).2]
    exact hr.plain i b h2 (by rw [← h3.pl]; exact hpl) v (List.mem_of_getElem? q1)
  · obtain ⟨i, b, h1, h2, h3⟩ := pick_live hr hp hb
    obtain ⟨k, hk⟩ := List.mem_iff_getElem?.1 hv
    obtain ⟨v, q1, q2⟩ := h3.get k v' hk
    rw [(renV_one q2).1]
    exact hr.one i b h2 v (List.mem_of_getElem? q1)
  · obtain ⟨i, b, h1, h2, h3⟩ := pick_live hr hp hb
    obtain ⟨k, hk⟩ := List.mem_iff_getElem?.1 hv
    obtain ⟨v, q1, q2⟩ := h3.get k v' hk
    exact renV_inn (fun i j hij hn => (pick_nf hp (pos_spec hij)).2 hn) q2 (hr.ids i b h2 v (List.mem_of_getElem? q1))
  · obtain ⟨i, b, h1, h2, h3⟩ := pick_live hr hp hj
    obtain ⟨i', b', h1', h2', h3'⟩ := pick_live hr hp hk
    rw [hsel h1] at ha
    rw [hsel h1'] at ha'
    refine hr.inj i i' b b' a a' h2 h2' (fun e => hne ?_) (by rw [← h3.own]; exact ho) ha ha'
    subst e
    have hj' := (List.getElem?_eq_some_iff.1 h1)
    have hk' := (List.getElem?_eq_some_iff.1 h1')
    exact (List.getElem_inj hnd).1 (hj'.2.trans hk'.2.symm)

theorem own_pick {σ : Sg} {h : Heap} {w : World} (hr : Rel σ h w) {ids : List Nat} {foot : Heap} (hp : pick ids h ids = some foot) {r : Nat} (ho : OwnR (selOf ids σ) foot r) : OwnR σ h r := by
  obtain ⟨j, b', a, hb, hown, ha, hr'⟩ := ho
  obtain ⟨i, b, h1, h2, h3⟩ := pick_live hr hp hb
  rw [show selOf ids σ j = σ i by simp [selOf, List.getD, h1]] at ha
  exact ⟨i, b, a, h2, by rw [← h3.own]; exact hown, ha, hr'⟩

theorem any_pick {σ : Sg} {h : Heap} {w : World} (hr : Rel σ h w) {ids : List Nat} {foot : Heap} (hp : pick ids h ids = some foot) {r : Nat} (ho : AnyR (selOf ids σ) foot r) : AnyR σ h r := by
  obtain ⟨j, b', a, hb, ha, hr'⟩ := ho
  obtain ⟨i, b, h1, h2, h3⟩ := pick_live hr hp hb
  rw [show selOf ids σ j = σ i by simp [selOf, List.getD, h1]] at ha
  exact ⟨i, b, a, h2, ha, hr'⟩

end Go.Ab
