import Derived.WalkKit
import Derived.KernelRfl
namespace Go.Ab

/-- A value of the plain executor: 'raw' is the model's own value; a pointer or a slice names a block by its number in the executor's own heap. -/
inductive AV where
  | raw (v : Value)
  | ptr (b off : Nat)
  | slice (b off len : Nat) (cap : Option Nat)
  | agg (cs : List AV)
  | func (f : FuncId) (cap : List AV)
  | tup (vs : List AV)
  deriving Inhabited

structure RB where
  addr : Option Addr
  size : Nat
  deriving Inhabited

abbrev Sg := Nat → RB

mutual
def conc (σ : Sg) : AV → Value
  | .raw v => v
  | .ptr b off => .pointer (some ⟨((σ b).addr.getD default).block, ((σ b).addr.getD default).off + off, none⟩)
  | .slice b off len cap => .slice ((σ b).addr.map fun a => ⟨a.block, a.off + off, none⟩) len (cap.getD ((σ b).size - off))
  | .agg cs => .agg (concs σ cs).toArray
  | .func f cap => .func (.func f) #[] (concs σ cap).toArray
  | .tup vs => .tuple (concs σ vs).toArray
def concs (σ : Sg) : List AV → List Value
  | [] => []
  | v :: r => conc σ v :: concs σ r
end

theorem concs_eq (σ : Sg) (l : List AV) : concs σ l = l.map (conc σ) := by
  induction l with
  | nil => rfl
  | cons v r ih => simp [concs, ih]

mutual
def AV.inn (p : Nat → Prop) : AV → Prop
  | .raw _ => True
  | .ptr b _ => p b
  | .slice b _ _ _ => p b
  | .agg cs => inns p cs
  | .func _ cap => inns p cap
  | .tup vs => inns p vs
def inns (p : Nat → Prop) : List AV → Prop
  | [] => True
  | v :: r => v.inn p ∧ inns p r
end

theorem inns_iff (p : Nat → Prop) (l : List AV) : inns p l ↔ ∀ v ∈ l, v.inn p := by
  induction l with
  | nil => simp [inns]
  | cons v r ih => simp [inns, ih]

mutual
theorem AV.inn_mono {p q : Nat → Prop} (h : ∀ i, p i → q i) : ∀ v : AV, v.inn p → v.inn q
  | .raw _, _ => trivial
  | .ptr _ _, hv => h _ hv
  | .slice _ _ _ _, hv => h _ hv
  | .agg cs, hv => inns_mono h cs hv
  | .func _ cs, hv => inns_mono h cs hv
  | .tup cs, hv => inns_mono h cs hv
theorem inns_mono {p q : Nat → Prop} (h : ∀ i, p i → q i) : ∀ l : List AV, inns p l → inns q l
  | [], _ => trivial
  | v :: r, ⟨a, b⟩ => ⟨AV.inn_mono h v a, inns_mono h r b⟩
end

mutual
theorem conc_congr {p : Nat → Prop} {σ σ' : Sg} (h : ∀ i, p i → σ' i = σ i) : ∀ v : AV, v.inn p → conc σ' v = conc σ v
  | .raw _, _ => rfl
  | .ptr b _, hv => by simp [conc, h b hv]
  | .slice b _ _ _, hv => by simp [conc, h b hv]
  | .agg cs, hv => by simp [conc, concs_congr h cs hv]
  | .func _ cs, hv => by simp [conc, concs_congr h cs hv]
  | .tup cs, hv => by simp [conc, concs_congr h cs hv]
theorem concs_congr {p : Nat → Prop} {σ σ' : Sg} (h : ∀ i, p i → σ' i = σ i) : ∀ l : List AV, inns p l → concs σ' l = concs σ l
  | [], _ => rfl
  | v :: r, ⟨a, b⟩ => by simp [concs, conc_congr h v a, concs_congr h r b]
end

/-- The value of one cell. -/
def AV.one : AV → Bool
  | .raw v => v.oneCell'
  | .agg _ | .tup _ => false
  | _ => true
def AV.isRaw : AV → Bool
  | .raw _ => true
  | _ => false

theorem AV.one_conc {σ : Sg} : ∀ {v : AV}, v.one = true → (conc σ v).oneCell' = true
  | .raw _, h => h
  | .ptr _ _, _ => rfl
  | .slice _ _ _ _, _ => rfl
  | .func _ _, _ => rfl

theorem AV.isRaw_inn {p : Nat → Prop} : ∀ {v : AV}, v.isRaw = true → v.inn p
  | .raw _, _ => trivial

structure Blk where
  cells : List AV
  own : Bool
  exact : Bool
  pl : Bool
  deriving Inhabited

inductive HB where
  | free
  | gone
  | live (b : Blk)
  deriving Inhabited

abbrev Heap := List HB

def hat (h : Heap) (i : Nat) : HB := h.getD i .free
def hget (h : Heap) (i : Nat) : Option Blk := match hat h i with | .live b => some b | _ => none
def nf (h : Heap) (i : Nat) : Prop := hat h i ≠ .free

def upd (h : Heap) (i : Nat) (x : HB) : Heap := if i < h.length then h.set i x else h ++ List.replicate (i - h.length) .free ++ [x]

theorem hat_upd (h : Heap) (i j : Nat) (x : HB) : hat (upd h i x) j = if j = i then x else hat h j := by
  unfold hat upd
  split
  · rename_i hlt
    simp only [List.getD, List.getElem?_set]
    by_cases e : i = j
    · subst e; simp [hlt]
    · simp [e, Ne.symm e]
  · rename_i hge
    by_cases e : j = i
    · subst e
      have : h.length + (j - h.length) = j := by omega
      simp [List.getD, List.getElem?_append, hge]
    · simp only [if_neg e, List.getD]
      by_cases hj : j < h.length
      · simp [List.getElem?_append, hj]
      · by_cases hji : j < i
        · have : j - h.length < i - h.length := by omega
          have h2 : j < h.length + (i - h.length) := by omega
          simp [List.getElem?_append, hj, this]
        · have h2 : ¬ j - h.length < i - h.length := by omega
          have h3 : j - h.length - (i - h.length) ≠ 0 := by omega
          have h4 : h[j]? = none := List.getElem?_eq_none (by omega)
          simp [List.getElem?_append, h2, hj, h3]

abbrev Delta := List (Nat × HB)
def app (h : Heap) (δ : Delta) : Heap := δ.foldl (fun h p => upd h p.1 p.2) h

theorem hget_upd (h : Heap) (i j : Nat) (x : HB) : hget (upd h i x) j = if j = i then (match x with | .live b => some b | _ => none) else hget h j := by
  unfold hget; rw [hat_upd]; by_cases e : j = i
  · simp only [if_pos e]
  · simp only [if_neg e]

theorem nf_upd {h : Heap} {i : Nat} {x : HB} (hx : x ≠ .free) {j : Nat} (hj : nf h j) : nf (upd h i x) j := by
  unfold nf at *; rw [hat_upd]; split <;> simp_all

theorem nf_of_hget {h : Heap} {i : Nat} {b : Blk} (hb : hget h i = some b) : nf h i := by
  unfold hget at hb; unfold nf; intro e; rw [e] at hb; cases hb

/-- What a block of the executor's heap is in memory. -/
def BOK (σ : Sg) (rb : RB) (b : Blk) (w : World) : Prop :=
  match rb.addr with
  | none => b.cells = [] ∧ rb.size = 0
  | some a => a.spot = none ∧ ∃ arr ty fr, w.heap[a.block]? = some (.cells arr ty fr) ∧ (∀ (j : Nat) (v : AV), b.cells[j]? = some v → arr[a.off + j]? = some (conc σ v)) ∧
      (b.own = true → a.off + rb.size ≤ arr.size ∧ ∀ j, j < rb.size → ¬ (fr.1 ≤ a.off + j ∧ a.off + j < fr.2))

structure Rel (σ : Sg) (h : Heap) (w : World) : Prop where
  live : ∀ i b, hget h i = some b → BOK σ (σ i) b w
  len : ∀ i b, hget h i = some b → b.cells.length ≤ (σ i).size ∧ (b.exact = true → (σ i).size = b.cells.length)
  plain : ∀ i b, hget h i = some b → b.pl = true → ∀ v ∈ b.cells, v.isRaw = true
  one : ∀ i b, hget h i = some b → ∀ v ∈ b.cells, v.one = true
  ids : ∀ i b, hget h i = some b → ∀ v ∈ b.cells, v.inn (nf h)
  inj : ∀ i j bi bj a a', hget h i = some bi → hget h j = some bj → i ≠ j → bi.own = true → (σ i).addr = some a → (σ j).addr = some a' → a.block ≠ a'.block

def OwnR (σ : Sg) (h : Heap) (r : Nat) : Prop := ∃ i b a, hget h i = some b ∧ b.own = true ∧ (σ i).addr = some a ∧ a.block = r

def AnyR (σ : Sg) (h : Heap) (r : Nat) : Prop := ∃ i b a, hget h i = some b ∧ (σ i).addr = some a ∧ a.block = r

/-- One step from (σ, h, w) to (σ', h', w'). -/
structure Step (σ : Sg) (h : Heap) (w : World) (σ' : Sg) (h' : Heap) (w' : World) : Prop where
  rel : Rel σ' h' w'
  agree : ∀ i, nf h i → σ' i = σ i
  keeps : ∀ i, nf h i → nf h' i
  os : w'.os = w.os
  tape : w'.tape = w.tape
  output : w'.output = w.output
  size : w.heap.size ≤ w'.heap.size
  frame : ∀ r, r < w.heap.size → ¬ OwnR σ h r → w'.heap[r]? = w.heap[r]?
  owns : ∀ r, OwnR σ' h' r → OwnR σ h r ∨ w.heap.size ≤ r
  alls : ∀ r, AnyR σ' h' r → AnyR σ h r ∨ w.heap.size ≤ r

theorem Step.refl {σ : Sg} {h : Heap} {w : World} (hr : Rel σ h w) : Step σ h w σ h w :=
  ⟨hr, fun _ _ => rfl, fun _ h => h, rfl, rfl, rfl, Nat.le_refl _, fun _ _ _ => rfl, fun _ h => .inl h, fun _ h => .inl h⟩

theorem Step.trans {σ σ1 σ2 : Sg} {h h1 h2 : Heap} {w w1 w2 : World} (a : Step σ h w σ1 h1 w1) (b : Step σ1 h1 w1 σ2 h2 w2) : Step σ h w σ2 h2 w2 where
  rel := b.rel
  agree i hi := (b.agree i (a.keeps i hi)).trans (a.agree i hi)
  keeps i hi := b.keeps i (a.keeps i hi)
  os := b.os.trans a.os
  tape := b.tape.trans a.tape
  output := b.output.trans a.output
  size := Nat.le_trans a.size b.size
  frame r hr hn := by
    rw [b.frame r (Nat.lt_of_lt_of_le hr a.size), a.frame r hr hn]
    intro ho
    rcases a.owns r ho with h | h
    · exact hn h
    · omega
  owns r hr := by
    rcases b.owns r hr with h | h
    · exact a.owns r h
    · have := a.size; exact .inr (by omega)
  alls r hr := by
    rcases b.alls r hr with h | h
    · exact a.alls r h
    · have := a.size; exact .inr (by omega)

/-- The world has only drawn. -/
theorem Rel.drew {σ : Sg} {h : Heap} {w : World} (hr : Rel σ h w) (n : Nat) : Rel σ h { w with drawn := n } :=
  ⟨hr.live, hr.len, hr.plain, hr.one, hr.ids, hr.inj⟩

theorem Step.drew {σ : Sg} {h : Heap} {w : World} (hr : Rel σ h w) (n : Nat) : Step σ h w σ h { w with drawn := n } :=
  ⟨hr.drew n, fun _ _ => rfl, fun _ h => h, rfl, rfl, rfl, Nat.le_refl _, fun _ _ _ => rfl, fun _ h => .inl h, fun _ h => .inl h⟩

theorem BOK.blk_lt {σ : Sg} {rb : RB} {b : Blk} {w : World} {a : Addr} (h : BOK σ rb b w) (ha : rb.addr = some a) : a.block < w.heap.size := by
  unfold BOK at h
  rw [ha] at h
  obtain ⟨_, arr, ty, fr, hg, _⟩ := h
  rcases Nat.lt_or_ge a.block w.heap.size with h' | h'
  · exact h'
  · simp [Array.getElem?_eq_none h'] at hg

theorem heap_lt (w : World) (o : Obj) (i : Nat) (h : i < w.heap.size) : (w.alloc o).heap[i]? = w.heap[i]? := by
  show (w.heap.push o)[i]? = w.heap[i]?
  rw [Array.getElem?_push, if_neg (Nat.ne_of_lt h)]
theorem heap_new (w : World) (o : Obj) : (w.alloc o).heap[w.heap.size]? = some o := by
  show (w.heap.push o)[w.heap.size]? = some o
  simp

theorem BOK.alloc {σ : Sg} {rb : RB} {b : Blk} {w : World} (h : BOK σ rb b w) (o : Obj) : BOK σ rb b (w.alloc o) := by
  cases ha : rb.addr with
  | none => unfold BOK at *; simp only [ha] at *; exact h
  | some a =>
    have hlt := h.blk_lt ha
    unfold BOK at *
    simp only [ha] at *
    obtain ⟨hs, arr, ty, fr, hg, rest⟩ := h
    exact ⟨hs, arr, ty, fr, by rw [heap_lt w o _ hlt]; exact hg, rest⟩

theorem BOK.congr {σ σ' : Sg} {rb : RB} {b : Blk} {w : World} {p : Nat → Prop} (h : BOK σ rb b w) (hid : ∀ v ∈ b.cells, v.inn p) (hs : ∀ i, p i → σ' i = σ i) : BOK σ' rb b w := by
  unfold BOK at *
  cases ha : rb.addr with
  | none => simp only [ha] at *; exact h
  | some a =>
    simp only [ha] at *
    obtain ⟨h1, arr, ty, fr, hg, hc, ho⟩ := h
    refine ⟨h1, arr, ty, fr, hg, fun j v hv => ?_, ho⟩
    rw [hc j v hv, conc_congr hs v (hid v (List.mem_of_getElem? hv))]

/-- A new block. -/
theorem step_new {σ : Sg} {h : Heap} {w : World} (hr : Rel σ h w) {s : Nat} (hs : ¬ nf h s) (cs : List AV) (ty : TypeId) (pl ex : Bool)
    (hpl : pl = true → ∀ v ∈ cs, v.isRaw = true) (hone : ∀ v ∈ cs, v.one = true) (hid : ∀ v ∈ cs, v.inn (nf h)) (extra : List Value) (hex : ex = true → extra = []) (fr : Nat × Nat) (hfr : cs.length + extra.length ≤ fr.1 ∨ fr.2 ≤ fr.1) :
    Step σ h w (fun i => if i = s then ⟨some ⟨w.heap.size, 0, none⟩, cs.length + extra.length⟩ else σ i) (upd h s (.live ⟨cs, true, ex, pl⟩))
      (w.alloc (.cells (cs.map (conc σ) ++ extra).toArray ty fr)) := by
  have hag : ∀ i, nf h i → (fun i => if i = s then (⟨some ⟨w.heap.size, 0, none⟩, cs.length + extra.length⟩ : RB) else σ i) i = σ i := fun i hi => by
    have : i ≠ s := fun e => hs (e ▸ hi)
    simp [this]
  have hk : ∀ i, nf h i → nf (upd h s (.live ⟨cs, true, ex, pl⟩)) i := fun i hi => nf_upd (by simp) hi
  have hne : ∀ {i b}, hget h i = some b → i ≠ s := fun hb e => hs (e ▸ nf_of_hget hb)
  refine ⟨⟨?_, ?_, ?_, ?_, ?_, ?_⟩, hag, hk, rfl, rfl, rfl, by simp, fun r hr' _ => heap_lt _ _ _ hr', ?_, ?_⟩
  · intro i b hb
    rw [hget_upd] at hb
    by_cases e : i = s
    · subst e
      simp only [if_true, Option.some.injEq] at hb
      subst hb
      unfold BOK
      simp only [if_true, Nat.zero_add, true_and]
      refine ⟨(cs.map (conc σ) ++ extra).toArray, ty, fr, heap_new w _, fun j v hv => ?_, fun _ => ⟨by simp, fun j hj => ?_⟩⟩
      · have hj : j < cs.length := (List.getElem?_eq_some_iff.1 hv).1
        have := conc_congr hag v (hid v (List.mem_of_getElem? hv))
        simp only [List.getElem?_toArray, List.getElem?_append, List.length_map, hj, if_true, List.getElem?_map, hv, Option.map_some]
        rw [← this]
      · omega
    · simp only [if_neg e] at hb ⊢
      exact ((hr.live i b hb).congr (hr.ids i b hb) hag).alloc _
  · intro i b hb
    rw [hget_upd] at hb
    by_cases e : i = s
    · subst e
      simp only [if_true, Option.some.injEq] at hb
      subst hb
      simp only [if_true]
      exact ⟨by simp, fun he => by simp [hex he]⟩
    · simp only [if_neg e] at hb ⊢
      exact hr.len i b hb
  · intro i b hb
    rw [hget_upd] at hb
    by_cases e : i = s
    · simp only [if_pos e, Option.some.injEq] at hb
      subst hb; exact hpl
    · simp only [if_neg e] at hb; exact hr.plain i b hb
  · intro i b hb
    rw [hget_upd] at hb
    by_cases e : i = s
    · simp only [if_pos e, Option.some.injEq] at hb
      subst hb; exact hone
    · simp only [if_neg e] at hb; exact hr.one i b hb
  · intro i b hb v hv
    rw [hget_upd] at hb
    by_cases e : i = s
    · simp only [if_pos e, Option.some.injEq] at hb
      subst hb; exact AV.inn_mono hk v (hid v hv)
    · simp only [if_neg e] at hb; exact AV.inn_mono hk v (hr.ids i b hb v hv)
  · intro i j bi bj a a' hi hj hij ho ha ha'
    rw [hget_upd] at hi hj
    by_cases e : i = s
    · have e' : j ≠ s := fun e' => hij (e.trans e'.symm)
      simp only [if_pos e, if_neg e', Option.some.injEq] at hi hj ha ha'
      subst ha
      have := (hr.live j bj hj).blk_lt ha'
      simp only
      omega
    · by_cases e' : j = s
      · simp only [if_neg e, if_pos e', Option.some.injEq] at hi hj ha ha'
        subst ha'
        have := (hr.live i bi hi).blk_lt ha
        simp only
        omega
      · simp only [if_neg e, if_neg e'] at hi hj ha ha'
        exact hr.inj i j bi bj a a' hi hj hij ho ha ha'
  · rintro r ⟨i, b, a, hb, ho, ha, rfl⟩
    rw [hget_upd] at hb
    by_cases e : i = s
    · simp only [if_pos e, Option.some.injEq] at ha
      subst ha
      exact .inr (Nat.le_refl _)
    · simp only [if_neg e] at hb ha
      exact .inl ⟨i, b, a, hb, ho, ha, rfl⟩
  · rintro r ⟨i, b, a, hb, ha, rfl⟩
    rw [hget_upd] at hb
    by_cases e : i = s
    · simp only [if_pos e, Option.some.injEq] at ha
      subst ha
      exact .inr (Nat.le_refl _)
    · simp only [if_neg e] at hb ha
      exact .inl ⟨i, b, a, hb, ha, rfl⟩

end Go.Ab
