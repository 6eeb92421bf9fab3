import Derived.WalkKit
import Derived.KernelRfl
set_option linter.unusedSimpArgs false
set_option linter.unusedVariables false
namespace Go.Ab

/-! ### lists, read and written by their recursor (quick in the kernel) -/
noncomputable def nth {α : Type} (l : List α) : Nat → Option α :=
  List.rec (motive := fun _ => Nat → Option α) (fun _ => none) (fun a _ ih i => Nat.rec (motive := fun _ => Option α) (some a) (fun j _ => ih j) i) l
theorem nth_eq {α : Type} : ∀ (l : List α) (i : Nat), nth l i = l[i]?
  | [], _ => rfl
  | _ :: _, 0 => rfl
  | a :: l, i + 1 => by show nth l i = _; rw [nth_eq l i]; simp
noncomputable def setF {α : Type} (l : List α) : Nat → α → List α :=
  List.rec (motive := fun _ => Nat → α → List α) (fun _ _ => []) (fun a r ih i v => Nat.rec (motive := fun _ => List α) (v :: r) (fun j _ => a :: ih j v) i) l
theorem setF_eq {α : Type} : ∀ (l : List α) (i : Nat) (v : α), setF l i v = l.set i v
  | [], _, _ => rfl
  | _ :: _, 0, _ => rfl
  | a :: l, i + 1, v => by show a :: setF l i v = _; rw [setF_eq l i v]; rfl
noncomputable def takeF {α : Type} (l : List α) : Nat → List α :=
  List.rec (motive := fun _ => Nat → List α) (fun _ => []) (fun a _ ih n => Nat.rec (motive := fun _ => List α) [] (fun j _ => a :: ih j) n) l
theorem takeF_eq {α : Type} : ∀ (l : List α) (n : Nat), takeF l n = l.take n
  | [], n => by cases n <;> rfl
  | _ :: _, 0 => rfl
  | a :: l, n + 1 => by show a :: takeF l n = _; rw [takeF_eq l n]; rfl
noncomputable def dropF {α : Type} (l : List α) (n : Nat) : List α :=
  Nat.rec (motive := fun _ => List α → List α) (fun l => l) (fun _ ih l => List.rec (motive := fun _ => List α) [] (fun _ r _ => ih r) l) n l
theorem dropF_eq {α : Type} : ∀ (n : Nat) (l : List α), dropF l n = l.drop n
  | 0, _ => rfl
  | _ + 1, [] => rfl
  | n + 1, _ :: l => by show dropF l n = _; rw [dropF_eq n l]; rfl
noncomputable def lenF {α : Type} (l : List α) : Nat := List.rec (motive := fun _ => Nat) 0 (fun _ _ ih => Nat.succ ih) l
theorem lenF_eq {α : Type} : ∀ (l : List α), lenF l = l.length
  | [] => rfl
  | _ :: l => by show Nat.succ (lenF l) = _; rw [lenF_eq l]; rfl
noncomputable def appF {α : Type} (l m : List α) : List α := List.rec (motive := fun _ => List α) m (fun a _ ih => a :: ih) l
theorem appF_eq {α : Type} : ∀ (l m : List α), appF l m = l ++ m
  | [], _ => rfl
  | a :: l, m => by show a :: appF l m = _; rw [appF_eq l m]; rfl

/-- Rows of integers that came in. -/
structure InRow where
  k : IntKind
  x : Addr
  zs : List Int

def InRow.ok (r : InRow) (w : World) : Prop := 0 < r.zs.length ∧ ∀ i, i < r.zs.length → w.cell? (r.x.add i) = some (.int r.k (r.zs.getD i 0))

/-- A slice that came in, inside a slice: its row and its length; none: it has no element (where it lies, its room). -/
structure KRow where
  row : Option InRow
  len : Nat
  a : Option Addr
  cap : Nat

def KRow.val (r : KRow) : Value :=
  match r.row with
  | some row => .slice (some row.x) r.len row.zs.length
  | none => .slice r.a 0 r.cap

/-- A value of the plain executor: 'raw' is the model's own value; a pointer or a slice names a block by its number in the executor's own heap. -/
inductive AV where
  | raw (v : Value)
  | ptr (b off : Nat)
  | slice (b off len : Nat) (cap : Option Nat)
  | agg (cs : List AV)
  | func (f : FuncId) (cap : List AV)
  | tup (vs : List AV)
  | map (b : Nat)
  | iface (t : TypeId) (v : AV)
  deriving Inhabited

structure RB where
  addr : Option Addr
  size : Nat
  deriving Inhabited

abbrev Sg := Nat → RB

mutual
def conc (σ : Sg) : AV → Value
  | .raw v => v
  | .ptr b off => .pointer (some ⟨((σ b).addr.getD default).block, ((σ b).addr.getD default).off + off, none⟩)
  | .slice b off len cap => .slice ((σ b).addr.map fun a => ⟨a.block, a.off + off, none⟩) len (cap.getD ((σ b).size - off))
  | .agg cs => .agg (concs σ cs).toArray
  | .func f cap => .func (.func f) #[] (concs σ cap).toArray
  | .tup vs => .tuple (concs σ vs).toArray
  | .map b => .map (some ((σ b).addr.getD default).block)
  | .iface t v => .iface t (conc σ v)
def concs (σ : Sg) : List AV → List Value
  | [] => []
  | v :: r => conc σ v :: concs σ r
end

theorem concs_eq (σ : Sg) (l : List AV) : concs σ l = l.map (conc σ) := by
  induction l with
  | nil => rfl
  | cons v r ih => simp [concs, ih]

mutual
def AV.inn (p : Nat → Prop) : AV → Prop
  | .raw _ => True
  | .ptr b _ => p b
  | .slice b _ _ _ => p b
  | .agg cs => inns p cs
  | .func _ cap => inns p cap
  | .tup vs => inns p vs
  | .map b => p b
  | .iface _ v => v.inn p
def inns (p : Nat → Prop) : List AV → Prop
  | [] => True
  | v :: r => v.inn p ∧ inns p r
end

theorem inns_iff (p : Nat → Prop) (l : List AV) : inns p l ↔ ∀ v ∈ l, v.inn p := by
  induction l with
  | nil => simp [inns]
  | cons v r ih => simp [inns, ih]

mutual
theorem AV.inn_mono {p q : Nat → Prop} (h : ∀ i, p i → q i) : ∀ v : AV, v.inn p → v.inn q
  | .raw _, _ => trivial
  | .ptr _ _, hv => h _ hv
  | .slice _ _ _ _, hv => h _ hv
  | .agg cs, hv => inns_mono h cs hv
  | .func _ cs, hv => inns_mono h cs hv
  | .tup cs, hv => inns_mono h cs hv
  | .map _, hv => h _ hv
  | .iface _ v, hv => AV.inn_mono h v hv
theorem inns_mono {p q : Nat → Prop} (h : ∀ i, p i → q i) : ∀ l : List AV, inns p l → inns q l
  | [], _ => trivial
  | v :: r, ⟨a, b⟩ => ⟨AV.inn_mono h v a, inns_mono h r b⟩
end

mutual
theorem conc_congr {p : Nat → Prop} {σ σ' : Sg} (h : ∀ i, p i → σ' i = σ i) : ∀ v : AV, v.inn p → conc σ' v = conc σ v
  | .raw _, _ => rfl
  | .ptr b _, hv => by simp [conc, h b hv]
  | .slice b _ _ _, hv => by simp [conc, h b hv]
  | .agg cs, hv => by simp [conc, concs_congr h cs hv]
  | .func _ cs, hv => by simp [conc, concs_congr h cs hv]
  | .tup cs, hv => by simp [conc, concs_congr h cs hv]
  | .map b, hv => by simp [conc, h b hv]
  | .iface _ v, hv => by simp [conc, conc_congr h v hv]
theorem concs_congr {p : Nat → Prop} {σ σ' : Sg} (h : ∀ i, p i → σ' i = σ i) : ∀ l : List AV, inns p l → concs σ' l = concs σ l
  | [], _ => rfl
  | v :: r, ⟨a, b⟩ => by simp [concs, conc_congr h v a, concs_congr h r b]
end

/-- The value of one cell. -/
def AV.one : AV → Bool
  | .raw v => v.oneCell'
  | .agg _ | .tup _ => false
  | _ => true
def AV.isRaw : AV → Bool
  | .raw _ => true
  | _ => false

theorem AV.one_conc {σ : Sg} : ∀ {v : AV}, v.one = true → (conc σ v).oneCell' = true
  | .raw _, h => h
  | .ptr _ _, _ => rfl
  | .slice _ _ _ _, _ => rfl
  | .func _ _, _ => rfl
  | .map _, _ => rfl
  | .iface _ _, _ => rfl

theorem AV.isRaw_inn {p : Nat → Prop} : ∀ {v : AV}, v.isRaw = true → v.inn p
  | .raw _, _ => trivial

structure Blk where
  cells : List AV
  own : Bool
  exact : Bool
  pl : Bool
  deriving Inhabited

/-- Objects beside rows of cells: maps, iterators. All of them are the call's own. -/
structure AEnt where
  key : AV
  val : AV
  born : Nat

inductive AObj where
  | mp (es : List AEnt) (clock : Nat)
  | strIter (s : ByteArray) (pos : Nat)
  | mapIter (m : Option Nat) (since : Nat) (seen : List Nat) (stepped : Nat)

def AEnt.conc (σ : Sg) (e : AEnt) : MapEntry := ⟨Ab.conc σ e.key, Ab.conc σ e.val, e.born⟩
def concO (σ : Sg) : AObj → Obj
  | .mp es clock => .map (es.map (AEnt.conc σ)).toArray clock
  | .strIter s pos => .stringIter s pos
  | .mapIter m since seen stepped => .mapIter (m.map fun b => ((σ b).addr.getD default).block) since seen.toArray stepped
def AObj.inn (p : Nat → Prop) : AObj → Prop
  | .mp es _ => ∀ e ∈ es, e.key.inn p ∧ e.val.inn p
  | .strIter _ _ => True
  | .mapIter m _ _ _ => ∀ b, m = some b → p b

theorem AObj.inn_mono {p q : Nat → Prop} (h : ∀ i, p i → q i) : ∀ o : AObj, o.inn p → o.inn q
  | .mp es _, ho => fun e he => ⟨AV.inn_mono h _ (ho e he).1, AV.inn_mono h _ (ho e he).2⟩
  | .strIter _ _, _ => trivial
  | .mapIter _ _ _ _, ho => fun b hb => h b (ho b hb)
theorem concO_congr {p : Nat → Prop} {σ σ' : Sg} (h : ∀ i, p i → σ' i = σ i) : ∀ o : AObj, o.inn p → concO σ' o = concO σ o
  | .mp es c, ho => by
    simp only [concO, Obj.map.injEq, and_true]
    congr 1
    exact List.map_congr_left fun e he => by simp only [AEnt.conc, conc_congr h e.key (ho e he).1, conc_congr h e.val (ho e he).2]
  | .strIter _ _, _ => rfl
  | .mapIter m _ _ _, ho => by
    cases m with
    | none => rfl
    | some b => simp [concO, h b (ho b rfl)]

inductive HB where
  | free
  | gone
  | live (b : Blk)
  | obj (o : AObj)
  | rows (rs : List KRow)
  deriving Inhabited

def HB.owns : HB → Bool
  | .live b => b.own
  | .obj _ => true
  | _ => false
def HB.used : HB → Bool
  | .live _ => true
  | .obj _ => true
  | .rows _ => true
  | _ => false
theorem HB.owns_used : ∀ {x : HB}, x.owns = true → x.used = true
  | .live _, _ => rfl
  | .obj _, _ => rfl

abbrev Heap := List HB

noncomputable def hat (h : Heap) (i : Nat) : HB := (nth h i).getD .free
theorem hat_eq (h : Heap) (i : Nat) : hat h i = h.getD i .free := by unfold hat; rw [nth_eq, List.getD_eq_getElem?_getD]
noncomputable def hget (h : Heap) (i : Nat) : Option Blk := match hat h i with | .live b => some b | _ => none
def nf (h : Heap) (i : Nat) : Prop := hat h i ≠ .free

theorem hget_hat {h : Heap} {i : Nat} {b : Blk} : hget h i = some b ↔ hat h i = .live b := by
  unfold hget
  cases hh : hat h i <;> simp

noncomputable def upd (h : Heap) (i : Nat) (x : HB) : Heap := if i < lenF h then setF h i x else appF h (appF (List.replicate (i - lenF h) .free) [x])

theorem upd_eq (h : Heap) (i : Nat) (x : HB) : upd h i x = if i < h.length then h.set i x else h ++ List.replicate (i - h.length) .free ++ [x] := by
  unfold upd
  rw [lenF_eq, setF_eq, appF_eq, appF_eq, List.append_assoc]

theorem hat_upd (h : Heap) (i j : Nat) (x : HB) : hat (upd h i x) j = if j = i then x else hat h j := by
  rw [upd_eq, hat_eq, hat_eq]
  split
  · rename_i hlt
    simp only [List.getD, List.getElem?_set]
    by_cases e : i = j
    · subst e; simp [hlt]
    · simp [e, Ne.symm e]
  · rename_i hge
    by_cases e : j = i
    · subst e
      have : h.length + (j - h.length) = j := by omega
      simp [List.getD, List.getElem?_append, hge]
    · simp only [if_neg e, List.getD]
      by_cases hj : j < h.length
      · simp [List.getElem?_append, hj]
      · by_cases hji : j < i
        · have : j - h.length < i - h.length := by omega
          have h2 : j < h.length + (i - h.length) := by omega
          simp [List.getElem?_append, hj, this]
        · have h2 : ¬ j - h.length < i - h.length := by omega
          have h3 : j - h.length - (i - h.length) ≠ 0 := by omega
          have h4 : h[j]? = none := List.getElem?_eq_none (by omega)
          simp [List.getElem?_append, h2, hj, h3]

abbrev Delta := List (Nat × HB)
noncomputable def app (h : Heap) (δ : Delta) : Heap := List.rec (motive := fun _ => Heap → Heap) (fun h => h) (fun p _ ih h => ih (upd h p.1 p.2)) δ h
theorem app_nil (h : Heap) : app h [] = h := rfl
theorem app_cons (h : Heap) (p : Nat × HB) (δ : Delta) : app h (p :: δ) = app (upd h p.1 p.2) δ := rfl
theorem app_eq (h : Heap) (δ : Delta) : app h δ = δ.foldl (fun h p => upd h p.1 p.2) h := by
  induction δ generalizing h with
  | nil => rfl
  | cons p δ ih => rw [app_cons, ih]; simp only [List.foldl_cons]

theorem hget_upd (h : Heap) (i j : Nat) (x : HB) : hget (upd h i x) j = if j = i then (match x with | .live b => some b | _ => none) else hget h j := by
  unfold hget; rw [hat_upd]; by_cases e : j = i
  · simp only [if_pos e]
  · simp only [if_neg e]

theorem nf_upd {h : Heap} {i : Nat} {x : HB} (hx : x ≠ .free) {j : Nat} (hj : nf h j) : nf (upd h i x) j := by
  unfold nf at *; rw [hat_upd]; split <;> simp_all

theorem nf_of_hget {h : Heap} {i : Nat} {b : Blk} (hb : hget h i = some b) : nf h i := by
  rw [hget_hat] at hb; unfold nf; rw [hb]; simp
theorem nf_of_used {h : Heap} {i : Nat} (hu : (hat h i).used = true) : nf h i := by
  unfold nf; intro e; rw [e] at hu; cases hu

/-- What a block of the executor's heap is in memory. -/
def BOK (σ : Sg) (rb : RB) (b : Blk) (w : World) : Prop :=
  match rb.addr with
  | none => b.cells = [] ∧ rb.size = 0
  | some a => a.spot = none ∧ ∃ arr ty fr, w.heap[a.block]? = some (.cells arr ty fr) ∧ (∀ (j : Nat) (v : AV), b.cells[j]? = some v → arr[a.off + j]? = some (conc σ v)) ∧
      (b.own = true → a.off + rb.size ≤ arr.size ∧ ∀ j, j < rb.size → ¬ (fr.1 ≤ a.off + j ∧ a.off + j < fr.2))

/-- What an object is. -/
def OOK (σ : Sg) (rb : RB) (o : AObj) (w : World) : Prop := ∃ a, rb.addr = some a ∧ a.off = 0 ∧ a.spot = none ∧ w.heap[a.block]? = some (concO σ o)

/-- What a row of slices that came in is. -/
def ROK (rb : RB) (rs : List KRow) (w : World) : Prop :=
  (∀ r ∈ rs, ∀ row, r.row = some row → InRow.ok row w) ∧ rs.length ≤ rb.size ∧
  ∃ a, rb.addr = some a ∧ a.spot = none ∧ ∃ arr ty fr, w.heap[a.block]? = some (.cells arr ty fr) ∧ ∀ (j : Nat) (r : KRow), rs[j]? = some r → arr[a.off + j]? = some r.val

structure Rel (σ : Sg) (h : Heap) (w : World) : Prop where
  live : ∀ i b, hget h i = some b → BOK σ (σ i) b w
  len : ∀ i b, hget h i = some b → b.cells.length ≤ (σ i).size ∧ (b.exact = true → (σ i).size = b.cells.length)
  plain : ∀ i b, hget h i = some b → b.pl = true → ∀ v ∈ b.cells, v.isRaw = true
  one : ∀ i b, hget h i = some b → ∀ v ∈ b.cells, v.one = true
  ids : ∀ i b, hget h i = some b → ∀ v ∈ b.cells, v.inn (nf h)
  objs : ∀ i o, hat h i = .obj o → OOK σ (σ i) o w ∧ o.inn (nf h)
  rows : ∀ i rs, hat h i = .rows rs → ROK (σ i) rs w
  rinj : ∀ i rs, hat h i = .rows rs → ∀ r ∈ rs, ∀ row, r.row = some row → ∀ j a, (hat h j).owns = true → (σ j).addr = some a → a.block ≠ row.x.block
  inj : ∀ i j a a', (hat h i).owns = true → (hat h j).used = true → i ≠ j → (σ i).addr = some a → (σ j).addr = some a' → a.block ≠ a'.block

def OwnR (σ : Sg) (h : Heap) (r : Nat) : Prop := ∃ i a, (hat h i).owns = true ∧ (σ i).addr = some a ∧ a.block = r

def AnyR (σ : Sg) (h : Heap) (r : Nat) : Prop :=
  (∃ i a, (hat h i).used = true ∧ (σ i).addr = some a ∧ a.block = r) ∨ ∃ i rs, hat h i = .rows rs ∧ ∃ k ∈ rs, ∃ row, k.row = some row ∧ row.x.block = r

/-- One step from (σ, h, w) to (σ', h', w'). -/
structure Step (σ : Sg) (h : Heap) (w : World) (σ' : Sg) (h' : Heap) (w' : World) : Prop where
  rel : Rel σ' h' w'
  agree : ∀ i, nf h i → σ' i = σ i
  keeps : ∀ i, nf h i → nf h' i
  os : w'.os = w.os
  tape : w'.tape = w.tape
  output : w'.output = w.output
  size : w.heap.size ≤ w'.heap.size
  frame : ∀ r, r < w.heap.size → ¬ OwnR σ h r → w'.heap[r]? = w.heap[r]?
  owns : ∀ r, OwnR σ' h' r → OwnR σ h r ∨ w.heap.size ≤ r
  alls : ∀ r, AnyR σ' h' r → AnyR σ h r ∨ w.heap.size ≤ r

theorem Step.refl {σ : Sg} {h : Heap} {w : World} (hr : Rel σ h w) : Step σ h w σ h w :=
  ⟨hr, fun _ _ => rfl, fun _ h => h, rfl, rfl, rfl, Nat.le_refl _, fun _ _ _ => rfl, fun _ h => .inl h, fun _ h => .inl h⟩

theorem Step.trans {σ σ1 σ2 : Sg} {h h1 h2 : Heap} {w w1 w2 : World} (a : Step σ h w σ1 h1 w1) (b : Step σ1 h1 w1 σ2 h2 w2) : Step σ h w σ2 h2 w2 where
  rel := b.rel
  agree i hi := (b.agree i (a.keeps i hi)).trans (a.agree i hi)
  keeps i hi := b.keeps i (a.keeps i hi)
  os := b.os.trans a.os
  tape := b.tape.trans a.tape
  output := b.output.trans a.output
  size := Nat.le_trans a.size b.size
  frame r hr hn := by
    rw [b.frame r (Nat.lt_of_lt_of_le hr a.size), a.frame r hr hn]
    intro ho
    rcases a.owns r ho with h | h
    · exact hn h
    · omega
  owns r hr := by
    rcases b.owns r hr with h | h
    · exact a.owns r h
    · have := a.size; exact .inr (by omega)
  alls r hr := by
    rcases b.alls r hr with h | h
    · exact a.alls r h
    · have := a.size; exact .inr (by omega)

/-- The world has only drawn. -/
theorem Rel.drew {σ : Sg} {h : Heap} {w : World} (hr : Rel σ h w) (n : Nat) : Rel σ h { w with drawn := n } :=
  ⟨hr.live, hr.len, hr.plain, hr.one, hr.ids, hr.objs, hr.rows, hr.rinj, hr.inj⟩

theorem Step.drew {σ : Sg} {h : Heap} {w : World} (hr : Rel σ h w) (n : Nat) : Step σ h w σ h { w with drawn := n } :=
  ⟨hr.drew n, fun _ _ => rfl, fun _ h => h, rfl, rfl, rfl, Nat.le_refl _, fun _ _ _ => rfl, fun _ h => .inl h, fun _ h => .inl h⟩

theorem heap_some_lt {w : World} {r : Nat} {o : Obj} (hg : w.heap[r]? = some o) : r < w.heap.size := by
  rcases Nat.lt_or_ge r w.heap.size with h' | h'
  · exact h'
  · simp [Array.getElem?_eq_none h'] at hg

theorem BOK.blk_lt {σ : Sg} {rb : RB} {b : Blk} {w : World} {a : Addr} (h : BOK σ rb b w) (ha : rb.addr = some a) : a.block < w.heap.size := by
  unfold BOK at h
  rw [ha] at h
  obtain ⟨_, arr, ty, fr, hg, _⟩ := h
  exact heap_some_lt hg

theorem InRow.blk_lt {r : InRow} {w : World} (h : r.ok w) : r.x.block < w.heap.size := by
  obtain ⟨h0, hc⟩ := h
  have := hc 0 h0
  unfold World.cell? at this
  split at this
  · rename_i hg
    have e : (r.x.add 0).block = r.x.block := by unfold Addr.add; split <;> rfl
    rw [e] at hg
    exact heap_some_lt hg
  · cases this

/-- Rows stay what they are where their memory does. -/
theorem InRow.ok_congr {r : InRow} {w w' : World} (h : r.ok w) (he : w'.heap[r.x.block]? = w.heap[r.x.block]?) : r.ok w' := by
  obtain ⟨h0, hc⟩ := h
  refine ⟨h0, fun i hi => ?_⟩
  rw [← hc i hi]
  have e : (r.x.add i).block = r.x.block := by unfold Addr.add; split <;> rfl
  unfold World.cell?
  rw [e, he]

theorem BOK.world {σ : Sg} {rb : RB} {b : Blk} {w w' : World} (h : BOK σ rb b w) (he : ∀ a, rb.addr = some a → w'.heap[a.block]? = w.heap[a.block]?) : BOK σ rb b w' := by
  unfold BOK at *
  cases ha : rb.addr with
  | none => simp only [ha] at *; exact h
  | some a =>
    simp only [ha] at *
    obtain ⟨h1, arr, ty, fr, hg, rest⟩ := h
    exact ⟨h1, arr, ty, fr, by rw [he a rfl]; exact hg, rest⟩
theorem OOK.world {σ : Sg} {rb : RB} {o : AObj} {w w' : World} (h : OOK σ rb o w) (he : ∀ a, rb.addr = some a → w'.heap[a.block]? = w.heap[a.block]?) : OOK σ rb o w' := by
  obtain ⟨a, h1, h2, h3, h4⟩ := h
  exact ⟨a, h1, h2, h3, by rw [he a h1]; exact h4⟩
theorem ROK.world {rb : RB} {rs : List KRow} {w w' : World} (h : ROK rb rs w) (he : ∀ a, rb.addr = some a → w'.heap[a.block]? = w.heap[a.block]?) (hk : ∀ r ∈ rs, ∀ row, r.row = some row → w'.heap[row.x.block]? = w.heap[row.x.block]?) : ROK rb rs w' := by
  obtain ⟨h1, h2, a, q1, q2, arr, ty, fr, q3, q4⟩ := h
  exact ⟨fun r hr row hrow => InRow.ok_congr (h1 r hr row hrow) (hk r hr row hrow), h2, a, q1, q2, arr, ty, fr, by rw [he a q1]; exact q3, q4⟩

/-- Where a used number lies. -/
theorem Rel.used_lt {σ : Sg} {h : Heap} {w : World} (hr : Rel σ h w) {i : Nat} (hu : (hat h i).used = true) {a : Addr} (ha : (σ i).addr = some a) : a.block < w.heap.size := by
  cases hh : hat h i with
  | free => rw [hh] at hu; cases hu
  | gone => rw [hh] at hu; cases hu
  | live b => exact (hr.live i b (hget_hat.2 hh)).blk_lt ha
  | obj o =>
    obtain ⟨⟨a', h1, -, -, h2⟩, -⟩ := hr.objs i o hh
    rw [ha] at h1
    cases h1
    exact heap_some_lt h2
  | rows rs =>
    obtain ⟨-, -, a', q1, -, arr, ty, fr, q3, -⟩ := hr.rows i rs hh
    rw [ha] at q1
    cases q1
    exact heap_some_lt q3

theorem Rel.row_lt {σ : Sg} {h : Heap} {w : World} (hr : Rel σ h w) {i : Nat} {rs : List KRow} (hh : hat h i = .rows rs) {r : KRow} (hm : r ∈ rs) {row : InRow} (hrow : r.row = some row) : row.x.block < w.heap.size :=
  InRow.blk_lt ((hr.rows i rs hh).1 r hm row hrow)

theorem heap_lt (w : World) (o : Obj) (i : Nat) (h : i < w.heap.size) : (w.alloc o).heap[i]? = w.heap[i]? := by
  show (w.heap.push o)[i]? = w.heap[i]?
  rw [Array.getElem?_push, if_neg (Nat.ne_of_lt h)]
theorem heap_new (w : World) (o : Obj) : (w.alloc o).heap[w.heap.size]? = some o := by
  show (w.heap.push o)[w.heap.size]? = some o
  simp

theorem BOK.congr {σ σ' : Sg} {rb : RB} {b : Blk} {w : World} {p : Nat → Prop} (h : BOK σ rb b w) (hid : ∀ v ∈ b.cells, v.inn p) (hs : ∀ i, p i → σ' i = σ i) : BOK σ' rb b w := by
  unfold BOK at *
  cases ha : rb.addr with
  | none => simp only [ha] at *; exact h
  | some a =>
    simp only [ha] at *
    obtain ⟨h1, arr, ty, fr, hg, hc, ho⟩ := h
    refine ⟨h1, arr, ty, fr, hg, fun j v hv => ?_, ho⟩
    rw [hc j v hv, conc_congr hs v (hid v (List.mem_of_getElem? hv))]
theorem OOK.congr {σ σ' : Sg} {rb : RB} {o : AObj} {w : World} {p : Nat → Prop} (h : OOK σ rb o w) (hid : o.inn p) (hs : ∀ i, p i → σ' i = σ i) : OOK σ' rb o w := by
  obtain ⟨a, h1, h2, h3, h4⟩ := h
  exact ⟨a, h1, h2, h3, by rw [concO_congr hs o hid]; exact h4⟩

/-- What is said of one number. -/
structure Says (σ : Sg) (h : Heap) (rb : RB) (x : HB) (w : World) : Prop where
  live : ∀ b, x = .live b → BOK σ rb b w ∧ b.cells.length ≤ rb.size ∧ (b.exact = true → rb.size = b.cells.length) ∧ (b.pl = true → ∀ v ∈ b.cells, v.isRaw = true) ∧ (∀ v ∈ b.cells, v.one = true) ∧ ∀ v ∈ b.cells, v.inn (nf h)
  obj : ∀ o, x = .obj o → OOK σ rb o w ∧ o.inn (nf h)
  rows : ∀ rs, x = .rows rs → ROK rb rs w

theorem Rel.says {σ : Sg} {h : Heap} {w : World} (hr : Rel σ h w) (i : Nat) : Says σ h (σ i) (hat h i) w :=
  ⟨fun b hb => by
    have hb' := hget_hat.2 hb
    exact ⟨hr.live i b hb', (hr.len i b hb').1, (hr.len i b hb').2, hr.plain i b hb', hr.one i b hb', hr.ids i b hb'⟩, fun o ho => hr.objs i o ho, fun rs hrs => hr.rows i rs hrs⟩

theorem Rel.of {σ : Sg} {h : Heap} {w : World} (hs : ∀ i, Says σ h (σ i) (hat h i) w)
    (hrinj : ∀ i rs, hat h i = .rows rs → ∀ r ∈ rs, ∀ row, r.row = some row → ∀ j a, (hat h j).owns = true → (σ j).addr = some a → a.block ≠ row.x.block)
    (hinj : ∀ i j a a', (hat h i).owns = true → (hat h j).used = true → i ≠ j → (σ i).addr = some a → (σ j).addr = some a' → a.block ≠ a'.block) : Rel σ h w :=
  ⟨fun i b hb => ((hs i).live b (hget_hat.1 hb)).1, fun i b hb => ⟨((hs i).live b (hget_hat.1 hb)).2.1, ((hs i).live b (hget_hat.1 hb)).2.2.1⟩, fun i b hb => ((hs i).live b (hget_hat.1 hb)).2.2.2.1, fun i b hb => ((hs i).live b (hget_hat.1 hb)).2.2.2.2.1,
    fun i b hb => ((hs i).live b (hget_hat.1 hb)).2.2.2.2.2, fun i o ho => (hs i).obj o ho, fun i rs hrs => (hs i).rows rs hrs, hrinj, hinj⟩

theorem Says.world {σ : Sg} {h : Heap} {rb : RB} {x : HB} {w w' : World} (hs : Says σ h rb x w) (he : ∀ a, rb.addr = some a → x.used = true → w'.heap[a.block]? = w.heap[a.block]?) (hk : ∀ rs, x = .rows rs → ∀ r ∈ rs, ∀ row, r.row = some row → w'.heap[row.x.block]? = w.heap[row.x.block]?) : Says σ h rb x w' :=
  ⟨fun b hb => by
    obtain ⟨h1, h2⟩ := hs.live b hb
    exact ⟨h1.world fun a ha => he a ha (by rw [hb]; rfl), h2⟩, fun o ho => by
    obtain ⟨h1, h2⟩ := hs.obj o ho
    exact ⟨h1.world fun a ha => he a ha (by rw [ho]; rfl), h2⟩, fun rs hrs => (hs.rows rs hrs).world (fun a ha => he a ha (by rw [hrs]; rfl)) (hk rs hrs)⟩

theorem Says.congr {σ σ' : Sg} {h h' : Heap} {rb : RB} {x : HB} {w : World} (hs : Says σ h rb x w) (hag : ∀ i, nf h i → σ' i = σ i) (hk : ∀ i, nf h i → nf h' i) : Says σ' h' rb x w :=
  ⟨fun b hb => by
    obtain ⟨h1, h2, h3, h4, h5, h6⟩ := hs.live b hb
    exact ⟨h1.congr h6 hag, h2, h3, h4, h5, fun v hv => AV.inn_mono hk v (h6 v hv)⟩, fun o ho => by
    obtain ⟨h1, h2⟩ := hs.obj o ho
    exact ⟨h1.congr h2 hag, AObj.inn_mono hk o h2⟩, fun rs hrs => hs.rows rs hrs⟩

/-- A new number, of new memory. -/
theorem step_alloc {σ : Sg} {h : Heap} {w : World} (hr : Rel σ h w) {s : Nat} (hs : ¬ nf h s) (x : HB) (hx : x ≠ .free) (hxr : ∀ rs, x ≠ .rows rs) (ob : Obj) (sz : Nat)
    (hsay : Says (fun i => if i = s then ⟨some ⟨w.heap.size, 0, none⟩, sz⟩ else σ i) (upd h s x) ⟨some ⟨w.heap.size, 0, none⟩, sz⟩ x (w.alloc ob)) :
    Step σ h w (fun i => if i = s then ⟨some ⟨w.heap.size, 0, none⟩, sz⟩ else σ i) (upd h s x) (w.alloc ob) := by
  have hag : ∀ i, nf h i → (fun i => if i = s then (⟨some ⟨w.heap.size, 0, none⟩, sz⟩ : RB) else σ i) i = σ i := fun i hi => by
    have : i ≠ s := fun e => hs (e ▸ hi)
    simp [this]
  have hk : ∀ i, nf h i → nf (upd h s x) i := fun i hi => nf_upd hx hi
  refine ⟨Rel.of (fun i => ?_) (fun i rs hrs r hm row hrow j a hj ha => ?_) (fun i j a a' hi hj hij ha ha' => ?_), hag, hk, rfl, rfl, rfl, by simp, fun r hr' _ => heap_lt _ _ _ hr', ?_, ?_⟩
  · rw [hat_upd]
    by_cases e : i = s
    · simp only [if_pos e]; exact hsay
    · simp only [if_neg e]
      exact ((hr.says i).congr hag hk).world (fun a ha hu => heap_lt _ _ _ (hr.used_lt hu ha)) (fun rs hrs r hm row hrow => heap_lt _ _ _ (hr.row_lt hrs hm hrow))
  · rw [hat_upd] at hrs hj
    by_cases e : i = s
    · rw [if_pos e] at hrs; exact absurd hrs (hxr rs)
    · rw [if_neg e] at hrs
      by_cases e' : j = s
      · simp only [if_pos e', Option.some.injEq] at ha
        subst ha
        have := hr.row_lt hrs hm hrow
        simp only; omega
      · simp only [if_neg e'] at hj ha
        exact hr.rinj i rs hrs r hm row hrow j a hj ha
  · rw [hat_upd] at hi hj
    by_cases e : i = s
    · have e' : j ≠ s := fun e' => hij (e.trans e'.symm)
      simp only [if_pos e, if_neg e', Option.some.injEq] at hj ha ha'
      subst ha
      have := hr.used_lt hj ha'
      simp only; omega
    · by_cases e' : j = s
      · simp only [if_neg e, if_pos e', Option.some.injEq] at hi ha ha'
        subst ha'
        have := hr.used_lt (HB.owns_used hi) ha
        simp only; omega
      · simp only [if_neg e, if_neg e'] at hi hj ha ha'
        exact hr.inj i j a a' hi hj hij ha ha'
  · rintro r ⟨i, a, ho, ha, rfl⟩
    rw [hat_upd] at ho
    by_cases e : i = s
    · simp only [if_pos e, Option.some.injEq] at ha
      subst ha; exact .inr (Nat.le_refl _)
    · simp only [if_neg e] at ho ha
      exact .inl ⟨i, a, ho, ha, rfl⟩
  · rintro r (⟨i, a, hu, ha, rfl⟩ | ⟨i, rs, hrs, k, hm, row, hrow, rfl⟩)
    · rw [hat_upd] at hu
      by_cases e : i = s
      · simp only [if_pos e, Option.some.injEq] at ha
        subst ha; exact .inr (Nat.le_refl _)
      · simp only [if_neg e] at hu ha
        exact .inl (.inl ⟨i, a, hu, ha, rfl⟩)
    · rw [hat_upd] at hrs
      by_cases e : i = s
      · rw [if_pos e] at hrs; exact absurd hrs (hxr rs)
      · rw [if_neg e] at hrs
        exact .inl (.inr ⟨i, rs, hrs, k, hm, row, hrow, rfl⟩)

/-- A new block. -/
theorem step_new {σ : Sg} {h : Heap} {w : World} (hr : Rel σ h w) {s : Nat} (hs : ¬ nf h s) (cs : List AV) (ty : TypeId) (pl ex : Bool)
    (hpl : pl = true → ∀ v ∈ cs, v.isRaw = true) (hone : ∀ v ∈ cs, v.one = true) (hid : ∀ v ∈ cs, v.inn (nf h)) (extra : List Value) (hex : ex = true → extra = []) (fr : Nat × Nat) (hfr : cs.length + extra.length ≤ fr.1 ∨ fr.2 ≤ fr.1) :
    Step σ h w (fun i => if i = s then ⟨some ⟨w.heap.size, 0, none⟩, cs.length + extra.length⟩ else σ i) (upd h s (.live ⟨cs, true, ex, pl⟩))
      (w.alloc (.cells (cs.map (conc σ) ++ extra).toArray ty fr)) := by
  have hag : ∀ i, nf h i → (fun i => if i = s then (⟨some ⟨w.heap.size, 0, none⟩, cs.length + extra.length⟩ : RB) else σ i) i = σ i := fun i hi => by
    have : i ≠ s := fun e => hs (e ▸ hi)
    simp [this]
  have hk : ∀ i, nf h i → nf (upd h s (.live ⟨cs, true, ex, pl⟩)) i := fun i hi => nf_upd (by simp) hi
  refine step_alloc hr hs _ (by simp) (by simp) _ _ ⟨fun b hb => ?_, fun o ho => (by cases ho), fun rs hrs => (by cases hrs)⟩
  cases hb
  refine ⟨?_, by simp, fun he => by simp [hex he], hpl, hone, fun v hv => AV.inn_mono hk v (hid v hv)⟩
  unfold BOK
  simp only [Nat.zero_add, true_and]
  refine ⟨(cs.map (conc σ) ++ extra).toArray, ty, fr, heap_new w _, fun j v hv => ?_, fun _ => ⟨by simp, fun j hj => ?_⟩⟩
  · have hj : j < cs.length := (List.getElem?_eq_some_iff.1 hv).1
    have := conc_congr hag v (hid v (List.mem_of_getElem? hv))
    simp only [List.getElem?_toArray, List.getElem?_append, List.length_map, hj, if_true, List.getElem?_map, hv, Option.map_some]
    rw [← this]
  · omega

/-- A new object. -/
theorem step_obj {σ : Sg} {h : Heap} {w : World} (hr : Rel σ h w) {s : Nat} (hs : ¬ nf h s) (o : AObj) (hid : o.inn (nf h)) :
    Step σ h w (fun i => if i = s then ⟨some ⟨w.heap.size, 0, none⟩, 0⟩ else σ i) (upd h s (.obj o)) (w.alloc (concO σ o)) := by
  have hag : ∀ i, nf h i → (fun i => if i = s then (⟨some ⟨w.heap.size, 0, none⟩, 0⟩ : RB) else σ i) i = σ i := fun i hi => by
    have : i ≠ s := fun e => hs (e ▸ hi)
    simp [this]
  have hk : ∀ i, nf h i → nf (upd h s (.obj o)) i := fun i hi => nf_upd (by simp) hi
  refine step_alloc hr hs _ (by simp) (by simp) _ _ ⟨fun b hb => (by cases hb), fun o' ho => ?_, fun rs hrs => (by cases hrs)⟩
  cases ho
  exact ⟨⟨_, rfl, rfl, rfl, by rw [heap_new, concO_congr hag o hid]⟩, AObj.inn_mono hk o hid⟩

end Go.Ab
