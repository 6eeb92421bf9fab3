import Derived.Test.YtjjnjogmplbjoaaAbExec
import Derived.Below
import Derived.Carry
set_option linter.unusedVariables false
set_option linter.unusedSimpArgs false
namespace Go.Ab
open Go.RowKit

/-- Nothing that the call may write: so all that was there is as it was. -/
def noOwn (h : Heap) : Bool := h.all fun x => !x.owns

theorem hat_mem {h : Heap} {i : Nat} (hx : hat h i ≠ .free) : hat h i ∈ h := by
  rw [hat_eq] at *
  rw [List.getD_eq_getElem?_getD] at *
  cases hh : h[i]? with
  | none => rw [hh] at hx; exact absurd rfl hx
  | some x => exact List.mem_of_getElem? hh

theorem noOwn_spec {σ : Sg} {h : Heap} (hn : noOwn h = true) (r : Nat) : ¬ OwnR σ h r := by
  rintro ⟨i, a, ho, -, -⟩
  have hm := hat_mem (used_nf (HB.owns_used ho))
  have := List.all_eq_true.1 hn _ hm
  simp [ho] at this

theorem Step.below {σ σ' : Sg} {h h' : Heap} {w w' : World} (hs : Step σ h w σ' h' w') (hn : noOwn h = true) : Below w.heap.size w w' :=
  ⟨hs.os, hs.tape, hs.output, hs.size, fun k hk => hs.frame k hk (noOwn_spec hn k)⟩

/-- No memory is told: nothing to be shown of it. -/
theorem rel_nil (σ : Sg) (w : World) : Rel σ [] w :=
  Rel.of (fun i => by rw [hat_nil]; exact ⟨fun b hb => (by cases hb), fun o ho => (by cases ho), fun rs hrs => (by cases hrs)⟩) (fun i rs hi => by rw [hat_nil] at hi; cases hi) (fun i j a a' hi => by rw [hat_nil] at hi; cases hi)

/-- A call that is handed no memory. -/
theorem CallOK.calls {P : Program} {g : FuncId} {args : List AV} {v : AV} {foot' : Heap} (h : CallOK P g args [] v foot') (hin : inns (nf []) args) (σ : Sg) (w : World) :
    Calls P g (concs σ args).toArray w fun e w' => ∃ σ', e = .returned (conc σ' v) ∧ Below w.heap.size w w' :=
  (h σ w (rel_nil σ w) hin).mono fun e w' ⟨σ', he, hs, _⟩ => ⟨σ', he, hs.below rfl⟩

/-- Memory that came in: a row of integers, or a row of slices of integers. -/
inductive InB where
  | row (r : InRow)
  | kr (x : Addr) (rs : List KRow)

def InB.hb : InB → HB
  | .row r => .live ⟨r.cells, false, false, true⟩
  | .kr _ rs => .rows rs
def InB.addr : InB → Addr
  | .row r => r.x
  | .kr x _ => x
def InB.size : InB → Nat
  | .row r => r.zs.length
  | .kr _ rs => rs.length
def InB.ok (w : World) : InB → Prop
  | .row r => r.ok w
  | .kr x rs => 0 < rs.length ∧ (∀ i, i < rs.length → ∃ r, rs[i]? = some r ∧ w.cell? (x.add i) = some r.val) ∧ ∀ r ∈ rs, ∀ row, r.row = some row → row.ok w

def inSg (rs : List InB) : Sg := fun i => match rs[i]? with | some r => ⟨some r.addr, r.size⟩ | none => default

theorem cells_spot {w : World} {x : Addr} {v : Value} (h : w.cell? (x.add 0) = some v) : x.spot = none := by
  unfold World.cell? at h
  simp only [Addr.add, if_true] at h
  split at h
  · split at h
    · cases h
    · rename_i hs; simpa using hs
  · cases h

theorem hat_ins (rs : List InB) (i : Nat) : hat (rs.map InB.hb) i = match rs[i]? with | some r => r.hb | none => .free := by
  rw [hat_eq, List.getD_eq_getElem?_getD, List.getElem?_map]
  cases rs[i]? <;> rfl

theorem InB.says {r : InB} {w : World} (h : r.ok w) (σ : Sg) (H : Heap) : Says σ H ⟨some r.addr, r.size⟩ r.hb w := by
  cases r with
  | row r =>
    refine ⟨fun b hb => ?_, fun o ho => (by cases ho), fun rs hrs => (by cases hrs)⟩
    cases hb
    have cell : ∀ v ∈ r.cells, v.isRaw = true ∧ v.one = true ∧ ∀ p : Nat → Prop, v.inn p := fun v hv => by
      obtain ⟨z, -, rfl⟩ := List.mem_map.1 hv
      exact ⟨rfl, rfl, fun _ => trivial⟩
    exact ⟨InRow.bok h σ, by simp [InRow.cells, InB.size], fun hf => (by cases hf), fun _ v hv => (cell v hv).1, fun v hv => (cell v hv).2.1, fun v hv => (cell v hv).2.2 _⟩
  | kr x rs =>
    refine ⟨fun b hb => (by cases hb), fun o ho => (by cases ho), fun rs' hrs => ?_⟩
    cases hrs
    obtain ⟨h0, hc, hk⟩ := h
    obtain ⟨r0, -, hc0⟩ := hc 0 h0
    have hsp := cells_spot hc0
    refine ⟨hk, Nat.le_refl _, x, rfl, hsp, ?_⟩
    have h1 := hc0
    unfold World.cell? at h1
    simp only [Addr.add, if_true] at h1
    split at h1
    · rename_i arr ty fr harr
      refine ⟨arr, ty, fr, harr, fun j r hj => ?_⟩
      have hjl : j < rs.length := (List.getElem?_eq_some_iff.1 hj).1
      obtain ⟨r', hr', hcj⟩ := hc j hjl
      rw [hj] at hr'
      cases hr'
      unfold World.cell? at hcj
      have hblk : (x.add j).block = x.block := by unfold Addr.add; split <;> rfl
      have hoff : (x.add j).off = x.off + j := by unfold Addr.add; split <;> simp_all
      rw [hblk, harr] at hcj
      simp only at hcj
      split at hcj
      · cases hcj
      · rw [hoff] at hcj; exact hcj
    · cases h1

theorem InB.no (r : InB) : r.hb.owns = false := by cases r <;> rfl

theorem rel_ins {rs : List InB} {w : World} (h : ∀ r ∈ rs, r.ok w) : Rel (inSg rs) (rs.map InB.hb) w := by
  have noown : ∀ i, (hat (rs.map InB.hb) i).owns = false := fun i => by
    rw [hat_ins]
    cases hr : rs[i]? with
    | none => rfl
    | some r => exact InB.no r
  refine Rel.of (fun i => ?_) (fun i rs' hi r hm row hrow j a hj => by rw [noown j] at hj; cases hj) (fun i j a a' hi => by rw [noown i] at hi; cases hi)
  rw [hat_ins]
  cases hr : rs[i]? with
  | none => exact ⟨fun b hb => (by cases hb), fun o ho => (by cases ho), fun rs hrs => (by cases hrs)⟩
  | some r =>
    have e : inSg rs i = ⟨some r.addr, r.size⟩ := by simp [inSg, hr]
    rw [e]
    exact InB.says (h r (List.mem_of_getElem? hr)) _ _

theorem ins_noOwn (rs : List InB) : noOwn (rs.map InB.hb) = true := by
  unfold noOwn
  rw [List.all_eq_true]
  intro x hx
  obtain ⟨r, -, rfl⟩ := List.mem_map.1 hx
  simp [InB.no]

theorem ins_nf (rs : List InB) (i : Nat) (hi : i < rs.length) : nf (rs.map InB.hb) i := by
  unfold nf
  rw [hat_ins, List.getElem?_eq_getElem hi]
  cases rs[i] <;> simp [InB.hb]

theorem conc_in {rs : List InB} {w : World} {i : Nat} {r : InB} (hr : rs[i]? = some r) (hok : r.ok w) (n : Nat) : conc (inSg rs) (.slice i 0 n none) = .slice (some r.addr) n r.size := by
  have hsp : r.addr.spot = none := by
    cases r with
    | row r => exact InRow.spot hok
    | kr x rs => obtain ⟨r0, -, hc0⟩ := hok.2.1 0 hok.1; exact cells_spot hc0
  have e : inSg rs i = ⟨some r.addr, r.size⟩ := by simp [inSg, hr]
  simp only [conc, e, Option.map_some, Option.getD_none, Nat.add_zero, Nat.sub_zero]
  cases hx : r.addr with
  | mk b o sp => rw [hx] at hsp; simp only at hsp; subst hsp; rfl

/-- A call that is handed memory that it only reads. -/
theorem CallOK.ins {P : Program} {g : FuncId} {args : List AV} {v : AV} {foot' : Heap} {rs : List InB} (h : CallOK P g args (rs.map InB.hb) v foot') (hin : inns (nf (rs.map InB.hb)) args) {w : World} (hok : ∀ r ∈ rs, r.ok w) :
    Calls P g (concs (inSg rs) args).toArray w fun e w' => ∃ σ', e = .returned (conc σ' v) ∧ Below w.heap.size w w' :=
  (h (inSg rs) w (rel_ins hok) hin).mono fun e w' ⟨σ', he, hs, _⟩ => ⟨σ', he, hs.below (ins_noOwn rs)⟩

end Go.Ab
