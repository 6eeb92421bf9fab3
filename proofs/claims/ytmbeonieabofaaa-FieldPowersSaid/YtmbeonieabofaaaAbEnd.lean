import Derived.Test.YtmbeonieabofaaaAbExec
import Derived.Below
import Derived.Carry
set_option linter.unusedVariables false
namespace Go.Ab
open Go.RowKit

/-- Nothing that the call may write: so all that was there is as it was. -/
def noOwn (h : Heap) : Bool := h.all fun x => match x with | .live b => !b.own | _ => true

theorem noOwn_spec {σ : Sg} {h : Heap} (hn : noOwn h = true) (r : Nat) : ¬ OwnR σ h r := by
  rintro ⟨i, b, a, hb, ho, -, -⟩
  have hm : HB.live b ∈ h := by
    unfold hget hat at hb
    cases hx : h[i]? with
    | none => rw [List.getD_eq_getElem?_getD, hx] at hb; cases hb
    | some x =>
      rw [List.getD_eq_getElem?_getD, hx] at hb
      simp only [Option.getD_some] at hb
      split at hb
      · simp only [Option.some.injEq] at hb; subst hb
        exact List.mem_of_getElem? hx
      · cases hb
  have := List.all_eq_true.1 hn _ hm
  simp [ho] at this

theorem Step.below {σ σ' : Sg} {h h' : Heap} {w w' : World} (hs : Step σ h w σ' h' w') (hn : noOwn h = true) : Below w.heap.size w w' :=
  ⟨hs.os, hs.tape, hs.output, hs.size, fun k hk => hs.frame k hk (noOwn_spec hn k)⟩

/-- No memory is told: nothing to be shown of it. -/
theorem rel_nil (σ : Sg) (w : World) : Rel σ [] w :=
  ⟨fun i b h => by simp [hget, hat] at h, fun i b h => by simp [hget, hat] at h, fun i b h => by simp [hget, hat] at h, fun i b h => by simp [hget, hat] at h, fun i b h => by simp [hget, hat] at h, fun i j bi bj a a' h => by simp [hget, hat] at h⟩

/-- A call that is handed no memory. -/
theorem CallOK.calls {P : Program} {g : FuncId} {args : List AV} {v : AV} {foot' : Heap} (h : CallOK P g args [] v foot') (hin : inns (nf []) args) (σ : Sg) (w : World) :
    Calls P g (concs σ args).toArray w fun e w' => ∃ σ', e = .returned (conc σ' v) ∧ Below w.heap.size w w' :=
  (h σ w (rel_nil σ w) hin).mono fun e w' ⟨σ', he, hs, _⟩ => ⟨σ', he, hs.below rfl⟩


/-- Rows of integers that came in. -/
structure InRow where
  k : IntKind
  x : Addr
  zs : List Int

def InRow.cells (r : InRow) : List AV := r.zs.map fun z => .raw (.int r.k z)
def InRow.hb (r : InRow) : HB := .live ⟨r.cells, false, false, true⟩
def InRow.ok (r : InRow) (w : World) : Prop := 0 < r.zs.length ∧ ∀ i, i < r.zs.length → w.cell? (r.x.add i) = some (.int r.k (r.zs.getD i 0))

theorem InRow.bok {r : InRow} {w : World} (h : r.ok w) (σ : Sg) : BOK σ ⟨some r.x, r.zs.length⟩ ⟨r.cells, false, false, true⟩ w ∧ r.x.spot = none := by
  obtain ⟨h0, hc⟩ := h
  have hsp : r.x.spot = none := by
    have := hc 0 h0
    unfold World.cell? at this
    simp only [Addr.add, if_true] at this
    split at this
    · split at this
      · cases this
      · rename_i hs; simpa using hs
    · cases this
  refine ⟨⟨hsp, ?_⟩, hsp⟩
  have h1 := hc 0 h0
  unfold World.cell? at h1
  simp only [Addr.add, if_true] at h1
  split at h1
  · rename_i arr ty fr harr
    refine ⟨arr, ty, fr, harr, fun j v hv => ?_, fun hf => by cases hf⟩
    simp only [InRow.cells, List.getElem?_map, Option.map_eq_some_iff] at hv
    obtain ⟨z, hz, rfl⟩ := hv
    have hj : j < r.zs.length := by
      rcases Nat.lt_or_ge j r.zs.length with q | q
      · exact q
      · rw [List.getElem?_eq_none q] at hz; cases hz
    have hcj := hc j hj
    have hzj : r.zs.getD j 0 = z := by rw [List.getD_eq_getElem?_getD, hz]; rfl
    rw [hzj] at hcj
    unfold World.cell? at hcj
    have hblk : (r.x.add j).block = r.x.block := by unfold Addr.add; split <;> rfl
    have hoff : (r.x.add j).off = r.x.off + j := by unfold Addr.add; split <;> simp_all
    rw [hblk, harr] at hcj
    simp only at hcj
    split at hcj
    · cases hcj
    · rw [hoff] at hcj; exact hcj
  · cases h1

def inSg (rs : List InRow) : Sg := fun i => match rs[i]? with | some r => ⟨some r.x, r.zs.length⟩ | none => default

theorem hget_rows (rs : List InRow) (i : Nat) (b : Blk) (h : hget (rs.map InRow.hb) i = some b) : ∃ r, rs[i]? = some r ∧ b = ⟨r.cells, false, false, true⟩ := by
  unfold hget hat at h
  rw [List.getD_eq_getElem?_getD, List.getElem?_map] at h
  cases hr : rs[i]? with
  | none => rw [hr] at h; simp at h
  | some r =>
    rw [hr] at h
    simp only [Option.map_some, Option.getD_some, InRow.hb, Option.some.injEq] at h
    exact ⟨r, rfl, h.symm⟩

theorem rel_rows {rs : List InRow} {w : World} (h : ∀ r ∈ rs, r.ok w) : Rel (inSg rs) (rs.map InRow.hb) w := by
  have cell : ∀ r : InRow, ∀ v ∈ r.cells, v.isRaw = true ∧ v.one = true ∧ ∀ p : Nat → Prop, v.inn p := fun r v hv => by
    obtain ⟨z, -, rfl⟩ := List.mem_map.1 hv
    exact ⟨rfl, rfl, fun _ => trivial⟩
  refine ⟨fun i b hb => ?_, fun i b hb => ?_, fun i b hb hp v hv => ?_, fun i b hb v hv => ?_, fun i b hb v hv => ?_, fun i j bi bj a a' hi hj hne ho => ?_⟩
  · obtain ⟨r, hr, rfl⟩ := hget_rows rs i b hb
    have := (InRow.bok (h r (List.mem_of_getElem? hr)) (inSg rs)).1
    have e : inSg rs i = ⟨some r.x, r.zs.length⟩ := by simp [inSg, hr]
    rw [e]; exact this
  · obtain ⟨r, hr, rfl⟩ := hget_rows rs i b hb
    have e : inSg rs i = ⟨some r.x, r.zs.length⟩ := by simp [inSg, hr]
    rw [e]
    exact ⟨by simp [InRow.cells], fun hf => by cases hf⟩
  · obtain ⟨r, hr, rfl⟩ := hget_rows rs i b hb
    exact (cell r v hv).1
  · obtain ⟨r, hr, rfl⟩ := hget_rows rs i b hb
    exact (cell r v hv).2.1
  · obtain ⟨r, hr, rfl⟩ := hget_rows rs i b hb
    exact (cell r v hv).2.2 _
  · obtain ⟨r, hr, rfl⟩ := hget_rows rs i bi hi
    cases ho

theorem rows_noOwn (rs : List InRow) : noOwn (rs.map InRow.hb) = true := by
  unfold noOwn
  rw [List.all_eq_true]
  intro x hx
  obtain ⟨r, -, rfl⟩ := List.mem_map.1 hx
  rfl

theorem rows_nf (rs : List InRow) (i : Nat) (hi : i < rs.length) : nf (rs.map InRow.hb) i := by
  unfold nf hat
  rw [List.getD_eq_getElem?_getD, List.getElem?_map, List.getElem?_eq_getElem hi]
  simp [InRow.hb]

theorem conc_row {rs : List InRow} {w : World} {i : Nat} {r : InRow} (hr : rs[i]? = some r) (hok : r.ok w) (n : Nat) : conc (inSg rs) (.slice i 0 n none) = .slice (some r.x) n r.zs.length := by
  have hsp := (InRow.bok hok (inSg rs)).2
  have e : inSg rs i = ⟨some r.x, r.zs.length⟩ := by simp [inSg, hr]
  simp only [conc, e, Option.map_some, Option.getD_none, Nat.add_zero, Nat.sub_zero]
  cases hx : r.x with
  | mk b o sp => rw [hx] at hsp; simp only at hsp; subst hsp; rfl

/-- A call that is handed rows of integers. -/
theorem CallOK.rows {P : Program} {g : FuncId} {args : List AV} {v : AV} {foot' : Heap} {rs : List InRow} (h : CallOK P g args (rs.map InRow.hb) v foot') (hin : inns (nf (rs.map InRow.hb)) args) {w : World} (hok : ∀ r ∈ rs, r.ok w) :
    Calls P g (concs (inSg rs) args).toArray w fun e w' => ∃ σ', e = .returned (conc σ' v) ∧ Below w.heap.size w w' :=
  (h (inSg rs) w (rel_rows hok) hin).mono fun e w' ⟨σ', he, hs, _⟩ => ⟨σ', he, hs.below (rows_noOwn rs)⟩

end Go.Ab
