import Derived.Test.YtjjnjogmplbjoaaAbCore
set_option linter.unusedSimpArgs false
set_option linter.unusedVariables false
namespace Go.Ab

theorem run_storeCells_fr (P : Program) (g o : Nat) (t : TypeId) (fr : Nat × Nat) : ∀ (vs : List Value) (i : Nat) (cur : Array Value) (w : World), w.heap[g]? = some (.cells cur t fr) → o + i + vs.length ≤ cur.size → (∀ v ∈ vs, v.oneCell' = true) →
    (∀ j, i ≤ j → j < i + vs.length → ¬ (fr.1 ≤ o + j ∧ o + j < fr.2)) →
    (storeCells ⟨g, o, none⟩ vs i).run P w = .ok () (w.setRow g (cur.toList.take (o + i) ++ vs ++ cur.toList.drop (o + i + vs.length)).toArray)
  | [], i, cur, w, hg, _, _, _ => by
    simp only [storeCells, List.append_nil, List.length_nil, Nat.add_zero, List.take_append_drop, Array.toArray_toList]
    rw [setRow_self w g cur t fr hg]
    rfl
  | v :: rest, i, cur, w, hg, hl, h1, hf => by
    have hi : o + i < cur.size := by simp at hl; omega
    have hadd : (⟨g, o, none⟩ : Addr).add i = ⟨g, o + i, none⟩ := by unfold Addr.add; split <;> simp_all
    have hcell : w.cell? ⟨g, o + i, none⟩ = some cur[o + i] := by simp [World.cell?, hg, hi]
    have hfro : w.frozen? ⟨g, o + i, none⟩ = false := by
      have := hf i (Nat.le_refl _) (by simp)
      obtain ⟨lo, hi'⟩ := fr
      simp only [World.frozen?, hg]
      simp only [Bool.and_eq_false_iff, decide_eq_false_iff_not]
      by_cases hh : lo ≤ o + i
      · exact .inr (fun h => this ⟨hh, h⟩)
      · exact .inl hh
    have hst : (store ((⟨g, o, none⟩ : Addr).add i) v).run P w = .ok () (w.setRow g (cur.setIfInBounds (o + i) v)) := by
      rw [hadd, run_store P w _ v _ (h1 v (by simp)), hcell]
      simp [hfro, setCell_eq_setRow w g (o + i) cur t fr v hg]
    have ih := run_storeCells_fr P g o t fr rest (i + 1) (cur.setIfInBounds (o + i) v) (w.setRow g (cur.setIfInBounds (o + i) v)) (setRow_heap w g cur _ t _ hg) (by simp at hl ⊢; omega) (fun x hx => h1 x (by simp [hx])) (fun j h1 h2 => hf j (by omega) (by simp; omega))
    simp only [storeCells, Sem.run_bind, hst, Result.andThen_ok, ih, setRow_setRow]
    congr 3
    have e := list_seg_step cur.toList (o + i) v rest (by simp at hl ⊢; omega)
    simpa [Array.toList_setIfInBounds, Nat.add_assoc] using e

noncomputable def splice (cs : List AV) (off : Nat) (vs : List AV) : List AV := appF (takeF cs off) (appF vs (dropF cs (off + lenF vs)))
theorem splice_eq (cs : List AV) (off : Nat) (vs : List AV) : splice cs off vs = cs.take off ++ vs ++ cs.drop (off + vs.length) := by
  unfold splice; rw [appF_eq, appF_eq, takeF_eq, dropF_eq, lenF_eq, List.append_assoc]

theorem mem_splice {cs : List AV} {off : Nat} {vs : List AV} {v : AV} (h : v ∈ splice cs off vs) : v ∈ cs ∨ v ∈ vs := by
  rw [splice_eq] at h
  simp only [List.mem_append] at h
  rcases h with (h | h) | h
  · exact .inl (List.mem_of_mem_take h)
  · exact .inr h
  · exact .inl (List.mem_of_mem_drop h)

theorem seg_get {α : Type} (l vs : List α) (o : Nat) (ho : o ≤ l.length) (j : Nat) :
    (l.take o ++ vs ++ l.drop (o + vs.length))[j]? = if j < o then l[j]? else if j < o + vs.length then vs[j - o]? else l[j]? := by
  have e : (l.take o).length = o := by rw [List.length_take]; omega
  rw [List.append_assoc]
  by_cases h1 : j < o
  · rw [if_pos h1, List.getElem?_append_left (by omega), List.getElem?_take, if_pos h1]
  · rw [if_neg h1, List.getElem?_append_right (by omega), e]
    by_cases h2 : j < o + vs.length
    · rw [if_pos h2, List.getElem?_append_left (by omega)]
    · rw [if_neg h2, List.getElem?_append_right (by omega), List.getElem?_drop, show o + vs.length + (j - o - vs.length) = j by omega]

theorem splice_get {cs : List AV} {off : Nat} {vs : List AV} (ho : off ≤ cs.length) (j : Nat) :
    (splice cs off vs)[j]? = if j < off then cs[j]? else if j < off + vs.length then vs[j - off]? else cs[j]? := by rw [splice_eq]; exact seg_get cs vs off ho j

/-- What stands under a number is changed, its memory with it. -/
theorem step_change {σ : Sg} {h : Heap} {w w' : World} (hr : Rel σ h w) {b : Nat} {a : Addr} (hb : (hat h b).owns = true) (ha : (σ b).addr = some a) (x : HB) (hx : x ≠ .free) (hxr : ∀ rs, x ≠ .rows rs)
    (hos : w'.os = w.os) (htape : w'.tape = w.tape) (hout : w'.output = w.output) (hsize : w'.heap.size = w.heap.size) (hrest : ∀ r, r ≠ a.block → w'.heap[r]? = w.heap[r]?)
    (hsay : Says σ (upd h b x) (σ b) x w') : Step σ h w σ (upd h b x) w' := by
  have hk : ∀ i, nf h i → nf (upd h b x) i := fun i hi => nf_upd hx hi
  have hown : ∀ i, (hat (upd h b x) i).owns = true → (hat h i).owns = true := fun i hi => by
    rw [hat_upd] at hi
    by_cases e : i = b
    · rw [e]; exact hb
    · rwa [if_neg e] at hi
  have huse : ∀ i, (hat (upd h b x) i).used = true → (hat h i).used = true := fun i hi => by
    rw [hat_upd] at hi
    by_cases e : i = b
    · rw [e]; exact HB.owns_used hb
    · rwa [if_neg e] at hi
  have hrow : ∀ i rs, hat (upd h b x) i = .rows rs → hat h i = .rows rs := fun i rs hi => by
    rw [hat_upd] at hi
    by_cases e : i = b
    · rw [if_pos e] at hi; exact absurd hi (hxr rs)
    · rwa [if_neg e] at hi
  refine ⟨Rel.of (fun i => ?_) (fun i rs hrs r hm row hro j a' hj ha' => hr.rinj i rs (hrow i rs hrs) r hm row hro j a' (hown j hj) ha') (fun i j x y hi hj hij hax hay => hr.inj i j x y (hown i hi) (huse j hj) hij hax hay),
    fun _ _ => rfl, hk, hos, htape, hout, Nat.le_of_eq hsize.symm, fun r _ hn => hrest r (fun e => hn ⟨b, a, hb, ha, e.symm⟩), fun r ⟨i, x, hi, hax, e⟩ => .inl ⟨i, x, hown i hi, hax, e⟩, ?_⟩
  · rw [hat_upd]
    by_cases e : i = b
    · subst e; rw [if_pos rfl]; exact hsay
    · rw [if_neg e]
      refine ((hr.says i).congr (σ' := σ) (fun _ _ => rfl) hk).world (fun a' ha' hu => hrest _ (fun e2 => hr.inj b i a a' hb hu (Ne.symm e) ha ha' e2.symm)) (fun rs hrs r hm row hro => hrest _ (fun e2 => hr.rinj i rs hrs r hm row hro b a hb ha e2.symm))
  · rintro r (⟨i, y, hu, hy, e⟩ | ⟨i, rs, hrs, q⟩)
    · exact .inl (.inl ⟨i, y, huse i hu, hy, e⟩)
    · exact .inl (.inr ⟨i, rs, hrow i rs hrs, q⟩)

theorem hat_live_owns {h : Heap} {b : Nat} {blk : Blk} (hb : hget h b = some blk) (ho : blk.own = true) : (hat h b).owns = true := by
  rw [hget_hat.1 hb]; exact ho

/-- Cells of an own block are written (behind the end too, as far as the room goes). -/
theorem step_write {σ : Sg} {h : Heap} {w : World} (P : Program) (hr : Rel σ h w) {b : Nat} {blk : Blk} (hb : hget h b = some blk) (ho : blk.own = true) {a : Addr} (ha : (σ b).addr = some a)
    (off : Nat) (vs : List AV) (hoff : off ≤ blk.cells.length) (hfit : off + vs.length ≤ (σ b).size) (hone : ∀ v ∈ vs, v.one = true) (hid : ∀ v ∈ vs, v.inn (nf h))
    (pl ex : Bool) (hpl : pl = true → blk.pl = true ∧ ∀ v ∈ vs, v.isRaw = true) (hex : ex = true → blk.exact = true) :
    ∃ w', (storeCells ⟨a.block, a.off + off, none⟩ (concs σ vs)).run P w = .ok () w' ∧ Step σ h w σ (upd h b (.live ⟨splice blk.cells off vs, true, ex, pl⟩)) w' := by
  have hB := hr.live b blk hb
  have hlen := hr.len b blk hb
  unfold BOK at hB
  simp only [ha] at hB
  obtain ⟨hsp, arr, ty, fr, hg, hc, hown⟩ := hB
  obtain ⟨hsz, hfr⟩ := hown ho
  have hrun := run_storeCells_fr P a.block (a.off + off) ty fr (concs σ vs) 0 arr w hg (by simp [concs_eq]; omega)
    (fun v hv => by rw [concs_eq] at hv; obtain ⟨x, hx, rfl⟩ := List.mem_map.1 hv; exact AV.one_conc (hone x hx))
    (fun j _ hj => by have := hfr (off + j) (by simp [concs_eq] at hj; omega); rwa [← Nat.add_assoc] at this)
  have hk : ∀ i, nf h i → nf (upd h b (.live ⟨splice blk.cells off vs, true, ex, pl⟩)) i := fun i hi => nf_upd (by simp) hi
  have hsl : (splice blk.cells off vs).length ≤ (σ b).size ∧ ((splice blk.cells off vs).length = blk.cells.length ∨ (splice blk.cells off vs).length = off + vs.length) ∧ blk.cells.length ≤ (splice blk.cells off vs).length := by
    rw [splice_eq]; simp only [List.length_append, List.length_take, List.length_drop]
    have := hlen.1
    omega
  refine ⟨_, hrun, step_change hr (hat_live_owns hb ho) ha _ (by simp) (by simp) rfl rfl rfl (by simp) (fun r hr' => setRow_other _ _ _ _ hr') ⟨fun bi hbi => ?_, fun o ho => (by cases ho), fun rs hrs => (by cases hrs)⟩⟩
  cases hbi
  refine ⟨?_, hsl.1, fun he => by have := hlen.2 (hex he); rcases hsl with ⟨q1, q2, q3⟩; simp only at *; omega, fun hp v hv => ?_, fun v hv => ?_, fun v hv => ?_⟩
  · unfold BOK
    simp only [ha]
    refine ⟨hsp, _, ty, fr, setRow_heap w a.block arr _ ty fr hg, fun j v hv => ?_, fun _ => ⟨?_, hfr⟩⟩
    · rw [splice_get hoff] at hv
      have hl1 : (concs σ vs).length = vs.length := by simp [concs_eq]
      rw [List.getElem?_toArray, Nat.add_zero, seg_get _ _ _ (by simp; omega), hl1]
      by_cases h1 : j < off
      · simp only [if_pos h1] at hv
        rw [if_pos (by omega)]
        simpa using hc j v hv
      · simp only [if_neg h1] at hv
        rw [if_neg (by omega)]
        by_cases h2 : j < off + vs.length
        · simp only [if_pos h2] at hv
          rw [if_pos (by omega), concs_eq, List.getElem?_map, show a.off + j - (a.off + off) = j - off by omega, hv]
          rfl
        · simp only [if_neg h2] at hv
          rw [if_neg (by omega)]
          simpa using hc j v hv
    · simp [concs_eq]; omega
  · rcases mem_splice hv with hv | hv
    · exact hr.plain b blk hb (hpl hp).1 v hv
    · exact (hpl hp).2 v hv
  · rcases mem_splice hv with hv | hv
    · exact hr.one b blk hb v hv
    · exact hone v hv
  · rcases mem_splice hv with hv | hv
    · exact AV.inn_mono hk v (hr.ids b blk hb v hv)
    · exact AV.inn_mono hk v (hid v hv)

/-- An object is written. -/
theorem step_seto {σ : Sg} {h : Heap} {w : World} (hr : Rel σ h w) {b : Nat} {o : AObj} (hb : hat h b = .obj o) (o' : AObj) (hid : o'.inn (nf h)) :
    ∃ r, (σ b).addr = some ⟨r, 0, none⟩ ∧ w.heap[r]? = some (concO σ o) ∧ Step σ h w σ (upd h b (.obj o')) { w with heap := w.heap.setIfInBounds r (concO σ o') } := by
  obtain ⟨⟨a, h1, h2, h3, h4⟩, -⟩ := hr.objs b o hb
  obtain ⟨r, off, sp⟩ := a
  simp only at h2 h3 h4
  subst h2; subst h3
  have hlt := heap_some_lt h4
  refine ⟨r, h1, h4, step_change hr (by rw [hb]; rfl) h1 _ (by simp) (by simp) rfl rfl rfl (by simp) (fun k hk => ?_) ⟨fun bi hbi => (by cases hbi), fun o2 ho => ?_, fun rs hrs => (by cases hrs)⟩⟩
  · simp only at hk ⊢
    rw [Array.getElem?_setIfInBounds, if_neg (Ne.symm hk)]
  · cases ho
    refine ⟨⟨_, h1, rfl, rfl, ?_⟩, AObj.inn_mono (fun i hi => nf_upd (by simp) hi) o' hid⟩
    simp [hlt]

/-- A number more for memory that was there, of which nothing is written. -/
theorem step_see {σ : Sg} {h : Heap} {w : World} (hr : Rel σ h w) {s : Nat} (hs : ¬ nf h s) (x : HB) (rb : RB) (hx : x ≠ .free) (hxr : ∀ rs, x ≠ .rows rs) (hxo : x.owns = false)
    (hpl : ∀ a, rb.addr = some a → x.used = true → (∀ j y, (hat h j).owns = true → (σ j).addr = some y → y.block ≠ a.block) ∧ AnyR σ h a.block)
    (hsay : Says (fun i => if i = s then rb else σ i) (upd h s x) rb x w) : Step σ h w (fun i => if i = s then rb else σ i) (upd h s x) w := by
  have hag : ∀ i, nf h i → (fun i => if i = s then rb else σ i) i = σ i := fun i hi => by
    have : i ≠ s := fun e => hs (e ▸ hi)
    simp [this]
  have hk : ∀ i, nf h i → nf (upd h s x) i := fun i hi => nf_upd hx hi
  refine ⟨Rel.of (fun i => ?_) (fun i rs hrs r hm row hrow j a hj ha => ?_) (fun i j a a' hi hj hij ha ha' => ?_), hag, hk, rfl, rfl, rfl, Nat.le_refl _, fun _ _ _ => rfl, ?_, ?_⟩
  · rw [hat_upd]
    by_cases e : i = s
    · simp only [if_pos e]; exact hsay
    · simp only [if_neg e]
      exact (hr.says i).congr hag hk
  · rw [hat_upd] at hrs hj
    by_cases e : i = s
    · rw [if_pos e] at hrs; exact absurd hrs (hxr rs)
    · rw [if_neg e] at hrs
      by_cases e' : j = s
      · rw [if_pos e', hxo] at hj; cases hj
      · simp only [if_neg e'] at hj ha
        exact hr.rinj i rs hrs r hm row hrow j a hj ha
  · rw [hat_upd] at hi hj
    by_cases e : i = s
    · rw [if_pos e, hxo] at hi; cases hi
    · simp only [if_neg e] at hi ha
      by_cases e' : j = s
      · simp only [if_pos e'] at hj ha'
        exact (hpl a' ha' hj).1 i a hi ha
      · simp only [if_neg e'] at hj ha'
        exact hr.inj i j a a' hi hj hij ha ha'
  · rintro r ⟨i, a, ho, ha, rfl⟩
    rw [hat_upd] at ho
    by_cases e : i = s
    · rw [if_pos e, hxo] at ho; cases ho
    · simp only [if_neg e] at ho ha
      exact .inl ⟨i, a, ho, ha, rfl⟩
  · rintro r (⟨i, a, hu, ha, rfl⟩ | ⟨i, rs, hrs, k, hm, row, hrow, rfl⟩)
    · rw [hat_upd] at hu
      by_cases e : i = s
      · simp only [if_pos e] at hu ha
        exact .inl (hpl a ha hu).2
      · simp only [if_neg e] at hu ha
        exact .inl (.inl ⟨i, a, hu, ha, rfl⟩)
    · rw [hat_upd] at hrs
      by_cases e : i = s
      · rw [if_pos e] at hrs; exact absurd hrs (hxr rs)
      · rw [if_neg e] at hrs
        exact .inl (.inr ⟨i, rs, hrs, k, hm, row, hrow, rfl⟩)

/-- A number of the executor that stands for an address that is not looked at. -/
theorem step_ghost {σ : Sg} {h : Heap} {w : World} (hr : Rel σ h w) {s : Nat} (hs : ¬ nf h s) (rb : RB) : Step σ h w (fun i => if i = s then rb else σ i) (upd h s .gone) w :=
  step_see hr hs .gone rb (by simp) (by simp) rfl (fun _ _ hu => (by cases hu)) ⟨fun b hb => (by cases hb), fun o ho => (by cases ho), fun rs hrs => (by cases hrs)⟩

def InRow.cells (r : InRow) : List AV := r.zs.map fun z => .raw (.int r.k z)

theorem InRow.spot {r : InRow} {w : World} (h : r.ok w) : r.x.spot = none := by
  have := h.2 0 h.1
  unfold World.cell? at this
  simp only [Addr.add, if_true] at this
  split at this
  · split at this
    · cases this
    · rename_i hs; simpa using hs
  · cases this

theorem InRow.bok {r : InRow} {w : World} (h : r.ok w) (σ : Sg) : BOK σ ⟨some r.x, r.zs.length⟩ ⟨r.cells, false, false, true⟩ w := by
  have hsp := InRow.spot h
  obtain ⟨h0, hc⟩ := h
  refine ⟨hsp, ?_⟩
  have h1 := hc 0 h0
  unfold World.cell? at h1
  simp only [Addr.add, if_true] at h1
  split at h1
  · rename_i arr ty fr harr
    refine ⟨arr, ty, fr, harr, fun j v hv => ?_, fun hf => by cases hf⟩
    simp only [InRow.cells, List.getElem?_map, Option.map_eq_some_iff] at hv
    obtain ⟨z, hz, rfl⟩ := hv
    have hj : j < r.zs.length := by
      rcases Nat.lt_or_ge j r.zs.length with q | q
      · exact q
      · rw [List.getElem?_eq_none q] at hz; cases hz
    have hcj := hc j hj
    have hzj : r.zs.getD j 0 = z := by rw [List.getD_eq_getElem?_getD, hz]; rfl
    rw [hzj] at hcj
    unfold World.cell? at hcj
    have hblk : (r.x.add j).block = r.x.block := by unfold Addr.add; split <;> rfl
    have hoff : (r.x.add j).off = r.x.off + j := by unfold Addr.add; split <;> simp_all
    rw [hblk, harr] at hcj
    simp only at hcj
    split at hcj
    · cases hcj
    · rw [hoff] at hcj; exact hcj
  · cases h1

/-- A row that came in, inside a slice, is looked at. -/
theorem step_view {σ : Sg} {h : Heap} {w : World} (hr : Rel σ h w) {s : Nat} (hs : ¬ nf h s) {b : Nat} {rs : List KRow} (hb : hat h b = .rows rs) {r : KRow} (hm : r ∈ rs) {row : InRow} (hrow : r.row = some row) :
    Step σ h w (fun i => if i = s then ⟨some row.x, row.zs.length⟩ else σ i) (upd h s (.live ⟨row.cells, false, false, true⟩)) w := by
  have hok := (hr.rows b rs hb).1 r hm row hrow
  refine step_see hr hs _ _ (by simp) (by simp) rfl (fun a ha _ => ?_) ⟨fun bi hbi => ?_, fun o ho => (by cases ho), fun rs hrs => (by cases hrs)⟩
  · cases ha
    exact ⟨fun j y hj hy => hr.rinj b rs hb r hm row hrow j y hj hy, .inr ⟨b, rs, hb, r, hm, row, hrow, rfl⟩⟩
  · cases hbi
    have cell : ∀ v ∈ row.cells, v.isRaw = true ∧ v.one = true ∧ ∀ p : Nat → Prop, v.inn p := fun v hv => by
      obtain ⟨z, -, rfl⟩ := List.mem_map.1 hv
      exact ⟨rfl, rfl, fun _ => trivial⟩
    exact ⟨InRow.bok hok _, by simp [InRow.cells], fun hf => (by cases hf), fun _ v hv => (cell v hv).1, fun v hv => (cell v hv).2.1, fun v hv => (cell v hv).2.2 _⟩

/-- An own block goes on under a new number, from a place on; the old number is spent. -/
theorem step_move {σ : Sg} {h : Heap} {w : World} (hr : Rel σ h w) {b s : Nat} {blk : Blk} (hb : hget h b = some blk) (hs : ¬ nf h s) (o : Nat) (hoc : o ≤ blk.cells.length) (pl : Bool) (hpl : pl = true → blk.pl = true) :
    Step σ h w (fun i => if i = s then ⟨(σ b).addr.map fun a => ⟨a.block, a.off + o, none⟩, (σ b).size - o⟩ else σ i) (upd (upd h b .gone) s (.live ⟨blk.cells.drop o, blk.own, false, pl⟩)) w := by
  have hbb := hget_hat.1 hb
  have hag : ∀ i, nf h i → (fun i => if i = s then (⟨(σ b).addr.map fun a => ⟨a.block, a.off + o, none⟩, (σ b).size - o⟩ : RB) else σ i) i = σ i := fun i hi => by
    have : i ≠ s := fun e => hs (e ▸ hi)
    simp [this]
  have hk : ∀ i, nf h i → nf (upd (upd h b .gone) s (.live ⟨blk.cells.drop o, blk.own, false, pl⟩)) i := fun i hi => nf_upd (by simp) (nf_upd (by simp) hi)
  have hat' : ∀ i, hat (upd (upd h b .gone) s (.live ⟨blk.cells.drop o, blk.own, false, pl⟩)) i = if i = s then .live ⟨blk.cells.drop o, blk.own, false, pl⟩ else if i = b then .gone else hat h i := fun i => by
    rw [hat_upd, hat_upd]
  have hsb : s ≠ b := fun e => hs (e ▸ nf_of_hget hb)
  -- each number's old one
  have old : ∀ i a, (hat (upd (upd h b .gone) s (.live ⟨blk.cells.drop o, blk.own, false, pl⟩)) i).used = true → (if i = s then (⟨(σ b).addr.map fun a => ⟨a.block, a.off + o, none⟩, (σ b).size - o⟩ : RB) else σ i).addr = some a →
      ∃ i' a', (i' = if i = s then b else i) ∧ (hat h i').used = true ∧ (hat h i').owns = (hat (upd (upd h b .gone) s (.live ⟨blk.cells.drop o, blk.own, false, pl⟩)) i).owns ∧ (σ i').addr = some a' ∧ a'.block = a.block := fun i a hu ha => by
    rw [hat'] at hu ⊢
    by_cases e : i = s
    · simp only [if_pos e] at hu ha ⊢
      cases hab : (σ b).addr with
      | none => simp [hab] at ha
      | some y =>
        simp only [hab, Option.map_some, Option.some.injEq] at ha
        subst ha
        exact ⟨b, y, rfl, by rw [hbb]; rfl, by rw [hbb]; rfl, hab, rfl⟩
    · simp only [if_neg e] at hu ha ⊢
      by_cases e2 : i = b
      · rw [if_pos e2] at hu; cases hu
      · rw [if_neg e2] at hu ⊢
        exact ⟨i, a, rfl, hu, rfl, ha, rfl⟩
  have hrow : ∀ i rs, hat (upd (upd h b .gone) s (.live ⟨blk.cells.drop o, blk.own, false, pl⟩)) i = .rows rs → hat h i = .rows rs := fun i rs hi => by
    rw [hat'] at hi
    by_cases e : i = s
    · rw [if_pos e] at hi; cases hi
    · rw [if_neg e] at hi
      by_cases e2 : i = b
      · rw [if_pos e2] at hi; cases hi
      · rwa [if_neg e2] at hi
  have hB := hr.live b blk hb
  refine ⟨Rel.of (fun i => ?_) (fun i rs hrs r hm row hro j a hj ha => ?_) (fun i j x y hi hj hij hx hy => ?_), hag, hk, rfl, rfl, rfl, Nat.le_refl _, fun _ _ _ => rfl, ?_, ?_⟩
  · rw [hat']
    by_cases e : i = s
    · simp only [if_pos e]
      refine ⟨fun bi hbi => ?_, fun o ho => (by cases ho), fun rs hrs => (by cases hrs)⟩
      cases hbi
      refine ⟨?_, ?_, fun h => (by cases h), fun hp v hv => hr.plain b blk hb (hpl hp) v (List.mem_of_mem_drop hv), fun v hv => hr.one b blk hb v (List.mem_of_mem_drop hv), fun v hv => AV.inn_mono hk v (hr.ids b blk hb v (List.mem_of_mem_drop hv))⟩
      · have hB' := hB.congr (hr.ids b blk hb) hag
        unfold BOK at hB' ⊢
        cases ha : (σ b).addr with
        | none => simp only [ha, Option.map_none] at hB' ⊢; exact ⟨by simp [hB'.1], by omega⟩
        | some a =>
          simp only [ha, Option.map_some] at hB' ⊢
          obtain ⟨q1, arr, ty, fr, q2, q3, q4⟩ := hB'
          refine ⟨trivial, arr, ty, fr, q2, fun j v hv => ?_, fun ho => ?_⟩
          · rw [List.getElem?_drop] at hv
            have := q3 (o + j) v hv
            rwa [Nat.add_assoc]
          · obtain ⟨q5, q6⟩ := q4 ho
            refine ⟨by have := (hr.len b blk hb).1; omega, fun j hj => ?_⟩
            have := q6 (o + j) (by omega)
            rwa [Nat.add_assoc]
      · have := (hr.len b blk hb).1; simp; omega
    · simp only [if_neg e]
      by_cases e' : i = b
      · rw [if_pos e']
        exact ⟨fun b hb => (by cases hb), fun o ho => (by cases ho), fun rs hrs => (by cases hrs)⟩
      · rw [if_neg e']
        exact (hr.says i).congr hag hk
  · obtain ⟨j', a', -, hu', ho', ha', hbl⟩ := old j a (HB.owns_used hj) ha
    rw [← hbl]
    exact hr.rinj i rs (hrow i rs hrs) r hm row hro j' a' (by rw [ho']; exact hj) ha'
  · obtain ⟨i', x', e1, hu1, ho1, hx1, hbx⟩ := old i x (HB.owns_used hi) hx
    obtain ⟨j', y', e2, hu2, ho2, hy2, hby⟩ := old j y hj hy
    rw [← hbx, ← hby]
    refine hr.inj i' j' x' y' (by rw [ho1]; exact hi) hu2 (fun e => hij ?_) hx1 hy2
    rw [e1, e2] at e
    have nb : ∀ k, (hat (upd (upd h b .gone) s (.live ⟨blk.cells.drop o, blk.own, false, pl⟩)) k).used = true → k ≠ s → k ≠ b := fun k hk hks ek => by
      rw [hat', if_neg hks, if_pos ek] at hk; cases hk
    by_cases es : i = s
    · by_cases et : j = s
      · exact es.trans et.symm
      · rw [if_pos es, if_neg et] at e; exact absurd e.symm (nb j hj et)
    · by_cases et : j = s
      · rw [if_neg es, if_pos et] at e; exact absurd e (nb i (HB.owns_used hi) es)
      · rw [if_neg es, if_neg et] at e; exact e
  · rintro r ⟨i, x, hi, hx, rfl⟩
    obtain ⟨i', x', e1, hu1, ho1, hx1, hbx⟩ := old i x (HB.owns_used hi) hx
    exact .inl ⟨i', x', by rw [ho1]; exact hi, hx1, hbx⟩
  · rintro r (⟨i, x, hi, hx, rfl⟩ | ⟨i, rs, hrs, q⟩)
    · obtain ⟨i', x', e1, hu1, ho1, hx1, hbx⟩ := old i x hi hx
      exact .inl (.inl ⟨i', x', hu1, hx1, hbx⟩)
    · exact .inl (.inr ⟨i, rs, hrow i rs hrs, q⟩)

/-- A block is no longer looked at. -/
theorem step_kill {σ : Sg} {h : Heap} {w : World} (hr : Rel σ h w) {b : Nat} (hb : nf h b) : Step σ h w σ (upd h b .gone) w := by
  have hk : ∀ i, nf h i → nf (upd h b .gone) i := fun i hi => nf_upd (by simp) hi
  have hg : ∀ {i} {x : HB}, hat (upd h b .gone) i = x → x ≠ .gone → hat h i = x := fun {i x} hi hx => by
    rw [hat_upd] at hi
    by_cases e : i = b
    · rw [if_pos e] at hi; exact absurd hi.symm hx
    · rwa [if_neg e] at hi
  have hu : ∀ i, (hat (upd h b .gone) i).used = true → hat h i = hat (upd h b .gone) i := fun i hi => hg rfl (fun e => by rw [e] at hi; cases hi)
  refine ⟨Rel.of (fun i => ?_) (fun i rs hrs r hm row hro j a hj ha => hr.rinj i rs (hg hrs (by simp)) r hm row hro j a (by rw [hu j (HB.owns_used hj)]; exact hj) ha)
    (fun i j x y hi hj hij hx hy => hr.inj i j x y (by rw [hu i (HB.owns_used hi)]; exact hi) (by rw [hu j hj]; exact hj) hij hx hy), fun _ _ => rfl, hk, rfl, rfl, rfl, Nat.le_refl _, fun _ _ _ => rfl,
    fun r ⟨i, x, hi, hx, e⟩ => .inl ⟨i, x, by rw [hu i (HB.owns_used hi)]; exact hi, hx, e⟩, ?_⟩
  · rw [hat_upd]
    by_cases e : i = b
    · rw [if_pos e]
      exact ⟨fun b hb => (by cases hb), fun o ho => (by cases ho), fun rs hrs => (by cases hrs)⟩
    · rw [if_neg e]
      exact (hr.says i).congr (fun _ _ => rfl) hk
  · rintro r (⟨i, x, hi, hx, e⟩ | ⟨i, rs, hrs, q⟩)
    · exact .inl (.inl ⟨i, x, by rw [hu i hi]; exact hi, hx, e⟩)
    · exact .inl (.inr ⟨i, rs, hg hrs (by simp), q⟩)

/-- The cells of a block are read. -/
theorem run_cells {σ : Sg} {h : Heap} {w : World} (P : Program) (hr : Rel σ h w) {b : Nat} {blk : Blk} (hb : hget h b = some blk) (off : Nat) (vs : List AV) (hv : ∀ j v, vs[j]? = some v → blk.cells[off + j]? = some v)
    {a : Addr} (ha : (σ b).addr = some a) : (loadCells ⟨a.block, a.off + off, none⟩ vs.length).run P w = .ok (concs σ vs).toArray w := by
  have hB := hr.live b blk hb
  unfold BOK at hB
  simp only [ha] at hB
  obtain ⟨hsp, arr, ty, fr, hg, hc, -⟩ := hB
  have := run_loadCells_list (P := P) w ⟨a.block, a.off + off, none⟩ (concs σ vs) (fun j v hj => by
    rw [concs_eq, List.getElem?_map] at hj
    cases hvj : vs[j]? with
    | none => simp [hvj] at hj
    | some x =>
      simp only [hvj, Option.map_some, Option.some.injEq] at hj
      subst hj
      have h2 := hc (off + j) x (hv j x hvj)
      have hadd : (⟨a.block, a.off + off, none⟩ : Addr).add j = ⟨a.block, a.off + off + j, none⟩ := by unfold Addr.add; split <;> simp_all
      rw [hadd]
      simp only [World.cell?, hg]
      simpa [Nat.add_assoc] using h2)
  rwa [show (concs σ vs).length = vs.length by simp [concs_eq]] at this

theorem run_cell {σ : Sg} {h : Heap} {w : World} (P : Program) (hr : Rel σ h w) {b : Nat} {blk : Blk} (hb : hget h b = some blk) (off : Nat) (v : AV) (hv : blk.cells[off]? = some v) :
    ∃ a, (σ b).addr = some a ∧ w.cell? ⟨a.block, a.off + off, none⟩ = some (conc σ v) := by
  have hB := hr.live b blk hb
  unfold BOK at hB
  cases ha : (σ b).addr with
  | none => simp only [ha] at hB; rw [hB.1] at hv; simp at hv
  | some a =>
    simp only [ha] at hB
    obtain ⟨hsp, arr, ty, fr, hg, hc, -⟩ := hB
    exact ⟨a, rfl, by simp only [World.cell?, hg]; simpa using hc off v hv⟩

end Go.Ab
