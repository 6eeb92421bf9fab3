import Derived.Test.YtjjnjogmplbjoaaAbRen
set_option linter.unusedSimpArgs false
set_option linter.unusedVariables false
namespace Go.Ab

/-- What a call of a Go function comes to: from a heap that holds just what its arguments reach. -/
def CallOK (P : Program) (g : FuncId) (args : List AV) (foot : Heap) (v : AV) (foot' : Heap) : Prop :=
  ∀ σ w, Rel σ foot w → inns (nf foot) args →
    Calls P g (concs σ args).toArray w fun e w' => ∃ σ', e = .returned (conc σ' v) ∧ Step σ foot w σ' foot' w' ∧ v.inn (nf foot')

def lastD : Delta → Nat → Option HB
  | [], _ => none
  | (k, y) :: r, i => match lastD r i with | some z => some z | none => if i = k then some y else none

theorem hat_app : ∀ (δ : Delta) (h : Heap) (i : Nat), hat (app h δ) i = (lastD δ i).getD (hat h i)
  | [], h, i => rfl
  | (k, y) :: r, h, i => by
    show hat (app (upd h k y) r) i = _
    rw [hat_app r, hat_upd]
    simp only [lastD]
    cases lastD r i with
    | some z => rfl
    | none => by_cases e : i = k <;> simp [e]

def bk (ids : List Nat) (s j : Nat) : Nat := if j < ids.length then ids.getD j 0 else s + (j - ids.length)
def bkO (ids : List Nat) (s m : Nat) : Nat → Option Nat := fun j => if j < m then some (bk ids s j) else none

def mergeGo (ρ : Nat → Option Nat) (f : Nat → Nat) : Heap → Nat → Option Delta
  | [], _ => some []
  | x :: r, j => match renB ρ x, mergeGo ρ f r (j + 1) with | some y, some δ => some ((f j, y) :: δ) | _, _ => none

theorem mergeGo_last {ρ : Nat → Option Nat} {f : Nat → Nat} : ∀ {l : Heap} {j0 : Nat} {δ : Delta}, mergeGo ρ f l j0 = some δ → (∀ a b, j0 ≤ a → a < j0 + l.length → j0 ≤ b → b < j0 + l.length → f a = f b → a = b) →
    (∀ j, j0 ≤ j → j < j0 + l.length → ∃ y, lastD δ (f j) = some y ∧ renB ρ (hat l (j - j0)) = some y) ∧ (∀ i, (∀ j, j0 ≤ j → j < j0 + l.length → f j ≠ i) → lastD δ i = none)
  | [], j0, δ, h, _ => by
    simp only [mergeGo, Option.some.injEq] at h; subst h
    exact ⟨fun j h1 h2 => by simp at h2; omega, fun i _ => rfl⟩
  | x :: r, j0, δ, h, hinj => by
    simp only [mergeGo] at h
    split at h
    · rename_i y δ' hy hδ
      simp only [Option.some.injEq] at h; subst h
      simp only [List.length_cons] at hinj ⊢
      obtain ⟨h1, h2⟩ := mergeGo_last hδ (fun a b q1 q2 q3 q4 => hinj a b (by omega) (by omega) (by omega) (by omega))
      refine ⟨fun j hj1 hj2 => ?_, fun i hi => ?_⟩
      · by_cases e : j = j0
        · subst e
          have hn : lastD δ' (f j) = none := h2 (f j) (fun k hk1 hk2 hk => by have := hinj k j (by omega) (by omega) (by omega) (by omega) hk; omega)
          exact ⟨y, by simp [lastD, hn], by rw [Nat.sub_self, hat_zero]; exact hy⟩
        · obtain ⟨z, hz, hz2⟩ := h1 j (by omega) (by omega)
          refine ⟨z, by simp [lastD, hz], ?_⟩
          rw [show j - j0 = (j - (j0 + 1)) + 1 by omega, hat_succ]
          exact hz2
      · have hn := h2 i (fun j q1 q2 => hi j (by omega) (by omega))
        have := hi j0 (by omega) (by omega)
        simp [lastD, hn, Ne.symm this]
    · cases h

/-- What a call did to its part of the heap is laid back into the whole. -/
theorem call_merge {σ : Sg} {h : Heap} {w w' : World} (hr : Rel σ h w) {ids : List Nat} (hnd : ids.Nodup) (hnf : ∀ i ∈ ids, nf h i) {foot foot' : Heap} (hp : pick ids h ids = some foot) {s : Nat}
    (hfree : ∀ i, s ≤ i → i < s + (foot'.length - ids.length) → ¬ nf h i) {σl' : Sg} (hst : Step (selOf ids σ) foot w σl' foot' w') {δ : Delta} (hm : mergeGo (bkO ids s foot'.length) (bk ids s) foot' 0 = some δ) :
    ∃ σ' : Sg, Step σ h w σ' (app h δ) w' ∧ ∀ v v', v.inn (nf foot') → renV (bkO ids s foot'.length) v = some v' → conc σ' v' = conc σl' v ∧ v'.inn (nf (app h δ)) := by
  have hfl : foot.length = ids.length := (pick_get hp).1
  have hfnf : ∀ j, j < ids.length → nf foot j := fun j hj => (pick_nf hp (List.getElem?_eq_getElem hj)).2 (hnf _ (List.getElem_mem hj))
  have hkm : ids.length ≤ foot'.length := by
    rcases Nat.lt_or_ge foot'.length ids.length with hlt | hge
    · have := hst.keeps _ (hfnf foot'.length hlt)
      have := hat_lt this
      omega
    · exact hge
  have hbk1 : ∀ j, j < ids.length → nf h (bk ids s j) ∧ ids[j]? = some (bk ids s j) := fun j hj => by
    have : bk ids s j = ids[j] := by simp [bk, hj, List.getD]
    rw [this]
    exact ⟨hnf _ (List.getElem_mem hj), List.getElem?_eq_getElem hj⟩
  have hbk2 : ∀ j, ids.length ≤ j → bk ids s j = s + (j - ids.length) := fun j hj => by simp [bk, Nat.not_lt.2 hj]
  have hnfr : ∀ j, j < ids.length → ¬ (s ≤ bk ids s j ∧ bk ids s j < s + (foot'.length - ids.length)) := fun j hj hh => hfree _ hh.1 hh.2 (hbk1 j hj).1
  have hinj : ∀ a b, 0 ≤ a → a < 0 + foot'.length → 0 ≤ b → b < 0 + foot'.length → bk ids s a = bk ids s b → a = b := fun a b _ ha _ hb he => by
    by_cases h1 : a < ids.length
    · by_cases h2 : b < ids.length
      · have q1 := (hbk1 a h1).2
        have q2 := (hbk1 b h2).2
        rw [he] at q1
        have w1 := (List.getElem?_eq_some_iff.1 q1).2
        have w2 := (List.getElem?_eq_some_iff.1 q2).2
        exact (List.getElem_inj hnd).1 (w1.trans w2.symm)
      · exact absurd ⟨by rw [he, hbk2 b (by omega)]; omega, by rw [he, hbk2 b (by omega)]; omega⟩ (hnfr a h1)
    · by_cases h2 : b < ids.length
      · exact absurd ⟨by rw [← he, hbk2 a (by omega)]; omega, by rw [← he, hbk2 a (by omega)]; omega⟩ (hnfr b h2)
      · rw [hbk2 a (by omega), hbk2 b (by omega)] at he; omega
  obtain ⟨hl1, hl2⟩ := mergeGo_last hm hinj
  simp only [Nat.sub_zero, Nat.zero_add, Nat.zero_le, true_implies] at hl1 hl2
  -- the new naming
  let σ' : Sg := fun i => if s ≤ i ∧ i < s + (foot'.length - ids.length) then σl' (ids.length + (i - s)) else σ i
  have hσnf : ∀ i, nf h i → σ' i = σ i := fun i hi => by
    show (if _ then _ else _) = _
    rw [if_neg (fun hh => hfree i hh.1 hh.2 hi)]
  have hσbk : ∀ j, j < foot'.length → σ' (bk ids s j) = σl' j := fun j hj => by
    by_cases h1 : j < ids.length
    · rw [hσnf _ (hbk1 j h1).1]
      rw [hst.agree j (hfnf j h1)]
      simp [selOf, List.getD, (hbk1 j h1).2]
    · show (if _ then _ else _) = _
      rw [hbk2 j (by omega), if_pos ⟨by omega, by omega⟩]
      congr 1; omega
  have hsame : Same (bkO ids s foot'.length) σl' σ' := fun i j hij => by
    unfold bkO at hij
    split at hij
    · rename_i hlt
      simp only [Option.some.injEq] at hij; subst hij
      exact hσbk i hlt
    · cases hij
  have hhat : ∀ j, j < foot'.length → renB (bkO ids s foot'.length) (hat foot' j) = some (hat (app h δ) (bk ids s j)) := fun j hj => by
    obtain ⟨y, hy, hy2⟩ := hl1 j hj
    rw [hy2, hat_app, hy]; rfl
  have hhat2 : ∀ i, (∀ j, j < foot'.length → bk ids s j ≠ i) → hat (app h δ) i = hat h i := fun i hi => by
    rw [hat_app, hl2 i (fun j hj => hi j hj)]; rfl
  have hkind : ∀ j, j < foot'.length → (hat (app h δ) (bk ids s j) = .free ↔ hat foot' j = .free) ∧ (hat (app h δ) (bk ids s j)).used = (hat foot' j).used ∧ (hat (app h δ) (bk ids s j)).owns = (hat foot' j).owns := fun j hj => renB_kind (hhat j hj)
  have hnf2 : ∀ j, j < foot'.length → (nf (app h δ) (bk ids s j) ↔ nf foot' j) := fun j hj => not_congr (hkind j hj).1
  have hkeeps : ∀ i, nf h i → nf (app h δ) i := fun i hi => by
    by_cases hex : ∃ j, j < foot'.length ∧ bk ids s j = i
    · obtain ⟨j, hj, rfl⟩ := hex
      rw [hnf2 j hj]
      by_cases h1 : j < ids.length
      · exact hst.keeps j (hfnf j h1)
      · exact absurd hi (hfree _ (by rw [hbk2 j (by omega)]; omega) (by rw [hbk2 j (by omega)]; omega))
    · unfold nf
      rw [hhat2 i (fun j hj he => hex ⟨j, hj, he⟩)]
      exact hi
  have hbkO : ∀ i j, bkO ids s foot'.length i = some j → nf foot' i → nf (app h δ) j := fun i j hij hn => by
    unfold bkO at hij
    split at hij
    · rename_i hlt
      simp only [Option.some.injEq] at hij; subst hij
      exact (hnf2 i hlt).2 hn
    · cases hij
  have hinn : ∀ v v', v.inn (nf foot') → renV (bkO ids s foot'.length) v = some v' → v'.inn (nf (app h δ)) := fun v v' hv hren => renV_inn hbkO hren hv
  -- a number is one of the call's, or stands beside it
  have hsplit : ∀ i, (∃ j, j < foot'.length ∧ i = bk ids s j) ∨ ((∀ j, j < foot'.length → bk ids s j ≠ i) ∧ hat (app h δ) i = hat h i) := fun i => by
    by_cases hex : ∃ j, j < foot'.length ∧ bk ids s j = i
    · obtain ⟨j, hj, rfl⟩ := hex
      exact .inl ⟨j, hj, rfl⟩
    · exact .inr ⟨fun j hj he => hex ⟨j, hj, he⟩, hhat2 i (fun j hj he => hex ⟨j, hj, he⟩)⟩
  -- a number of the call's part ahead of it
  have hfootat : ∀ {j}, hat foot j ≠ .free → ∃ i, i = bk ids s j ∧ j < ids.length ∧ selOf ids σ j = σ i ∧ renB (pos ids) (hat h i) = some (hat foot j) := fun {j} hj => by
    obtain ⟨i, h1, h2⟩ := pick_at hp hj
    have hjl : j < ids.length := (List.getElem?_eq_some_iff.1 h1).1
    have : i = bk ids s j := by have := (hbk1 j hjl).2; rw [h1] at this; exact Option.some.inj this
    exact ⟨i, this, hjl, by simp [selOf, List.getD, h1], h2⟩
  have hotherσ : ∀ i, nf h i → σ' i = σ i := hσnf
  have hnotown : ∀ i a, (∀ j, j < foot'.length → bk ids s j ≠ i) → (hat h i).used = true → (σ i).addr = some a → ¬ OwnR (selOf ids σ) foot a.block := fun i a hi hu ha ho => by
    obtain ⟨j, a', hown, ha', he⟩ := ho
    obtain ⟨i', e1, hjl, e2, e3⟩ := hfootat (used_nf (HB.owns_used hown))
    rw [e2] at ha'
    exact hr.inj i' i a' a (by rw [← (renB_kind e3).2.2]; exact hown) hu (by rw [e1]; exact hi j (by omega)) ha' ha he
  have hnotownR : ∀ i rs, hat h i = .rows rs → ∀ k ∈ rs, ∀ row, k.row = some row → ¬ OwnR (selOf ids σ) foot row.x.block := fun i rs hi k hm row hrow ho => by
    obtain ⟨j, a', hown, ha', he⟩ := ho
    obtain ⟨i', e1, hjl, e2, e3⟩ := hfootat (used_nf (HB.owns_used hown))
    rw [e2] at ha'
    exact hr.rinj i rs hi k hm row hrow i' a' (by rw [← (renB_kind e3).2.2]; exact hown) ha' he
  -- an own number beside the call's, against all that the call has
  have hfar : ∀ i a, (∀ j, j < foot'.length → bk ids s j ≠ i) → (hat h i).owns = true → (σ i).addr = some a → ∀ r, AnyR σl' foot' r → a.block ≠ r := fun i a hi ho ha r hany he => by
    have hlt := hr.used_lt (HB.owns_used ho) ha
    rcases hst.alls r hany with hh | hh
    · rcases hh with ⟨j, a', hu, ha', hb⟩ | ⟨j, rs, hj, k, hm, row, hrow, hb⟩
      · obtain ⟨i', e1, hjl, e2, e3⟩ := hfootat (used_nf hu)
        rw [e2] at ha'
        exact hr.inj i i' a a' ho (by rw [← (renB_kind e3).2.1]; exact hu) (by rw [e1]; exact Ne.symm (hi j (by omega))) ha ha' (by rw [hb, he])
      · obtain ⟨i', e1, hjl, e2, e3⟩ := hfootat (j := j) (by rw [hj]; simp)
        rw [hj] at e3
        exact hr.rinj i' rs (renB_rows e3) k hm row hrow i a ho ha (by rw [hb, he])
    · omega
  have hfar2 : ∀ r, r < w.heap.size → ¬ OwnR (selOf ids σ) foot r → ¬ OwnR σl' foot' r := fun r hlt hno ho => by
    rcases hst.owns r ho with hh | hh
    · exact hno hh
    · omega
  refine ⟨σ', ⟨Rel.of (fun i => ?_) (fun i rs hi k hm row hrow j a hj ha => ?_) (fun i j a a' hi hj hij ha ha' => ?_), hσnf, hkeeps, hst.os, hst.tape, hst.output, hst.size, ?_, ?_, ?_⟩, fun v v' hv hren => ⟨renV_conc hsame hren, hinn v v' hv hren⟩⟩
  · rcases hsplit i with ⟨j, hj, rfl⟩ | ⟨hi, hhi⟩
    · rw [hσbk j hj]
      exact (hst.rel.says j).ren hsame hbkO (hhat j hj)
    · rw [hhi]
      by_cases hf : hat h i = .free
      · rw [hf]
        exact ⟨fun b hb => (by cases hb), fun o ho => (by cases ho), fun rs hrs => (by cases hrs)⟩
      · rw [hσnf i hf]
        refine ((hr.says i).congr hσnf hkeeps).world (fun a ha hu => hst.frame _ (hr.used_lt hu ha) (hnotown i a hi hu ha)) (fun rs hrs k hm row hrow => hst.frame _ (hr.row_lt hrs hm hrow) (hnotownR i rs hrs k hm row hrow))
  · rcases hsplit i with ⟨ji, hji, rfl⟩ | ⟨hi2, hhi⟩
    · have hrf : hat foot' ji = .rows rs := by
        have := hhat ji hji
        rw [hi] at this
        exact renB_rows this
      rcases hsplit j with ⟨jj, hjj, rfl⟩ | ⟨hj2, hhj⟩
      · rw [hσbk jj hjj] at ha
        exact hst.rel.rinj ji rs hrf k hm row hrow jj a (by rw [← (hkind jj hjj).2.2]; exact hj) ha
      · rw [hhj] at hj
        rw [hσnf j (nf_of_used (HB.owns_used hj))] at ha
        exact hfar j a hj2 hj ha _ (.inr ⟨ji, rs, hrf, k, hm, row, hrow, rfl⟩)
    · rw [hhi] at hi
      rcases hsplit j with ⟨jj, hjj, rfl⟩ | ⟨hj2, hhj⟩
      · rw [hσbk jj hjj] at ha
        intro he
        exact hfar2 _ (hr.row_lt hi hm hrow) (hnotownR i rs hi k hm row hrow) ⟨jj, a, by rw [← (hkind jj hjj).2.2]; exact hj, ha, he⟩
      · rw [hhj] at hj
        rw [hσnf j (nf_of_used (HB.owns_used hj))] at ha
        exact hr.rinj i rs hi k hm row hrow j a hj ha
  · rcases hsplit i with ⟨ji, hji, rfl⟩ | ⟨hi2, hhi⟩
    · rw [hσbk ji hji] at ha
      rcases hsplit j with ⟨jj, hjj, rfl⟩ | ⟨hj2, hhj⟩
      · rw [hσbk jj hjj] at ha'
        exact hst.rel.inj ji jj a a' (by rw [← (hkind ji hji).2.2]; exact hi) (by rw [← (hkind jj hjj).2.1]; exact hj) (fun e => hij (by rw [e])) ha ha'
      · rw [hhj] at hj
        rw [hσnf j (nf_of_used hj)] at ha'
        intro he
        exact hfar2 _ (hr.used_lt hj ha') (hnotown j a' hj2 hj ha') ⟨ji, a, by rw [← (hkind ji hji).2.2]; exact hi, ha, he⟩
    · rw [hhi] at hi
      rw [hσnf i (nf_of_used (HB.owns_used hi))] at ha
      rcases hsplit j with ⟨jj, hjj, rfl⟩ | ⟨hj2, hhj⟩
      · rw [hσbk jj hjj] at ha'
        exact hfar i a hi2 hi ha _ (.inl ⟨jj, a', by rw [← (hkind jj hjj).2.1]; exact hj, ha', rfl⟩)
      · rw [hhj] at hj
        rw [hσnf j (nf_of_used hj)] at ha'
        exact hr.inj i j a a' hi hj hij ha ha'
  · intro r hr1 hr2
    exact hst.frame r hr1 (fun ho => hr2 (own_pick hr hp ho))
  · rintro r ⟨i, a, ho, ha, rfl⟩
    rcases hsplit i with ⟨j, hj, rfl⟩ | ⟨hi, hhi⟩
    · rw [hσbk j hj] at ha
      rcases hst.owns a.block ⟨j, a, by rw [← (hkind j hj).2.2]; exact ho, ha, rfl⟩ with hh | hh
      · exact .inl (own_pick hr hp hh)
      · exact .inr hh
    · rw [hhi] at ho
      rw [hσnf i (nf_of_used (HB.owns_used ho))] at ha
      exact .inl ⟨i, a, ho, ha, rfl⟩
  · rintro r (⟨i, a, hu, ha, rfl⟩ | ⟨i, rs, hi, q⟩)
    · rcases hsplit i with ⟨j, hj, rfl⟩ | ⟨hi, hhi⟩
      · rw [hσbk j hj] at ha
        rcases hst.alls a.block (.inl ⟨j, a, by rw [← (hkind j hj).2.1]; exact hu, ha, rfl⟩) with hh | hh
        · exact .inl (any_pick hr hp hh)
        · exact .inr hh
      · rw [hhi] at hu
        rw [hσnf i (nf_of_used hu)] at ha
        exact .inl (.inl ⟨i, a, hu, ha, rfl⟩)
    · rcases hsplit i with ⟨j, hj, rfl⟩ | ⟨hi2, hhi⟩
      · have hrf : hat foot' j = .rows rs := by
          have := hhat j hj
          rw [hi] at this
          exact renB_rows this
        rcases hst.alls r (.inr ⟨j, rs, hrf, q⟩) with hh | hh
        · exact .inl (any_pick hr hp hh)
        · exact .inr hh
      · rw [hhi] at hi
        exact .inl (.inr ⟨i, rs, hi, q⟩)

end Go.Ab
