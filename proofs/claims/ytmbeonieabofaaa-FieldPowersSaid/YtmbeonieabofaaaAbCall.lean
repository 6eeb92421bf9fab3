import Derived.Test.YtmbeonieabofaaaAbRen
set_option linter.unusedSimpArgs false
set_option linter.unusedVariables false
namespace Go.Ab

/-- What a call of a Go function comes to: from a heap that holds just what its arguments reach. -/
def CallOK (P : Program) (g : FuncId) (args : List AV) (foot : Heap) (v : AV) (foot' : Heap) : Prop :=
  ∀ σ w, Rel σ foot w → inns (nf foot) args →
    Calls P g (concs σ args).toArray w fun e w' => ∃ σ', e = .returned (conc σ' v) ∧ Step σ foot w σ' foot' w' ∧ v.inn (nf foot')

def lastD : Delta → Nat → Option HB
  | [], _ => none
  | (k, y) :: r, i => match lastD r i with | some z => some z | none => if i = k then some y else none

theorem hat_app : ∀ (δ : Delta) (h : Heap) (i : Nat), hat (app h δ) i = (lastD δ i).getD (hat h i)
  | [], h, i => rfl
  | (k, y) :: r, h, i => by
    show hat (app (upd h k y) r) i = _
    rw [hat_app r, hat_upd]
    simp only [lastD]
    cases lastD r i with
    | some z => rfl
    | none => by_cases e : i = k <;> simp [e]

def bk (ids : List Nat) (s j : Nat) : Nat := if j < ids.length then ids.getD j 0 else s + (j - ids.length)
def bkO (ids : List Nat) (s m : Nat) : Nat → Option Nat := fun j => if j < m then some (bk ids s j) else none

def mergeGo (ρ : Nat → Option Nat) (f : Nat → Nat) : Heap → Nat → Option Delta
  | [], _ => some []
  | x :: r, j => match renB ρ x, mergeGo ρ f r (j + 1) with | some y, some δ => some ((f j, y) :: δ) | _, _ => none

theorem mergeGo_last {ρ : Nat → Option Nat} {f : Nat → Nat} : ∀ {l : Heap} {j0 : Nat} {δ : Delta}, mergeGo ρ f l j0 = some δ → (∀ a b, j0 ≤ a → a < j0 + l.length → j0 ≤ b → b < j0 + l.length → f a = f b → a = b) →
    (∀ j, j0 ≤ j → j < j0 + l.length → ∃ y, lastD δ (f j) = some y ∧ renB ρ (hat l (j - j0)) = some y) ∧ (∀ i, (∀ j, j0 ≤ j → j < j0 + l.length → f j ≠ i) → lastD δ i = none)
  | [], j0, δ, h, _ => by
    simp only [mergeGo, Option.some.injEq] at h; subst h
    exact ⟨fun j h1 h2 => by simp at h2; omega, fun i _ => rfl⟩
  | x :: r, j0, δ, h, hinj => by
    simp only [mergeGo] at h
    split at h
    · rename_i y δ' hy hδ
      simp only [Option.some.injEq] at h; subst h
      simp only [List.length_cons] at hinj ⊢
      obtain ⟨h1, h2⟩ := mergeGo_last hδ (fun a b q1 q2 q3 q4 => hinj a b (by omega) (by omega) (by omega) (by omega))
      refine ⟨fun j hj1 hj2 => ?_, fun i hi => ?_⟩
      · by_cases e : j = j0
        · subst e
          have hn : lastD δ' (f j) = none := h2 (f j) (fun k hk1 hk2 hk => by have := hinj k j (by omega) (by omega) (by omega) (by omega) hk; omega)
          exact ⟨y, by simp [lastD, hn], by simpa [hat] using hy⟩
        · obtain ⟨z, hz, hz2⟩ := h1 j (by omega) (by omega)
          refine ⟨z, by simp [lastD, hz], ?_⟩
          rw [show j - j0 = (j - (j0 + 1)) + 1 by omega]
          simpa [hat] using hz2
      · have hn := h2 i (fun j q1 q2 => hi j (by omega) (by omega))
        have := hi j0 (by omega) (by omega)
        simp [lastD, hn, Ne.symm this]
    · cases h

/-- What a call did to its part of the heap is laid back into the whole. -/
theorem call_merge {σ : Sg} {h : Heap} {w w' : World} (hr : Rel σ h w) {ids : List Nat} (hnd : ids.Nodup) (hnf : ∀ i ∈ ids, nf h i) {foot foot' : Heap} (hp : pick ids h ids = some foot) {s : Nat}
    (hfree : ∀ i, s ≤ i → i < s + (foot'.length - ids.length) → ¬ nf h i) {σl' : Sg} (hst : Step (selOf ids σ) foot w σl' foot' w') {δ : Delta} (hm : mergeGo (bkO ids s foot'.length) (bk ids s) foot' 0 = some δ) :
    ∃ σ' : Sg, Step σ h w σ' (app h δ) w' ∧ ∀ v v', v.inn (nf foot') → renV (bkO ids s foot'.length) v = some v' → conc σ' v' = conc σl' v ∧ v'.inn (nf (app h δ)) := by
  have hfl : foot.length = ids.length := (pick_get hp).1
  have hfnf : ∀ j, j < ids.length → nf foot j := fun j hj => (pick_nf hp (List.getElem?_eq_getElem hj)).2 (hnf _ (List.getElem_mem hj))
  have hkm : ids.length ≤ foot'.length := by
    rcases Nat.lt_or_ge foot'.length ids.length with hlt | hge
    · have := hst.keeps _ (hfnf foot'.length hlt)
      unfold nf hat at this
      simp at this
    · exact hge
  have hbk1 : ∀ j, j < ids.length → nf h (bk ids s j) ∧ ids[j]? = some (bk ids s j) := fun j hj => by
    have : bk ids s j = ids[j] := by simp [bk, hj, List.getD]
    rw [this]
    exact ⟨hnf _ (List.getElem_mem hj), List.getElem?_eq_getElem hj⟩
  have hbk2 : ∀ j, ids.length ≤ j → bk ids s j = s + (j - ids.length) := fun j hj => by simp [bk, Nat.not_lt.2 hj]
  have hnfr : ∀ j, j < ids.length → ¬ (s ≤ bk ids s j ∧ bk ids s j < s + (foot'.length - ids.length)) := fun j hj hh => hfree _ hh.1 hh.2 (hbk1 j hj).1
  have hinj : ∀ a b, 0 ≤ a → a < 0 + foot'.length → 0 ≤ b → b < 0 + foot'.length → bk ids s a = bk ids s b → a = b := fun a b _ ha _ hb he => by
    by_cases h1 : a < ids.length
    · by_cases h2 : b < ids.length
      · have q1 := (hbk1 a h1).2
        have q2 := (hbk1 b h2).2
        rw [he] at q1
        have w1 := (List.getElem?_eq_some_iff.1 q1).2
        have w2 := (List.getElem?_eq_some_iff.1 q2).2
        exact (List.getElem_inj hnd).1 (w1.trans w2.symm)
      · exact absurd ⟨by rw [he, hbk2 b (by omega)]; omega, by rw [he, hbk2 b (by omega)]; omega⟩ (hnfr a h1)
    · by_cases h2 : b < ids.length
      · exact absurd ⟨by rw [← he, hbk2 a (by omega)]; omega, by rw [← he, hbk2 a (by omega)]; omega⟩ (hnfr b h2)
      · rw [hbk2 a (by omega), hbk2 b (by omega)] at he; omega
  obtain ⟨hl1, hl2⟩ := mergeGo_last hm hinj
  simp only [Nat.sub_zero, Nat.zero_add, Nat.zero_le, true_implies] at hl1 hl2
  -- the new naming
  let σ' : Sg := fun i => if s ≤ i ∧ i < s + (foot'.length - ids.length) then σl' (ids.length + (i - s)) else σ i
  have hσnf : ∀ i, nf h i → σ' i = σ i := fun i hi => by
    show (if _ then _ else _) = _
    rw [if_neg (fun hh => hfree i hh.1 hh.2 hi)]
  have hσbk : ∀ j, j < foot'.length → σ' (bk ids s j) = σl' j := fun j hj => by
    by_cases h1 : j < ids.length
    · rw [hσnf _ (hbk1 j h1).1]
      rw [hst.agree j (hfnf j h1)]
      simp [selOf, List.getD, (hbk1 j h1).2]
    · show (if _ then _ else _) = _
      rw [hbk2 j (by omega), if_pos ⟨by omega, by omega⟩]
      congr 1; omega
  have hsame : Same (bkO ids s foot'.length) σl' σ' := fun i j hij => by
    unfold bkO at hij
    split at hij
    · rename_i hlt
      simp only [Option.some.injEq] at hij; subst hij
      exact hσbk i hlt
    · cases hij
  have hhat : ∀ j, j < foot'.length → renB (bkO ids s foot'.length) (hat foot' j) = some (hat (app h δ) (bk ids s j)) := fun j hj => by
    obtain ⟨y, hy, hy2⟩ := hl1 j hj
    rw [hy2, hat_app, hy]; rfl
  have hhat2 : ∀ i, (∀ j, j < foot'.length → bk ids s j ≠ i) → hat (app h δ) i = hat h i := fun i hi => by
    rw [hat_app, hl2 i (fun j hj => hi j hj)]; rfl
  have hnf2 : ∀ j, j < foot'.length → (nf (app h δ) (bk ids s j) ↔ nf foot' j) := fun j hj => not_congr (renB_free (hhat j hj)).1
  have hkeeps : ∀ i, nf h i → nf (app h δ) i := fun i hi => by
    by_cases hex : ∃ j, j < foot'.length ∧ bk ids s j = i
    · obtain ⟨j, hj, rfl⟩ := hex
      rw [hnf2 j hj]
      by_cases h1 : j < ids.length
      · exact hst.keeps j (hfnf j h1)
      · exact absurd hi (hfree _ (by rw [hbk2 j (by omega)]; omega) (by rw [hbk2 j (by omega)]; omega))
    · unfold nf
      rw [hhat2 i (fun j hj he => hex ⟨j, hj, he⟩)]
      exact hi
  have hinn : ∀ v v', v.inn (nf foot') → renV (bkO ids s foot'.length) v = some v' → v'.inn (nf (app h δ)) := fun v v' hv hren =>
    renV_inn (fun i j hij hn => by
      unfold bkO at hij
      split at hij
      · rename_i hlt
        simp only [Option.some.injEq] at hij; subst hij
        exact (hnf2 i hlt).2 hn
      · cases hij) hren hv
  -- a live block of the new heap
  have hlive : ∀ i b', hget (app h δ) i = some b' → (∃ j b, j < foot'.length ∧ i = bk ids s j ∧ hget foot' j = some b ∧ SameB (bkO ids s foot'.length) b b') ∨ ((∀ j, j < foot'.length → bk ids s j ≠ i) ∧ hget h i = some b') := fun i b' hb => by
    by_cases hex : ∃ j, j < foot'.length ∧ bk ids s j = i
    · obtain ⟨j, hj, rfl⟩ := hex
      left
      have h3 : hat (app h δ) (bk ids s j) = .live b' := by
        unfold hget at hb
        split at hb
        · rename_i b hh; simp only [Option.some.injEq] at hb; subst hb; exact hh
        · cases hb
      have h4 := hhat j hj
      rw [h3] at h4
      obtain ⟨b, q1, q2⟩ := renB_live h4 (fun b hb hpl => hst.rel.plain j b (by unfold hget; rw [hb]) hpl)
      exact ⟨j, b, hj, rfl, by unfold hget; rw [q1], q2⟩
    · right
      refine ⟨fun j hj he => hex ⟨j, hj, he⟩, ?_⟩
      unfold hget at hb ⊢
      rw [hhat2 i (fun j hj he => hex ⟨j, hj, he⟩)] at hb
      exact hb
  -- blocks beside the call's
  have hother : ∀ i b, (∀ j, j < foot'.length → bk ids s j ≠ i) → hget h i = some b → ∀ a, (σ i).addr = some a → a.block < w.heap.size ∧ ¬ OwnR (selOf ids σ) foot a.block := fun i b hi hb a ha => by
    refine ⟨(hr.live i b hb).blk_lt ha, fun ho => ?_⟩
    obtain ⟨j, b', a', hb', hown, ha', he⟩ := ho
    obtain ⟨i', b'', h1, h2, h3⟩ := pick_live hr hp hb'
    have hj : j < ids.length := (List.getElem?_eq_some_iff.1 h1).1
    have hij : i' = bk ids s j := by have := (hbk1 j hj).2; rw [h1] at this; exact Option.some.inj this
    rw [show selOf ids σ j = σ i' by simp [selOf, List.getD, h1]] at ha'
    exact hr.inj i' i b'' b a' a h2 hb (by rw [hij]; exact hi j (by omega)) (by rw [← h3.own]; exact hown) ha' ha he
  have hotherσ : ∀ i b, (∀ j, j < foot'.length → bk ids s j ≠ i) → hget h i = some b → σ' i = σ i := fun i b hi hb => hσnf i (nf_of_hget hb)
  refine ⟨σ', ⟨⟨?_, ?_, ?_, ?_, ?_, ?_⟩, hσnf, hkeeps, hst.os, hst.tape, hst.output, hst.size, ?_, ?_, ?_⟩, fun v v' hv hren => ⟨renV_conc hsame hren, hinn v v' hv hren⟩⟩
  · intro i b' hb
    rcases hlive i b' hb with ⟨j, b, hj, rfl, hbj, hsb⟩ | ⟨hi, hbi⟩
    · rw [hσbk j hj]
      exact hsb.bok hsame (hst.rel.live j b hbj)
    · have hB := (hr.live i b' hbi).congr (hr.ids i b' hbi) hσnf
      rw [hotherσ i b' hi hbi]
      cases ha : (σ i).addr with
      | none => unfold BOK at *; simp only [ha] at *; exact hB
      | some a =>
        obtain ⟨q1, q2⟩ := hother i b' hi hbi a ha
        unfold BOK at *
        simp only [ha] at *
        obtain ⟨z1, arr, ty, fr, z2, z3⟩ := hB
        exact ⟨z1, arr, ty, fr, by rw [hst.frame _ q1 q2]; exact z2, z3⟩
  · intro i b' hb
    rcases hlive i b' hb with ⟨j, b, hj, rfl, hbj, hsb⟩ | ⟨hi, hbi⟩
    · rw [hσbk j hj, hsb.len, hsb.exact]; exact hst.rel.len j b hbj
    · rw [hotherσ i b' hi hbi]; exact hr.len i b' hbi
  · intro i b' hb hpl v' hv
    rcases hlive i b' hb with ⟨j, b, hj, rfl, hbj, hsb⟩ | ⟨hi, hbi⟩
    · obtain ⟨k, hk⟩ := List.mem_iff_getElem?.1 hv
      obtain ⟨v, q1, q2⟩ := hsb.get k v' hk
      rw [(renV_one q2).2]
      exact hst.rel.plain j b hbj (by rw [← hsb.pl]; exact hpl) v (List.mem_of_getElem? q1)
    · exact hr.plain i b' hbi hpl v' hv
  · intro i b' hb v' hv
    rcases hlive i b' hb with ⟨j, b, hj, rfl, hbj, hsb⟩ | ⟨hi, hbi⟩
    · obtain ⟨k, hk⟩ := List.mem_iff_getElem?.1 hv
      obtain ⟨v, q1, q2⟩ := hsb.get k v' hk
      rw [(renV_one q2).1]
      exact hst.rel.one j b hbj v (List.mem_of_getElem? q1)
    · exact hr.one i b' hbi v' hv
  · intro i b' hb v' hv
    rcases hlive i b' hb with ⟨j, b, hj, rfl, hbj, hsb⟩ | ⟨hi, hbi⟩
    · obtain ⟨k, hk⟩ := List.mem_iff_getElem?.1 hv
      obtain ⟨v, q1, q2⟩ := hsb.get k v' hk
      exact hinn v v' (hst.rel.ids j b hbj v (List.mem_of_getElem? q1)) q2
    · exact AV.inn_mono hkeeps v' (hr.ids i b' hbi v' hv)
  · -- apart
    have hcross : ∀ i bi j bj a a', (∀ k, k < foot'.length → bk ids s k ≠ i) → hget h i = some bi → (σ i).addr = some a → hget foot' j = some bj → (σl' j).addr = some a' → (bi.own = true ∨ bj.own = true) → a.block ≠ a'.block := fun i bi j bj a a' hi hbi ha hbj ha' ho he => by
      obtain ⟨q1, q2⟩ := hother i bi hi hbi a ha
      rcases ho with ho | ho
      · rcases hst.alls a'.block ⟨j, bj, a', hbj, ha', rfl⟩ with hh | hh
        · obtain ⟨i2, b2, a2, hb2, ha2, he2⟩ := any_pick hr hp hh
          -- the same number? then it would be one of the call's
          by_cases e : i2 = i
          · subst e
            obtain ⟨j3, b3, a3, hb3, ha3, he3⟩ := hh
            obtain ⟨i3, b4, g1, g2, g3⟩ := pick_live hr hp hb3
            have hj3 : j3 < ids.length := (List.getElem?_eq_some_iff.1 g1).1
            have hi3 : i3 = bk ids s j3 := by have := (hbk1 j3 hj3).2; rw [g1] at this; exact Option.some.inj this
            rw [show selOf ids σ j3 = σ i3 by simp [selOf, List.getD, g1]] at ha3
            have hne : i2 ≠ i3 := fun e => hi j3 (by omega) (by rw [← hi3]; exact e.symm)
            exact hr.inj i2 i3 bi b4 a a3 hbi g2 hne ho ha ha3 (by rw [he3, he])
          · exact hr.inj i i2 bi b2 a a2 hbi hb2 (Ne.symm e) ho ha ha2 (by rw [he2, he])
        · omega
      · rcases hst.owns a'.block ⟨j, bj, a', hbj, ho, ha', rfl⟩ with hh | hh
        · exact q2 (by rw [he]; exact hh)
        · omega
    intro i j bi bj a a' hbi hbj hij ho ha ha'
    rcases hlive i bi hbi with ⟨ji, b, hji, rfl, hb1, hsb⟩ | ⟨hi, hb1⟩
    · rw [hσbk ji hji] at ha
      rcases hlive j bj hbj with ⟨jj, b2, hjj, rfl, hb2, hsb2⟩ | ⟨hj, hb2⟩
      · rw [hσbk jj hjj] at ha'
        exact hst.rel.inj ji jj b b2 a a' hb1 hb2 (fun e => hij (by rw [e])) (by rw [← hsb.own]; exact ho) ha ha'
      · rw [hotherσ j bj hj hb2] at ha'
        exact (hcross j bj ji b a' a hj hb2 ha' hb1 ha (.inr (by rw [← hsb.own]; exact ho))).symm
    · rw [hotherσ i bi hi hb1] at ha
      rcases hlive j bj hbj with ⟨jj, b2, hjj, rfl, hb2, hsb2⟩ | ⟨hj, hb2⟩
      · rw [hσbk jj hjj] at ha'
        exact hcross i bi jj b2 a a' hi hb1 ha hb2 ha' (.inl ho)
      · rw [hotherσ j bj hj hb2] at ha'
        exact hr.inj i j bi bj a a' hb1 hb2 hij ho ha ha'
  · intro r hr1 hr2
    exact hst.frame r hr1 (fun ho => hr2 (own_pick hr hp ho))
  · rintro r ⟨i, b', a, hb, ho, ha, rfl⟩
    rcases hlive i b' hb with ⟨j, b, hj, rfl, hbj, hsb⟩ | ⟨hi, hbi⟩
    · rw [hσbk j hj] at ha
      rcases hst.owns a.block ⟨j, b, a, hbj, by rw [← hsb.own]; exact ho, ha, rfl⟩ with hh | hh
      · exact .inl (own_pick hr hp hh)
      · exact .inr hh
    · rw [hotherσ i b' hi hbi] at ha
      exact .inl ⟨i, b', a, hbi, ho, ha, rfl⟩
  · rintro r ⟨i, b', a, hb, ha, rfl⟩
    rcases hlive i b' hb with ⟨j, b, hj, rfl, hbj, hsb⟩ | ⟨hi, hbi⟩
    · rw [hσbk j hj] at ha
      rcases hst.alls a.block ⟨j, b, a, hbj, ha, rfl⟩ with hh | hh
      · exact .inl (any_pick hr hp hh)
      · exact .inr hh
    · rw [hotherσ i b' hi hbi] at ha
      exact .inl ⟨i, b', a, hbi, ha, rfl⟩

end Go.Ab
