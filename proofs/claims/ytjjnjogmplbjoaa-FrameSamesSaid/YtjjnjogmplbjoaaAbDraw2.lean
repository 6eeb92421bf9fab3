import Derived.Test.YtjjnjogmplbjoaaAbDraw
set_option linter.unusedSimpArgs false
set_option linter.unusedVariables false
namespace Go.Ab

theorem put_get {t t' : T} {d : Option Tmp} {v : AV} {x : Nat} (h : t[x]? = t'[x]?) : (put t d v)[x]? = (put t' d v)[x]? := by
  cases d with
  | none => exact h
  | some d =>
    simp only [put, setF_eq, List.getElem?_set]
    by_cases e : d = x
    · subst e
      have hl : d < t.length ↔ d < t'.length := by
        constructor <;> intro hlt
        · rcases Nat.lt_or_ge d t'.length with q | q
          · exact q
          · rw [List.getElem?_eq_getElem hlt, List.getElem?_eq_none q] at h; cases h
        · rcases Nat.lt_or_ge d t.length with q | q
          · exact q
          · rw [List.getElem?_eq_getElem hlt, List.getElem?_eq_none q] at h; cases h
      by_cases hlt : d < t.length
      · simp [hlt, hl.1 hlt]
      · have : ¬ d < t'.length := fun q => hlt (hl.2 q)
        simp [hlt, this]
    · simp only [if_neg e]; exact h

theorem put_other {t : T} {d : Option Tmp} {v : AV} {x : Nat} (h : d ≠ some x) : (put t d v)[x]? = t[x]? := by
  cases d with
  | none => rfl
  | some d =>
    have : d ≠ x := fun e => h (by rw [e])
    simp [put, setF_eq, List.getElem?_set, this]

theorem lastD_none {δ : Delta} {i : Nat} (h : i ∉ δ.map (·.1)) : lastD δ i = none := by
  induction δ with
  | nil => rfl
  | cons p r ih =>
    simp only [List.map_cons, List.mem_cons, not_or] at h
    simp only [lastD, ih h.2, if_neg h.1]

def tTouch (l : List Oper) (x : Nat) (j : Nat) : Bool := (l[j]?.bind (·.dst)) == some x
def hTouch (R : Trace) (id : Nat) (j : Nat) : Bool := ((R.getD j nothing).2.map (·.1)).contains id

theorem fold_t (l : List Oper) (R : Trace) (x : Nat) (L : List Nat) (st : T × Heap) : (L.foldl (fun s j => eff l R j s) st).1[x]? = ((L.filter (tTouch l x)).foldl (fun s j => eff l R j s) st).1[x]? :=
  fold_filter (eff l R) (fun s => s.1[x]?) (tTouch l x) (fun j s hj => put_other (by simpa [tTouch] using hj)) (fun j s s' h => put_get h) L st st rfl

theorem fold_h (l : List Oper) (R : Trace) (id : Nat) (L : List Nat) (st : T × Heap) : hat (L.foldl (fun s j => eff l R j s) st).2 id = hat ((L.filter (hTouch R id)).foldl (fun s j => eff l R j s) st).2 id :=
  fold_filter (eff l R) (fun s => hat s.2 id) (hTouch R id)
    (fun j s hj => by
      show hat (app s.2 _) id = _
      rw [hat_app, lastD_none (by simpa [hTouch] using hj)]; rfl)
    (fun j s s' h => by
      show hat (app s.2 _) id = hat (app s'.2 _) id
      rw [hat_app, hat_app, h]) L st st rfl

theorem fold_len (l : List Oper) (R : Trace) : ∀ (L : List Nat) (st : T × Heap), (L.foldl (fun s j => eff l R j s) st).1.length = st.1.length
  | [], st => rfl
  | j :: L, st => by
    rw [List.foldl_cons, fold_len l R L]
    show (put st.1 _ _).length = _
    cases (l[j]?.bind (·.dst)) with
    | none => rfl
    | some d => simp [put, setF_eq]

theorem lookTmp {ops : Array Oper} {o : Oper} {x : Operand} (hx : x ∈ o.op.operands) {t : Nat} (he : x = .tmp t) : t ∈ o.looksAt ops := by
  subst he
  exact List.mem_append_left _ (List.mem_filterMap.2 ⟨.tmp t, by simpa using hx, rfl⟩)

theorem lookGuard {ops : Array Oper} {o : Oper} {j : Nat} {want : Bool} (hg : o.guard = some (j, want)) {d : Nat} (hd : (ops[j]?).bind (·.dst) = some d) : d ∈ o.looksAt ops := by
  unfold Oper.looksAt
  refine List.mem_append_right _ ?_
  simp [hg, hd]

theorem awanted_congr {ops : Array Oper} {o : Oper} {t t' : T} (h : ∀ x ∈ o.looksAt ops, t[x]? = t'[x]?) : awanted ops t o = awanted ops t' o := by
  unfold awanted
  cases hg : o.guard with
  | none => rfl
  | some p =>
    obtain ⟨j, want⟩ := p
    simp only
    cases hd : (ops[j]?).bind (·.dst) with
    | none => rfl
    | some d => simp only [nth_eq, h d (lookGuard hg hd)]

theorem reachGo_mono {h h' : Heap} (hs : Sub h h') : ∀ (n : Nat) (q acc : List Nat), (∀ i ∈ reachGo h n q acc, nf h i) → reachGo h' n q acc = reachGo h n q acc
  | 0, q, acc, _ => rfl
  | n + 1, [], acc, _ => rfl
  | n + 1, i :: q, acc, hall => by
    have sub : ∀ (m : Nat) (q acc : List Nat), ∀ x ∈ acc, x ∈ reachGo h m q acc := by
      intro m
      induction m with
      | zero => intro q acc x hx; exact hx
      | succ m ih =>
        intro q acc x hx
        cases q with
        | nil => exact hx
        | cons y q =>
          simp only [reachGo]
          split
          · exact ih _ _ x hx
          · exact ih _ _ x (by simp [hx])
    simp only [reachGo] at hall ⊢
    by_cases hc : acc.contains i = true
    · rw [if_pos hc] at hall ⊢
      rw [if_pos hc]
      exact reachGo_mono hs n q acc hall
    · rw [if_neg hc] at hall ⊢
      rw [if_neg hc]
      have hi : nf h i := hall i (sub _ _ _ i (by simp))
      have he : hat h' i = hat h i := hs i hi
      rw [he]
      exact reachGo_mono hs n _ _ hall

theorem pick_mono {h h' : Heap} (hs : Sub h h') (ids0 : List Nat) : ∀ (ids : List Nat), (∀ i ∈ ids, nf h i) → pick ids0 h' ids = pick ids0 h ids
  | [], _ => rfl
  | i :: r, hall => by
    simp only [pick]
    rw [hs i (hall i (by simp)), pick_mono hs ids0 r fun j hj => hall j (by simp [hj])]

theorem acall_mono {P : Program} {rec : Rec} {fo : Option Forced} {wd s : Nat} {h h' : Heap} (hs : Sub h h') {g : FuncId} {args : List AV} {r : AV × Delta × Obs} (hv : acall P rec fo wd s h g args = some r) : acall P rec fo wd s h' g args = some r := by
  unfold acall at hv
  split at hv
  · rename_i args' foot hren hpick
    split at hv
    · rename_i hc
      have hnf : ∀ i ∈ reach h args, nf h i := fun i hi => nfB_spec.1 (List.all_eq_true.1 hc.2 i hi)
      have he : reach h' args = reach h args := reachGo_mono hs _ _ _ hnf
      unfold acall
      rw [he, hren, pick_mono hs _ _ hnf, hpick]
      have hall : (reach h args).all (nfB h') = true := List.all_eq_true.2 fun i hi => nfB_spec.2 (hs.nf (hnf i hi))
      simp only
      rw [if_pos ⟨hc.1, hall⟩]
      exact hv
    · cases hv
  · cases hv

theorem ostep_mono {S : Sys} {rec : Rec} {F : List (Nat × Forced)} {wd i s : Nat} {t t' : T} {h h' : Heap} {o : Oper} (hs : Sub h h') (ht : ∀ x ∈ o.op.operands, ev t x = ev t' x) {v : AV} {δ : Delta} {obs : Obs} (ho : obs.all)
    (hv : ostep S rec F wd i s t h o = some (v, δ, obs)) : ∃ obs' : Obs, obs'.all ∧ ostep S rec F wd i s t' h' o = some (v, δ, obs') := by
  unfold ostep at hv ⊢
  split at hv
  · rename_i f args ts hop
    have hf : ev t f = ev t' f := ht f (by rw [hop]; simp [Op.operands, Call.operands])
    have ha : evs t args.toList = evs t' args.toList := evs_congr fun x hx => ht x (by rw [hop]; simp only [Op.operands, Call.operands, Array.mem_append]; exact .inr (by simpa using hx))
    rw [← hf, ← ha]
    split at hv
    · rename_i g cap as h1 h2
      refine ⟨obs, ho, ?_⟩
      split at hv
      · exact hv
      · split at hv
        · split at hv
          · rename_i hb
            first | (rw [if_pos hb]; exact acall_mono hs hv) | exact acall_mono hs hv
          · cases hv
        · cases hv
    · cases hv
  · rename_i hne
    split at hv
    · rename_i v' δ' hF
      simp only [Option.some.injEq, Prod.mk.injEq] at hv
      obtain ⟨rfl, rfl, rfl⟩ := hv
      have h0 := ho _ (.head _)
      rw [aop_congr ht] at h0
      have h1 := aop_mono hs h0
      refine ⟨[aop S.P s t' h' o = some (v', δ')], fun p hp => by simp only [List.mem_singleton] at hp; subst hp; exact h1, rfl⟩
    · rename_i hF
      simp only [Option.map_eq_some_iff, Prod.mk.injEq] at hv
      obtain ⟨⟨u, d⟩, hu, rfl, rfl, rfl⟩ := hv
      rw [aop_congr ht] at hu
      have h1 := aop_mono hs hu
      exact ⟨[], ho, by simp [h1]⟩

theorem nodup_len : ∀ (n : Nat) (L : List Nat), L.Nodup → (∀ j ∈ L, j < n) → L.length ≤ n
  | 0, L, _, h => by
    cases L with
    | nil => simp
    | cons x r => have := h x (by simp); omega
  | n + 1, L, hnd, h => by
    by_cases hm : n ∈ L
    · have h1 := nodup_len n (L.erase n) (hnd.erase n) (fun j hj => by
        rw [hnd.mem_erase_iff] at hj
        have := h j hj.2
        omega)
      rw [List.length_erase_of_mem hm] at h1
      omega
    · have h1 := nodup_len n L hnd (fun j hj => by
        have := h j hj
        have : j ≠ n := fun e => hm (e ▸ hj)
        omega)
      omega

/-- **Whatever order is drawn, the region comes to what the order of its text comes to.** -/
theorem draw_sound {S : Sys} (hS : SysOK S) {rec : Rec} (hrec : RecOK S.P rec) {F : List (Nat × Forced)} {Es : List (List Nat)} {ops : Array Oper} {base : Nat} (hstat : staticOK ops = true) {t t' : T} {h h' : Heap} {R : Trace} {obs : Obs}
    (hrun : drawRun S rec F Es ops base ops.toList 0 t h = some (t', h', R, obs)) (ho : obs.all) (hdyn : dynOK (bef ops.toList []) ops.size base Es (R.map fun r => r.2.map (·.1)) = true) (hbase : h.length ≤ base)
    {σ : Sg} {w : World} {a : Act} (hr : Rel σ h w) (ht : TRel σ h t a.tmps) {Q : Exit → Act → World → Prop}
    (hQ : ∀ σ' w' a', Step σ h w σ' h' w' → TRel σ' h' t' a'.tmps → a'.defers = a.defers → Q .normal a' w') : wpAny S.P .any ops Q ops.size (Array.replicate ops.size false) a w := by
  obtain ⟨hlt, hap⟩ := staticOK_spec hstat
  obtain ⟨hRl, hfin, hstep⟩ := drawRun_spec ops.toList 0 t h t' h' R obs hrun ho
  have hRl' : R.length = ops.size := by simpa using hRl
  have hws : ∀ j, (R.map fun r => r.2.map (·.1)).getD j [] = (R.getD j nothing).2.map (·.1) := fun j => by
    simp only [List.getD, List.getElem?_map]
    cases R[j]? with
    | none => rfl
    | some r => rfl
  obtain ⟨hown, hdis⟩ := dynOK_spec hdyn (fun j hj => by rw [hws]; simp [List.getD, List.getElem?_eq_none (show R.length ≤ j by omega), nothing])
  simp only [hws] at hown hdis
  -- one order against the text's
  let B := bef ops.toList []
  let l := ops.toList
  have hord : ∀ {D : Nat → Prop}, (∀ (j : Nat) o, ops[j]? = some o → D j → ∀ e ∈ o.after, bindsB e = true → D e.on) → ∀ {j i : Nat}, j < ops.size → ordB B i j = true → (∀ o, ops[j]? = some o → ∀ e ∈ o.after, bindsB e = true → D e.on) → D i := fun {D} hD {j i} hj h1 h2 => ord_closed hD hlt (j + 1) j i (by omega) hj h1 h2
  have hltord : ∀ {i j : Nat}, j < ops.size → ordB B i j = true → i < j := fun {i j} hj h1 =>
    hord (D := fun x => x < j) (fun k o hk hkj e he hb => by have := hlt k o hk e he hb; omega) hj h1 (fun o ho e he hb => hlt j o ho e he hb)
  have sortT : ∀ (L : List Nat), L.Nodup → (∀ j ∈ L, j < ops.size) → L.Pairwise (fun a b => ordB B b a = false) → ∀ x, (L.filter (tTouch l x)).Pairwise (· < ·) := fun L hnd hb hp x => by
    rw [List.pairwise_filter]
    refine (List.Pairwise.and_mem.1 (List.pairwise_and_iff.2 ⟨hp, hnd⟩)).imp ?_
    rintro a b ⟨ha, hb', hab, hne⟩ ta tb
    have hna := hb a ha
    have hnb := hb b hb'
    have oa : ops[a]? = some ops[a] := Array.getElem?_eq_getElem hna
    have ob : ops[b]? = some ops[b] := Array.getElem?_eq_getElem hnb
    have da : ops[a].dst = some x := by simpa [tTouch, l, oa] using ta
    have db : ops[b].dst = some x := by simpa [tTouch, l, ob] using tb
    rcases Nat.lt_trichotomy a b with q | q | q
    · exact q
    · exact absurd q hne
    · rcases hap b a _ _ ob oa q with h1 | h1
      · have : ordB B b a = true := h1
        rw [hab] at this; cases this
      · exact absurd da ((Oper.apart_spec h1).2.1 x db)
  have sortH : ∀ (L : List Nat), L.Nodup → (∀ j ∈ L, j < ops.size) → L.Pairwise (fun a b => ordB B b a = false) → ∀ id, (L.filter (hTouch R id)).Pairwise (· < ·) := fun L hnd hb hp id => by
    rw [List.pairwise_filter]
    refine (List.Pairwise.and_mem.1 (List.pairwise_and_iff.2 ⟨hp, hnd⟩)).imp ?_
    rintro a b ⟨ha, hb', hab, hne⟩ ta tb
    have hna := hb a ha
    have hnb := hb b hb'
    rcases Nat.lt_trichotomy a b with q | q | q
    · exact q
    · exact absurd q hne
    · have ta' : id ∈ (R.getD a nothing).2.map (·.1) := by simpa [hTouch] using ta
      have tb' : id ∈ (R.getD b nothing).2.map (·.1) := by simpa [hTouch] using tb
      rcases hdis a b id hna hne tb' with h1 | h1 | h1
      · have := hltord hnb h1; omega
      · have : ordB B b a = true := h1
        rw [hab] at this; cases this
      · exact absurd ta' h1.2
  have rangeP : ∀ n, n ≤ ops.size → (List.range n).Pairwise (fun a b => ordB B b a = false) := fun n hn => by
    refine (List.Pairwise.and_mem.1 List.pairwise_lt_range).imp ?_
    rintro a b ⟨ha, hb, hab⟩
    cases hh : ordB B b a with
    | false => rfl
    | true => have := hltord (by simp at ha; omega) hh; omega
  -- the walk
  suffices hmain : ∀ (fuel : Nat) (L : List Nat) (listed : Array Bool) (a1 : Act) (σ1 : Sg) (w1 : World), L.Nodup → (∀ j ∈ L, j < ops.size) → L.Pairwise (fun a b => ordB B b a = false) →
      (∀ (j : Nat) o, ops[j]? = some o → j ∈ L → ∀ e ∈ o.after, bindsB e = true → e.on ∈ L) → listed.size = ops.size → (∀ j, j < ops.size → (listed.getD j true = true ↔ j ∈ L)) → fuel + L.length = ops.size →
      Step σ h w σ1 (L.foldl (fun s j => eff l R j s) (t, h)).2 w1 → TRel σ1 (L.foldl (fun s j => eff l R j s) (t, h)).2 (L.foldl (fun s j => eff l R j s) (t, h)).1 a1.tmps → a1.defers = a.defers →
      wpAny S.P .any ops Q fuel listed a1 w1 by
    exact hmain ops.size [] _ a σ w List.nodup_nil (by simp) List.Pairwise.nil (by simp) (by simp) (fun j hj => by simp [hj]) (by simp) (Step.refl hr) ht rfl
  -- all have come up
  have finish : ∀ (L : List Nat) (a1 : Act) (σ1 : Sg) (w1 : World), L.Nodup → (∀ j ∈ L, j < ops.size) → L.Pairwise (fun a b => ordB B b a = false) → (∀ j, j < ops.size → j ∈ L) →
      Step σ h w σ1 (L.foldl (fun s j => eff l R j s) (t, h)).2 w1 → TRel σ1 (L.foldl (fun s j => eff l R j s) (t, h)).2 (L.foldl (fun s j => eff l R j s) (t, h)).1 a1.tmps → a1.defers = a.defers → Q .normal a1 w1 := fun L a1 σ1 w1 hnd hb hp hall hst htr hdf => by
    have hmem : ∀ j, j ∈ L ↔ j ∈ List.range ops.size := fun j => ⟨fun hj => List.mem_range.2 (hb j hj), fun hj => hall j (List.mem_range.1 hj)⟩
    have hfin' : (t', h') = (List.range ops.size).foldl (fun s j => eff l R j s) (t, h) := by
      rw [hfin]; unfold stAt; simp [l]
    have eT : ∀ x, (L.foldl (fun s j => eff l R j s) (t, h)).1[x]? = t'[x]? := fun x => by
      have : t' = ((List.range ops.size).foldl (fun s j => eff l R j s) (t, h)).1 := by rw [← hfin']
      rw [this, fold_t l R x L, fold_t l R x (List.range ops.size),
        sorted_ext _ _ (sortT L hnd hb hp x) (sortT _ List.nodup_range (fun j hj => List.mem_range.1 hj) (rangeP _ (Nat.le_refl _)) x) (fun z => by simp only [List.mem_filter, hmem z])]
    have eH : ∀ id, hat (L.foldl (fun s j => eff l R j s) (t, h)).2 id = hat h' id := fun id => by
      have : h' = ((List.range ops.size).foldl (fun s j => eff l R j s) (t, h)).2 := by rw [← hfin']
      rw [this, fold_h l R id L, fold_h l R id (List.range ops.size),
        sorted_ext _ _ (sortH L hnd hb hp id) (sortH _ List.nodup_range (fun j hj => List.mem_range.1 hj) (rangeP _ (Nat.le_refl _)) id) (fun z => by simp only [List.mem_filter, hmem z])]
    have eT' : (L.foldl (fun s j => eff l R j s) (t, h)).1 = t' := List.ext_getElem? eT
    rw [eT'] at htr
    have hn : ∀ i, nf (L.foldl (fun s j => eff l R j s) (t, h)).2 i ↔ nf h' i := fun i => by unfold nf; rw [eH i]
    have hrel : Rel σ1 h' w1 := Rel.of (fun i => by rw [← eH i]; exact (hst.rel.says i).congr (fun _ _ => rfl) (fun i hi => (hn i).1 hi)) (fun i rs hi r hm row hrow j a hj ha => hst.rel.rinj i rs (by rw [eH i]; exact hi) r hm row hrow j a (by rw [eH j]; exact hj) ha)
      (fun i j x y hi hj => hst.rel.inj i j x y (by rw [eH i]; exact hi) (by rw [eH j]; exact hj))
    refine hQ σ1 w1 a1 ⟨hrel, hst.agree, fun i hi => (hn i).1 (hst.keeps i hi), hst.os, hst.tape, hst.output, hst.size, hst.frame, fun r ⟨i, x, hb, q⟩ => hst.owns r ⟨i, x, by rw [eH i]; exact hb, q⟩, fun r hr' => hst.alls r (by
      rcases hr' with ⟨i, x, hb, q⟩ | ⟨i, rs, hb, q⟩
      · exact .inl ⟨i, x, by rw [eH i]; exact hb, q⟩
      · exact .inr ⟨i, rs, by rw [eH i]; exact hb, q⟩)⟩ ?_ hdf
    exact ⟨htr.1, fun i v hv => ⟨(htr.2 i v hv).1, AV.inn_mono (fun k hk => (hn k).1 hk) v (htr.2 i v hv).2⟩⟩
  intro fuel
  induction fuel with
  | zero =>
    intro L listed a1 σ1 w1 hnd hb hp hcl hsz hli hfu hst htr hdf
    have hall : ∀ j, j < ops.size → j ∈ L := fun j hj => by
      refine Classical.byContradiction fun hn => ?_
      have := nodup_len ops.size (j :: L) (List.nodup_cons.2 ⟨hn, hnd⟩) (fun k hk => by rcases List.mem_cons.1 hk with rfl | hk; exact hj; exact hb k hk)
      simp at this; omega
    refine ⟨?_, finish L a1 σ1 w1 hnd hb hp hall hst htr hdf⟩
    rw [List.eq_nil_iff_forall_not_mem]
    intro j hj
    obtain ⟨h1, o, h2, -⟩ := mem_ready.1 hj
    have hjn : j < ops.size := (Array.getElem?_eq_some_iff.1 h2).1
    rw [(hli j hjn).2 (hall j hjn)] at h1
    cases h1
  | succ fuel ih =>
    intro L listed a1 σ1 w1 hnd hb hp hcl hsz hli hfu hst htr hdf
    have hli' : ∀ k, k < ops.size → (listed.getD k false = true ↔ k ∈ L) := fun k hk => by
      rw [← hli k hk]
      have : k < listed.size := by omega
      simp [this]
    refine ⟨fun hr0 => ?_, fun i hi => ?_⟩
    · refine finish L a1 σ1 w1 hnd hb hp ?_ hst htr hdf
      intro j
      induction j using Nat.strongRecOn with
      | _ j ihj =>
        intro hj
        refine Classical.byContradiction fun hn => ?_
        have oj : ops[j]? = some ops[j] := Array.getElem?_eq_getElem hj
        have : j ∈ Region.ready .any ops listed := mem_ready.2 ⟨by
            cases hh : listed.getD j true with
            | false => rfl
            | true => exact absurd ((hli j hj).1 hh) hn,
          ops[j], oj, fun e he hbd => by
            have hlte := hlt j _ oj e he hbd
            exact (hli' e.on (by omega)).2 (ihj e.on hlte (by omega))⟩
        rw [hr0] at this; cases this
    · obtain ⟨h1, o, h2, h3⟩ := mem_ready.1 hi
      have hin : i < ops.size := (Array.getElem?_eq_some_iff.1 h2).1
      have hiL : i ∉ L := fun hm => by rw [(hli i hin).2 hm] at h1; cases h1
      have hpre : ∀ e ∈ o.after, bindsB e = true → e.on ∈ L := fun e he hbd => by
        have hlte := hlt i o h2 e he hbd
        exact (hli' e.on (by omega)).1 (h3 e he hbd)
      have hpre' : ∀ o', ops[i]? = some o' → ∀ e ∈ o'.after, bindsB e = true → e.on ∈ L := fun o' ho' => by
        rw [h2] at ho'; cases ho'; exact hpre
      have before_mem : ∀ j, ordB B j i = true → j ∈ L := fun j hj => hord (D := fun x => x ∈ L) hcl hin hj hpre'
      have after_not : ∀ j ∈ L, ordB B i j = false := fun j hj => by
        cases hh : ordB B i j with
        | false => rfl
        | true => exact absurd (hord (D := fun x => x ∈ L) hcl (hb j hj) hh (fun o' ho' e he hbd => hcl j o' ho' hj e he hbd)) hiL
      have hrg : ∀ z, z ∈ List.range i ↔ z < i := fun z => List.mem_range
      -- (A)
      have hA : ∀ x ∈ o.looksAt ops, (L.foldl (fun s j => eff l R j s) (t, h)).1[x]? = (stAt l R i (t, h)).1[x]? := fun x hx => by
        unfold stAt
        suffices hm : ∀ z, z ∈ L.filter (tTouch l x) ↔ z ∈ (List.range i).filter (tTouch l x) by
          rw [fold_t l R x L, fold_t l R x (List.range i),
            sorted_ext _ _ (sortT L hnd hb hp x) (sortT _ List.nodup_range (fun j hj => by have := List.mem_range.1 hj; omega) (rangeP _ (by omega)) x) hm]
        intro z
        simp only [List.mem_filter, hrg z]
        constructor
        · rintro ⟨q1, q2⟩
          refine ⟨?_, q2⟩
          have hz := hb z q1
          have oz : ops[z]? = some ops[z] := Array.getElem?_eq_getElem hz
          have dz : ops[z].dst = some x := by simpa [tTouch, l, oz] using q2
          rcases Nat.lt_trichotomy z i with q | q | q
          · exact q
          · exact absurd (q ▸ q1) hiL
          · rcases hap i z _ _ h2 oz q with g | g
            · have g' : ordB B i z = true := g
              rw [after_not z q1] at g'; cases g'
            · exact absurd hx ((Oper.apart_spec g).2.2 x dz)
        · rintro ⟨q1, q2⟩
          refine ⟨?_, q2⟩
          have oz : ops[z]? = some ops[z] := Array.getElem?_eq_getElem (by omega)
          have dz : ops[z].dst = some x := by simpa [tTouch, l, oz] using q2
          rcases hap z i _ _ oz h2 q1 with g | g
          · exact before_mem z g
          · exact absurd hx ((Oper.apart_spec g).1 x dz)
      -- (B)
      have hB : Sub (hide (Es.getD i []) (stAt l R i (t, h)).2) (L.foldl (fun s j => eff l R j s) (t, h)).2 := fun id hid => by
        rw [hat_hide] at hid ⊢
        split at hid
        · exact absurd rfl hid
        · rename_i hE
          rw [if_neg hE]
          have hE' : id ∉ Es.getD i [] := by simpa using hE
          unfold stAt
          suffices hm : ∀ z, z ∈ L.filter (hTouch R id) ↔ z ∈ (List.range i).filter (hTouch R id) by
            rw [fold_h l R id L, fold_h l R id (List.range i),
              sorted_ext _ _ (sortH L hnd hb hp id) (sortH _ List.nodup_range (fun j hj => by have := List.mem_range.1 hj; omega) (rangeP _ (by omega)) id) hm]
          intro z
          simp only [List.mem_filter, hrg z]
          constructor
          · rintro ⟨q1, q2⟩
            refine ⟨?_, q2⟩
            have tz : id ∈ (R.getD z nothing).2.map (·.1) := by simpa [hTouch] using q2
            have hne : i ≠ z := fun e => hiL (e ▸ q1)
            rcases hdis i z id hin hne tz with g | g | g
            · have g' : ordB B i z = true := g
              rw [after_not z q1] at g'; cases g'
            · exact hltord hin g
            · exact absurd g.1 hE'
          · rintro ⟨q1, q2⟩
            refine ⟨?_, q2⟩
            have tz : id ∈ (R.getD z nothing).2.map (·.1) := by simpa [hTouch] using q2
            rcases hdis i z id hin (by omega) tz with g | g | g
            · have := hltord (by omega) g; omega
            · exact before_mem z g
            · exact absurd g.1 hE'
      -- (C)
      have hC : ∀ k, base + 4 * (0 + i) ≤ k → k < base + 4 * (0 + i) + 4 → ¬ nf (L.foldl (fun s j => eff l R j s) (t, h)).2 k := fun k hk1 hk2 => by
        have hnone : L.filter (hTouch R k) = [] := by
          rw [List.filter_eq_nil_iff]
          intro z hz htz
          have tz : k ∈ (R.getD z nothing).2.map (·.1) := by simpa [hTouch] using htz
          have hdiv : (k - base) / 4 = i := by omega
          rcases hown z k tz with g | g | g
          · omega
          · exact hiL (by rw [← hdiv, g]; exact hz)
          · rw [hdiv] at g
            have g' : ordB B i z = true := g
            rw [after_not z hz] at g'; cases g'
        unfold nf
        rw [fold_h l R k L, hnone]
        simp only [List.foldl_nil]
        have := free_len h k (by omega)
        exact this
      have hev : ∀ x ∈ o.op.operands, ev (stAt l R i (t, h)).1 x = ev (L.foldl (fun s j => eff l R j s) (t, h)).1 x := fun x hx => by
        cases x with
        | tmp k => simp only [ev, nth_eq]; rw [hA k (lookTmp hx rfl)]
        | _ => rfl
      have hfold : (L ++ [i]).foldl (fun s j => eff l R j s) (t, h) = eff l R i (L.foldl (fun s j => eff l R j s) (t, h)) := by
        rw [List.foldl_append]; rfl
      have hli2 : l[i]? = some o := by simpa [l] using h2
      have next : ∀ (v : AV) (δ : Delta), R.getD i nothing = (v, δ) → ∀ (σ2 : Sg) (w2 : World), Step σ1 (L.foldl (fun s j => eff l R j s) (t, h)).2 w1 σ2 (app (L.foldl (fun s j => eff l R j s) (t, h)).2 δ) w2 → v.inn (nf (app (L.foldl (fun s j => eff l R j s) (t, h)).2 δ)) →
          wpAny S.P .any ops Q fuel (listed.setIfInBounds i true) (a1.put o.dst (conc σ2 v)) w2 := fun v δ hR σ2 w2 hst2 hvin => by
        have he : (L ++ [i]).foldl (fun s j => eff l R j s) (t, h) = (put (L.foldl (fun s j => eff l R j s) (t, h)).1 o.dst v, app (L.foldl (fun s j => eff l R j s) (t, h)).2 δ) := by
          rw [hfold]; unfold eff; rw [hR, hli2]; rfl
        refine ih (L ++ [i]) _ _ σ2 w2 ?_ ?_ ?_ ?_ (by simpa using hsz) ?_ (by simp; omega) ?_ ?_ ?_
        · rw [List.nodup_append]
          exact ⟨hnd, by simp, fun x hx y hy => by simp at hy; subst hy; exact fun e => hiL (e ▸ hx)⟩
        · intro j hj
          rcases List.mem_append.1 hj with hj | hj
          · exact hb j hj
          · simp at hj; subst hj; exact hin
        · rw [List.pairwise_append]
          exact ⟨hp, by simp, fun x hx y hy => by simp at hy; subst hy; exact after_not x hx⟩
        · intro j o' ho' hj e he' hbd
          rcases List.mem_append.1 hj with hj | hj
          · exact List.mem_append.2 (.inl (hcl j o' ho' hj e he' hbd))
          · simp at hj; subst hj
            exact List.mem_append.2 (.inl (hpre' o' ho' e he' hbd))
        · intro j hj
          by_cases e : i = j
          · subst e
            simp [hsz, hj]
          · rw [getD_set_ne true e, hli j hj]
            simp [Ne.symm e]
        · rw [he]; exact hst.trans hst2
        · rw [he]; exact (htr.step hst2).put _ hvin
        · rw [← hdf]; cases o.dst <;> rfl
      unfold wpOp
      simp only [h2]
      rcases hstep i o hli2 with ⟨hw1, ob, hob, hos⟩ | ⟨hw1, hRn⟩
      · rw [awanted_congr (fun x hx => (hA x hx).symm)] at hw1
        rw [if_pos (awanted_sound hw1 htr)]
        left
        simp only [Nat.zero_add] at hos hC
        obtain ⟨ob2, hob2, hos2⟩ := ostep_mono hB hev hob hos
        exact ostep_sound hS hrec hos2 hob2 hst.rel htr (by omega) hC fun σ2 w2 hst2 hvin => next _ _ rfl σ2 w2 hst2 hvin
      · rw [awanted_congr (fun x hx => (hA x hx).symm)] at hw1
        rw [if_neg (by rw [awanted_sound hw1 htr]; simp)]
        exact next (.raw undef) [] hRn σ1 w1 (Step.refl hst.rel) trivial

end Go.Ab
