import Derived.Test.YtjjnjogmplbjoaaAbStep
set_option linter.unusedSimpArgs false
set_option linter.unusedVariables false
namespace Go.Ab

abbrev T := List (Option AV)

noncomputable def awanted (ops : Array Oper) (t : T) (o : Oper) : Option Bool :=
  match o.guard with
  | none => some true
  | some (j, want) =>
    match (ops[j]?).bind (·.dst) with
    | some d => match nth t d with | some (some (.raw (.bool b))) => some (b == want) | some (some (.raw _)) => some false | _ => none
    | none => some false

theorem awanted_sound {ops : Array Oper} {t : T} {o : Oper} {b : Bool} (hw : awanted ops t o = some b) {σ : Sg} {h : Heap} {a : Act} (ht : TRel σ h t a.tmps) : Region.wanted o (yielded ops a.tmps) = b := by
  unfold awanted at hw
  unfold Region.wanted
  split at hw
  · rename_i hg
    simp only [Option.some.injEq] at hw; subst hw; simp [hg]
  · rename_i j want hg
    simp only [hg]
    unfold yielded
    split at hw
    · rename_i d hd
      rw [hd]
      simp only [Option.bind_some]
      simp only [nth_eq] at hw
      split at hw
      · rename_i c hc
        simp only [Option.some.injEq] at hw; subst hw
        obtain ⟨h1, -⟩ := ht.2 d _ hc
        rw [h1]; simp [conc]
      · rename_i v hne hc
        simp only [Option.some.injEq] at hw; subst hw
        obtain ⟨h1, -⟩ := ht.2 d _ hc
        rw [h1]
        simp only [conc]
        cases v with
        | bool b => exact (hne b rfl).elim
        | _ => rfl
      · cases hw
    · rename_i hd
      simp only [Option.some.injEq] at hw; subst hw
      rw [hd]; rfl

/-! ### a region in the order of its text -/
noncomputable def seqRun (S : Sys) (rec : Rec) (F : List (Nat × Forced)) (ops : Array Oper) : List Oper → Nat → T → Heap → Option (T × Heap × Obs)
  | [], _, t, h => some (t, h, [])
  | o :: rest, i, t, h =>
    match awanted ops t o with
    | some true =>
      match ostep S rec F 1000000 i h.length t h o with
      | some (v, δ, obs) =>
        match seqRun S rec F ops rest (i + 1) (put t o.dst v) (app h δ) with
        | some (t', h', obs') => some (t', h', obs ++ obs')
        | none => none
      | none => none
    | some false => seqRun S rec F ops rest (i + 1) (put t o.dst (.raw undef)) h
    | none => none

theorem free_len (h : Heap) (i : Nat) (hi : h.length ≤ i) : ¬ nf h i := by
  unfold nf
  rw [hat_eq]
  simp [List.getD, List.getElem?_eq_none hi]

theorem seqRun_sound {S : Sys} (hS : SysOK S) {rec : Rec} (hrec : RecOK S.P rec) {F : List (Nat × Forced)} {ops : Array Oper} {Q : Exit → Act → World → Prop} : ∀ (l : List Oper) (i : Nat), ops.toList.drop i = l → ∀ {t : T} {h : Heap} {t' : T} {h' : Heap} {obs : Obs},
    seqRun S rec F ops l i t h = some (t', h', obs) → obs.all → ∀ {σ : Sg} {w : World} {a : Act}, Rel σ h w → TRel σ h t a.tmps →
    (∀ σ' w' a', Step σ h w σ' h' w' → TRel σ' h' t' a'.tmps → a'.defers = a.defers → Q .normal a' w') → wpOps S.P ops Q (List.range' i l.length) a w
  | [], i, _, t, h, t', h', obs, hv, _, σ, w, a, hr, ht, hQ => by
    simp only [seqRun, Option.some.injEq, Prod.mk.injEq] at hv
    obtain ⟨rfl, rfl, rfl⟩ := hv
    exact hQ σ w a (Step.refl hr) ht rfl
  | o :: rest, i, hd, t, h, t', h', obs, hv, ho, σ, w, a, hr, ht, hQ => by
    have hoi : ops[i]? = some o := by
      have : (ops.toList.drop i)[0]? = some o := by rw [hd]; rfl
      rw [List.getElem?_drop] at this
      simpa using this
    have hd' : ops.toList.drop (i + 1) = rest := by
      rw [← List.drop_drop, hd]; rfl
    simp only [List.length_cons, List.range'_succ, wpOps, hoi]
    simp only [seqRun] at hv
    split at hv
    · rename_i hw
      rw [if_pos (awanted_sound hw ht)]
      split at hv
      · rename_i v δ obs1 hstep
        split at hv
        · rename_i t2 h2 obs2 hrest
          simp only [Option.some.injEq, Prod.mk.injEq] at hv
          obtain ⟨rfl, rfl, rfl⟩ := hv
          obtain ⟨ho1, ho2⟩ := Obs.all_append.1 ho
          refine .inl (ostep_sound hS hrec hstep ho1 hr ht (by omega) (fun k hk _ => free_len h k hk) fun σ' w' hst hin => ?_)
          refine seqRun_sound hS hrec rest (i + 1) hd' hrest ho2 hst.rel ((ht.step hst).put _ hin) fun σ2 w2 a2 q1 q2 q3 => hQ σ2 w2 a2 (hst.trans q1) q2 ?_
          rw [q3]; cases o.dst <;> rfl
        · cases hv
      · cases hv
    · rename_i hw
      rw [if_neg (by rw [awanted_sound hw ht]; simp)]
      refine seqRun_sound hS hrec rest (i + 1) hd' hv ho hr (ht.put o.dst (v := .raw undef) trivial) fun σ2 w2 a2 q1 q2 q3 => hQ σ2 w2 a2 q1 q2 ?_
      rw [q3]; cases o.dst <;> rfl
    · cases hv

/-! ### a region whose order is open -/
theorem fold_filter {St V : Type} (eff : Nat → St → St) (get : St → V) (touch : Nat → Bool) (h1 : ∀ j s, touch j = false → get (eff j s) = get s) (h2 : ∀ j s s', get s = get s' → get (eff j s) = get (eff j s')) :
    ∀ (L : List Nat) (s s' : St), get s = get s' → get (L.foldl (fun s j => eff j s) s) = get ((L.filter touch).foldl (fun s j => eff j s) s')
  | [], s, s', h => h
  | j :: L, s, s', h => by
    simp only [List.foldl_cons, List.filter_cons]
    split
    · exact fold_filter eff get touch h1 h2 L _ _ (h2 j s s' h)
    · rename_i hj
      exact fold_filter eff get touch h1 h2 L _ _ ((h1 j s (by simpa using hj)).trans h)

theorem sorted_ext : ∀ (a b : List Nat), a.Pairwise (· < ·) → b.Pairwise (· < ·) → (∀ x, x ∈ a ↔ x ∈ b) → a = b
  | [], [], _, _, _ => rfl
  | [], y :: b, _, _, h => absurd ((h y).2 (by simp)) (by simp)
  | x :: a, [], _, _, h => absurd ((h x).1 (by simp)) (by simp)
  | x :: a, y :: b, ha, hb, h => by
    rw [List.pairwise_cons] at ha hb
    have e : x = y := by
      rcases List.mem_cons.1 ((h x).1 (by simp)) with e | hx
      · exact e
      · rcases List.mem_cons.1 ((h y).2 (by simp)) with e | hy
        · exact e.symm
        · have := hb.1 x hx; have := ha.1 y hy; omega
    subst e
    congr 1
    refine sorted_ext a b ha.2 hb.2 fun z => ⟨fun hz => ?_, fun hz => ?_⟩
    · rcases List.mem_cons.1 ((h z).1 (by simp [hz])) with e | q
      · have := ha.1 z hz; omega
      · exact q
    · rcases List.mem_cons.1 ((h z).2 (by simp [hz])) with e | q
      · have := hb.1 z hz; omega
      · exact q

def bindsB (e : Edge) : Bool := Region.binds .any e
def mask (acc : List Nat) (l : List Edge) : Nat := l.foldl (fun s e => if bindsB e then s ||| (2 ^ e.on ||| acc.getD e.on 0) else s) 0
def bef : List Oper → List Nat → List Nat
  | [], acc => acc
  | o :: r, acc => bef r (acc ++ [mask acc o.after.toList])

theorem mask_spec (acc : List Nat) (i : Nat) : ∀ (l : List Edge) (s : Nat), (l.foldl (fun s e => if bindsB e then s ||| (2 ^ e.on ||| acc.getD e.on 0) else s) s).testBit i = true → s.testBit i = true ∨ ∃ e ∈ l, bindsB e = true ∧ (e.on = i ∨ (acc.getD e.on 0).testBit i = true)
  | [], s, h => .inl h
  | e :: l, s, h => by
    simp only [List.foldl_cons] at h
    rcases mask_spec acc i l _ h with h | ⟨e', q1, q2⟩
    · split at h
      · rename_i hb
        rw [Nat.testBit_or, Nat.testBit_or, Nat.testBit_two_pow] at h
        simp only [Bool.or_eq_true, decide_eq_true_eq] at h
        rcases h with h | h | h
        · exact .inl h
        · exact .inr ⟨e, by simp, hb, .inl h⟩
        · exact .inr ⟨e, by simp, hb, .inr h⟩
      · exact .inl h
    · exact .inr ⟨e', by simp [q1], q2⟩

theorem bef_len : ∀ (l : List Oper) (acc : List Nat), (bef l acc).length = acc.length + l.length
  | [], acc => rfl
  | o :: r, acc => by simp only [bef]; rw [bef_len]; simp; omega

theorem bef_pre : ∀ (l : List Oper) (acc : List Nat) (k : Nat), k < acc.length → (bef l acc).getD k 0 = acc.getD k 0
  | [], acc, k, _ => rfl
  | o :: r, acc, k, h => by
    simp only [bef]
    rw [bef_pre r _ k (by simp; omega)]
    simp [List.getD, List.getElem?_append, h]

theorem bef_spec : ∀ (l : List Oper) (acc : List Nat) (j i : Nat) (o : Oper), l[j]? = some o → ((bef l acc).getD (acc.length + j) 0).testBit i = true →
    ∃ e ∈ o.after, bindsB e = true ∧ (e.on = i ∨ ((bef l acc).getD e.on 0).testBit i = true)
  | o' :: r, acc, 0, i, o, ho, h => by
    simp only [List.getElem?_cons_zero, Option.some.injEq] at ho; subst ho
    simp only [bef] at h ⊢
    have hlen : acc.length + 0 < (acc ++ [mask acc o'.after.toList]).length := by simp
    rw [bef_pre r _ _ hlen] at h
    simp only [Nat.add_zero, List.getD, List.getElem?_append_right (Nat.le_refl _), Nat.sub_self, List.getElem?_cons_zero, Option.getD_some] at h
    rcases mask_spec acc i _ 0 h with h | ⟨e, q1, q2, q3⟩
    · simp at h
    · refine ⟨e, by simpa using q1, q2, ?_⟩
      rcases q3 with q3 | q3
      · exact .inl q3
      · right
        have hlt : e.on < acc.length := by
          rcases Nat.lt_or_ge e.on acc.length with h' | h'
          · exact h'
          · simp [List.getD, List.getElem?_eq_none h'] at q3
        rw [bef_pre r _ _ (by simp; omega)]
        simpa [List.getD, List.getElem?_append, hlt] using q3
  | o' :: r, acc, j + 1, i, o, ho, h => by
    simp only [List.getElem?_cons_succ] at ho
    simp only [bef] at h ⊢
    have := bef_spec r (acc ++ [mask acc o'.after.toList]) j i o ho (by simpa [Nat.add_assoc, Nat.add_comm 1 j] using h)
    exact this
  | [], _, _, _, _, ho, _ => by simp at ho

/-- i comes before j, whatever order is drawn. -/
def ordB (B : List Nat) (i j : Nat) : Bool := (B.getD j 0).testBit i

theorem ord_closed {ops : Array Oper} {D : Nat → Prop} (hD : ∀ (j : Nat) o, ops[j]? = some o → D j → ∀ e ∈ o.after, bindsB e = true → D e.on) (hlt : ∀ (j : Nat) o, ops[j]? = some o → ∀ e ∈ o.after, bindsB e = true → e.on < j) :
    ∀ (n j i : Nat), j < n → j < ops.size → ordB (bef ops.toList []) i j = true → (∀ o, ops[j]? = some o → ∀ e ∈ o.after, bindsB e = true → D e.on) → D i
  | n + 1, j, i, hj, hjs, h, hpre => by
    have ho : ops[j]? = some ops[j] := Array.getElem?_eq_getElem hjs
    have ho' : ops.toList[j]? = some ops[j] := by simp [hjs]
    have := bef_spec ops.toList [] j i ops[j] ho' (by simpa [ordB] using h)
    obtain ⟨e, q1, q2, q3⟩ := this
    have hDe := hpre _ ho e q1 q2
    rcases q3 with q3 | q3
    · subst q3; exact hDe
    · have hle := hlt j _ ho e q1 q2
      exact ord_closed hD hlt n e.on i (by omega) (by omega) (by simpa [ordB] using q3) (fun o' ho' e' he' hb' => hD _ o' ho' hDe e' he' hb')

end Go.Ab
