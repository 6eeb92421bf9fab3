import Derived.Test.YtjjnjogmplbjoaaAbMono
set_option linter.unusedSimpArgs false
set_option linter.unusedVariables false
namespace Go.Ab

abbrev Obs := List Prop
def Obs.all (o : Obs) : Prop := ∀ p ∈ o, p

theorem Obs.all_append {a b : Obs} : Obs.all (a ++ b) ↔ Obs.all a ∧ Obs.all b := by
  simp only [Obs.all, List.mem_append]
  exact ⟨fun h => ⟨fun p hp => h p (.inl hp), fun p hp => h p (.inr hp)⟩, fun ⟨h1, h2⟩ p hp => hp.elim (h1 p) (h2 p)⟩

inductive Forced where
  | op (v : AV) (δ : Delta)
  | call (v : AV) (foot' : Heap)

mutual
def AV.ids : AV → List Nat
  | .raw _ => []
  | .ptr b _ => [b]
  | .slice b _ _ _ => [b]
  | .agg cs => idsL cs
  | .func _ cs => idsL cs
  | .tup vs => idsL vs
  | .map b => [b]
  | .iface _ v => v.ids
def idsL : List AV → List Nat
  | [] => []
  | v :: r => v.ids ++ idsL r
end

def idsE (es : List AEnt) : List Nat := es.flatMap fun e => e.key.ids ++ e.val.ids
def HB.out : HB → List Nat
  | .live b => if b.pl then [] else idsL b.cells
  | .obj (.mp es _) => idsE es
  | .obj (.mapIter (some m) _ _ _) => [m]
  | _ => []
noncomputable def reachGo (h : Heap) : Nat → List Nat → List Nat → List Nat
  | 0, _, acc => acc
  | _ + 1, [], acc => acc
  | n + 1, i :: q, acc =>
    if acc.contains i then reachGo h n q acc else
    reachGo h n (q ++ (hat h i).out) (acc ++ [i])

noncomputable def reach (h : Heap) (args : List AV) : List Nat := reachGo h 64 (idsL args) []

noncomputable def nfB (h : Heap) (i : Nat) : Bool := match hat h i with | .free => false | _ => true
theorem nfB_spec {h : Heap} {i : Nat} : nfB h i = true ↔ nf h i := by
  unfold nfB nf; cases hat h i <;> simp

def nodupB : List Nat → Bool
  | [] => true
  | x :: r => !r.contains x && nodupB r
theorem nodupB_spec : ∀ {l : List Nat}, nodupB l = true → l.Nodup
  | [], _ => List.nodup_nil
  | x :: r, h => by
    simp only [nodupB, Bool.and_eq_true, Bool.not_eq_true'] at h
    exact List.nodup_cons.2 ⟨by simpa using h.1, nodupB_spec h.2⟩

/-- Functions without a body of Go. -/
inductive Ext where
  | add64
  | sub64

def aext (k : Ext) (args : List AV) : Option (AV × Obs) :=
  match k, args with
  | .add64, [.raw (.int .u64 x), .raw (.int .u64 y), .raw (.int .u64 c)] =>
    some (.tup [.raw (.int .u64 ((x + y + c) % 18446744073709551616)), .raw (.int .u64 ((x + y + c) / 18446744073709551616))], [0 ≤ x ∧ 0 ≤ y ∧ 0 ≤ c ∧ c ≤ 1])
  | .sub64, [.raw (.int .u64 x), .raw (.int .u64 y), .raw (.int .u64 b)] =>
    some (.tup [.raw (.int .u64 ((x - y - b) % 18446744073709551616)), .raw (.int .u64 (-((x - y - b) / 18446744073709551616)))], [0 ≤ x ∧ x < 18446744073709551616 ∧ 0 ≤ y ∧ y < 18446744073709551616 ∧ 0 ≤ b ∧ b ≤ 1])
  | _, _ => none

def Ext.row : Ext → Array Value → Sem Value
  | .add64 => add64Entry
  | .sub64 => fun args => do
    let (x, y, b) ← Extern.MathBitsCarry.three "Sub64" args
    pure (Extern.MathBitsCarry.pair ((x + Extern.MathBitsCarry.m64 - y - b) % Extern.MathBitsCarry.m64) (if x < y + b then 1 else 0))

theorem run_sub64 {P : Program} (x y c : Int) (hx : 0 ≤ x) (hx' : x < 18446744073709551616) (hy : 0 ≤ y) (hy' : y < 18446744073709551616) (hc0 : 0 ≤ c) (hc : c ≤ 1) (w : World) :
    (Ext.row .sub64 #[.int .u64 x, .int .u64 y, .int .u64 c]).run P w =
      .ok (.tuple #[.int .u64 ((x - y - c) % 18446744073709551616), .int .u64 (-((x - y - c) / 18446744073709551616))]) w := by
  have key : ∀ k : Nat, k ≤ 1 → (Ext.row .sub64 #[.int .u64 x, .int .u64 y, .int .u64 (k : Int)]).run P w =
      .ok (Extern.MathBitsCarry.pair ((x.toNat + Extern.MathBitsCarry.m64 - y.toNat - k) % Extern.MathBitsCarry.m64) (if x.toNat < y.toNat + k then 1 else 0)) w := by
    intro k hk
    have : k = 0 ∨ k = 1 := by omega
    rcases this with rfl | rfl <;> rfl
  obtain ⟨k, rfl⟩ := Int.eq_ofNat_of_zero_le hc0
  rw [key k (by omega)]
  obtain ⟨X, rfl⟩ := Int.eq_ofNat_of_zero_le hx
  obtain ⟨Y, rfl⟩ := Int.eq_ofNat_of_zero_le hy
  simp only [Extern.MathBitsCarry.pair, Extern.MathBitsCarry.m64, Int.toNat_natCast]
  have e64 : (2:Nat) ^ 64 = 18446744073709551616 := rfl
  have h1 : Int.ofNat ((X + 2 ^ 64 - Y - k) % 2 ^ 64) = ((X : Int) - Y - k) % 18446744073709551616 := by
    rw [e64]; show ((_ : Nat) : Int) = _; omega
  have h2 : Int.ofNat (if X < Y + k then 1 else 0) = -(((X : Int) - Y - k) / 18446744073709551616) := by
    show ((_ : Nat) : Int) = _
    split <;> omega
  rw [h1, h2]

theorem aext_sound {P : Program} {k : Ext} {args : List AV} {v : AV} {obs : Obs} (h : aext k args = some (v, obs)) (ho : obs.all) (σ : Sg) (w : World) :
    (k.row (concs σ args).toArray).run P w = .ok (conc σ v) w ∧ ∀ p : Nat → Prop, v.inn p := by
  unfold aext at h
  split at h
  · rename_i x y c
    simp only [Option.some.injEq, Prod.mk.injEq] at h
    obtain ⟨rfl, rfl⟩ := h
    obtain ⟨h1, h2, h3, h4⟩ := ho _ (.head _)
    refine ⟨?_, fun p => ⟨trivial, trivial, trivial⟩⟩
    have := run_add64 (P := P) x y c h1 h2 h3 h4 w
    simp only [concs, conc, Ext.row]
    exact this
  · rename_i x y c
    simp only [Option.some.injEq, Prod.mk.injEq] at h
    obtain ⟨rfl, rfl⟩ := h
    obtain ⟨h1, h2, h3, h4, h5, h6⟩ := ho _ (.head _)
    refine ⟨?_, fun p => ⟨trivial, trivial, trivial⟩⟩
    have := run_sub64 (P := P) x y c h1 h2 h3 h4 h5 h6 w
    simp only [concs, conc]
    exact this
  · cases h

abbrev Rec := FuncId → List AV → Heap → Option (AV × Heap × Obs)

def RecOK (P : Program) (rec : Rec) : Prop := ∀ g args foot v foot' obs, rec g args foot = some (v, foot', obs) → Obs.all obs → CallOK P g args foot v foot'

noncomputable def acall (P : Program) (rec : Rec) (fo : Option Forced) (wd s : Nat) (h : Heap) (g : FuncId) (args : List AV) : Option (AV × Delta × Obs) :=
  match renL (pos (reach h args)) args, pick (reach h args) h (reach h args) with
  | some args', some foot =>
    if nodupB (reach h args) = true ∧ (reach h args).all (nfB h) = true then
      match (match fo with | some (.call v f') => some (v, f', [CallOK P g args' foot v f']) | _ => rec g args' foot) with
      | some (v, foot', obs) =>
        if foot'.length ≤ (reach h args).length + wd then
          match mergeGo (bkO (reach h args) s foot'.length) (bk (reach h args) s) foot' 0, renV (bkO (reach h args) s foot'.length) v with
          | some δ, some v' => some (v', δ, obs)
          | _, _ => none
        else none
      | none => none
    else none
  | _, _ => none

theorem acall_sound {P : Program} {rec : Rec} (hrec : RecOK P rec) {fo : Option Forced} {wd s : Nat} {h : Heap} {g : FuncId} {args : List AV} {v : AV} {δ : Delta} {obs : Obs} (hv : acall P rec fo wd s h g args = some (v, δ, obs)) (ho : obs.all)
    {σ : Sg} {w : World} (hr : Rel σ h w) (hargs : inns (nf h) args) (hfree : ∀ i, s ≤ i → i < s + wd → ¬ nf h i) :
    Calls P g (concs σ args).toArray w fun e w' => ∃ σ', e = .returned (conc σ' v) ∧ Step σ h w σ' (app h δ) w' ∧ v.inn (nf (app h δ)) := by
  unfold acall at hv
  split at hv
  · rename_i args' foot hren hpick
    split at hv
    · rename_i hc
      obtain ⟨hnd, hall⟩ := hc
      have hnd' := nodupB_spec hnd
      have hnf : ∀ i ∈ reach h args, nf h i := fun i hi => nfB_spec.1 (List.all_eq_true.1 hall i hi)
      split at hv
      · rename_i u foot' obs' hcall
        split at hv
        · rename_i hwd
          split at hv
          · rename_i δ' v' hm hrv
            simp only [Option.some.injEq, Prod.mk.injEq] at hv
            obtain ⟨rfl, rfl, rfl⟩ := hv
            have hok : CallOK P g args' foot u foot' := by
              split at hcall
              · simp only [Option.some.injEq, Prod.mk.injEq] at hcall
                obtain ⟨rfl, rfl, rfl⟩ := hcall
                exact ho _ (by simp)
              · exact hrec g args' foot u foot' _ hcall ho
            have hrel := rel_pick hr hnd' hpick
            have hin' : inns (nf foot) args' := renL_inn (fun i j hij hn => (pick_nf hpick (pos_spec hij)).2 hn) hren hargs
            have hcs : concs (selOf (reach h args) σ) args' = concs σ args := renL_conc (same_sel _ σ) hren
            have := hok (selOf (reach h args) σ) w hrel hin'
            rw [hcs] at this
            refine this.mono ?_
            rintro e w' ⟨σl', he, hst, hvin⟩
            obtain ⟨σ', h1, h2⟩ := call_merge hr hnd' hnf hpick (fun i q1 q2 => hfree i q1 (by omega)) hst hm
            obtain ⟨h3, h4⟩ := h2 u _ hvin hrv
            exact ⟨σ', by rw [he, h3], h1, h4⟩
          · cases hv
        · cases hv
      · cases hv
    · cases hv
  · cases hv

/-- What the executor is told of a program. -/
structure Sys where
  P : Program
  X : FuncId → Option Ext

structure SysOK (S : Sys) : Prop where
  mixed : S.P.follows .mixedOrders = true
  noNG : ∀ (g : Nat) fn, S.P.funcs[g]? = some fn → fn.name ≠ "runtime.NumGoroutine"
  ext : ∀ g k, S.X g = some k → ∃ fn, S.P.funcs[g]? = some fn ∧ fn.body.isNone = true ∧ Extern.findNext fn = none ∧ Extern.find fn = some k.row

noncomputable def ostep (S : Sys) (rec : Rec) (F : List (Nat × Forced)) (wd i s : Nat) (t : List (Option AV)) (h : Heap) (o : Oper) : Option (AV × Delta × Obs) :=
  match o.op with
  | .call { callee := .value f, args, .. } =>
    match ev t f, evs t args.toList with
    | some (.func g cap), some as =>
      match S.X g with
      | some k => (aext k (as ++ cap)).map fun r => (r.1, [], r.2)
      | none =>
        match S.P.funcs[g]? with
        | some fn => if fn.body.isSome then acall S.P rec (F.lookup i) wd s h g (as ++ cap) else none
        | none => none
    | _, _ => none
  | _ =>
    match F.lookup i with
    | some (.op v δ) => some (v, δ, [aop S.P s t h o = some (v, δ)])
    | _ => (aop S.P s t h o).map fun r => (r.1, r.2, [])

theorem concs_append (σ : Sg) (a b : List AV) : concs σ (a ++ b) = concs σ a ++ concs σ b := by simp [concs_eq]

theorem ostep_sound {S : Sys} (hS : SysOK S) {rec : Rec} (hrec : RecOK S.P rec) {F : List (Nat × Forced)} {wd i s : Nat} {t : List (Option AV)} {h : Heap} {o : Oper} {v : AV} {δ : Delta} {obs : Obs}
    (hv : ostep S rec F wd i s t h o = some (v, δ, obs)) (ho : obs.all) {σ : Sg} {w : World} (hr : Rel σ h w) {a : Act} (ht : TRel σ h t a.tmps) (hwd : 0 < wd) (hfree : ∀ i, s ≤ i → i < s + wd → ¬ nf h i)
    {K : Act → World → Prop} {Q : Exit → Act → World → Prop} (hK : ∀ σ' w', Step σ h w σ' (app h δ) w' → v.inn (nf (app h δ)) → K (a.put o.dst (conc σ' v)) w') : o.wp S.P a w K Q := by
  have plain : aop S.P s t h o = some (v, δ) → o.wp S.P a w K Q := fun hop => by
    obtain ⟨σ', w', hres, hst, hin⟩ := aop_sound hr ht (hfree s (Nat.le_refl _) (by omega)) hop
    unfold Oper.wp
    rcases hres with hres | ⟨hres, rfl⟩
    · rw [hres]; exact hK σ' w' hst hin
    · rw [hres]; exact hK σ' w' hst hin
  unfold ostep at hv
  split at hv
  · rename_i f args ts hop
    split at hv
    · rename_i g cap as hf has
      obtain ⟨h1, h1'⟩ := ev_sound ht hf
      obtain ⟨h2, h2'⟩ := evs_sound ht has
      have hargs : args.map a.eval = (concs σ as).toArray := by apply Array.ext'; simpa using h2
      have hexec : (execOp a.eval o).run S.P w = (callFunc g (concs σ (as ++ cap)).toArray).run S.P w := by
        unfold execOp
        simp only [hop, resolve, h1, conc, Deferred.ofValue, hargs, Sem.run_bind, Sem.run_pure, Result.andThen_ok, invoke, concs_append]
        simp
      unfold Oper.wp
      rw [hexec]
      split at hv
      · rename_i k hk
        simp only [Option.map_eq_some_iff, Prod.mk.injEq] at hv
        obtain ⟨⟨u, ob⟩, hu, rfl, rfl, rfl⟩ := hv
        obtain ⟨fn, q1, q2, q3, q4⟩ := hS.ext g k hk
        obtain ⟨e1, e2⟩ := aext_sound (P := S.P) hu ho σ w
        rw [run_callFunc_extern q1 (by simpa using hS.noNG g fn q1) q2 q3 q4, e1]
        exact hK σ w (Step.refl hr) (e2 _)
      · rename_i hk
        split at hv
        · rename_i fn hfn
          split at hv
          · rename_i hb
            have hin : inns (nf h) (as ++ cap) := (inns_iff _ _).2 fun c hc => by
              rcases List.mem_append.1 hc with hc | hc
              · exact (inns_iff _ _).1 h2' c hc
              · exact (inns_iff _ _).1 h1' c hc
            have hcall := acall_sound hrec hv ho hr hin hfree
            have : (callFunc g (concs σ (as ++ cap)).toArray).run S.P w = .ok (.enter g (concs σ (as ++ cap)).toArray) w := by
              have hng := hS.noNG g fn hfn
              have hb' : fn.body ≠ none := by intro e; rw [e] at hb; cases hb
              simp [callFunc, hfn, hng, hb']
            rw [this]
            refine hcall.mono ?_
            rintro e w' ⟨σ', rfl, hst, hvin⟩
            exact hK σ' w' hst hvin
          · cases hv
        · cases hv
    · cases hv
  · split at hv
    · simp only [Option.some.injEq, Prod.mk.injEq] at hv
      obtain ⟨rfl, rfl, rfl⟩ := hv
      exact plain (ho _ (by simp))
    · simp only [Option.map_eq_some_iff, Prod.mk.injEq] at hv
      obtain ⟨⟨u, d⟩, hu, rfl, rfl, rfl⟩ := hv
      exact plain hu

end Go.Ab
