import Derived.Test.YtjjnjogmplbjoaaAbDraw2
import Derived.ScopeJumps
set_option linter.unusedSimpArgs false
set_option linter.unusedVariables false
namespace Go.Ab

inductive AX where
  | normal
  | exit (id : Nat)
  | goto (l : Nat)
  | ret

def cx : AX → Exit
  | .normal => .normal
  | .exit id => .exit id
  | .goto l => .goto l
  | .ret => .ret

/-- What is said ahead of a run: answers of a region's operations, or what a piece of code comes to. -/
inductive Fc where
  | ops (F : List (Nat × Forced))
  | code (x : AX) (t : T) (h : Heap)

abbrev FQ := List (Nat × Fc)

/-- What a piece of code comes to. -/
def TriOK (P : Program) (c : Code) (t : T) (h : Heap) (x : AX) (t' : T) (h' : Heap) : Prop :=
  ∀ σ w a, Rel σ h w → TRel σ h t a.tmps → ∀ Q : Exit → Act → World → Prop,
    (∀ σ' w' a', Step σ h w σ' h' w' → TRel σ' h' t' a'.tmps → a'.defers = a.defers → Q (cx x) a' w') → c.wp P Q a w

/-- Contracts: what calls of functions come to, and what they ask. -/
abbrev Rec0 := List AV → Heap → Option (AV × Heap × Obs)
abbrev Cons := FuncId → Option Rec0
def ConsOK (P : Program) (C : Cons) : Prop := ∀ g k, C g = some k → ∀ args foot v foot' obs, k args foot = some (v, foot', obs) → Obs.all obs → CallOK P g args foot v foot'

structure Out where
  x : AX
  t : T
  h : Heap
  q : FQ
  obs : Obs

def Out.add (o : Obs) (r : Out) : Out := { r with obs := o ++ r.obs }

def regOK : Code → Bool
  | .region _ ops draw => !draw || staticOK ops
  | .seq a b => regOK a && regOK b
  | .cond _ a b => regOK a && regOK b
  | .block _ c => regOK c
  | .loop c => regOK c
  | .scope c => regOK c
  | _ => true

def hides (B : List Nat) (n : Nat) (ws : List (List Nat)) : List (List Nat) :=
  (List.range n).map fun i => (List.range n).flatMap fun j => if (ws.getD j []).isEmpty || i == j || ordB B i j || ordB B j i then [] else ws.getD j []

noncomputable def drawX (S : Sys) (rec : Rec) (F : List (Nat × Forced)) (ops : Array Oper) (t : T) (h : Heap) : Option (T × Heap × Obs) :=
  match drawRun S rec F [] ops h.length ops.toList 0 t h with
  | some (t1, h1, R1, obs1) =>
    let B := bef ops.toList []
    let ws := R1.map fun r => r.2.map (·.1)
    if dynOK B ops.size h.length [] ws = true then some (t1, h1, obs1) else
    match drawRun S rec F (hides B ops.size ws) ops h.length ops.toList 0 t h with
    | some (t2, h2, R2, obs2) => if dynOK B ops.size h.length (hides B ops.size ws) (R2.map fun r => r.2.map (·.1)) = true then some (t2, h2, obs2) else none
    | none => none
  | none => none

def takeQ (id : Nat) : FQ → List (Nat × Forced) × FQ
  | [] => ([], [])
  | (r, .ops F) :: q => if r == id then (F, q) else ([], (r, .ops F) :: q)
  | q => ([], q)

/-- What a loop is said to come to. -/
def takeL : FQ → Option (AX × T × Heap × FQ)
  | (_, .code x t h) :: q => some (x, t, h, q)
  | _ => none

def takeR (id : Nat) : FQ → Option (AX × T × Heap × FQ)
  | (r, .code x t h) :: q => if r == id then some (x, t, h, q) else none
  | _ => none

def again : Nat := 999999
def notAgain : FQ → FQ
  | (r, .ops []) :: q => if r == again then q else (r, .ops []) :: q
  | q => q
noncomputable def iter (ex : Code → T → Heap → FQ → Option Out) (body : Code) (t : T) (h : Heap) (q : FQ) : Option Out :=
  match ex body t h q with
  | some ⟨.normal, t1, h1, q1, o1⟩ => (ex (.loop body) t1 h1 ((again, .ops []) :: q1)).map (Out.add o1)
  | r => r

noncomputable def execF (S : Sys) (rec : Rec) (ex : Code → T → Heap → FQ → Option Out) (c : Code) (t : T) (h : Heap) (q : FQ) : Option Out :=
  match c with
  | .skip => some ⟨.normal, t, h, q, []⟩
  | .region id ops draw =>
    match takeR id q with
    | some (x, t', h', q') => some ⟨x, t', h', q', [TriOK S.P (.region id ops draw) t h x t' h']⟩
    | none =>
    if draw then (drawX S rec (takeQ id q).1 ops t h).map fun r => ⟨.normal, r.1, r.2.1, (takeQ id q).2, r.2.2⟩
    else (seqRun S rec (takeQ id q).1 ops ops.toList 0 t h).map fun r => ⟨.normal, r.1, r.2.1, (takeQ id q).2, r.2.2⟩
  | .seq a b =>
    match ex a t h q with
    | some ⟨.normal, t1, h1, q1, o1⟩ => (ex b t1 h1 q1).map (Out.add o1)
    | r => r
  | .cond c a b =>
    match ev t c with
    | some (.raw (.bool true)) => ex a t h q
    | some (.raw (.bool false)) => ex b t h q
    | _ => none
  | .block id body =>
    match ex body t h q with
    | some ⟨.exit id', t1, h1, q1, o1⟩ => if id' = id then some ⟨.normal, t1, h1, q1, o1⟩ else some ⟨.exit id', t1, h1, q1, o1⟩
    | r => r
  | .loop body =>
    match takeL q with
    | some (x, t', h', q') => some ⟨x, t', h', q', [TriOK S.P (.loop body) t h x t' h']⟩
    | none =>
    iter ex body t h (notAgain q)
  | .exit id => some ⟨.exit id, t, h, q, []⟩
  | .ret => some ⟨.ret, t, h, q, []⟩
  | .label _ => some ⟨.normal, t, h, q, []⟩
  | .goto l => some ⟨.goto l, t, h, q, []⟩
  | .scope c =>
    match ex c t h q with
    | some ⟨.goto l, t1, h1, q1, o1⟩ =>
      match findLabel c l with
      | some rest =>
        match ex rest t1 h1 q1 with
        | some ⟨.goto _, _, _, _, _⟩ => none
        | r => r.map (Out.add o1)
      | none => none
    | r => r
  | _ => none

noncomputable def resOne (P : Program) (t : T) (h : Heap) : ResultVar → Option AV
  | .tmp i => (nth t i).join
  | .cell i ty => match (nth t i).join with | some (.ptr b off) => ldv P h ty b off | _ => none

noncomputable def resAll (P : Program) (t : T) (h : Heap) : List ResultVar → Option (List AV)
  | [] => some []
  | r :: rs => match resOne P t h r, resAll P t h rs with | some v, some vs => some (v :: vs) | _, _ => none

noncomputable def resOf (P : Program) (fn : Func) (t : T) (h : Heap) : Option AV :=
  match resAll P t h fn.results.toList with
  | some [v] => some v
  | some vs => some (.tup vs)
  | none => none

noncomputable def keepIds (k : Nat) (v : AV) (h : Heap) : List Nat := reachGo h (64 + k) (List.range k ++ v.ids) []

/-- What is left of the heap behind a call: what was there, and what the result leads to. -/
noncomputable def shrink (k : Nat) (v : AV) (h : Heap) : Option (AV × Heap) :=
  match renV (pos (keepIds k v h)) v, pick (keepIds k v h) h (keepIds k v h) with
  | some v', some h' => if (keepIds k v h).take k = List.range k ∧ nodupB (keepIds k v h) = true then some (v', h') else none
  | _, _ => none

def frame0 (fn : Func) (args : List AV) : T := args.map some ++ List.replicate (fn.ntmps - args.length) (some (.raw undef))

noncomputable def runFn (S : Sys) (ex : Code → T → Heap → FQ → Option Out) (q : FQ) (g : FuncId) (args : List AV) (foot : Heap) : Option (AV × Heap × Obs) :=
  match S.P.funcs[g]? with
  | some fn =>
    match fn.body with
    | some c =>
      match ex c (frame0 fn args) foot q with
      | some ⟨.exit _, _, _, _, _⟩ => none
      | some ⟨.goto _, _, _, _, _⟩ => none
      | some ⟨_, t, h, _, obs⟩ =>
        match resOf S.P fn t h with
        | some v => (shrink foot.length v h).map fun r => (r.1, r.2, obs)
        | none => none
      | none => none
    | none => none
  | none => none

def recC (C : Cons) (r : Rec) : Rec := fun g args foot => match C g with | some k => k args foot | none => r g args foot

noncomputable def exec (S : Sys) (C : Cons) (n : Nat) : Code → T → Heap → FQ → Option Out :=
  Nat.rec (motive := fun _ => Code → T → Heap → FQ → Option Out) (fun _ _ _ _ => none) (fun _ ih => execF S (recC C (runFn S ih [])) ih) n

theorem exec_succ (S : Sys) (C : Cons) (n : Nat) : exec S C (n + 1) = execF S (recC C (runFn S (exec S C n) [])) (exec S C n) := rfl

structure SysOK2 (S : Sys) : Prop extends SysOK S where
  regs : ∀ (g : Nat) fn c, S.P.funcs[g]? = some fn → fn.body = some c → regOK c = true

def ExOK (S : Sys) (ex : Code → T → Heap → FQ → Option Out) : Prop :=
  ∀ c t h q out, regOK c = true → ex c t h q = some out → out.obs.all → TriOK S.P c t h out.x out.t out.h

theorem drawX_sound {S : Sys} (hS : SysOK S) {rec : Rec} (hrec : RecOK S.P rec) {F : List (Nat × Forced)} {id : Nat} {ops : Array Oper} (hst : staticOK ops = true) {t t' : T} {h h' : Heap} {obs : Obs} (hv : drawX S rec F ops t h = some (t', h', obs)) (ho : obs.all)
    {σ : Sg} {w : World} {a : Act} (hr : Rel σ h w) (ht : TRel σ h t a.tmps) {Q : Exit → Act → World → Prop}
    (hQ : ∀ σ' w' a', Step σ h w σ' h' w' → TRel σ' h' t' a'.tmps → a'.defers = a.defers → Q .normal a' w') : (Code.region id ops true).wp S.P Q a w := by
  refine wp_region_any hS.mixed ?_
  have hd := Step.drew hr (w.drawn + 1)
  unfold drawX at hv
  split at hv
  · rename_i t1 h1 R1 obs1 hrun
    simp only at hv
    split at hv
    · rename_i hdyn
      simp only [Option.some.injEq, Prod.mk.injEq] at hv
      obtain ⟨rfl, rfl, rfl⟩ := hv
      exact draw_sound hS hrec hst hrun ho hdyn (Nat.le_refl _) hd.rel ht fun σ' w' a' q1 q2 q3 => hQ σ' w' a' (hd.trans q1) q2 q3
    · split at hv
      · rename_i t2 h2 R2 obs2 hrun2
        split at hv
        · rename_i hdyn
          simp only [Option.some.injEq, Prod.mk.injEq] at hv
          obtain ⟨rfl, rfl, rfl⟩ := hv
          exact draw_sound hS hrec hst hrun2 ho hdyn (Nat.le_refl _) hd.rel ht fun σ' w' a' q1 q2 q3 => hQ σ' w' a' (hd.trans q1) q2 q3
        · cases hv
      · cases hv
  · cases hv

/-- A loop comes to its end within so many rounds. -/
def ExLoop (S : Sys) (n : Nat) (ex : Code → T → Heap → FQ → Option Out) : Prop :=
  ∀ body t h q out, regOK body = true → ex (.loop body) t h ((again, .ops []) :: q) = some out → out.obs.all → ∀ σ w a, Rel σ h w → TRel σ h t a.tmps → ∀ Q : Exit → Act → World → Prop,
    (∀ σ' w' a', Step σ h w σ' out.h w' → TRel σ' out.h out.t a'.tmps → a'.defers = a.defers → Q (cx out.x) a' w') → Code.rounds S.P body Q n a w

theorem iter_rounds {S : Sys} {ex : Code → T → Heap → FQ → Option Out} {n : Nat} (hex : ExOK S ex) (hlo : ExLoop S n ex) {body : Code} {t : T} {h : Heap} {q : FQ} {out : Out} (hreg : regOK body = true) (hv : iter ex body t h q = some out) (ho : out.obs.all)
    {σ : Sg} {w : World} {a : Act} (hr : Rel σ h w) (ht : TRel σ h t a.tmps) {Q : Exit → Act → World → Prop}
    (hQ : ∀ σ' w' a', Step σ h w σ' out.h w' → TRel σ' out.h out.t a'.tmps → a'.defers = a.defers → Q (cx out.x) a' w') : Code.rounds S.P body Q (n + 1) a w := by
  rw [rounds_succ]
  unfold iter at hv
  split at hv
  · rename_i t1 h1 q1 o1 hx
    simp only [Option.map_eq_some_iff] at hv
    obtain ⟨r, hy, rfl⟩ := hv
    obtain ⟨ho1, ho2⟩ := Obs.all_append.1 ho
    refine hex body t h q _ hreg hx ho1 σ w a hr ht _ fun σ' w' a' s1 s2 s3 => ?_
    exact hlo body t1 h1 q1 r hreg hy ho2 σ' w' a' s1.rel s2 _ fun σ2 w2 a2 r1 r2 r3 => hQ σ2 w2 a2 (s1.trans r1) r2 (r3.trans s3)
  · rename_i hne
    refine hex body t h q out hreg hv ho σ w a hr ht _ fun σ' w' a' s1 s2 s3 => ?_
    have hq := hQ σ' w' a' s1 s2 s3
    cases hox : out.x with
    | normal => exact absurd hv (by intro e; obtain ⟨ox, ot, oh, oq, oo⟩ := out; simp only at hox; subst hox; exact hne _ _ _ _ e)
    | exit id => rw [hox] at hq; exact hq
    | goto l => rw [hox] at hq; exact hq
    | ret => rw [hox] at hq; exact hq

theorem execF_loop {S : Sys} {rec : Rec} {ex : Code → T → Heap → FQ → Option Out} {n : Nat} (hex : ExOK S ex) (hlo : ExLoop S n ex) : ExLoop S (n + 1) (execF S rec ex) :=
  fun body t h q out hreg hv ho σ w a hr ht Q hQ => iter_rounds (q := q) hex hlo hreg hv ho hr ht hQ

theorem regOK_find : ∀ {c rest : Code} {l : Nat}, regOK c = true → findLabel c l = some rest → regOK rest = true
  | .seq a b, rest, l, h, hf => by
    simp only [regOK, Bool.and_eq_true] at h
    simp only [findLabel] at hf
    split at hf
    · rename_i r hr
      simp only [Option.some.injEq] at hf; subst hf
      simp only [regOK, Bool.and_eq_true]
      exact ⟨regOK_find h.1 hr, h.2⟩
    · exact regOK_find h.2 hf
  | .label l', rest, l, h, hf => by
    simp only [findLabel] at hf
    split at hf
    · simp only [Option.some.injEq] at hf; subst hf; rfl
    · cases hf
  | .skip, _, _, _, hf => by simp [findLabel] at hf
  | .region .., _, _, _, hf => by simp [findLabel] at hf
  | .cond .., _, _, _, hf => by simp [findLabel] at hf
  | .block .., _, _, _, hf => by simp [findLabel] at hf
  | .loop .., _, _, _, hf => by simp [findLabel] at hf
  | .exit .., _, _, _, hf => by simp [findLabel] at hf
  | .ret, _, _, _, hf => by simp [findLabel] at hf
  | .scope .., _, _, _, hf => by simp [findLabel] at hf
  | .goto .., _, _, _, hf => by simp [findLabel] at hf
  | .rangeFunc .., _, _, _, hf => by simp [findLabel] at hf

theorem execF_sound {S : Sys} (hS : SysOK S) {rec : Rec} (hrec : RecOK S.P rec) {ex : Code → T → Heap → FQ → Option Out} {n : Nat} (hex : ExOK S ex) (hlo : ExLoop S n ex) : ExOK S (execF S rec ex) := by
  intro c t h q out hreg hv ho σ w a hr ht Q hQ
  have hv0 := hv
  unfold execF at hv
  split at hv
  · simp only [Option.some.injEq] at hv; subst hv
    exact wp_skip (hQ σ w a (Step.refl hr) ht rfl)
  · rename_i id ops draw
    split at hv
    · simp only [Option.some.injEq] at hv; subst hv
      exact ho _ (.head _) σ w a hr ht Q hQ
    split at hv
    · rename_i hd
      simp only [Option.map_eq_some_iff] at hv
      obtain ⟨⟨t1, h1, o1⟩, hx, rfl⟩ := hv
      subst hd
      have hst : staticOK ops = true := by simpa [regOK] using hreg
      exact drawX_sound hS hrec hst hx ho hr ht hQ
    · rename_i hd
      simp only [Option.map_eq_some_iff] at hv
      obtain ⟨⟨t1, h1, o1⟩, hx, rfl⟩ := hv
      have hd' : draw = false := by simpa using hd
      subst hd'
      refine wp_region ?_
      have := seqRun_sound hS hrec ops.toList 0 rfl hx ho hr ht (Q := Q) hQ
      rw [List.range_eq_range']
      simpa using this
  · rename_i x y
    simp only [regOK, Bool.and_eq_true] at hreg
    refine wp_seq ?_
    split at hv
    · rename_i t1 h1 q1 o1 hx
      simp only [Option.map_eq_some_iff] at hv
      obtain ⟨r, hy, rfl⟩ := hv
      obtain ⟨ho1, ho2⟩ := Obs.all_append.1 ho
      refine hex x t h q _ hreg.1 hx ho1 σ w a hr ht _ fun σ' w' a' s1 s2 s3 => ?_
      exact hex y t1 h1 q1 r hreg.2 hy ho2 σ' w' a' s1.rel s2 _ fun σ2 w2 a2 r1 r2 r3 => hQ σ2 w2 a2 (s1.trans r1) r2 (r3.trans s3)
    · rename_i hne
      refine hex x t h q out hreg.1 hv ho σ w a hr ht _ fun σ' w' a' s1 s2 s3 => ?_
      have hq := hQ σ' w' a' s1 s2 s3
      cases hox : out.x with
      | normal => exact absurd hv (by intro e; obtain ⟨ox, ot, oh, oq, oo⟩ := out; simp only at hox; subst hox; exact hne _ _ _ _ e)
      | exit id => rw [hox] at hq; exact hq
      | goto l => rw [hox] at hq; exact hq
      | ret => rw [hox] at hq; exact hq
  · rename_i c x y
    simp only [regOK, Bool.and_eq_true] at hreg
    split at hv
    · rename_i hc
      obtain ⟨h1, -⟩ := ev_sound ht hc
      exact wp_cond_true h1 (hex x t h q out hreg.1 hv ho σ w a hr ht Q hQ)
    · rename_i hc
      obtain ⟨h1, -⟩ := ev_sound ht hc
      exact wp_cond_false h1 (hex y t h q out hreg.2 hv ho σ w a hr ht Q hQ)
    · cases hv
  · rename_i id body
    refine wp_block ?_
    split at hv
    · rename_i id' t1 h1 q1 o1 hx
      split at hv
      · rename_i he
        simp only [Option.some.injEq] at hv; subst hv
        refine hex body t h q _ hreg hx ho σ w a hr ht _ fun σ' w' a' s1 s2 s3 => ?_
        have hq := hQ σ' w' a' s1 s2 s3
        show (if id' = id then Q .normal a' w' else Q (.exit id') a' w')
        rw [if_pos he]; exact hq
      · rename_i he
        simp only [Option.some.injEq] at hv; subst hv
        refine hex body t h q _ hreg hx ho σ w a hr ht _ fun σ' w' a' s1 s2 s3 => ?_
        have hq := hQ σ' w' a' s1 s2 s3
        show (if id' = id then Q .normal a' w' else Q (.exit id') a' w')
        rw [if_neg he]; exact hq
    · rename_i hne
      refine hex body t h q out hreg hv ho σ w a hr ht _ fun σ' w' a' s1 s2 s3 => ?_
      have hq := hQ σ' w' a' s1 s2 s3
      cases hox : out.x with
      | exit i => exact absurd hv (by intro e; obtain ⟨ox, ot, oh, oq, oo⟩ := out; simp only at hox; subst hox; exact hne _ _ _ _ _ e)
      | normal => rw [hox] at hq; exact hq
      | goto l => rw [hox] at hq; exact hq
      | ret => rw [hox] at hq; exact hq
  · rename_i body
    split at hv
    · simp only [Option.some.injEq] at hv; subst hv
      exact ho _ (.head _) σ w a hr ht Q hQ
    · exact wp_loop_rounds (n + 1) (iter_rounds (body := body) hex hlo hreg hv ho hr ht hQ)
  · simp only [Option.some.injEq] at hv; subst hv
    exact wp_exit (hQ σ w a (Step.refl hr) ht rfl)
  · simp only [Option.some.injEq] at hv; subst hv
    exact wp_ret (hQ σ w a (Step.refl hr) ht rfl)
  · simp only [Option.some.injEq] at hv; subst hv
    exact wp_label (hQ σ w a (Step.refl hr) ht rfl)
  · simp only [Option.some.injEq] at hv; subst hv
    exact wp_goto (hQ σ w a (Step.refl hr) ht rfl)
  · rename_i c
    split at hv
    · rename_i l t1 h1 q1 o1 hx
      split at hv
      · rename_i rest hf
        split at hv
        · cases hv
        · rename_i r hne
          simp only [Option.map_eq_some_iff] at hv
          obtain ⟨r, hy, rfl⟩ := hv
          obtain ⟨ho1, ho2⟩ := Obs.all_append.1 ho
          refine wp_scope_jumps l (fun a' w' => ∃ σ', Step σ h w σ' h1 w' ∧ TRel σ' h1 t1 a'.tmps ∧ a'.defers = a.defers) (fun _ _ => 0) hf ?_ ?_
          · exact hex c t h q _ hreg hx ho1 σ w a hr ht _ fun σ' w' a' s1 s2 s3 => ⟨rfl, σ', s1, s2, s3⟩
          · rintro a' w' ⟨σ', s1, s2, s3⟩
            refine hex rest t1 h1 q1 r (regOK_find (c := c) hreg hf) hy ho2 σ' w' a' s1.rel s2 _ fun σ2 w2 a2 r1 r2 r3 => ?_
            have hq := hQ σ2 w2 a2 (s1.trans r1) r2 (r3.trans s3)
            have hox : (Out.add o1 r).x = r.x := rfl
            rw [hox] at hq
            cases hrx : r.x with
            | normal => rw [hrx] at hq; exact hq
            | exit id => rw [hrx] at hq; exact hq
            | goto l' => exact absurd hy (by intro e; obtain ⟨ox, ot, oh, oq, oo⟩ := r; simp only at hrx; subst hrx; exact hne _ _ _ _ _ e)
            | ret => rw [hrx] at hq; exact hq
      · cases hv
    · rename_i hne
      refine wp_scope_straight (hex c t h q out hreg hv ho σ w a hr ht _ fun σ' w' a' s1 s2 s3 => ?_)
      have hq := hQ σ' w' a' s1 s2 s3
      cases hox : out.x with
      | exit id => rw [hox] at hq; exact hq
      | normal => rw [hox] at hq; exact hq
      | goto l => exact absurd hv (by intro e; obtain ⟨ox, ot, oh, oq, oo⟩ := out; simp only at hox; subst hox; exact hne _ _ _ _ _ e)
      | ret => rw [hox] at hq; exact hq
  · cases hv

/-! ### functions -/
def resM (tmps : Array Value) : ResultVar → Sem Value
  | .tmp t => pure (tmps.getD t undef)
  | .cell a t => do loadVar t (← asAddr (tmps.getD a undef))

theorem resOne_sound {P : Program} {σ : Sg} {h : Heap} {w : World} (hr : Rel σ h w) {t : T} {tmps : Array Value} (ht : TRel σ h t tmps) {r : ResultVar} {v : AV} (hv : resOne P t h r = some v) :
    (resM tmps r).run P w = .ok (conc σ v) w ∧ v.inn (nf h) := by
  have hj : ∀ {i : Nat} {v : AV}, (nth t i).join = some v → tmps[i]? = some (conc σ v) ∧ v.inn (nf h) := fun {i v} hi => by
    rw [nth_eq] at hi
    cases hh : t[i]? with
    | none => rw [hh] at hi; cases hi
    | some o => rw [hh] at hi; simp at hi; subst hi; exact ht.2 i v hh
  cases r with
  | tmp i =>
    obtain ⟨h1, h2⟩ := hj hv
    exact ⟨by simp [resM, h1], h2⟩
  | cell i ty =>
    simp only [resOne] at hv
    split at hv
    · rename_i b off hb
      obtain ⟨h1, -⟩ := hj hb
      obtain ⟨h2, h3⟩ := ldv_sound hr hv
      refine ⟨?_, h3⟩
      simp only [resM, Array.getD_eq_getD_getElem?, h1, Option.getD_some, conc, asAddr, Sem.run_bind, Sem.run_pure, Result.andThen_ok, h2]
    · cases hv

theorem resAll_sound {P : Program} {σ : Sg} {h : Heap} {w : World} (hr : Rel σ h w) {t : T} {tmps : Array Value} (ht : TRel σ h t tmps) : ∀ {l : List ResultVar} {vs : List AV}, resAll P t h l = some vs →
    (l.mapM (resM tmps)).run P w = .ok (concs σ vs) w ∧ inns (nf h) vs
  | [], vs, hv => by simp only [resAll, Option.some.injEq] at hv; subst hv; exact ⟨rfl, trivial⟩
  | r :: rs, vs, hv => by
    simp only [resAll] at hv
    split at hv
    · rename_i v vs' h1 h2
      simp only [Option.some.injEq] at hv; subst hv
      obtain ⟨q1, q2⟩ := resOne_sound hr ht h1
      obtain ⟨q3, q4⟩ := resAll_sound hr ht h2
      refine ⟨?_, q2, q4⟩
      rw [List.mapM_cons, Sem.run_bind, q1]
      simp only [Result.andThen_ok, Sem.run_bind, q3, Sem.run_pure, concs]
    · cases hv

theorem resOf_sound {P : Program} {σ : Sg} {h : Heap} {w : World} (hr : Rel σ h w) {t : T} {tmps : Array Value} (ht : TRel σ h t tmps) {fn : Func} {v : AV} (hv : resOf P fn t h = some v) : (results fn tmps).run P w = .ok (conc σ v) w ∧ v.inn (nf h) := by
  have hm : ∀ vs, resAll P t h fn.results.toList = some vs → (fn.results.mapM (resM tmps)).run P w = .ok (concs σ vs).toArray w ∧ inns (nf h) vs := fun vs h1 => by
    obtain ⟨q1, q2⟩ := resAll_sound hr ht h1
    rw [Array.mapM_eq_mapM_toList]
    exact ⟨by simp only [Sem.run_map, q1, Result.andThen_ok], q2⟩
  unfold resOf at hv
  change Sem.run P (fn.results.mapM (resM tmps) >>= fun vs => pure (if h : vs.size = 1 then vs[0] else .tuple vs)) w = _ ∧ _
  split at hv
  · rename_i u h1
    simp only [Option.some.injEq] at hv; subst hv
    obtain ⟨q1, q2⟩ := hm _ h1
    refine ⟨?_, q2.1⟩
    rw [Sem.run_bind, q1]
    simp [concs]
  · rename_i vs hne h1
    simp only [Option.some.injEq] at hv; subst hv
    obtain ⟨q1, q2⟩ := hm _ h1
    refine ⟨?_, q2⟩
    rw [Sem.run_bind, q1]
    have : ¬ (concs σ vs).toArray.size = 1 := fun e => by
      simp only [List.size_toArray, concs_eq, List.length_map] at e
      cases vs with
      | nil => simp at e
      | cons x r =>
        cases r with
        | nil => exact hne x rfl
        | cons y r => simp at e
    simp only [Result.andThen_ok, dif_neg this, Sem.run_pure, conc]
  · cases hv

theorem shrink_sound {σ0 : Sg} {foot : Heap} {w0 : World} {σ : Sg} {h : Heap} {w : World} (hst : Step σ0 foot w0 σ h w) {v v' : AV} {h' : Heap} (hvin : v.inn (nf h)) (hv : shrink foot.length v h = some (v', h')) :
    ∃ σ', conc σ' v' = conc σ v ∧ Step σ0 foot w0 σ' h' w ∧ v'.inn (nf h') := by
  unfold shrink at hv
  split at hv
  · rename_i u hh hrv hpick
    split at hv
    · rename_i hc
      obtain ⟨hk, hnd⟩ := hc
      simp only [Option.some.injEq, Prod.mk.injEq] at hv
      obtain ⟨rfl, rfl⟩ := hv
      have hr := hst.rel
      have hrel := rel_pick hr (nodupB_spec hnd) hpick
      have hidx : ∀ j, j < foot.length → (keepIds foot.length v h)[j]? = some j := fun j hj => by
        have h1 : ((keepIds foot.length v h).take foot.length)[j]? = some j := by rw [hk]; simp [hj]
        rw [List.getElem?_take, if_pos hj] at h1
        exact h1
      have hlt : ∀ i, nf foot i → i < foot.length := fun i hi => by
        rcases Nat.lt_or_ge i foot.length with q | q
        · exact q
        · exact absurd hi (free_len foot i q)
      have hsel : ∀ i, nf foot i → selOf (keepIds foot.length v h) σ i = σ i := fun i hi => by simp [selOf, List.getD, hidx i (hlt i hi)]
      refine ⟨selOf (keepIds foot.length v h) σ, renV_conc (same_sel _ σ) hrv, ⟨hrel, fun i hi => by rw [hsel i hi]; exact hst.agree i hi, fun i hi => (pick_nf hpick (hidx i (hlt i hi))).2 (hst.keeps i hi), hst.os, hst.tape, hst.output, hst.size, hst.frame,
        fun r hr' => hst.owns r (own_pick hr hpick hr'), fun r hr' => hst.alls r (any_pick hr hpick hr')⟩, renV_inn (fun i j hij hn => (pick_nf hpick (pos_spec hij)).2 hn) hrv hvin⟩
    · cases hv
  · cases hv

theorem frame0_trel {P : Program} {σ : Sg} {foot : Heap} {fn : Func} {args : List AV} (hin : inns (nf foot) args) : TRel σ foot (frame0 fn args) ((concs σ args).toArray ++ Array.replicate (fn.ntmps - (concs σ args).toArray.size) undef) := by
  refine ⟨by simp [frame0, concs_eq], fun i v hv => ?_⟩
  unfold frame0 at hv
  rw [List.getElem?_append] at hv
  split at hv
  · rename_i hi
    simp only [List.length_map] at hi
    rw [List.getElem?_map] at hv
    cases ha : args[i]? with
    | none => rw [ha] at hv; cases hv
    | some u =>
      rw [ha] at hv
      simp only [Option.map_some, Option.some.injEq] at hv; subst hv
      refine ⟨?_, (inns_iff _ _).1 hin u (List.mem_of_getElem? ha)⟩
      have hi' : i < (concs σ args).length := by simpa [concs_eq] using hi
      rw [Array.getElem?_append_left (by simpa using hi')]
      simp [concs_eq, ha]
  · rename_i hi
    simp only [List.length_map] at hi hv
    rw [List.getElem?_replicate] at hv
    split at hv
    · rename_i hlt
      simp only [Option.some.injEq] at hv; subst hv
      refine ⟨?_, trivial⟩
      rw [Array.getElem?_append_right (by simp [concs_eq]; omega)]
      simp [concs_eq, conc, hlt]
    · cases hv

/-- A function, by its body. -/
theorem runFn_sound {S : Sys} {ex : Code → T → Heap → FQ → Option Out} (hex : ExOK S ex) (hregs : ∀ (g : Nat) fn c, S.P.funcs[g]? = some fn → fn.body = some c → regOK c = true) {q : FQ} {g : FuncId} {args : List AV} {foot : Heap} {v : AV} {foot' : Heap} {obs : Obs}
    (hv : runFn S ex q g args foot = some (v, foot', obs)) (ho : obs.all) : CallOK S.P g args foot v foot' := by
  intro σ w hr hin
  unfold runFn at hv
  split at hv
  · rename_i fn hfn
    split at hv
    · rename_i c hc
      have main : ∀ (x : AX) (t : T) (h : Heap) (q' : FQ) (ob : Obs), (x = .normal ∨ x = .ret) → ex c (frame0 fn args) foot q = some ⟨x, t, h, q', ob⟩ → ob.all → ∀ u, resOf S.P fn t h = some u → shrink foot.length u h = some (v, foot') →
          Calls S.P g (concs σ args).toArray w fun e w' => ∃ σ', e = .returned (conc σ' v) ∧ Step σ foot w σ' foot' w' ∧ v.inn (nf foot') := fun x t h q' ob hx hex' hob u hu hsh => by
        refine calls_of_wp hfn hc (hex c _ foot q _ (hregs g fn c hfn hc) hex' hob σ w _ hr (frame0_trel (P := S.P) hin) _ fun σ' w' a' s1 s2 s3 => ?_)
        obtain ⟨r1, r2⟩ := resOf_sound s1.rel s2 hu
        obtain ⟨σ2, e1, e2, e3⟩ := shrink_sound s1 r2 hsh
        rcases hx with rfl | rfl
        · exact ⟨s3, _, r1, σ2, by rw [e1], e2, e3⟩
        · exact ⟨s3, _, r1, σ2, by rw [e1], e2, e3⟩
      split at hv
      · cases hv
      · cases hv
      · rename_i x t h q' ob hne hne2 hx
        split at hv
        · rename_i u hu
          simp only [Option.map_eq_some_iff, Prod.mk.injEq] at hv
          obtain ⟨⟨v1, f1⟩, hsh, rfl, rfl, rfl⟩ := hv
          refine main x t h q' ob ?_ hx ho u hu hsh
          cases x with
          | normal => exact .inl rfl
          | ret => exact .inr rfl
          | exit id => exact (hne id rfl).elim
          | goto l => exact (hne2 l rfl).elim
        · cases hv
      · cases hv
    · cases hv
  · cases hv

theorem recC_ok {P : Program} {C : Cons} (hC : ConsOK P C) {r : Rec} (hr : RecOK P r) : RecOK P (recC C r) := fun g args foot v foot' obs hv ho => by
  unfold recC at hv
  split at hv
  · rename_i k hk
    exact hC g k hk args foot v foot' obs hv ho
  · exact hr g args foot v foot' obs hv ho

theorem exec_ok {S : Sys} (hS : SysOK2 S) {C : Cons} (hC : ConsOK S.P C) : ∀ n, ExOK S (exec S C n) ∧ ExLoop S n (exec S C n)
  | 0 => ⟨fun c t h q out _ hv => (by cases hv), fun body t h q out _ hv => (by cases hv)⟩
  | n + 1 => by
    obtain ⟨h1, h2⟩ := exec_ok hS hC n
    have hrec : RecOK S.P (runFn S (exec S C n) []) := fun g args foot v foot' obs hv ho => runFn_sound h1 hS.regs hv ho
    rw [exec_succ]
    exact ⟨execF_sound hS.toSysOK (recC_ok hC hrec) h1 h2, execF_loop h1 h2⟩

/-- **The theorem of the executor**: what it comes to, under what it asks, is what the call comes to. -/
theorem call_ok {S : Sys} (hS : SysOK2 S) {C : Cons} (hC : ConsOK S.P C) (n : Nat) (q : FQ) {g : FuncId} {args : List AV} {foot : Heap} {v : AV} {foot' : Heap} {obs : Obs} (hv : runFn S (exec S C n) q g args foot = some (v, foot', obs)) (ho : obs.all) : CallOK S.P g args foot v foot' :=
  runFn_sound (exec_ok hS hC n).1 hS.regs hv ho

/-! ### loops -/
def maskGo (live : List Nat) : Nat → T → T
  | _, [] => []
  | i, x :: r => (if live.contains i then x else none) :: maskGo live (i + 1) r

/-- Of the slots, only some stay known. -/
def maskT (live : List Nat) (t : T) : T := maskGo live 0 t

theorem maskGo_get (live : List Nat) : ∀ (t : T) (i j : Nat), (maskGo live i t)[j]? = (t[j]?).map fun x => if live.contains (i + j) then x else none
  | [], i, j => by simp [maskGo]
  | x :: r, i, 0 => by simp [maskGo]
  | x :: r, i, j + 1 => by simp [maskGo, maskGo_get live r (i + 1) j, Nat.add_assoc, Nat.add_comm 1 j]

theorem maskT_rel {σ : Sg} {h : Heap} {live : List Nat} {t : T} {tmps : Array Value} (ht : TRel σ h t tmps) : TRel σ h (maskT live t) tmps := by
  have hg := maskGo_get live t 0
  have hlen : (maskGo live 0 t).length = t.length := by
    have : ∀ (t : T) i, (maskGo live i t).length = t.length := fun t => by
      induction t with
      | nil => intro i; rfl
      | cons x r ih => intro i; simp [maskGo, ih]
    exact this t 0
  refine ⟨by unfold maskT; rw [hlen]; exact ht.1, fun i v hi => ?_⟩
  unfold maskT at hi
  rw [hg i] at hi
  cases hx : t[i]? with
  | none => rw [hx] at hi; cases hi
  | some o =>
    rw [hx] at hi
    simp only [Option.map_some, Option.some.injEq, Nat.zero_add] at hi
    split at hi
    · subst hi; exact ht.2 i v hx
    · cases hi

theorem TriOK.pre {P : Program} {c : Code} {t : T} {h : Heap} {x : AX} {t' : T} {h' : Heap} (live : List Nat) (h1 : TriOK P c (maskT live t) h x t' h') : TriOK P c t h x t' h' :=
  fun σ w a hr ht Q hQ => h1 σ w a hr (maskT_rel ht) Q hQ

theorem TriOK.post {P : Program} {c : Code} {t : T} {h : Heap} {x : AX} {t' : T} {h' : Heap} (live : List Nat) (h1 : TriOK P c t h x t' h') : TriOK P c t h x (maskT live t') h' :=
  fun σ w a hr ht Q hQ => h1 σ w a hr ht Q fun σ' w' a' q1 q2 q3 => hQ σ' w' a' q1 (maskT_rel q2) q3

theorem tri_exec {S : Sys} (hS : SysOK2 S) {C : Cons} (hC : ConsOK S.P C) (n : Nat) (q : FQ) (live : List Nat) {c : Code} {t : T} {h : Heap} {x : AX} {t' : T} {h' : Heap} {obs : Obs} (hreg : regOK c = true)
    (hv : (exec S C n c t h q).map (fun r => (r.x, maskT live r.t, r.h, r.obs)) = some (x, t', h', obs)) (ho : obs.all) : TriOK S.P c t h x t' h' := by
  simp only [Option.map_eq_some_iff, Prod.mk.injEq] at hv
  obtain ⟨out, hv, rfl, rfl, rfl, rfl⟩ := hv
  exact TriOK.post live ((exec_ok hS hC n).1 c t h q out hreg hv ho)

/-- A loop, by what each round comes to. -/
theorem tri_loop {P : Program} {body : Code} (n : Nat) (t : Nat → T) (h : Nat → Heap) {x : AX} {t' : T} {h' : Heap} (hx : x ≠ .normal) (hb : ∀ j, j < n → TriOK P body (t j) (h j) .normal (t (j + 1)) (h (j + 1)))
    (he : TriOK P body (t n) (h n) x t' h') : TriOK P (.loop body) (t 0) (h 0) x t' h' := by
  have key : ∀ k j, j + k = n → ∀ σ w a, Rel σ (h j) w → TRel σ (h j) (t j) a.tmps → ∀ Q : Exit → Act → World → Prop,
      (∀ σ' w' a', Step σ (h j) w σ' h' w' → TRel σ' h' t' a'.tmps → a'.defers = a.defers → Q (cx x) a' w') → Code.rounds P body Q (k + 1) a w := by
    intro k
    induction k with
    | zero =>
      intro j hj σ w a hr ht Q hQ
      rw [rounds_succ]
      obtain rfl : j = n := hj
      refine he σ w a hr ht _ fun σ' w' a' s1 s2 s3 => ?_
      have := hQ σ' w' a' s1 s2 s3
      cases x with
      | normal => exact absurd rfl hx
      | exit id => exact this
      | goto l => exact this
      | ret => exact this
    | succ k ih =>
      intro j hj σ w a hr ht Q hQ
      rw [rounds_succ]
      refine hb j (by omega) σ w a hr ht _ fun σ' w' a' s1 s2 s3 => ?_
      exact ih (j + 1) (by omega) σ' w' a' s1.rel s2 Q fun σ2 w2 a2 r1 r2 r3 => hQ σ2 w2 a2 (s1.trans r1) r2 (r3.trans s3)
  intro σ w a hr ht Q hQ
  exact wp_loop_rounds (n + 1) (key n 0 (by omega) σ w a hr ht Q hQ)

end Go.Ab
