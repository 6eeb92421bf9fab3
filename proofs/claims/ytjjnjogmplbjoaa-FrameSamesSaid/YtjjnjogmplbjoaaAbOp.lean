import Derived.Test.YtjjnjogmplbjoaaAbMem
set_option linter.unusedSimpArgs false
set_option linter.unusedVariables false
namespace Go.Ab

def TRel (σ : Sg) (h : Heap) (t : List (Option AV)) (tmps : Array Value) : Prop :=
  t.length = tmps.size ∧ ∀ (i : Nat) (v : AV), t[i]? = some (some v) → tmps[i]? = some (conc σ v) ∧ v.inn (nf h)

noncomputable def ev (t : List (Option AV)) : Operand → Option AV
  | .tmp i => (nth t i).join
  | .const v => some (.raw v)
  | .global _ => none
  | .func f => some (.func f [])

theorem ev_sound {σ : Sg} {h : Heap} {t : List (Option AV)} {a : Act} (ht : TRel σ h t a.tmps) {x : Operand} {v : AV} (hv : ev t x = some v) : a.eval x = conc σ v ∧ v.inn (nf h) := by
  cases x with
  | tmp i =>
    simp only [ev, nth_eq] at hv
    have h1 : t[i]? = some (some v) := by
      cases hh : t[i]? with
      | none => rw [hh] at hv; cases hv
      | some o => rw [hh] at hv; simp at hv; rw [hv]
    obtain ⟨h2, h3⟩ := ht.2 i v h1
    exact ⟨by simp [Act.eval, h2], h3⟩
  | const u => simp only [ev, Option.some.injEq] at hv; subst hv; exact ⟨rfl, trivial⟩
  | global g => cases hv
  | func f => simp only [ev, Option.some.injEq] at hv; subst hv; exact ⟨rfl, trivial⟩

theorem TRel.step {σ σ' : Sg} {h h' : Heap} {w w' : World} {t : List (Option AV)} {tmps : Array Value} (ht : TRel σ h t tmps) (hs : Step σ h w σ' h' w') : TRel σ' h' t tmps :=
  ⟨ht.1, fun i v hv => by
    obtain ⟨h1, h2⟩ := ht.2 i v hv
    exact ⟨by rw [h1, conc_congr hs.agree v h2], AV.inn_mono hs.keeps v h2⟩⟩

noncomputable def put (t : List (Option AV)) (d : Option Tmp) (v : AV) : List (Option AV) := match d with | some d => setF t d (some v) | none => t

theorem TRel.put {σ : Sg} {h : Heap} {t : List (Option AV)} {a : Act} (ht : TRel σ h t a.tmps) (d : Option Tmp) {v : AV} (hv : v.inn (nf h)) : TRel σ h (put t d v) (a.put d (conc σ v)).tmps := by
  cases d with
  | none => exact ht
  | some d =>
    refine ⟨by simp [Ab.put, setF_eq, Act.put, ht.1], fun i u hu => ?_⟩
    simp only [Ab.put, setF_eq, List.getElem?_set] at hu
    simp only [Act.put, Array.getElem?_setIfInBounds]
    by_cases e : d = i
    · subst e
      simp only [if_true] at hu ⊢
      by_cases hd : d < t.length
      · simp only [if_pos hd, Option.some.injEq] at hu
        subst hu
        simp [← ht.1, hd, hv]
      · simp [if_neg hd] at hu
    · simp only [if_neg e] at hu ⊢
      exact ht.2 i u hu

/-! ### what the program's tables say -/
def tyAgg (P : Program) (t : TypeId) : Option Bool := match P.underlying t with | some (.struct _) | some (.array _ _) => some true | some _ => some false | none => none
def tySize (P : Program) (t : TypeId) : Option Nat := (P.info? t).map (·.size)
def rawCells (v : Value) : List AV := v.cells.toList.map .raw

theorem run_isAgg {P : Program} {t : TypeId} {b : Bool} (h : tyAgg P t = some b) (w : World) : (isAgg t).run P w = .ok b w := by
  unfold tyAgg at h
  unfold isAgg
  cases hu : P.underlying t with
  | none => rw [hu] at h; cases h
  | some d =>
    rw [Sem.run_bind, run_underlying hu w]
    rw [hu] at h
    cases d <;> simp_all

theorem run_sizeOf' {P : Program} {t : TypeId} {n : Nat} (h : tySize P t = some n) (w : World) : (sizeOf t).run P w = .ok n w := by
  unfold tySize at h
  cases hu : P.info? t with
  | none => rw [hu] at h; cases h
  | some i => rw [hu] at h; simp at h; simp [sizeOf, typeInfo, hu, h]

theorem run_zeroValue' {P : Program} {t : TypeId} {z : Value} (h : (P.info? t).bind (·.zero) = some z) (w : World) : (zeroValue t).run P w = .ok z w := by
  cases hu : P.info? t with
  | none => rw [hu] at h; cases h
  | some i => rw [hu] at h; simp at h; simp [zeroValue, typeInfo, hu, h]

/-! ### cells of a value -/
def cellsOf : AV → Option (List AV)
  | .raw v => some (rawCells v)
  | .agg cs => some cs
  | .tup _ => none
  | v => some [v]

theorem cellsOf_conc {σ : Sg} {v : AV} {cs : List AV} (h : cellsOf v = some cs) : (conc σ v).cells = (concs σ cs).toArray := by
  cases v with
  | raw v =>
    simp only [cellsOf, Option.some.injEq, rawCells] at h; subst h
    simp [conc, concs_eq, Function.comp_def]
  | agg cs' => simp only [cellsOf, Option.some.injEq] at h; subst h; simp [conc, Value.cells]
  | tup _ => cases h
  | ptr b o => simp only [cellsOf, Option.some.injEq] at h; subst h; simp [conc, concs, Value.cells]
  | slice b o l c => simp only [cellsOf, Option.some.injEq] at h; subst h; simp [conc, concs, Value.cells]
  | func f c => simp only [cellsOf, Option.some.injEq] at h; subst h; simp [conc, concs, Value.cells]
  | map b => simp only [cellsOf, Option.some.injEq] at h; subst h; simp [conc, concs, Value.cells]
  | iface t v => simp only [cellsOf, Option.some.injEq] at h; subst h; simp [conc, concs, Value.cells]

theorem cellsOf_inn {p : Nat → Prop} {v : AV} {cs : List AV} (h : cellsOf v = some cs) (hv : v.inn p) : ∀ c ∈ cs, c.inn p := by
  cases v with
  | raw v => simp only [cellsOf, Option.some.injEq, rawCells] at h; subst h; intro c hc; obtain ⟨x, _, rfl⟩ := List.mem_map.1 hc; trivial
  | agg cs' => simp only [cellsOf, Option.some.injEq] at h; subst h; exact (inns_iff p cs').1 hv
  | tup _ => cases h
  | ptr b o => simp only [cellsOf, Option.some.injEq] at h; subst h; intro c hc; simp at hc; subst hc; exact hv
  | slice b o l c => simp only [cellsOf, Option.some.injEq] at h; subst h; intro c hc; simp at hc; subst hc; exact hv
  | func f c => simp only [cellsOf, Option.some.injEq] at h; subst h; intro c hc; simp at hc; subst hc; exact hv
  | map b => simp only [cellsOf, Option.some.injEq] at h; subst h; intro c hc; simp at hc; subst hc; exact hv
  | iface t v => simp only [cellsOf, Option.some.injEq] at h; subst h; intro c hc; simp at hc; subst hc; exact hv

def allOne (cs : List AV) : Bool := cs.all (·.one)
def allRaw (cs : List AV) : Bool := cs.all (·.isRaw)

/-! ### variables read and written -/
noncomputable def ldv (P : Program) (h : Heap) (t : TypeId) (b off : Nat) : Option AV :=
  match hget h b, tyAgg P t with
  | some blk, some true =>
    match tySize P t with
    | some n => if lenF (takeF (dropF blk.cells off) n) = n then some (.agg (takeF (dropF blk.cells off) n)) else none
    | none => none
  | some blk, some false => nth blk.cells off
  | _, _ => none

theorem ldv_sound {P : Program} {σ : Sg} {h : Heap} {w : World} (hr : Rel σ h w) {t : TypeId} {b off : Nat} {v : AV} (hv : ldv P h t b off = some v) :
    (loadVar t ⟨((σ b).addr.getD default).block, ((σ b).addr.getD default).off + off, none⟩).run P w = .ok (conc σ v) w ∧ v.inn (nf h) := by
  unfold ldv at hv
  split at hv
  · rename_i blk hb ha
    split at hv
    · rename_i n hn
      split at hv
      · rename_i hl
        rw [lenF_eq, takeF_eq, dropF_eq] at hl
        rw [takeF_eq, dropF_eq] at hv
        simp only [Option.some.injEq] at hv
        subst hv
        refine ⟨?_, (inns_iff _ _).2 fun c hc => hr.ids b blk hb c (List.mem_of_mem_drop (List.mem_of_mem_take hc))⟩
        unfold loadVar
        simp only [Sem.run_bind, run_isAgg ha, Result.andThen_ok, if_true, run_sizeOf' hn]
        have hB := hr.live b blk hb
        cases haddr : (σ b).addr with
        | none =>
          unfold BOK at hB
          simp only [haddr] at hB
          rw [hB.1] at hl ⊢
          simp at hl
          subst hl
          simp [loadCells, loadCellsFrom, conc, concs]
        | some a =>
          have hc := run_cells P hr hb off ((blk.cells.drop off).take n) (fun j v hj => by
            rw [List.getElem?_take] at hj
            split at hj
            · rwa [List.getElem?_drop] at hj
            · cases hj) haddr
          rw [hl] at hc
          simp only [Option.getD_some, hc, Result.andThen_ok, Sem.run_pure, conc]
      · cases hv
    · cases hv
  · rename_i blk hb ha
    rw [nth_eq] at hv
    obtain ⟨a, haddr, hcell⟩ := run_cell P hr hb off v hv
    refine ⟨?_, hr.ids b blk hb v (List.mem_of_getElem? hv)⟩
    unfold loadVar
    simp only [Sem.run_bind, run_isAgg ha, Result.andThen_ok, haddr, Option.getD_some]
    simp [run_load, hcell]
  · cases hv

noncomputable def stv (P : Program) (h : Heap) (t : TypeId) (b off : Nat) (v : AV) : Option Delta :=
  match hget h b, cellsOf v, tySize P t with
  | some blk, some vs, some n =>
    if lenF vs = n ∧ blk.own = true ∧ off + lenF vs ≤ lenF blk.cells ∧ 0 < n ∧ allOne vs = true then
      some [(b, .live ⟨splice blk.cells off vs, true, blk.exact, blk.pl && allRaw vs⟩)]
    else none
  | _, _, _ => none

theorem stv_sound {P : Program} {σ : Sg} {h : Heap} {w : World} (hr : Rel σ h w) {t : TypeId} {b off : Nat} {v : AV} (hin : v.inn (nf h)) {δ : Delta} (hv : stv P h t b off v = some δ) :
    ∃ w', (storeVar t ⟨((σ b).addr.getD default).block, ((σ b).addr.getD default).off + off, none⟩ (conc σ v)).run P w = .ok () w' ∧ Step σ h w σ (app h δ) w' := by
  unfold stv at hv
  split at hv
  · rename_i blk vs n hb hc hn
    split at hv
    · rename_i hcond
      simp only [lenF_eq] at hcond
      obtain ⟨h1, h2, h3, h4, h5⟩ := hcond
      simp only [Option.some.injEq] at hv
      subst hv
      have hlen := (hr.len b blk hb).1
      cases haddr : (σ b).addr with
      | none =>
        have hB := hr.live b blk hb
        unfold BOK at hB
        simp only [haddr] at hB
        have : blk.cells.length = 0 := by rw [hB.1]; rfl
        omega
      | some a =>
        have hone : ∀ v ∈ vs, v.one = true := by simpa [allOne] using h5
        obtain ⟨w', hw, hs⟩ := step_write P hr hb h2 haddr off vs (by omega) (by omega) hone (cellsOf_inn hc hin) (blk.pl && allRaw vs) blk.exact
          (fun hp => by simp only [Bool.and_eq_true] at hp; exact ⟨hp.1, by simpa [allRaw] using hp.2⟩) (fun he => he)
        refine ⟨w', ?_, hs⟩
        unfold storeVar
        have hsz : (concs σ vs).length = n := by simp [concs_eq, h1]
        simp only [Sem.run_bind, run_sizeOf' hn, Result.andThen_ok, Option.getD_some, cellsOf_conc hc]
        simpa [hsz] using hw
    · cases hv
  · cases hv

/-! ### arithmetic -/
def bits2 (op : BinOp) (k : IntKind) (a b : Int) : Option Int :=
  match op with
  | .and => some (k.wrap (BitVec.ofInt k.bits a &&& BitVec.ofInt k.bits b).toNat)
  | .or => some (k.wrap (BitVec.ofInt k.bits a ||| BitVec.ofInt k.bits b).toNat)
  | .xor => some (k.wrap (BitVec.ofInt k.bits a ^^^ BitVec.ofInt k.bits b).toNat)
  | .andNot => some (k.wrap (BitVec.ofInt k.bits a &&& ~~~BitVec.ofInt k.bits b).toNat)
  | _ => none

def ibin (op : BinOp) (k : IntKind) (a b : Int) : Option Value :=
  match op with
  | .add => some (.int k (k.wrap (a + b)))
  | .sub => some (.int k (k.wrap (a - b)))
  | .mul => some (.int k (k.wrap (a * b)))
  | .quo => if b = 0 then none else some (.int k (k.wrap (a.tdiv b)))
  | .rem => if b = 0 then none else some (.int k (a.tmod b))
  | .eql => some (.bool (a == b))
  | .neq => some (.bool (a != b))
  | .lss => some (.bool (decide (a < b)))
  | .leq => some (.bool (decide (a ≤ b)))
  | .gtr => some (.bool (decide (a > b)))
  | .geq => some (.bool (decide (a ≥ b)))
  | op => (bits2 op k a b).map (.int k)

def ishift (op : BinOp) (k : IntKind) (a b : Int) : Option Value :=
  if b < 0 then none else
  match op with
  | .shl => some (.int k (k.wrap (a * 2 ^ (min b.toNat k.bits))))
  | .shr => some (.int k (a.fdiv (2 ^ (min b.toNat k.bits))))
  | _ => none

def sbin (op : BinOp) (a b : ByteArray) : Option Value :=
  match op with
  | .eql => some (.bool (a.data.toList == b.data.toList))
  | .neq => some (.bool (!(a.data.toList == b.data.toList)))
  | .lss => some (.bool (Op.bytesLess a.data.toList b.data.toList))
  | _ => none

def bbin (op : BinOp) (P : Program) (t : TypeId) (a b : Bool) : Option Value :=
  match P.underlying t, op with
  | some .bool, .eql => some (.bool (a == b))
  | some .bool, .neq => some (.bool (!(a == b)))
  | _, _ => none

def isShift : BinOp → Bool
  | .shl | .shr => true
  | _ => false

def pbin (P : Program) (op : BinOp) (t : TypeId) (x y : Value) : Option Value :=
  match x, y with
  | .int k a, .int k' b => if isShift op then ishift op k a b else if k = k' then ibin op k a b else none
  | .string a, .string b => sbin op a b
  | .bool a, .bool b => bbin op P t a b
  | _, _ => none

theorem toList_data' (s : ByteArray) : s.toList = s.data.toList := by
  simp [ByteArray.toList_eq]

theorem run_equalIn_bool {P : Program} {t : TypeId} (hu : P.underlying t = some .bool) (a b : Bool) (w : World) (d : Nat) : (Op.equalIn (d + 1) t (.bool a) (.bool b)).run P w = .ok (a == b) w := by
  simp [Op.equalIn, run_underlying hu]
theorem run_equal_bool {P : Program} {t : TypeId} (hu : P.underlying t = some .bool) (a b : Bool) (w : World) : (Op.equal t (.bool a) (.bool b)).run P w = .ok (a == b) w :=
  run_equalIn_bool hu a b w 9999

theorem pbin_sound {P : Program} {op : BinOp} {t : TypeId} {x y v : Value} (h : pbin P op t x y = some v) (w : World) : (binOp op t x y).run P w = .ok v w := by
  unfold pbin at h
  split at h
  · rename_i k a k' b
    split at h
    · rename_i hs
      unfold ishift at h
      split at h
      · cases h
      · rename_i hb
        cases op <;> simp [isShift] at hs <;> simp only [Option.some.injEq] at h <;> subst h <;> simp [binOp, Op.shift, hb]
    · rename_i hs
      split at h
      · rename_i hk
        subst hk
        cases op <;> simp only [ibin, bits2, isShift, Option.map_some, Option.some.injEq, not_true_eq_false] at h hs
        case quo => split at h <;> simp_all [binOp, Op.intDiv]
        case rem => split at h <;> simp_all [binOp, Op.intDiv]
        all_goals (first | (exact absurd rfl hs) | (subst h; simp [binOp, Op.intArith, Op.intCmp, Op.intBits]))
      · cases h
  · rename_i a b
    cases op <;> simp [sbin] at h <;> subst h <;> simp [binOp, Op.stringOp, toList_data']
  · rename_i a b
    unfold bbin at h
    split at h
    · rename_i hu
      simp only [Option.some.injEq] at h; subst h
      simp only [binOp, Sem.run_bind, run_equal_bool hu, Result.andThen_ok, Sem.run_pure]
    · rename_i hu
      simp only [Option.some.injEq] at h; subst h
      simp only [binOp, Sem.run_bind, run_equal_bool hu, Result.andThen_ok, Sem.run_pure]
    · cases h
  · cases h

def plainEq : Value → Bool
  | .nilIface | .agg _ => false
  | _ => true

theorem eqGuard_plain {P : Program} (op : BinOp) (t : TypeId) (x y : Operand) (u v : Value) (h : plainEq u = true) (w : World) : (eqGuard op t x y u v).run P w = .ok () w := by
  have : eqGuard op t x y u v = pure () := by
    cases u <;> first | (cases h; done) | (cases op <;> rfl)
  rw [this]; rfl

theorem pbin_plain {P : Program} {op : BinOp} {t : TypeId} {x y v : Value} (h : pbin P op t x y = some v) : plainEq x = true := by
  unfold pbin at h; split at h <;> first | rfl | cases h

end Go.Ab
