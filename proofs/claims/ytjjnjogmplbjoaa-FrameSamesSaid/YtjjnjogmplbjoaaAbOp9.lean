import Derived.Test.YtjjnjogmplbjoaaAbCall
import Derived.Laws.BytesString
import Derived.Laws.IdiomStrings
import Derived.Carry
set_option linter.unusedSimpArgs false
set_option linter.unusedVariables false
namespace Go.Ab

/-! ### a slice that came in, inside a slice: read -/
noncomputable def ldrow (P : Program) (h : Heap) (s : Nat) (t : TypeId) (b off : Nat) : Option Ans :=
  match hat h b, tyAgg P t with
  | .rows rs, some false =>
    match nth rs off with
    | some r =>
      match r.row with
      | some row => some (.slice s 0 r.len none, [(s, .live ⟨row.cells, false, false, true⟩)])
      | none => some (.raw (.slice r.a 0 r.cap), [])
    | none => none
  | _, _ => none

noncomputable def ldx (P : Program) (h : Heap) (s : Nat) (t : TypeId) (b off : Nat) : Option Ans :=
  match hat h b with
  | .rows _ => ldrow P h s t b off
  | _ => (ldv P h t b off).map (·, [])

theorem ldx_sound {P : Program} {σ : Sg} {h : Heap} {w : World} (hr : Rel σ h w) {s : Nat} (hs : ¬ nf h s) {t : TypeId} {b off : Nat} {v : AV} {δ : Delta} (hv : ldx P h s t b off = some (v, δ)) :
    Res P ((do pure (Next.value (← loadVar t ⟨((σ b).addr.getD default).block, ((σ b).addr.getD default).off + off, none⟩))).run P w) σ h w v δ := by
  unfold ldx at hv
  split at hv
  · rename_i rs0 hb0
    unfold ldrow at hv
    split at hv
    · rename_i rs hb ha
      split at hv
      · rename_i r hrs
        rw [nth_eq] at hrs
        obtain ⟨h1, h2, a, haddr, hsp, arr, ty, fr, hg, hc⟩ := hr.rows b rs hb
        have hcell : (loadVar t ⟨((σ b).addr.getD default).block, ((σ b).addr.getD default).off + off, none⟩).run P w = .ok r.val w := by
          unfold loadVar
          simp only [Sem.run_bind, run_isAgg ha, Result.andThen_ok, haddr, Option.getD_some]
          have : w.cell? ⟨a.block, a.off + off, none⟩ = some r.val := by
            simp only [World.cell?, hg]
            simpa using hc off r hrs
          simp [run_load, this]
        split at hv
        · rename_i row hrow
          simp only [Option.some.injEq, Prod.mk.injEq] at hv
          obtain ⟨rfl, rfl⟩ := hv
          have hst := step_view hr hs hb (List.mem_of_getElem? hrs) hrow
          have hok := h1 r (List.mem_of_getElem? hrs) row hrow
          have hspot := InRow.spot hok
          refine ⟨_, w, .inl ?_, hst, ?_⟩
          · rw [Sem.run_bind, hcell]
            have e : r.val = conc (fun i => if i = s then (⟨some row.x, row.zs.length⟩ : RB) else σ i) (.slice s 0 r.len none) := by
              unfold KRow.val
              rw [hrow]
              simp only [conc, if_true, Option.map_some, Option.getD_none, Nat.add_zero, Nat.sub_zero]
              cases hx : row.x with
              | mk bb o sp => rw [hx] at hspot; simp only at hspot; subst hspot; rfl
            rw [← e]
            rfl
          · show nf (upd h s _) s
            unfold nf; rw [hat_upd]; simp
        · rename_i hrow
          simp only [Option.some.injEq, Prod.mk.injEq] at hv
          obtain ⟨rfl, rfl⟩ := hv
          refine Res.val hr trivial ?_
          rw [hcell]
          unfold KRow.val
          rw [hrow]; rfl
      · cases hv
    · cases hv
  · simp only [Option.map_eq_some_iff, Prod.mk.injEq] at hv
    obtain ⟨u, hu, rfl, rfl⟩ := hv
    obtain ⟨h2, h3⟩ := ldv_sound hr hu
    exact Res.val hr h3 h2

/-! ### bytes and strings -/
def byteOf : AV → UInt8
  | .raw (.int _ n) => UInt8.ofNat n.toNat
  | _ => 0
def isU8 : AV → Bool
  | .raw (.int .u8 _) => true
  | _ => false
noncomputable def allU8 (cs : List AV) : Bool := List.rec (motive := fun _ => Bool) true (fun a _ ih => match isU8 a with | true => ih | false => false) cs
theorem allU8_iff : ∀ cs : List AV, allU8 cs = true ↔ ∀ c ∈ cs, isU8 c = true
  | [] => by simp [allU8]
  | c :: cs => by
    have e : allU8 (c :: cs) = match isU8 c with | true => allU8 cs | false => false := rfl
    rw [e]
    cases h : isU8 c with
    | true => simp [h, allU8_iff cs]
    | false => simp [h]
def strOf (cs : List AV) : ByteArray := ⟨(cs.map byteOf).toArray⟩
def isBytes (P : Program) (t : TypeId) : Bool := match P.underlying t with | some (.slice e) => (match P.underlying e with | some (.int .u8) => true | _ => false) | _ => false
def isStr (P : Program) (t : TypeId) : Bool := match P.underlying t with | some .string => true | _ => false
theorem isBytes_spec {P : Program} {t : TypeId} (h : isBytes P t = true) : ∃ e, P.underlying t = some (.slice e) ∧ P.underlying e = some (.int .u8) := by
  unfold isBytes at h
  split at h
  · rename_i e he
    split at h
    · rename_i hu; exact ⟨e, he, hu⟩
    · cases h
  · cases h
theorem isStr_spec {P : Program} {t : TypeId} (h : isStr P t = true) : P.underlying t = some .string := by
  unfold isStr at h
  split at h
  · assumption
  · cases h

theorem push_fold : ∀ (cs : List AV) (s : ByteArray), (∀ c ∈ cs, isU8 c = true) → ∃ ns : List Int, cs = ns.map (fun n => AV.raw (.int .u8 n)) ∧ ns.foldl (fun (r : ByteArray) n => r.push (UInt8.ofNat n.toNat)) s = ⟨s.data ++ (cs.map byteOf).toArray⟩
  | [], s, _ => ⟨[], rfl, by simp⟩
  | c :: cs, s, h => by
    have hc := h c (.head _)
    obtain ⟨n, rfl⟩ : ∃ n, c = .raw (.int .u8 n) := by
      unfold isU8 at hc
      split at hc
      · rename_i n; exact ⟨n, rfl⟩
      · cases hc
    obtain ⟨ns, e1, e2⟩ := push_fold cs (s.push (UInt8.ofNat n.toNat)) (fun x hx => h x (.tail _ hx))
    refine ⟨n :: ns, by rw [e1]; rfl, ?_⟩
    rw [List.foldl_cons, e2]
    simp [ByteArray.push, byteOf]

/-- A conversion, in whatever direction. -/
noncomputable def aconvx (P : Program) (h : Heap) (s : Nat) (src dst : TypeId) (x : AV) : Option Ans :=
  match x with
  | .slice b off len _ =>
    match isBytes P src && isStr P dst, hget h b with
    | true, some blk =>
      if lenF (takeF (dropF blk.cells off) len) = len ∧ allU8 (takeF (dropF blk.cells off) len) = true then some (.raw (.string (strOf (takeF (dropF blk.cells off) len))), []) else none
    | _, _ => none
  | .raw (.slice _ 0 _) => if (isBytes P src && isStr P dst) = true then some (.raw (.string ⟨#[]⟩), []) else none
  | .raw (.string sb) =>
    if (isBytes P dst && isStr P src) = true then some (.slice s 0 (lenF sb.data.toList) none, [(s, .live ⟨sb.data.toList.map fun b : UInt8 => AV.raw (.int .u8 b.toNat), true, false, true⟩)])
    else (aconv P src dst x).map (·, [])
  | _ => (aconv P src dst x).map (·, [])

theorem run_bytesToString' {P : Program} (w : World) {src dst e : TypeId} (hs : P.underlying src = some (.slice e)) (he : P.underlying e = some (.int .u8)) (hd : P.underlying dst = some .string) (a : Addr) (len cap : Nat) (cs : List AV) (σ : Sg) (hcs : ∀ c ∈ cs, isU8 c = true)
    (hl : (loadCells a len).run P w = .ok (concs σ cs).toArray w) : (convert src dst (.slice (some a) len cap)).run P w = .ok (.string (strOf cs)) w := by
  obtain ⟨ns, e1, e2⟩ := push_fold cs ByteArray.empty hcs
  have hl' : (loadCells a len).run P w = .ok (ns.map (Value.int .u8)).toArray w := by
    rw [hl, e1]
    congr 1
    simp [concs_eq, Function.comp_def, conc]
  unfold convert
  simp only [Sem.run_bind, run_underlying hs, run_underlying hd, run_underlying he, Result.andThen_ok]
  rw [run_bytesToString w a len cap ns hl', e2]
  have e0 : ByteArray.empty.data = #[] := rfl
  rw [e0]
  simp [strOf]

theorem aconvx_sound {P : Program} {σ : Sg} {h : Heap} {w : World} (hr : Rel σ h w) {s : Nat} (hs : ¬ nf h s) {src dst : TypeId} {x v : AV} {δ : Delta} (hv : aconvx P h s src dst x = some (v, δ)) :
    Res P ((do pure (Next.value (← convert src dst (conc σ x)))).run P w) σ h w v δ := by
  have plain : (aconv P src dst x).map (·, ([] : Delta)) = some (v, δ) → Res P ((do pure (Next.value (← convert src dst (conc σ x)))).run P w) σ h w v δ := fun hv => by
    simp only [Option.map_eq_some_iff, Prod.mk.injEq] at hv
    obtain ⟨r, hr', rfl, rfl⟩ := hv
    obtain ⟨h3, h4⟩ := aconv_sound hr' σ w
    exact Res.val hr (h4 _) h3
  unfold aconvx at hv
  split at hv
  · rename_i b off len cap
    split at hv
    · rename_i blk ht hb
      simp only [Bool.and_eq_true] at ht
      obtain ⟨e, h1, h2⟩ := isBytes_spec ht.1
      have h3 := isStr_spec ht.2
      split at hv
      · rename_i hc
        rw [lenF_eq, takeF_eq, dropF_eq] at hc
        rw [takeF_eq, dropF_eq] at hv
        obtain ⟨hc1, hc2⟩ := hc
        simp only [Option.some.injEq, Prod.mk.injEq] at hv
        obtain ⟨rfl, rfl⟩ := hv
        refine Res.val hr trivial ?_
        have hB := hr.live b blk hb
        cases haddr : (σ b).addr with
        | none =>
          unfold BOK at hB
          simp only [haddr] at hB
          rw [hB.1] at hc1 ⊢
          simp at hc1
          subst hc1
          unfold convert
          simp [run_underlying h1, run_underlying h2, run_underlying h3, conc, haddr, Conv.bytesToString, strOf]
          rfl
        | some a =>
          have hcells := run_cells P hr hb off ((blk.cells.drop off).take len) (fun j v hj => by
            rw [List.getElem?_take] at hj
            split at hj
            · rwa [List.getElem?_drop] at hj
            · cases hj) haddr
          rw [hc1] at hcells
          simp only [conc, haddr, Option.map_some]
          exact run_bytesToString' w h1 h2 h3 _ len _ _ σ ((allU8_iff _).1 hc2) hcells
      · cases hv
    · cases hv
  · rename_i a c
    split at hv
    · rename_i ht
      simp only [Bool.and_eq_true] at ht
      obtain ⟨e, h1, h2⟩ := isBytes_spec ht.1
      have h3 := isStr_spec ht.2
      simp only [Option.some.injEq, Prod.mk.injEq] at hv
      obtain ⟨rfl, rfl⟩ := hv
      refine Res.val hr trivial ?_
      cases a with
      | none =>
        unfold convert
        simp [run_underlying h1, run_underlying h2, run_underlying h3, conc, Conv.bytesToString]
        rfl
      | some a =>
        have := run_bytesToString' (P := P) w h1 h2 h3 a 0 c [] σ (by simp) (by simp [loadCells, loadCellsFrom, concs])
        simp only [conc]
        rw [this]; rfl
    · cases hv
  · rename_i sb
    split at hv
    · rename_i ht
      simp only [Bool.and_eq_true] at ht
      obtain ⟨e, h1, h2⟩ := isBytes_spec ht.1
      have h3 := isStr_spec ht.2
      simp only [Option.some.injEq, Prod.mk.injEq] at hv
      obtain ⟨rfl, rfl⟩ := hv
      have hrun := run_bytes_of_string w src dst e sb h3 h1 h2
      have hsz : sb.data.toList.length = sb.size := by simp
      have hcap : sb.size ≤ grownCap w sb.size 0 e := by
        unfold grownCap
        simp [Question.cut]
      have hd := Step.drew hr (w.drawn + 1)
      have hst := step_new hd.rel hs (sb.data.toList.map fun b : UInt8 => AV.raw (.int .u8 b.toNat)) e true false (fun _ v hv => by obtain ⟨b, _, rfl⟩ := List.mem_map.1 hv; rfl) (fun v hv => by obtain ⟨b, _, rfl⟩ := List.mem_map.1 hv; rfl)
        (fun v hv => by obtain ⟨b, _, rfl⟩ := List.mem_map.1 hv; trivial) (List.replicate (grownCap w sb.size 0 e - sb.size) (Value.int .u8 0)) (fun h => by cases h) (grownCap w sb.size 0 e, grownCap w sb.size 0 e + 1) (.inl (by simp; omega))
      refine ⟨_, _, .inl ?_, hd.trans hst, ?_⟩
      · have ew : (w.drew.alloc (.cells (bytesRow sb (grownCap w sb.size 0 e)) e ((bytesRow sb (grownCap w sb.size 0 e)).size, (bytesRow sb (grownCap w sb.size 0 e)).size + 1))) =
            ({ w with drawn := w.drawn + 1 } : World).alloc (.cells ((sb.data.toList.map fun b : UInt8 => AV.raw (.int .u8 b.toNat)).map (conc σ) ++ List.replicate (grownCap w sb.size 0 e - sb.size) (Value.int .u8 0)).toArray e (grownCap w sb.size 0 e, grownCap w sb.size 0 e + 1)) := by
          have e1 : (bytesRow sb (grownCap w sb.size 0 e)).size = grownCap w sb.size 0 e := by simp [bytesRow]; omega
          rw [e1]
          have e2 : bytesRow sb (grownCap w sb.size 0 e) = ((sb.data.toList.map fun b : UInt8 => AV.raw (.int .u8 b.toNat)).map (conc σ) ++ List.replicate (grownCap w sb.size 0 e - sb.size) (Value.int .u8 0)).toArray := by
            apply Array.ext'
            simp [bytesRow, Function.comp_def, conc]
          rw [e2]
          rfl
        rw [← ew]
        simp only [conc, Sem.run_bind, hrun, Result.andThen_ok, Sem.run_pure, if_true, Option.map_some, Option.getD_none, lenF_eq, hsz]
        congr 3
        simp
        omega
      · show nf (upd h s _) s
        unfold nf; rw [hat_upd]; simp
    · exact plain hv
  · exact plain hv

/-! ### a slice against nil -/
def isSl (P : Program) (t : TypeId) : Bool := match P.underlying t with | some (.slice _) => true | _ => false
theorem isSl_spec {P : Program} {t : TypeId} (h : isSl P t = true) : ∃ e, P.underlying t = some (.slice e) := by
  unfold isSl at h
  split at h
  · rename_i e he; exact ⟨e, he⟩
  · cases h
noncomputable def abinx (P : Program) (h : Heap) (op : BinOp) (t : TypeId) (x y : AV) : Option AV :=
  match x, y with
  | .slice b off _ _, .raw (.slice none _ _) => if (isSl P t && hasAt h b off) = true then eqv op false else none
  | .raw (.slice a _ _), .raw (.slice none _ _) => if isSl P t = true then eqv op a.isNone else none
  | x, y => abin P op t x y

theorem run_equalIn_slice {P : Program} {t e : TypeId} (hu : P.underlying t = some (.slice e)) (a : Option Addr) (l c l' c' : Nat) (w : World) (d : Nat) : (Op.equalIn (d + 1) t (.slice a l c) (.slice none l' c')).run P w = .ok a.isNone w := by
  cases a <;> simp [Op.equalIn, run_underlying hu]

theorem abinx_sound {P : Program} {σ : Sg} {h : Heap} {w : World} (hr : Rel σ h w) {op : BinOp} {t : TypeId} {x y v : AV} (hv : abinx P h op t x y = some v) (ox oy : Operand) :
    ((do eqGuard op t ox oy (conc σ x) (conc σ y); binOp op t (conc σ x) (conc σ y)) : Sem Value).run P w = .ok (conc σ v) w ∧ (∀ p : Nat → Prop, v.inn p) := by
  have key : ∀ (a : Option Addr) (l c l' c' : Nat), isSl P t = true → eqv op a.isNone = some v → ((do eqGuard op t ox oy (.slice a l c) (.slice none l' c'); binOp op t (.slice a l c) (.slice none l' c')) : Sem Value).run P w = .ok (conc σ v) w ∧ (∀ p : Nat → Prop, v.inn p) := fun a l c l' c' ht hq => by
    obtain ⟨e, he⟩ := isSl_spec ht
    have := run_equalIn_slice he a l c l' c' w 9999
    cases op <;> simp only [eqv, Option.some.injEq] at hq <;> first | (cases hq; done) | skip
    all_goals
      subst hq
      refine ⟨?_, fun _ => trivial⟩
      simp only [Sem.run_bind, eqGuard_plain _ t ox oy (.slice _ _ _) _ rfl, Result.andThen_ok, binOp]
      show Result.andThen ((Op.equalIn (9999 + 1) t _ _).run P w) _ = _
      rw [this]
      rfl
  unfold abinx at hv
  split at hv
  · rename_i b off l c l' c'
    split at hv
    · rename_i hc
      simp only [Bool.and_eq_true] at hc
      obtain ⟨a, ha, -⟩ := hasAt_addr hr hc.2
      have := key (some ⟨a.block, a.off + off, none⟩) l (c.getD ((σ b).size - off)) l' c' hc.1 hv
      simp only [conc, ha, Option.map_some]
      exact this
    · cases hv
  · rename_i a l c l' c'
    split at hv
    · rename_i ht
      exact key a l c l' c' ht hv
    · cases hv
  · exact abin_sound hv σ w ox oy

/-! ### an array behind a slice; the greatest; interface values -/
def aarrayAt (P : Program) (t : TypeId) (x : AV) : Option AV :=
  match x with
  | .slice b off len _ => match arrOf P t with | some (n, _) => if n ≤ len ∧ 0 < n then some (.ptr b off) else none | none => none
  | _ => none

theorem aarrayAt_sound {P : Program} {σ : Sg} {w : World} {t : TypeId} {x v : AV} (hv : aarrayAt P t x = some v) (ha : ∀ b off len c, x = .slice b off len c → ∃ a, (σ b).addr = some a) :
    (Instr.arrayAt t (conc σ x)).run P w = .ok (conc σ v) w ∧ ∀ p : Nat → Prop, x.inn p → v.inn p := by
  unfold aarrayAt at hv
  split at hv
  · rename_i b off len c
    split at hv
    · rename_i n e hn
      split at hv
      · rename_i hc
        simp only [Option.some.injEq] at hv; subst hv
        obtain ⟨a, haddr⟩ := ha b off len c rfl
        refine ⟨?_, fun p hp => hp⟩
        unfold Instr.arrayAt
        simp only [Sem.run_bind, run_underlying (arrOf_spec hn), Result.andThen_ok, conc, haddr, Option.map_some, Option.getD_some]
        rw [if_neg (by omega)]
        rfl
      · cases hv
    · cases hv
  · cases hv

def amax2 (x y : AV) : Option AV :=
  match x, y with
  | .raw (.int k a), .raw (.int _ b) => some (.raw (.int k (if b > a then b else a)))
  | _, _ => none

theorem amax2_sound {P : Program} {x y v : AV} (h : amax2 x y = some v) (σ : Sg) (w : World) (ty : TypeId) (ts : Array TypeId) :
    (Builtin.max_ ts ty #[conc σ x, conc σ y]).run P w = .ok (conc σ v) w ∧ ∀ p : Nat → Prop, v.inn p := by
  unfold amax2 at h
  split at h
  · simp only [Option.some.injEq] at h; subst h
    exact ⟨by simp [Builtin.max_, Builtin.max2, conc], fun _ => trivial⟩
  · cases h

def amakeI (P : Program) (t : TypeId) (x : AV) : Option AV :=
  match P.underlying t with
  | some (.map _ _) => some (.iface t x)
  | _ => none
theorem amakeI_sound {P : Program} {t : TypeId} {x v : AV} (h : amakeI P t x = some v) (σ : Sg) (w : World) : (Instr.makeInterface t (conc σ x)).run P w = .ok (conc σ v) w ∧ ∀ p : Nat → Prop, x.inn p → v.inn p := by
  unfold amakeI at h
  split at h
  · rename_i k e hu
    simp only [Option.some.injEq] at h; subst h
    exact ⟨by simp [Instr.makeInterface, run_underlying hu, conc], fun _ hp => hp⟩
  · cases h
def aassert (P : Program) (x : AV) (asserted : TypeId) (ok : Bool) : Option AV :=
  match P.underlying asserted, x, ok with
  | some (.map _ _), .iface t v, false => if t = asserted then some v else none
  | _, _, _ => none
theorem aassert_sound {P : Program} {x v : AV} {xt asserted : TypeId} {ok : Bool} (h : aassert P x asserted ok = some v) (σ : Sg) (w : World) : (Instr.typeAssert (conc σ x) xt asserted ok).run P w = .ok (conc σ v) w ∧ ∀ p : Nat → Prop, x.inn p → v.inn p := by
  unfold aassert at h
  split at h
  · rename_i k e t u hu
    split at h
    · rename_i he
      simp only [Option.some.injEq] at h; subst h
      refine ⟨?_, fun _ hp => hp⟩
      unfold Instr.typeAssert
      simp [run_underlying hu, conc, he]
    · cases h
  · cases h

end Go.Ab
