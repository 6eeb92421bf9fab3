import Derived.Test.YtjjnjogmplbjoaaAbOp2
set_option linter.unusedSimpArgs false
set_option linter.unusedVariables false
namespace Go.Ab

/-! ### one operand -/
def aun (op : UnOp) (x : AV) : Option AV :=
  match op, x with
  | .not, .raw (.bool b) => some (.raw (.bool (!b)))
  | .neg, .raw (.int k n) => some (.raw (.int k (k.wrap (0 - n))))
  | .xor, .raw (.int k n) => (bits2 .xor k (if k.signed then -1 else k.max) n).map fun r => .raw (.int k r)
  | _, _ => none

theorem aun_sound {P : Program} {op : UnOp} {x v : AV} (h : aun op x = some v) (σ : Sg) (w : World) : (Op.unary op (conc σ x)).run P w = .ok (conc σ v) w ∧ ∀ p : Nat → Prop, v.inn p := by
  unfold aun at h
  split at h
  · simp only [Option.some.injEq] at h; subst h; exact ⟨rfl, fun _ => trivial⟩
  · simp only [Option.some.injEq] at h; subst h; exact ⟨rfl, fun _ => trivial⟩
  · rename_i k n
    simp only [bits2, Option.map_some, Option.some.injEq] at h; subst h
    exact ⟨by simp [conc, Op.unary, Op.intBits], fun _ => trivial⟩
  · cases h

def aconv (P : Program) (src dst : TypeId) (x : AV) : Option AV :=
  match x, P.underlying src, P.underlying dst with
  | .raw (.int _ n), some _, some (.int k) => some (.raw (.int k (k.wrap n)))
  | .raw (.string s), some .string, some .string => some (.raw (.string s))
  | _, _, _ => none

theorem aconv_sound {P : Program} {src dst : TypeId} {x v : AV} (h : aconv P src dst x = some v) (σ : Sg) (w : World) : (convert src dst (conc σ x)).run P w = .ok (conc σ v) w ∧ ∀ p : Nat → Prop, v.inn p := by
  unfold aconv at h
  split at h
  · rename_i k' n d k hs hd
    simp only [Option.some.injEq] at h; subst h
    refine ⟨?_, fun _ => trivial⟩
    unfold convert
    simp only [Sem.run_bind, run_underlying hs, run_underlying hd, Result.andThen_ok, conc]
    cases d <;> simp [Conv.intToInt]
  · rename_i s hs hd
    simp only [Option.some.injEq] at h; subst h
    refine ⟨?_, fun _ => trivial⟩
    unfold convert
    simp only [Sem.run_bind, run_underlying hs, run_underlying hd, Result.andThen_ok, conc, Sem.run_pure]
  · cases h

/-! ### addresses -/
theorem addr_add (b o n : Nat) : (⟨b, o, none⟩ : Addr).add n = ⟨b, o + n, none⟩ := by
  unfold Addr.add; split <;> simp_all

def afield (P : Program) (s : TypeId) (x : AV) (f : Nat) : Option AV :=
  match x, P.underlying s with
  | .ptr b off, some (.struct fs) =>
    match fs[f]? with
    | some fl => match tySize P fl.type with | some n => if n = 0 then none else some (.ptr b (off + fl.offset)) | none => none
    | none => none
  | _, _ => none

theorem afield_sound {P : Program} {s : TypeId} {x v : AV} {f : Nat} (h : afield P s x f = some v) (σ : Sg) (w : World) : (Instr.fieldAt s (conc σ x) f).run P w = .ok (conc σ v) w ∧ ∀ p : Nat → Prop, x.inn p → v.inn p := by
  unfold afield at h
  split at h
  · rename_i b off fs hu
    split at h
    · rename_i fl hf
      split at h
      · rename_i n hn
        split at h
        · cases h
        · rename_i h0
          simp only [Option.some.injEq] at h; subst h
          refine ⟨?_, fun p hp => hp⟩
          unfold Instr.fieldAt fieldPlace
          simp [run_underlying hu, hf, conc, Instr.sureAddr, run_sizeOf' hn, h0, addr_add, Nat.add_assoc]
      · cases h
    · cases h
  · cases h

/-- Is there memory at this place of a number? -/
noncomputable def hasAt (h : Heap) (b off : Nat) : Bool :=
  match hat h b with
  | .live blk => (nth blk.cells off).isSome
  | .rows _ => true
  | _ => false

theorem live_addr {σ : Sg} {h : Heap} {w : World} (hr : Rel σ h w) {b : Nat} {blk : Blk} (hb : hget h b = some blk) (hc : 0 < blk.cells.length) : ∃ a, (σ b).addr = some a ∧ a.spot = none := by
  have hB := hr.live b blk hb
  unfold BOK at hB
  cases ha : (σ b).addr with
  | none => simp only [ha] at hB; rw [hB.1] at hc; simp at hc
  | some a => simp only [ha] at hB; exact ⟨a, rfl, hB.1⟩

theorem hasAt_addr {σ : Sg} {h : Heap} {w : World} (hr : Rel σ h w) {b off : Nat} (hh : hasAt h b off = true) : ∃ a, (σ b).addr = some a ∧ a.spot = none := by
  unfold hasAt at hh
  split at hh
  · rename_i blk hb
    rw [nth_eq] at hh
    have : off < blk.cells.length := by
      rcases Nat.lt_or_ge off blk.cells.length with q | q
      · exact q
      · rw [List.getElem?_eq_none q] at hh; cases hh
    exact live_addr hr (hget_hat.2 hb) (by omega)
  · rename_i rs hb
    obtain ⟨-, -, a, h1, h2, -⟩ := hr.rows b rs hb
    exact ⟨a, h1, h2⟩
  · cases hh

noncomputable def aindexAddr (P : Program) (h : Heap) (t : TypeId) (x ix : AV) : Option AV :=
  match x, ix with
  | .ptr b off, .raw (.int _ i) =>
    match arrOf P t with
    | some (n, e) => match tySize P e with | some z => if 0 ≤ i ∧ i < n then some (.ptr b (off + i.toNat * z)) else none | none => none
    | none => none
  | .slice b off len _, .raw (.int _ i) =>
    match P.underlying t with
    | some (.slice e) => match tySize P e with | some z => if 0 ≤ i ∧ i < len ∧ hasAt h b off = true then some (.ptr b (off + i.toNat * z)) else none | none => none
    | _ => none
  | _, _ => none

theorem aindexAddr_sound {P : Program} {σ : Sg} {h : Heap} {w : World} (hr : Rel σ h w) {t : TypeId} {x ix v : AV} (hv : aindexAddr P h t x ix = some v) :
    (Instr.indexAt t (conc σ x) (conc σ ix)).run P w = .ok (conc σ v) w ∧ (∀ p : Nat → Prop, x.inn p → v.inn p) := by
  unfold aindexAddr at hv
  split at hv
  · rename_i b off k i
    split at hv
    · rename_i n e ha
      split at hv
      · rename_i z hz
        split at hv
        · rename_i hc
          simp only [Option.some.injEq] at hv; subst hv
          refine ⟨?_, fun p hp => hp⟩
          unfold Instr.indexAt
          simp [conc, asIntOf, run_underlying (arrOf_spec ha), Instr.sureAddr, hc, run_sizeOf' hz, addr_add, Nat.add_assoc]
        · cases hv
      · cases hv
    · cases hv
  · rename_i b off len c k i
    split at hv
    · rename_i e hu
      split at hv
      · rename_i z hz
        split at hv
        · rename_i hc
          obtain ⟨h1, h2, h3⟩ := hc
          simp only [Option.some.injEq] at hv; subst hv
          obtain ⟨a, haddr, _⟩ := hasAt_addr hr h3
          refine ⟨?_, fun p hp => hp⟩
          unfold Instr.indexAt
          simp [conc, asIntOf, run_underlying hu, haddr, h1, h2, run_sizeOf' hz, addr_add, Nat.add_assoc]
        · cases hv
      · cases hv
    · cases hv
  · cases hv

/-! ### parts of values -/
noncomputable def apart (P : Program) (t : TypeId) (cs : List AV) (off : Nat) : Option AV :=
  match tyAgg P t, tySize P t with
  | some true, some n => if lenF (takeF (dropF cs off) n) = n then some (.agg (takeF (dropF cs off) n)) else none
  | some false, _ => nth cs off
  | _, _ => none

theorem apart_sound {P : Program} {t : TypeId} {cs : List AV} {off : Nat} {v : AV} (h : apart P t cs off = some v) (σ : Sg) (w : World) :
    (part t (concs σ cs).toArray off).run P w = .ok (conc σ v) w ∧ ∀ p : Nat → Prop, inns p cs → v.inn p := by
  unfold apart at h
  split at h
  · rename_i n ha hn
    split at h
    · rename_i hl
      rw [lenF_eq, takeF_eq, dropF_eq] at hl
      rw [takeF_eq, dropF_eq] at h
      simp only [Option.some.injEq] at h; subst h
      refine ⟨?_, fun p hp => (inns_iff _ _).2 fun c hc => (inns_iff _ _).1 hp c (List.mem_of_mem_drop (List.mem_of_mem_take hc))⟩
      unfold part
      simp only [Sem.run_bind, run_isAgg ha, Result.andThen_ok, if_true, run_sizeOf' hn, Sem.run_pure, conc]
      congr 2
      rw [concs_eq, concs_eq]
      apply Array.ext'
      simp [List.extract_eq_take_drop, List.map_take, List.map_drop]
    · cases h
  · rename_i ha
    rw [nth_eq] at h
    refine ⟨?_, fun p hp => (inns_iff _ _).1 hp v (List.mem_of_getElem? h)⟩
    unfold part
    simp only [Sem.run_bind, run_isAgg ha, Result.andThen_ok, Bool.false_eq_true, if_false]
    have : (concs σ cs).toArray[off]? = some (conc σ v) := by simp [concs_eq, h]
    rw [this]; rfl
  · cases h

noncomputable def afld (P : Program) (t : TypeId) (x : AV) (f : Nat) : Option AV :=
  match x, P.underlying t with
  | .agg cs, some (.struct fs) => match fs[f]? with | some fl => apart P fl.type cs fl.offset | none => none
  | _, _ => none

theorem afld_sound {P : Program} {t : TypeId} {x v : AV} {f : Nat} (h : afld P t x f = some v) (σ : Sg) (w : World) : (Instr.field t (conc σ x) f).run P w = .ok (conc σ v) w ∧ ∀ p : Nat → Prop, x.inn p → v.inn p := by
  unfold afld at h
  split at h
  · rename_i cs fs hu
    split at h
    · rename_i fl hf
      obtain ⟨h1, h2⟩ := apart_sound h σ w
      refine ⟨?_, fun p hp => h2 p hp⟩
      unfold Instr.field
      simp [run_underlying hu, hf, conc, asAgg, h1]
    · cases h
  · cases h

noncomputable def aindex (P : Program) (t : TypeId) (x ix : AV) : Option AV :=
  match x, ix with
  | .agg cs, .raw (.int _ i) =>
    match arrOf P t with
    | some (n, e) => match tySize P e with | some z => if 0 ≤ i ∧ i < n then apart P e cs (i.toNat * z) else none | none => none
    | none => none
  | .raw (.string s), .raw (.int _ i) =>
    match P.underlying t with
    | some .string => if 0 ≤ i then match s.data.toList[i.toNat]? with | some b => some (.raw (.int .u8 b.toNat)) | none => none else none
    | _ => none
  | _, _ => none

theorem aindex_sound {P : Program} {t : TypeId} {x ix v : AV} (h : aindex P t x ix = some v) (σ : Sg) (w : World) : (Instr.index t (conc σ x) (conc σ ix)).run P w = .ok (conc σ v) w ∧ ∀ p : Nat → Prop, x.inn p → v.inn p := by
  unfold aindex at h
  split at h
  · rename_i cs k i
    split at h
    · rename_i n e ha
      split at h
      · rename_i z hz
        split at h
        · rename_i hc
          obtain ⟨h1, h2⟩ := apart_sound h σ w
          refine ⟨?_, fun p hp => h2 p hp⟩
          unfold Instr.index
          simp [run_underlying (arrOf_spec ha), conc, asIntOf, hc, run_sizeOf' hz, h1]
        · cases h
      · cases h
    · cases h
  · rename_i s k i
    split at h
    · rename_i hu
      split at h
      · rename_i hi
        split at h
        · rename_i b hb
          simp only [Option.some.injEq] at h; subst h
          refine ⟨?_, fun p hp => trivial⟩
          have hs : s[i.toNat]? = some b := by
            have h1 : i.toNat < s.data.toList.length := (List.getElem?_eq_some_iff.1 hb).1
            have h2 := (List.getElem?_eq_some_iff.1 hb).2
            have h3 : i.toNat < s.size := by simpa using h1
            rw [getElem?_pos s i.toNat h3]
            rw [← h2]; rfl
          unfold Instr.index
          simp [run_underlying hu, conc, asIntOf, hi, hs]
        · cases h
      · cases h
    · cases h
  · cases h

def aextract (x : AV) (i : Nat) : Option AV := match x with | .tup vs => vs[i]? | _ => none

theorem aextract_sound {P : Program} {x v : AV} {i : Nat} (h : aextract x i = some v) (σ : Sg) (w : World) : (Instr.extract (conc σ x) i).run P w = .ok (conc σ v) w ∧ ∀ p : Nat → Prop, x.inn p → v.inn p := by
  unfold aextract at h
  split at h
  · rename_i vs
    refine ⟨?_, fun p hp => (inns_iff _ _).1 hp v (List.mem_of_getElem? h)⟩
    unfold Instr.extract
    have : (concs σ vs).toArray[i]? = some (conc σ v) := by simp [concs_eq, h]
    simp only [conc, this]; rfl
  · cases h

end Go.Ab
