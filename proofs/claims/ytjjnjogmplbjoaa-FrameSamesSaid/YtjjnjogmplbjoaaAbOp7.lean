import Derived.Test.YtjjnjogmplbjoaaAbOp6
set_option linter.unusedSimpArgs false
set_option linter.unusedVariables false
namespace Go.Ab

/-- What is read of a slice or a string: the cells from its begin on, its length, and whether its cells hold no address. -/
noncomputable def srcOf (h : Heap) : AV → Option (List AV × Nat × Bool)
  | .raw (.slice _ 0 _) => some ([], 0, true)
  | .raw (.string s) => some (s.data.toList.map fun b => .raw (.int .u8 b.toNat), s.data.toList.length, true)
  | .slice b off len _ => match hget h b with | some blk => some (blk.cells.drop off, len, blk.pl) | none => none
  | _ => none

theorem srcOf_sound {P : Program} {σ : Sg} {h : Heap} {w : World} (hr : Rel σ h w) {x : AV} {cs : List AV} {n : Nat} {pl : Bool} (hx : srcOf h x = some (cs, n, pl)) :
    (Builtin.lenOf (conc σ x)).run P w = .ok n w ∧ (∀ z k, k ≤ n → (cs.take (k * z)).length = k * z → (z = 1 ∨ ∀ s, x ≠ .raw (.string s)) → (Builtin.firstCells z k (conc σ x)).run P w = .ok (concs σ (cs.take (k * z))).toArray w) ∧
      (pl = true → ∀ v ∈ cs, v.isRaw = true) ∧ (∀ v ∈ cs, v.one = true) ∧ (∀ v ∈ cs, v.inn (nf h)) := by
  unfold srcOf at hx
  split at hx
  · simp only [Option.some.injEq, Prod.mk.injEq] at hx
    obtain ⟨rfl, rfl, rfl⟩ := hx
    refine ⟨by simp [conc, Builtin.lenOf], fun z k hk hl _ => ?_, by simp, by simp, by simp⟩
    have : k = 0 := by omega
    subst this
    rename_i a c _
    cases a <;> simp [conc, Builtin.firstCells, concs, loadCells, loadCellsFrom]
  · rename_i s
    simp only [Option.some.injEq, Prod.mk.injEq] at hx
    obtain ⟨rfl, rfl, rfl⟩ := hx
    refine ⟨by simp [conc, Builtin.lenOf], fun z k hk hl hz => ?_, fun _ v hv => ?_, fun v hv => ?_, fun v hv => ?_⟩
    · rcases hz with hz | hz
      · subst hz
        simp only [conc, Builtin.firstCells, Sem.run_pure, Nat.mul_one]
        congr 1
        apply Array.ext'
        simp only [concs_eq, Array.toList_map]
        have : (s.extract 0 k).data.toList = s.data.toList.take k := by
          simp [ByteArray.extract, ByteArray.copySlice]
        rw [this, ← List.map_take, List.map_map]
        rfl
      · exact absurd rfl (hz s)
    · obtain ⟨b, _, rfl⟩ := List.mem_map.1 hv; rfl
    · obtain ⟨b, _, rfl⟩ := List.mem_map.1 hv; rfl
    · obtain ⟨b, _, rfl⟩ := List.mem_map.1 hv; trivial
  · rename_i b off len cap
    split at hx
    · rename_i blk hb
      simp only [Option.some.injEq, Prod.mk.injEq] at hx
      obtain ⟨rfl, rfl, rfl⟩ := hx
      refine ⟨by simp [conc, Builtin.lenOf], fun z k hk hl _ => ?_, fun hp v hv => hr.plain b blk hb hp v (List.mem_of_mem_drop hv), fun v hv => hr.one b blk hb v (List.mem_of_mem_drop hv), fun v hv => hr.ids b blk hb v (List.mem_of_mem_drop hv)⟩
      cases ha : (σ b).addr with
      | none =>
        have hB := hr.live b blk hb
        unfold BOK at hB
        simp only [ha] at hB
        rw [hB.1] at hl ⊢
        simp at hl
        simp [conc, ha, Builtin.firstCells, concs]
      | some a =>
        have hc := run_cells P hr hb off ((blk.cells.drop off).take (k * z)) (fun j v hj => by
          rw [List.getElem?_take] at hj
          split at hj
          · rwa [List.getElem?_drop] at hj
          · cases hj) ha
        rw [hl] at hc
        simp only [conc, ha, Option.map_some, Builtin.firstCells, hc]
    · cases hx
  · cases hx

noncomputable def acopy (P : Program) (h : Heap) (t : TypeId) (dst src : AV) : Option Ans :=
  match P.underlying t, dst with
  | some (.slice e), .slice b off dlen _ =>
    match hget h b, srcOf h src, tySize P e with
    | some blk, some (cs, slen, pl), some 1 =>
      if blk.own = true ∧ off + min slen dlen ≤ blk.cells.length ∧ (cs.take (min slen dlen)).length = min slen dlen ∧ 0 < blk.cells.length then
        some (.raw (.int .i64 ((min slen dlen : Nat) : Int)), [(b, .live ⟨splice blk.cells off (cs.take (min slen dlen)), true, blk.exact, blk.pl && pl⟩)])
      else none
    | _, _, _ => none
  | _, _ => none

theorem acopy_sound {P : Program} {σ : Sg} {h : Heap} {w : World} (hr : Rel σ h w) {t ty t1 : TypeId} {dst src v : AV} {δ : Delta} (hv : acopy P h t dst src = some (v, δ)) :
    Res P ((do pure (Next.value (← Builtin.copy_ #[t, t1] ty #[conc σ dst, conc σ src]))).run P w) σ h w v δ := by
  unfold acopy at hv
  split at hv
  · rename_i e b off dlen cap hu
    split at hv
    · rename_i blk cs slen pl hb hsrc hz
      split at hv
      · rename_i hc
        obtain ⟨h1, h2, h3, h4⟩ := hc
        simp only [Option.some.injEq, Prod.mk.injEq] at hv
        obtain ⟨rfl, rfl⟩ := hv
        obtain ⟨s1, s2, s3, s4, s5⟩ := srcOf_sound (P := P) hr hsrc
        obtain ⟨a, ha, _⟩ := live_addr hr hb h4
        have hlen := (hr.len b blk hb).1
        obtain ⟨w', hw, hs⟩ := step_write P hr hb h1 ha off (cs.take (min slen dlen)) (by omega) (by omega) (fun v hv => s4 v (List.mem_of_mem_take hv)) (fun v hv => s5 v (List.mem_of_mem_take hv)) (blk.pl && pl) blk.exact
          (fun hp => by simp only [Bool.and_eq_true] at hp; exact ⟨hp.1, fun v hv => s3 hp.2 v (List.mem_of_mem_take hv)⟩) (fun he => he)
        refine ⟨σ, w', .inl ?_, hs, trivial⟩
        have hf := s2 1 (min slen dlen) (Nat.min_le_left _ _) (by simpa using h3) (.inl rfl)
        rw [Nat.mul_one] at hf
        unfold Builtin.copy_
        have hmin : Nat.min slen dlen = min slen dlen := rfl
        have hd : conc σ (.slice b off dlen cap) = .slice (some ⟨a.block, a.off + off, none⟩) dlen (cap.getD ((σ b).size - off)) := by simp [conc, ha]
        simp only [hd, List.getElem?_toArray, List.getElem?_cons_zero, List.getElem?_cons_succ, Sem.run_bind, run_underlying hu, Result.andThen_ok, s1, run_sizeOf' hz, hmin, hf, hw, Sem.run_pure]
        simp [conc, goInt]
      · cases hv
    · cases hv
  · cases hv

/-! ### append -/
theorem growBy_le (n : Nat) : ∀ (r c : Nat), c < n → Builtin.growBy n r c ≤ 2 * n + 200 ∨ Builtin.growBy n r c < n
  | 0, c, h => .inr (by simpa [Builtin.growBy] using h)
  | r + 1, c, h => by
    simp only [Builtin.growBy]
    rw [if_neg (by omega)]
    by_cases h2 : c + (c + 768) / 4 < n
    · exact growBy_le n r _ h2
    · left
      cases r with
      | zero => simp only [Builtin.growBy]; omega
      | succ r => simp only [Builtin.growBy]; rw [if_pos (by omega)]; omega

theorem nextcap_le (n c : Nat) (h : c < n) : Builtin.nextslicecap n c ≤ 2 * n + 600 := by
  unfold Builtin.nextslicecap
  split
  · omega
  · split
    · omega
    · rcases growBy_le n 4 c h with h | h <;> omega

structure AppArgs where
  vs : List AV
  n : Nat
  pl : Bool

/-- What is appended. -/
noncomputable def appended (P : Program) (h : Heap) (e t1 : TypeId) (x : AV) : Option AppArgs :=
  if isInt P t1 = true then
    match x, zeroOf P e with
    | .raw (.int _ l), some [z] => if 0 ≤ l ∧ l ≤ 4294967296 ∧ z.isRaw = true ∧ z.one = true then some ⟨List.replicate l.toNat z, l.toNat, true⟩ else none
    | _, _ => none
  else
    match srcOf h x with
    | some (cs, n, pl) => if (cs.take n).length = n then some ⟨cs.take n, n, pl⟩ else none
    | none => none

noncomputable def aappend (P : Program) (h : Heap) (s : Nat) (t t1 : TypeId) (dst x : AV) : Option Ans :=
  match P.underlying t with
  | some (.slice e) =>
    match P.info? e, appended P h e t1 x, zeroOf P e with
    | some i, some A, some [_] =>
      if i.size = 1 ∧ i.bytes ≤ 4096 ∧ (P.underlying t1).isSome = true then
        match dst with
        | .raw (.slice none 0 0) =>
          if A.n ≤ 4294967296 then
            (if A.n = 0 then some (.raw (.slice none 0 0), []) else some (.slice s 0 A.n none, [(s, .live ⟨A.vs, true, false, A.pl⟩)]))
          else none
        | .slice b off len cap =>
          match hget h b with
          | some blk =>
            if off + len = blk.cells.length ∧ len + A.n ≤ 4294967296 then
              match cap with
              | some c =>
                if c < len + A.n then some (.slice s 0 (len + A.n) none, [(s, .live ⟨blk.cells.drop off ++ A.vs, true, false, blk.pl && A.pl⟩)])
                else if A.n = 0 ∧ len ≤ c then some (.slice b off len (some c), []) else none
              | none => if blk.own = true then some (.slice s 0 (len + A.n) none, [(b, .gone), (s, .live ⟨blk.cells.drop off ++ A.vs, true, false, blk.pl && A.pl⟩)]) else none
            else none
          | none => none
        | _ => none
      else none
    | _, _, _ => none
  | _ => none

theorem zeroCells_one (v : Value) (n : Nat) : Builtin.zeroCells #[v] n = Array.replicate n v := by
  apply Array.ext'
  simp only [Builtin.zeroCells, Array.toList_map, Array.toList_range, Array.toList_replicate]
  apply List.ext_getElem
  · simp
  · intro i h1 h2
    simp [Nat.mod_one]

theorem zeroOf_one {P : Program} {e : TypeId} {z : AV} (h : zeroOf P e = some [z]) : ∃ zv u, (P.info? e).bind (·.zero) = some zv ∧ zv.cells = #[u] ∧ z = .raw u := by
  obtain ⟨zv, h1, h2⟩ := zeroOf_spec h
  have : zv.cells.toList.map AV.raw = [z] := h2.symm
  cases hl : zv.cells.toList with
  | nil => simp [hl] at this
  | cons u r =>
    simp only [hl, List.map_cons, List.cons.injEq, List.map_eq_nil_iff] at this
    obtain ⟨rfl, rfl⟩ := this
    exact ⟨zv, u, h1, by apply Array.ext'; simp [hl], rfl⟩

def descInt : TypeDesc → Bool
  | .int _ => true
  | _ => false

/-- How much is appended, and which cells. -/
theorem appended_sound {P : Program} {σ : Sg} {h : Heap} {w : World} (hr : Rel σ h w) {e t1 : TypeId} {x : AV} {A : AppArgs} (hA : appended P h e t1 x = some A) {i : TypeInfo} (hi : P.info? e = some i) (hsz : i.size = 1) (hby : i.bytes ≤ 4096)
    {z0 : AV} (hz : zeroOf P e = some [z0]) {d1 : TypeDesc} (hu1 : P.underlying t1 = some d1) :
    A.vs.length = A.n ∧ (A.pl = true → ∀ v ∈ A.vs, v.isRaw = true) ∧ (∀ v ∈ A.vs, v.one = true) ∧ (∀ v ∈ A.vs, v.inn (nf h)) ∧
    ((descInt d1 = true ∧ ∃ l : IntKind × Int, conc σ x = .int l.1 l.2 ∧ IntKind.i64.wrap l.2 = l.2 ∧ 0 ≤ l.2 ∧ l.2 ≤ 4294967296 ∧ l.2.toNat = A.n ∧ ∃ zv u, (P.info? e).bind (·.zero) = some zv ∧ zv.cells = #[u] ∧ (concs σ A.vs).toArray = Array.replicate A.n u) ∨
     (descInt d1 = false ∧ (Builtin.lenOf (conc σ x)).run P w = .ok A.n w ∧ (Builtin.firstCells 1 A.n (conc σ x)).run P w = .ok (concs σ A.vs).toArray w)) := by
  unfold appended at hA
  split at hA
  · rename_i hint
    split at hA
    · rename_i k l z hz'
      split at hA
      · rename_i hc
        obtain ⟨h0, h1, h2, h3⟩ := hc
        simp only [Option.some.injEq] at hA; subst hA
        obtain ⟨zv, u, q1, q2, rfl⟩ := zeroOf_one hz'
        refine ⟨by simp, fun _ v hv => by rw [List.eq_of_mem_replicate hv]; rfl, fun v hv => by rw [List.eq_of_mem_replicate hv]; exact h3, fun v hv => by rw [List.eq_of_mem_replicate hv]; trivial, .inl ⟨?_, (k, l), rfl, wrap_i64 l h0 h1, h0, h1, rfl, zv, u, q1, q2, ?_⟩⟩
        · obtain ⟨k', hk'⟩ := isInt_spec hint
          rw [hu1] at hk'; cases hk'; rfl
        · apply Array.ext'
          simp [concs_eq, conc]
      · cases hA
    · cases hA
  · rename_i hint
    split at hA
    · rename_i cs n pl hsrc
      split at hA
      · rename_i hl
        simp only [Option.some.injEq] at hA; subst hA
        obtain ⟨s1, s2, s3, s4, s5⟩ := srcOf_sound (P := P) hr hsrc
        refine ⟨hl, fun hp v hv => s3 hp v (List.mem_of_mem_take hv), fun v hv => s4 v (List.mem_of_mem_take hv), fun v hv => s5 v (List.mem_of_mem_take hv), .inr ⟨?_, s1, ?_⟩⟩
        · unfold isInt at hint
          rw [hu1] at hint
          cases d1 <;> simp_all [descInt]
        · have := s2 1 n (Nat.le_refl _) (by simpa using hl) (.inl rfl)
          rwa [Nat.mul_one] at this
      · cases hA
    · cases hA

/-- Where the room doesn't do: a new row. -/
theorem run_append_grow {P : Program} {σ : Sg} {h : Heap} {w : World} (hr : Rel σ h w) {t t1 e ty : TypeId} (hu : P.underlying t = some (.slice e)) {i : TypeInfo} (hi : P.info? e = some i) (hsz : i.size = 1) (hby : i.bytes ≤ 4096)
    {z0 : AV} (hz : zeroOf P e = some [z0]) {d1 : TypeDesc} (hu1 : P.underlying t1 = some d1) {x : AV} {A : AppArgs} (hA : appended P h e t1 x = some A)
    (base : Option Addr) (sLen sCap : Nat) (olds : List AV) (hold : (Builtin.firstCells 1 sLen (.slice base sLen sCap)).run P { w with drawn := w.drawn + 1 } = .ok (concs σ olds).toArray { w with drawn := w.drawn + 1 }) (hol : olds.length = sLen)
    (hlt : sCap < sLen + A.n) (hle : sLen + A.n ≤ 4294967296) :
    ∃ (newCap : Nat) (u : Value), sLen + A.n ≤ newCap ∧ (Builtin.append_ #[t, t1] ty #[.slice base sLen sCap, conc σ x]).run P w =
      .ok (.slice (some ⟨w.heap.size, 0, none⟩) (sLen + A.n) newCap)
        ({ w with drawn := w.drawn + 1 }.alloc (.cells ((olds ++ A.vs).map (conc σ) ++ List.replicate (newCap - (sLen + A.n)) u).toArray e)) := by
  obtain ⟨a1, a2, a3, a4, a5⟩ := appended_sound hr hA hi hsz hby hz hu1
  obtain ⟨b1, b2, b3, b4, b5⟩ := appended_sound (hr.drew (w.drawn + 1)) hA hi hsz hby hz hu1
  obtain ⟨zv, u, q1, q2, q3⟩ := zeroOf_one hz
  have hty : tySize P e = some 1 := by simp [tySize, hi, hsz]
  have hti : ∀ w : World, (typeInfo e).run P w = .ok i w := fun w => by simp [typeInfo, hi]
  have hne : ¬ sLen + A.n ≤ sCap := by omega
  have hno : ¬ (((sLen + A.n : Nat) : Int) > IntKind.i64.max) := by rw [IntKind.max_i64]; omega
  have hnc : ¬ Builtin.nextslicecap (sLen + A.n) sCap * i.bytes > 2 ^ 48 := by
    have h1 := nextcap_le (sLen + A.n) sCap hlt
    have h2 : Builtin.nextslicecap (sLen + A.n) sCap * i.bytes ≤ 8589935192 * 4096 := Nat.mul_le_mul (by omega) hby
    have : (2:Nat) ^ 48 = 281474976710656 := rfl
    omega
  refine ⟨(sLen + A.n) + (w.tape w.drawn (.appendCap (sLen + A.n) sCap e)) % (2 ^ 63 - (sLen + A.n)), u, Nat.le_add_right _ _, ?_⟩
  have hfin : ∀ (new : Array Value), new = (concs σ A.vs).toArray → ∀ m : Nat, ((concs σ olds).toArray ++ new ++ Builtin.zeroCells #[u] m) = ((olds ++ A.vs).map (conc σ) ++ List.replicate m u).toArray := fun new hn m => by
    rw [hn, zeroCells_one]
    apply Array.ext'
    simp [concs_eq]
  have hch : (choose (.appendCap (sLen + A.n) sCap e)).run P w = .ok ((sLen + A.n) + (w.tape w.drawn (.appendCap (sLen + A.n) sCap e)) % (2 ^ 63 - (sLen + A.n))) { w with drawn := w.drawn + 1 } := by
    rw [run_choose]
    simp [Question.forced, Question.cut]
  unfold Builtin.append_
  simp only [List.getElem?_toArray, List.getElem?_cons_zero, List.getElem?_cons_succ, Sem.run_bind, run_underlying hu, run_underlying hu1, Result.andThen_ok, run_sizeOf' hty, Sem.run_pure]
  rcases a5 with ⟨c1, l, c2, c3, c4, c5, c6, zv', u', c7, c8, c9⟩ | ⟨c1, c2, c3⟩
  · have hd : d1 = .int (match d1 with | .int k => k | _ => .i64) := by cases d1 <;> simp [descInt] at c1 ⊢
    have hzu : zv' = zv := by rw [q1] at c7; exact (Option.some.inj c7).symm
    subst hzu
    have huu : u' = u := by rw [q2] at c8; injection c8 with c8; injection c8 with c8; exact c8.symm
    subst huu
    rw [hd]
    have hl0 : ¬ l.2 < 0 := by omega
    have hlb : ¬ l.2 * (i.bytes : Int) > 2 ^ 48 := by
      have : l.2 * (i.bytes : Int) ≤ 4294967296 * 4096 := by
        have h1 : l.2 * (i.bytes : Int) ≤ l.2 * 4096 := Int.mul_le_mul_of_nonneg_left (by omega) c4
        omega
      have : (2:Int) ^ 48 = 281474976710656 := by decide
      omega
    simp only [if_true, c2, asInt, asIntOf, Sem.run_bind, Sem.run_pure, Result.andThen_ok, c3, if_neg hl0, hti, if_neg hlb, c6, if_neg hne]
    rw [if_neg (fun hh => hno hh.1)]
    simp only [Sem.run_bind, hti, Result.andThen_ok, if_neg hnc, hch, run_askRoom, hold, Bool.not_true, Bool.false_eq_true, if_false, Nat.mul_one, run_zeroValue' q1, q2]
    by_cases h0 : A.n = 0
    · rw [if_pos h0]
      simp only [Sem.run_pure, Result.andThen_ok, newRow, Sem.run_bind, run_newObj]
      rw [hfin #[] (by rw [c9, h0]; rfl)]
      rw [show ∀ a b : Nat, a + b - a = b from fun a b => by omega]
      rfl
    · rw [if_neg h0]
      simp only [Sem.run_bind, run_zeroValue' q1, Sem.run_pure, Result.andThen_ok, newRow, run_newObj, q2]
      rw [hfin (Builtin.zeroCells #[u'] A.n) (by rw [c9, zeroCells_one])]
      rfl
  · rcases b5 with ⟨e1, -⟩ | ⟨-, -, e3⟩
    · rw [c1] at e1; cases e1
    have hcond : ¬ (((sLen + A.n : Nat) : Int) > IntKind.i64.max ∧ (False ∨ i.bytes = 0)) := fun hh => hno hh.1
    cases d1 <;> first | (cases c1; done) | skip
    all_goals
      simp only [Bool.false_eq_true, if_false, c2, Sem.run_bind, Result.andThen_ok, if_neg hne, hti, if_neg hcond, if_neg hnc, hch, run_askRoom, hold, Bool.not_false, if_true, e3, run_zeroValue' q1, q2, newRow, run_newObj, Sem.run_pure]
      rw [hfin _ rfl]
      rfl

end Go.Ab
