import Derived.Test.YtjjnjogmplbjoaaAbOp4
set_option linter.unusedSimpArgs false
set_option linter.unusedVariables false
namespace Go.Ab

/-! ### make, slicing, len, min -/
def amakeSlice (P : Program) (s : Nat) (t : TypeId) (l c : AV) : Option Ans :=
  match P.underlying t, l, c with
  | some (.slice e), .raw (.int .i64 ln), .raw (.int .i64 cn) =>
    match P.info? e, zeroOf P e with
    | some i, some z =>
      if 0 ≤ ln ∧ ln ≤ cn ∧ cn ≤ 4294967296 ∧ i.bytes * cn ≤ 4294967296 ∧ 0 < z.length ∧ allOne z = true ∧ i.size = z.length then
        some (.slice s 0 ln.toNat (some cn.toNat), [(s, .live ⟨zerosN z (cn.toNat * i.size), true, true, true⟩)])
      else none
    | _, _ => none
  | _, _, _ => none

theorem zerosN_mem {z : List AV} {n : Nat} {v : AV} (hz : 0 < z.length) (h : v ∈ zerosN z n) : v ∈ z := by
  obtain ⟨i, _, rfl⟩ := List.mem_map.1 h
  have : i % z.length < z.length := Nat.mod_lt _ hz
  simp only [List.getD, List.getElem?_eq_getElem this, Option.getD_some]
  exact List.getElem_mem this

theorem wrap_i64 (n : Int) (h0 : 0 ≤ n) (h : n ≤ 4294967296) : IntKind.i64.wrap n = n := by
  unfold IntKind.wrap
  have : n % (2 ^ IntKind.i64.bits : Int) = n := Int.emod_eq_of_lt h0 (by show n < 2 ^ 64; omega)
  simp only [this]
  rw [if_neg]
  have e : (2 ^ (IntKind.i64.bits - 1) : Int) = 9223372036854775808 := by decide
  simp only [IntKind.signed, Bool.true_and, decide_eq_true_eq, e]
  omega

theorem amakeSlice_sound {P : Program} {σ : Sg} {h : Heap} {w : World} (hr : Rel σ h w) {s : Nat} (hs : ¬ nf h s) {t : TypeId} {l c v : AV} {δ : Delta} (hv : amakeSlice P s t l c = some (v, δ)) :
    Res P ((do pure (Next.value (← Instr.makeSlice t (conc σ l) (conc σ c)))).run P w) σ h w v δ := by
  unfold amakeSlice at hv
  split at hv
  · rename_i e ln cn hu
    split at hv
    · rename_i i z hi hz
      obtain ⟨zv, hzv, rfl⟩ := zeroOf_spec hz
      split at hv
      · rename_i hc
        obtain ⟨h1, h2, h3, h4, h5, h6, h7⟩ := hc
        simp only [Option.some.injEq, Prod.mk.injEq] at hv
        obtain ⟨rfl, rfl⟩ := hv
        have hz0 : 0 < zv.cells.size := by simpa [rawCells] using h5
        have hmem : ∀ v ∈ zerosN (rawCells zv) (cn.toNat * i.size), v ∈ rawCells zv := fun v hv => zerosN_mem h5 hv
        have hraw : allRaw (zerosN (rawCells zv) (cn.toNat * i.size)) = true := by
          simp only [allRaw, List.all_eq_true]
          intro v hv
          obtain ⟨x, _, rfl⟩ := List.mem_map.1 (hmem v hv); rfl
        refine Res.new hr hs _ e true _ (fun _ => hraw) ?_ (fun v hv => ?_) (fun σ' hσ => ?_) (fun p hp => hp)
        · simp only [allOne, List.all_eq_true] at h6 ⊢
          exact fun v hv => h6 v (hmem v hv)
        · obtain ⟨x, _, rfl⟩ := List.mem_map.1 (hmem v hv); trivial
        · have hzn := zerosN_concs σ zv (cn.toNat * i.size) (.inl hz0)
          have hti : (typeInfo e).run P w = .ok i w := by simp [typeInfo, hi]
          have hwl : IntKind.i64.wrap ln = ln := wrap_i64 ln h1 (by omega)
          have hwc : IntKind.i64.wrap cn = cn := wrap_i64 cn (by omega) h3
          have hnb : ¬ ((decide (cn < 0) || decide ((i.bytes : Int) * cn > 2 ^ 48)) || decide (ln < 0) || decide (ln > cn)) = true := by
            simp only [Bool.or_eq_true, decide_eq_true_eq]
            have : (2 : Int) ^ 48 = 281474976710656 := by decide
            omega
          have hty : tySize P e = some i.size := by simp [tySize, hi]
          unfold Instr.makeSlice
          simp only [Sem.run_bind, run_underlying hu, Result.andThen_ok, conc, asInt, asIntOf, Sem.run_pure, hti, hwl, hwc]
          rw [if_neg hnb]
          simp only [Sem.run_bind, run_askRoom, Result.andThen_ok, run_sizeOf' hty]
          by_cases h0 : cn.toNat * i.size = 0
          · simp only [if_pos h0, Sem.run_pure, Result.andThen_ok]
            rw [h0] at hzn ⊢
            have e0 : ∀ f : Nat → Value, (Array.range 0).map f = #[] := fun f => by apply Array.ext'; simp
            rw [e0] at hzn
            simp only [Sem.run_bind, Sem.run_pure, Result.andThen_ok]
            rw [e0]
            simp [newRow, hσ, World.alloc_eq, hzn]
          · simp only [if_neg h0, Sem.run_bind, run_zeroValue' hzv, Result.andThen_ok, Sem.run_pure, ← hzn]
            simp [newRow, hσ, World.alloc_eq]
      · cases hv
    · cases hv
  · cases hv

def alen (P : Program) (t : TypeId) (x : AV) : Option AV :=
  match P.underlying t, x with
  | some .string, .raw (.string s) => some (.raw (.int .i64 s.data.toList.length))
  | some (.slice _), .raw (.slice _ n _) => some (.raw (.int .i64 n))
  | some (.slice _), .slice _ _ n _ => some (.raw (.int .i64 n))
  | some (.array n _), _ => some (.raw (.int .i64 n))
  | _, _ => none

theorem alen_sound {P : Program} {t : TypeId} {x v : AV} (h : alen P t x = some v) (σ : Sg) (w : World) (ty : TypeId) (ts : Array TypeId) (ht : ts[0]? = some t) :
    (Builtin.len_ ts ty #[conc σ x]).run P w = .ok (conc σ v) w ∧ ∀ p : Nat → Prop, v.inn p := by
  unfold alen at h
  unfold Builtin.len_
  split at h
  · rename_i s hu
    simp only [Option.some.injEq] at h; subst h
    exact ⟨by simp [ht, run_underlying hu, conc, goInt], fun _ => trivial⟩
  · rename_i n _ hu
    simp only [Option.some.injEq] at h; subst h
    exact ⟨by simp [ht, run_underlying hu, conc, goInt], fun _ => trivial⟩
  · rename_i n _ hu
    simp only [Option.some.injEq] at h; subst h
    exact ⟨by simp [ht, run_underlying hu, conc, goInt], fun _ => trivial⟩
  · rename_i n _ hu
    simp only [Option.some.injEq] at h; subst h
    exact ⟨by simp [ht, run_underlying hu, conc, goInt], fun _ => trivial⟩
  · cases h

def amin2 (x y : AV) : Option AV :=
  match x, y with
  | .raw (.int k a), .raw (.int _ b) => some (.raw (.int k (if b < a then b else a)))
  | _, _ => none

theorem amin2_sound {P : Program} {x y v : AV} (h : amin2 x y = some v) (σ : Sg) (w : World) (ty : TypeId) (ts : Array TypeId) :
    (Builtin.min_ ts ty #[conc σ x, conc σ y]).run P w = .ok (conc σ v) w ∧ ∀ p : Nat → Prop, v.inn p := by
  unfold amin2 at h
  split at h
  · simp only [Option.some.injEq] at h; subst h
    exact ⟨by simp [Builtin.min_, Builtin.min2, conc], fun _ => trivial⟩
  · cases h

/-- A bound of a slice expression. -/
def abound (x : Option AV) (d most : Nat) : Option Nat :=
  match x with
  | none => some d
  | some (.raw (.int _ i)) => if 0 ≤ i ∧ i ≤ most then some i.toNat else none
  | _ => none

def abounds (len cap : Nat) (lo hi mx : Option AV) : Option (Nat × Nat × Nat) :=
  match mx with
  | some mv =>
    match abound (some mv) cap cap, hi with
    | some m, some hv => (abound (some hv) len m).bind fun h => (abound lo 0 h).map fun l => (l, h, m)
    | _, _ => none
  | none => (abound hi len cap).bind fun h => (abound lo 0 h).map fun l => (l, h, cap)

theorem abound_mono {x : Option AV} {d most most' n : Nat} (h : abound x d most = some n) (hm : most ≤ most') : abound x d most' = some n := by
  unfold abound at *
  split at h
  · exact h
  · split at h
    · rename_i hc
      rw [if_pos ⟨hc.1, by omega⟩]
      exact h
    · cases h
  · cases h

theorem abound_le {x : Option AV} {d most n : Nat} (h : abound x d most = some n) (hd : d ≤ most) : n ≤ most := by
  unfold abound at h
  split at h
  · simp only [Option.some.injEq] at h; omega
  · split at h
    · simp only [Option.some.injEq] at h; omega
    · cases h
  · cases h

theorem abounds_none {len cap : Nat} {lo hi : Option AV} {l h m : Nat} (hb : abounds len len lo hi none = some (l, h, m)) (hc : len ≤ cap) : abounds len cap lo hi none = some (l, h, cap) ∧ l ≤ h ∧ h ≤ len := by
  unfold abounds at *
  simp only [Option.bind_eq_some_iff, Option.map_eq_some_iff, Prod.mk.injEq] at hb ⊢
  obtain ⟨h0, hh, l0, hl, rfl, rfl, rfl⟩ := hb
  exact ⟨⟨h0, abound_mono hh hc, l0, hl, by simp⟩, abound_le hl (Nat.zero_le _), abound_le hh (Nat.le_refl _)⟩

theorem abounds_some {len cap : Nat} {lo hi : Option AV} {mv : AV} {r : Nat × Nat × Nat} (hb : abounds len len lo hi (some mv) = some r) (hc : len ≤ cap) : abounds len cap lo hi (some mv) = some r := by
  unfold abounds at *
  simp only at *
  split at hb
  · rename_i m hv hm
    have : abound (some mv) cap cap = some m := by
      have := abound_mono hm hc
      cases mv with
      | raw v => cases v <;> exact this
      | _ => exact this
    rw [this]
    exact hb
  · cases hb

theorem run_bound {P : Program} {x : AV} {d most n : Nat} (h : abound (some x) d most = some n) (σ : Sg) (w : World) (code : BoundsCode) : (Instr.sliceBound (conc σ x) most code).run P w = .ok n w := by
  unfold abound at h
  split at h
  · rename_i e; cases e
  · rename_i k i e
    cases e
    split at h
    · rename_i hc
      simp only [Option.some.injEq] at h; subst h
      unfold Instr.sliceBound
      simp [conc, asIntOf, hc]
    · cases h
  · cases h

theorem run_bounds {P : Program} {len cap : Nat} {lo hi mx : Option AV} {l h m : Nat} (hb : abounds len cap lo hi mx = some (l, h, m)) (σ : Sg) (w : World) (isS : Bool) :
    (Instr.sliceBounds isS len cap (lo.map (conc σ)) (hi.map (conc σ)) (mx.map (conc σ))).run P w = .ok (l, h, m) w := by
  unfold abounds at hb
  unfold Instr.sliceBounds
  split at hb
  · split at hb
    · rename_i m' hv hm
      simp only [Option.bind_eq_some_iff, Option.map_eq_some_iff, Prod.mk.injEq] at hb
      obtain ⟨h0, hh, l0, hl, rfl, rfl, rfl⟩ := hb
      cases lo with
      | none => simp only [abound, Option.some.injEq] at hl; subst hl; simp [run_bound hm, run_bound hh]
      | some lo => simp [run_bound hm, run_bound hh, run_bound hl]
    · cases hb
  · simp only [Option.bind_eq_some_iff, Option.map_eq_some_iff, Prod.mk.injEq] at hb
    obtain ⟨h0, hh, l0, hl, rfl, rfl, rfl⟩ := hb
    cases hi with
    | none =>
      simp only [abound, Option.some.injEq] at hh; subst hh
      cases lo with
      | none => simp only [abound, Option.some.injEq] at hl; subst hl; simp
      | some lo => simp [run_bound hl]
    | some hi =>
      cases lo with
      | none => simp only [abound, Option.some.injEq] at hl; subst hl; simp [run_bound hh]
      | some lo => simp [run_bound hh, run_bound hl]

end Go.Ab
