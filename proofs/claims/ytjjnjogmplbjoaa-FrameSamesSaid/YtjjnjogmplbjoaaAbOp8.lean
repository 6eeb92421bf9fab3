import Derived.Test.YtjjnjogmplbjoaaAbOp7
set_option linter.unusedSimpArgs false
set_option linter.unusedVariables false
namespace Go.Ab

/-- Where the room does. -/
theorem run_append_room {P : Program} {σ : Sg} {h : Heap} {w w' : World} (hr : Rel σ h w) {t t1 e ty : TypeId} (hu : P.underlying t = some (.slice e)) {i : TypeInfo} (hi : P.info? e = some i) (hsz : i.size = 1) (hby : i.bytes ≤ 4096)
    {z0 : AV} (hz : zeroOf P e = some [z0]) {d1 : TypeDesc} (hu1 : P.underlying t1 = some d1) {x : AV} {A : AppArgs} (hA : appended P h e t1 x = some A)
    (base : Option Addr) (sLen sCap : Nat) (hle : sLen + A.n ≤ sCap)
    (hst : match base with | some a => (storeCells (a.add sLen) (concs σ A.vs)).run P w = .ok () w' | none => w' = w) :
    (Builtin.append_ #[t, t1] ty #[.slice base sLen sCap, conc σ x]).run P w = .ok (.slice base (sLen + A.n) sCap) w' := by
  obtain ⟨a1, a2, a3, a4, a5⟩ := appended_sound hr hA hi hsz hby hz hu1
  have hty : tySize P e = some 1 := by simp [tySize, hi, hsz]
  have hti : ∀ w : World, (typeInfo e).run P w = .ok i w := fun w => by simp [typeInfo, hi]
  obtain ⟨zv, u, q1, q2, q3⟩ := zeroOf_one hz
  unfold Builtin.append_
  simp only [List.getElem?_toArray, List.getElem?_cons_zero, List.getElem?_cons_succ, Sem.run_bind, run_underlying hu, run_underlying hu1, Result.andThen_ok, run_sizeOf' hty, Sem.run_pure]
  rcases a5 with ⟨c1, l, c2, c3, c4, c5, c6, zv', u', c7, c8, c9⟩ | ⟨c1, c2, c3⟩
  · have hd : d1 = .int (match d1 with | .int k => k | _ => .i64) := by cases d1 <;> simp [descInt] at c1 ⊢
    have hzu : zv' = zv := by rw [q1] at c7; exact (Option.some.inj c7).symm
    subst hzu
    have huu : u' = u := by rw [q2] at c8; injection c8 with c8; injection c8 with c8; exact c8.symm
    subst huu
    rw [hd]
    have hl0 : ¬ l.2 < 0 := by omega
    have hlb : ¬ l.2 * (i.bytes : Int) > 2 ^ 48 := by
      have : l.2 * (i.bytes : Int) ≤ 4294967296 * 4096 := by
        have h1 : l.2 * (i.bytes : Int) ≤ l.2 * 4096 := Int.mul_le_mul_of_nonneg_left (by omega) c4
        omega
      have : (2:Int) ^ 48 = 281474976710656 := by decide
      omega
    simp only [if_true, c2, asInt, asIntOf, Sem.run_bind, Sem.run_pure, Result.andThen_ok, c3, if_neg hl0, hti, if_neg hlb, c6, if_pos hle, Bool.not_true, Bool.false_eq_true, if_false, Nat.mul_one]
    have hv : ∀ (new : Array Value), new = (concs σ A.vs).toArray → ∀ K : Unit → Sem Value, (∀ u, K u = pure (.slice base (sLen + A.n) sCap)) →
        (match base with | some a => (storeCells (a.add sLen) new.toList >>= K) | none => K ()).run P w = .ok (.slice base (sLen + A.n) sCap) w' := fun new hn K hK => by
      subst hn
      cases base with
      | none => simp only at hst ⊢; rw [hK, hst]; rfl
      | some a => simp only [List.toList_toArray, Sem.run_bind] at hst ⊢; rw [hst]; simp [hK]
    by_cases h0 : A.n = 0
    · rw [if_pos h0]
      simp only [Sem.run_pure, Result.andThen_ok]
      have := hv #[] (by rw [c9, h0]; rfl) (fun _ => pure (.slice base (sLen + A.n) sCap)) (fun _ => rfl)
      cases base <;> exact this
    · rw [if_neg h0]
      simp only [Sem.run_bind, run_zeroValue' q1, Sem.run_pure, Result.andThen_ok, q2]
      have := hv (Builtin.zeroCells #[u'] A.n) (by rw [c9, zeroCells_one]) (fun _ => pure (.slice base (sLen + A.n) sCap)) (fun _ => rfl)
      cases base <;> exact this
  · cases d1 <;> first | (cases c1; done) | skip
    all_goals
      simp only [Bool.false_eq_true, if_false, c2, Sem.run_bind, Result.andThen_ok, if_pos hle, Bool.not_false, if_true, c3, Nat.mul_one]
      cases base with
      | none => simp only at hst ⊢; rw [hst]; rfl
      | some a => simp only [List.toList_toArray, Sem.run_bind] at hst ⊢; rw [hst]; rfl

theorem upd_upd (h : Heap) (b : Nat) (x y : HB) (hb : b < h.length) : upd (upd h b x) b y = upd h b y := by
  rw [upd_eq h b x, if_pos hb, upd_eq, upd_eq, if_pos (by simpa using hb), if_pos hb]
  simp

theorem hat_lt {h : Heap} {b : Nat} (hb : hat h b ≠ .free) : b < h.length := by
  rw [hat_eq] at hb
  rcases Nat.lt_or_ge b h.length with h' | h'
  · exact h'
  · simp [List.getD, List.getElem?_eq_none h'] at hb

theorem hget_lt {h : Heap} {b : Nat} {blk : Blk} (hb : hget h b = some blk) : b < h.length := hat_lt (nf_of_hget hb)

/-- A new row that append made. -/
theorem step_grow {σ : Sg} {h : Heap} {w : World} (hr : Rel σ h w) {s : Nat} (hs : ¬ nf h s) (cs : List AV) (ty : TypeId) (pl : Bool) (hpl : pl = true → ∀ v ∈ cs, v.isRaw = true) (hone : ∀ v ∈ cs, v.one = true) (hid : ∀ v ∈ cs, v.inn (nf h)) (newCap : Nat) (hle : cs.length ≤ newCap) (u : Value) :
    ∃ σ' : Sg, σ' s = ⟨some ⟨w.heap.size, 0, none⟩, newCap⟩ ∧ Step σ h w σ' (upd h s (.live ⟨cs, true, false, pl⟩)) ({ w with drawn := w.drawn + 1 }.alloc (.cells (cs.map (conc σ) ++ List.replicate (newCap - cs.length) u).toArray ty)) := by
  have h1 := Step.drew hr (w.drawn + 1)
  have h2 := step_new h1.rel hs cs ty pl false hpl hone hid (List.replicate (newCap - cs.length) u) (fun h => by cases h) (0, 0) (.inr (Nat.le_refl _))
  exact ⟨_, by simp only [if_true, List.length_replicate]; congr 1; omega, h1.trans h2⟩

theorem nf_self (h : Heap) (s : Nat) (x : HB) (hx : x ≠ .free) : nf (upd h s x) s := by
  unfold nf; rw [hat_upd, if_pos rfl]; exact hx

theorem aappend_sound {P : Program} {σ : Sg} {h : Heap} {w : World} (hr : Rel σ h w) {s : Nat} (hs : ¬ nf h s) {t t1 ty : TypeId} {dst x v : AV} {δ : Delta} (hv : aappend P h s t t1 dst x = some (v, δ)) :
    Res P ((do pure (Next.value (← Builtin.append_ #[t, t1] ty #[conc σ dst, conc σ x]))).run P w) σ h w v δ := by
  unfold aappend at hv
  split at hv
  · rename_i e hu
    split at hv
    · rename_i i A z0 hi hA hz
      split at hv
      · rename_i hcc
        obtain ⟨hsz, hby, hu1⟩ := hcc
        obtain ⟨d1, hu1⟩ := Option.isSome_iff_exists.1 hu1
        obtain ⟨a1, a2, a3, a4, -⟩ := appended_sound hr hA hi hsz hby hz hu1
        split at hv
        · split at hv
          · rename_i hle
            split at hv
            · rename_i h0
              simp only [Option.some.injEq, Prod.mk.injEq] at hv
              obtain ⟨rfl, rfl⟩ := hv
              have := run_append_room (w' := w) (ty := ty) hr hu hi hsz hby hz hu1 hA none 0 0 (by omega) rfl
              rw [h0] at this
              exact Res.val hr trivial this
            · rename_i h0
              simp only [Option.some.injEq, Prod.mk.injEq] at hv
              obtain ⟨rfl, rfl⟩ := hv
              obtain ⟨newCap, u, hc, hrun⟩ := run_append_grow (ty := ty) hr hu hi hsz hby hz hu1 hA none 0 0 [] (by simp [Builtin.firstCells, concs]) rfl (by omega) (by omega)
              obtain ⟨σ', hσ, hst⟩ := step_grow hr hs A.vs e A.pl a2 a3 a4 newCap (by omega) u
              refine ⟨σ', _, .inl ?_, hst, nf_self _ _ _ (by simp)⟩
              simp only [Nat.zero_add, List.nil_append] at hrun
              rw [← a1] at hrun
              simp only [conc, Sem.run_bind, hrun, Result.andThen_ok, Sem.run_pure, hσ]
              simp [a1]
          · cases hv
        · rename_i b off len cap
          split at hv
          · rename_i blk hb
            split at hv
            · rename_i hfit
              obtain ⟨hfit, hle⟩ := hfit
              have hlen := (hr.len b blk hb).1
              have hol : (blk.cells.drop off).length = len := by simp; omega
              have hold : ∀ (w0 : World) (hr0 : Rel σ h w0) (c : Nat), (Builtin.firstCells 1 len (.slice ((σ b).addr.map fun a : Addr => (⟨a.block, a.off + off, none⟩ : Addr)) len c)).run P w0 = .ok (concs σ (blk.cells.drop off)).toArray w0 := fun w0 hr0 c => by
                have hsrc : srcOf h (.slice b off len (some c)) = some (blk.cells.drop off, len, blk.pl) := by simp [srcOf, hb]
                have := (srcOf_sound (P := P) hr0 hsrc).2.1 1 len (Nat.le_refl _) (by simp; omega) (.inl rfl)
                rwa [Nat.mul_one, List.take_of_length_le (by omega)] at this
              have hpl2 : (blk.pl && A.pl) = true → ∀ v ∈ blk.cells.drop off ++ A.vs, v.isRaw = true := fun hp v hv => by
                simp only [Bool.and_eq_true] at hp
                rcases List.mem_append.1 hv with hv | hv
                · exact hr.plain b blk hb hp.1 v (List.mem_of_mem_drop hv)
                · exact a2 hp.2 v hv
              have hone2 : ∀ v ∈ blk.cells.drop off ++ A.vs, v.one = true := fun v hv => by
                rcases List.mem_append.1 hv with hv | hv
                · exact hr.one b blk hb v (List.mem_of_mem_drop hv)
                · exact a3 v hv
              have hid2 : ∀ v ∈ blk.cells.drop off ++ A.vs, v.inn (nf h) := fun v hv => by
                rcases List.mem_append.1 hv with hv | hv
                · exact hr.ids b blk hb v (List.mem_of_mem_drop hv)
                · exact a4 v hv
              have hl2 : (blk.cells.drop off ++ A.vs).length = len + A.n := by rw [List.length_append, hol, a1]
              split at hv
              · rename_i c
                split at hv
                · rename_i hlt
                  simp only [Option.some.injEq, Prod.mk.injEq] at hv
                  obtain ⟨rfl, rfl⟩ := hv
                  obtain ⟨newCap, u, hc, hrun⟩ := run_append_grow (ty := ty) hr hu hi hsz hby hz hu1 hA ((σ b).addr.map fun a : Addr => (⟨a.block, a.off + off, none⟩ : Addr)) len c (blk.cells.drop off) (hold _ (hr.drew (w.drawn + 1)) c) hol hlt hle
                  obtain ⟨σ', hσ, hst⟩ := step_grow hr hs (blk.cells.drop off ++ A.vs) e (blk.pl && A.pl) hpl2 hone2 hid2 newCap (by omega) u
                  refine ⟨σ', _, .inl ?_, hst, nf_self _ _ _ (by simp)⟩
                  rw [hl2]
                  simp only [conc, Option.getD_some, Sem.run_bind, hrun, Result.andThen_ok, Sem.run_pure, hσ]
                  simp
                · split at hv
                  · rename_i hn0
                    obtain ⟨hn0, hlc⟩ := hn0
                    simp only [Option.some.injEq, Prod.mk.injEq] at hv
                    obtain ⟨rfl, rfl⟩ := hv
                    have hvs : A.vs = [] := List.eq_nil_of_length_eq_zero (by omega)
                    refine Res.val hr (nf_of_hget hb) ?_
                    have := run_append_room (w' := w) (ty := ty) hr hu hi hsz hby hz hu1 hA ((σ b).addr.map fun a : Addr => (⟨a.block, a.off + off, none⟩ : Addr)) len c (by omega) (by
                      rw [hvs]
                      cases (σ b).addr <;> simp [concs, storeCells])
                    rw [hn0, Nat.add_zero] at this
                    simp only [conc, Option.getD_some]
                    exact this
                  · cases hv
              · split at hv
                · rename_i hown
                  simp only [Option.some.injEq, Prod.mk.injEq] at hv
                  obtain ⟨rfl, rfl⟩ := hv
                  by_cases hroom : len + A.n ≤ (σ b).size - off
                  · -- in place
                    have hsne : s ≠ b := fun e => hs (e ▸ nf_of_hget hb)
                    cases ha : (σ b).addr with
                    | none =>
                      have hB := hr.live b blk hb
                      unfold BOK at hB
                      simp only [ha] at hB
                      have hn0 : A.n = 0 := by omega
                      have hvs : A.vs = [] := List.eq_nil_of_length_eq_zero (by omega)
                      have hmv := step_move hr hb hs off (by omega) (blk.pl && A.pl) (fun hp => by simp only [Bool.and_eq_true] at hp; exact hp.1)
                      rw [hown] at hmv
                      have hap : app h [(b, .gone), (s, .live ⟨blk.cells.drop off ++ A.vs, true, false, blk.pl && A.pl⟩)] = upd (upd h b .gone) s (.live ⟨blk.cells.drop off, true, false, blk.pl && A.pl⟩) := by
                        simp only [app_cons, app_nil, hvs, List.append_nil]
                      rw [← hap] at hmv
                      refine ⟨_, w, .inl ?_, hmv, nf_self _ _ _ (by simp)⟩
                      have := run_append_room (w' := w) (ty := ty) hr hu hi hsz hby hz hu1 hA none len ((σ b).size - off) hroom rfl
                      simp only [conc, ha, Option.map_none, Option.getD_none, Sem.run_bind, this, Result.andThen_ok, Sem.run_pure, if_true, Nat.sub_zero]
                    | some a =>
                      obtain ⟨w', hw, hst⟩ := step_write P hr hb hown ha blk.cells.length A.vs (Nat.le_refl _) (by omega) a3 a4 (blk.pl && A.pl) false (fun hp => by simp only [Bool.and_eq_true] at hp; exact ⟨hp.1, a2 hp.2⟩) (fun h => by cases h)
                      have hsp : splice blk.cells blk.cells.length A.vs = blk.cells ++ A.vs := by
                        rw [splice_eq]; simp
                      rw [hsp] at hst
                      have hb1 : hget (upd h b (.live ⟨blk.cells ++ A.vs, true, false, blk.pl && A.pl⟩)) b = some ⟨blk.cells ++ A.vs, true, false, blk.pl && A.pl⟩ := by rw [hget_upd]; simp
                      have hs1 : ¬ nf (upd h b (.live ⟨blk.cells ++ A.vs, true, false, blk.pl && A.pl⟩)) s := by
                        unfold nf at *; rw [hat_upd, if_neg hsne]; exact hs
                      have hmv := step_move hst.rel hb1 hs1 off (by simp; omega) (blk.pl && A.pl) (fun hp => hp)
                      have hall := hst.trans hmv
                      have hbl : b < h.length := hget_lt hb
                      rw [upd_upd _ _ _ _ hbl, List.drop_append_of_le_length (by omega)] at hall
                      refine ⟨_, w', .inl ?_, hall, nf_self _ _ _ (by simp)⟩
                      have hstc : (storeCells ((⟨a.block, a.off + off, none⟩ : Addr).add len) (concs σ A.vs)).run P w = .ok () w' := by
                        rw [addr_add, show a.off + off + len = a.off + blk.cells.length by omega]
                        exact hw
                      have := run_append_room (ty := ty) hr hu hi hsz hby hz hu1 hA (some ⟨a.block, a.off + off, none⟩) len ((σ b).size - off) hroom hstc
                      simp only [conc, ha, Option.map_some, Option.getD_none, Sem.run_bind, this, Result.andThen_ok, Sem.run_pure, if_true, Nat.sub_zero, Nat.add_zero]
                  · -- a new row
                    obtain ⟨newCap, u, hc, hrun⟩ := run_append_grow (ty := ty) hr hu hi hsz hby hz hu1 hA ((σ b).addr.map fun a : Addr => (⟨a.block, a.off + off, none⟩ : Addr)) len ((σ b).size - off) (blk.cells.drop off) (hold _ (hr.drew (w.drawn + 1)) _) hol (by omega) hle
                    have hk := step_kill hr (nf_of_hget hb)
                    have hsne : s ≠ b := fun e => hs (e ▸ nf_of_hget hb)
                    have hs1 : ¬ nf (upd h b .gone) s := by unfold nf at *; rw [hat_upd, if_neg hsne]; exact hs
                    obtain ⟨σ', hσ, hst⟩ := step_grow hk.rel hs1 (blk.cells.drop off ++ A.vs) e (blk.pl && A.pl) hpl2 hone2 (fun v hv => AV.inn_mono hk.keeps v (hid2 v hv)) newCap (by omega) u
                    refine ⟨σ', _, .inl ?_, hk.trans hst, nf_self _ _ _ (by simp)⟩
                    rw [hl2]
                    simp only [conc, Option.getD_none, Sem.run_bind, hrun, Result.andThen_ok, Sem.run_pure, hσ]
                    simp
                · cases hv
            · cases hv
          · cases hv
        · cases hv
      · cases hv
    · cases hv
  · cases hv

end Go.Ab
