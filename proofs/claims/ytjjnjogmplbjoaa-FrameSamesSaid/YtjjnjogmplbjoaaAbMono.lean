import Derived.Test.YtjjnjogmplbjoaaAbAop
set_option linter.unusedSimpArgs false
set_option linter.unusedVariables false
namespace Go.Ab

/-- h' has whatever h has. -/
def Sub (h h' : Heap) : Prop := ∀ i, hat h i ≠ .free → hat h' i = hat h i

theorem Sub.hget {h h' : Heap} (hs : Sub h h') {b : Nat} {blk : Blk} (hb : hget h b = some blk) : hget h' b = some blk := by
  have : nf h b := nf_of_hget hb
  unfold Ab.hget at *
  rw [hs b this]; exact hb

theorem Sub.nf {h h' : Heap} (hs : Sub h h') {b : Nat} (hb : nf h b) : nf h' b := by
  unfold Ab.nf at *; rw [hs b hb]; exact hb

section
variable {P : Program} {h h' : Heap} (hs : Sub h h')
include hs

theorem ldv_mono {t : TypeId} {b off : Nat} {r : AV} (hv : ldv P h t b off = some r) : ldv P h' t b off = some r := by
  unfold ldv at *
  cases hb : Ab.hget h b with
  | none => rw [hb] at hv; simp at hv
  | some blk => rw [hs.hget hb]; rw [hb] at hv; exact hv

theorem stv_mono {t : TypeId} {b off : Nat} {v : AV} {r : Delta} (hv : stv P h t b off v = some r) : stv P h' t b off v = some r := by
  unfold stv at *
  cases hb : Ab.hget h b with
  | none => rw [hb] at hv; simp at hv
  | some blk => rw [hs.hget hb]; rw [hb] at hv; exact hv

theorem hat_mono {b : Nat} {x : HB} (hb : hat h b = x) (hx : x ≠ .free) : hat h' b = x := by
  rw [hs b (by rw [hb]; exact hx), hb]

theorem hasAt_mono {b off : Nat} (hv : hasAt h b off = true) : hasAt h' b off = true := by
  unfold hasAt at *
  cases hb : hat h b with
  | free => rw [hb] at hv; cases hv
  | gone => rw [hb] at hv; cases hv
  | live blk => rw [hat_mono hs hb (by simp)]; rw [hb] at hv; exact hv
  | obj o => rw [hb] at hv; cases hv
  | rows rs => rw [hat_mono hs hb (by simp)]

theorem aindexAddr_mono {t : TypeId} {x i r : AV} (hv : aindexAddr P h t x i = some r) : aindexAddr P h' t x i = some r := by
  unfold aindexAddr at *
  split at hv
  · exact hv
  · rename_i b off len c k i
    split at hv
    · rename_i e hu
      split at hv
      · rename_i z hz
        split at hv
        · rename_i hc
          rw [if_pos ⟨hc.1, hc.2.1, hasAt_mono hs hc.2.2⟩]
          exact hv
        · cases hv
      · cases hv
    · cases hv
  · cases hv

theorem ldx_mono {s : Nat} {t : TypeId} {b off : Nat} {r : Ans} (hv : ldx P h s t b off = some r) : ldx P h' s t b off = some r := by
  have hsome : ∀ {x : HB}, hat h b = x → (∀ rs, x ≠ .rows rs) → x ≠ .free → ldx P h' s t b off = some r := fun {x} hb hr hf => by
    have hb' := hat_mono hs hb hf
    have e1 : ldx P h s t b off = (ldv P h t b off).map (·, []) := by unfold ldx; rw [hb]; cases x <;> first | rfl | exact absurd rfl (hr _)
    have e2 : ldx P h' s t b off = (ldv P h' t b off).map (·, []) := by unfold ldx; rw [hb']; cases x <;> first | rfl | exact absurd rfl (hr _)
    rw [e1] at hv
    rw [e2]
    simp only [Option.map_eq_some_iff] at hv ⊢
    obtain ⟨u, hu, rfl⟩ := hv
    exact ⟨u, ldv_mono hs hu, rfl⟩
  cases hb : hat h b with
  | free =>
    unfold ldx at hv
    rw [hb] at hv
    simp only [Option.map_eq_some_iff] at hv
    obtain ⟨u, hu, -⟩ := hv
    unfold ldv at hu
    have : Ab.hget h b = none := by unfold Ab.hget; rw [hb]
    rw [this] at hu
    simp at hu
  | gone => exact hsome hb (by simp) (by simp)
  | live blk => exact hsome hb (by simp) (by simp)
  | obj o => exact hsome hb (by simp) (by simp)
  | rows rs =>
    have hb' := hat_mono hs hb (by simp)
    unfold ldx ldrow at *
    rw [hb] at hv
    rw [hb']
    exact hv

theorem aconvx_mono {s : Nat} {src dst : TypeId} {x : AV} {r : Ans} (hv : aconvx P h s src dst x = some r) : aconvx P h' s src dst x = some r := by
  unfold aconvx at *
  split at hv
  · rename_i b off len c
    cases hb : Ab.hget h b with
    | none => rw [hb] at hv; cases hq : (isBytes P src && isStr P dst) <;> rw [hq] at hv <;> cases hv
    | some blk => rw [hs.hget hb]; rw [hb] at hv; exact hv
  · exact hv
  · exact hv
  · exact hv

theorem aarrayX_mono {t : TypeId} {x r : AV} (hv : aarrayX P h t x = some r) : aarrayX P h' t x = some r := by
  unfold aarrayX at *
  split at hv
  · split at hv
    · rename_i hh
      rw [if_pos (hasAt_mono hs hh)]
      exact hv
    · cases hv
  · cases hv

theorem abinx_mono {op : BinOp} {t : TypeId} {x y r : AV} (hv : abinx P h op t x y = some r) : abinx P h' op t x y = some r := by
  unfold abinx at *
  split at hv
  · split at hv
    · rename_i hc
      simp only [Bool.and_eq_true] at hc
      rw [if_pos (by simp only [Bool.and_eq_true]; exact ⟨hc.1, hasAt_mono hs hc.2⟩)]
      exact hv
    · cases hv
  · exact hv
  · exact hv

theorem mapAt_mono {x : AV} {r : List AEnt × Nat} (hv : mapAt h x = some r) : mapAt h' x = some r := by
  obtain ⟨es, c⟩ := r
  obtain ⟨b, rfl, hb⟩ := mapAt_spec hv
  unfold mapAt
  simp only [hat_mono hs hb (by simp)]

theorem alookup_mono {t : TypeId} {x k : AV} {ok : Bool} {r : AV} (hv : alookup P h t x k ok = some r) : alookup P h' t x k ok = some r := by
  unfold alookup at *
  split at hv
  · split at hv
    · rename_i hk
      rw [if_pos hk]
      split at hv
      · exact hv
      · split at hv
        · rename_i es c hm
          rw [mapAt_mono hs hm]
          exact hv
        · cases hv
    · cases hv
  · cases hv

theorem aupdate_mono {t : TypeId} {m k x : AV} {r : Delta} (hv : aupdate P h t m k x = some r) : aupdate P h' t m k x = some r := by
  unfold aupdate at *
  split at hv
  · split at hv
    · rename_i es c hm
      rw [mapAt_mono hs hm]
      exact hv
    · cases hv
  · cases hv

theorem adelete_mono {t : TypeId} {m k : AV} {r : Delta} (hv : adelete P h t m k = some r) : adelete P h' t m k = some r := by
  unfold adelete at *
  split at hv
  · split at hv
    · rename_i es c hm
      rw [mapAt_mono hs hm]
      exact hv
    · cases hv
  · cases hv

theorem alenx_mono {t : TypeId} {x r : AV} (hv : alenx P h t x = some r) : alenx P h' t x = some r := by
  unfold alenx at *
  split at hv
  · split at hv
    · rename_i k e es c hu hm
      simp only [hu, mapAt_mono hs hm]
      exact hv
    · cases hv
  · exact hv
  · exact hv

theorem arange_mono {s : Nat} {t : TypeId} {x : AV} {r : Ans} (hv : arange P h s t x = some r) : arange P h' s t x = some r := by
  unfold arange at *
  split at hv
  · exact hv
  · exact hv
  · split at hv
    · rename_i es c hm
      rw [mapAt_mono hs hm]
      exact hv
    · cases hv
  · cases hv

theorem anext_mono {x : AV} {isS : Bool} {r : Ans} (hv : anext h x isS = some r) : anext h' x isS = some r := by
  unfold anext at *
  split at hv
  · rename_i b
    split at hv
    · rename_i sb p hb
      rw [hat_mono hs hb (by simp)]
      exact hv
    · rename_i hb
      rw [hat_mono hs hb (by simp)]
      exact hv
    · rename_i m since seen last hb
      rw [hat_mono hs hb (by simp)]
      split at hv
      · rename_i es c hm
        simp only [mapAt_mono hs hm]
        exact hv
      · cases hv
    · cases hv
  · cases hv

theorem aentry_mono {x r : AV} (hv : aentry h x = some r) : aentry h' x = some r := by
  unfold aentry at *
  split at hv
  · rename_i b
    split at hv
    · rename_i m since seen stepped hb
      rw [hat_mono hs hb (by simp)]
      split at hv
      · rename_i es c stamp hm hl
        simp only [mapAt_mono hs hm, hl]
        exact hv
      · cases hv
    · cases hv
  · cases hv

theorem aslice_mono {s : Nat} {t : TypeId} {x : AV} {lo hi mx : Option AV} {r : Ans} (hv : aslice P h s t x lo hi mx = some r) : aslice P h' s t x lo hi mx = some r := by
  unfold aslice at *
  split at hv
  · rename_i n e b off _
    cases hb : Ab.hget h b with
    | none => rw [hb] at hv; simp at hv
    | some blk => rw [hs.hget hb]; rw [hb] at hv; exact hv
  · exact hv
  · rename_i e b off len c _
    cases hb : Ab.hget h b with
    | none => rw [hb] at hv; simp at hv
    | some blk => rw [hs.hget hb]; rw [hb] at hv; exact hv
  · rename_i e b off len _
    cases hb : Ab.hget h b with
    | none => rw [hb] at hv; simp at hv
    | some blk => rw [hs.hget hb]; rw [hb] at hv; exact hv
  · cases hv

theorem srcOf_mono {x : AV} {r : List AV × Nat × Bool} (hv : srcOf h x = some r) : srcOf h' x = some r := by
  unfold srcOf at *
  split at hv
  · exact hv
  · exact hv
  · rename_i b off len cap
    cases hb : Ab.hget h b with
    | none => rw [hb] at hv; simp at hv
    | some blk => rw [hs.hget hb]; rw [hb] at hv; exact hv
  · cases hv

theorem acopy_mono {t : TypeId} {x y : AV} {r : Ans} (hv : acopy P h t x y = some r) : acopy P h' t x y = some r := by
  unfold acopy at *
  split at hv
  · rename_i e b off dlen c _
    cases hb : Ab.hget h b with
    | none => rw [hb] at hv; simp at hv
    | some blk =>
      rw [hs.hget hb]; rw [hb] at hv
      cases hsrc : srcOf h y with
      | none => rw [hsrc] at hv; simp at hv
      | some q => rw [srcOf_mono hs hsrc]; rw [hsrc] at hv; exact hv
  · cases hv

theorem appended_mono {e t1 : TypeId} {x : AV} {r : AppArgs} (hv : appended P h e t1 x = some r) : appended P h' e t1 x = some r := by
  unfold appended at *
  split at hv
  · rename_i hi; rw [if_pos hi]; exact hv
  · rename_i hi; rw [if_neg hi]
    cases hsrc : srcOf h x with
    | none => rw [hsrc] at hv; simp at hv
    | some q => rw [srcOf_mono hs hsrc]; rw [hsrc] at hv; exact hv

theorem aappend_mono {s : Nat} {t t1 : TypeId} {x y : AV} {r : Ans} (hv : aappend P h s t t1 x y = some r) : aappend P h' s t t1 x y = some r := by
  unfold aappend at *
  split at hv
  · rename_i e _
    cases hA : appended P h e t1 y with
    | none => rw [hA] at hv; simp at hv
    | some A =>
      rw [appended_mono hs hA]; rw [hA] at hv
      split at hv
      · split at hv
        · rename_i hcc
          rw [if_pos hcc]
          split at hv
          · exact hv
          · rename_i b off len cap
            cases hb : Ab.hget h b with
            | none => rw [hb] at hv; simp at hv
            | some blk => rw [hs.hget hb]; rw [hb] at hv; exact hv
          · cases hv
        · cases hv
      · cases hv
  · cases hv

theorem aop_mono {s : Nat} {t : List (Option AV)} {o : Oper} {r : Ans} (hv : aop P s t h o = some r) : aop P s t h' o = some r := by
  obtain ⟨dst, op, type, ps, after, guard⟩ := o
  have mp : ∀ {f g : Option AV} {k : AV → Ans}, (∀ u, f = some u → g = some u) → f.map k = some r → g.map k = some r := fun {f g k} hfg h1 => by
    simp only [Option.map_eq_some_iff] at h1 ⊢
    obtain ⟨u, hu, h2⟩ := h1
    exact ⟨u, hfg u hu, h2⟩
  have mpd : ∀ {f g : Option Delta} {k : Delta → Ans}, (∀ u, f = some u → g = some u) → f.map k = some r → g.map k = some r := fun {f g k} hfg h1 => by
    simp only [Option.map_eq_some_iff] at h1 ⊢
    obtain ⟨u, hu, h2⟩ := h1
    exact ⟨u, hfg u hu, h2⟩
  unfold aop at *
  simp only at *
  split at hv <;> first | exact hv | skip
  all_goals
    split at hv <;> first | (cases hv; done) | skip
    first
    | exact ldx_mono hs hv
    | exact mpd (fun u hu => stv_mono hs hu) hv
    | exact aconvx_mono hs hv
    | exact mp (fun u hu => aarrayX_mono hs hu) hv
    | exact mp (fun u hu => abinx_mono hs hu) hv
    | exact mp (fun u hu => alookup_mono hs hu) hv
    | exact mpd (fun u hu => aupdate_mono hs hu) hv
    | exact arange_mono hs hv
    | exact anext_mono hs hv
    | exact mp (fun u hu => aentry_mono hs hu) hv
    | exact aslice_mono hs hv
    | exact mp (fun u hu => aindexAddr_mono hs hu) hv
    | (unfold abuiltin at *
       split at hv <;> first
         | exact hv
         | exact mp (fun u hu => alenx_mono hs hu) hv
         | exact mpd (fun u hu => adelete_mono hs hu) hv
         | exact acopy_mono hs hv
         | exact aappend_mono hs hv)
end

theorem evs_congr {t t' : List (Option AV)} : ∀ {l : List Operand}, (∀ x ∈ l, ev t x = ev t' x) → evs t l = evs t' l
  | [], _ => rfl
  | x :: r, h => by simp only [evs]; rw [h x (by simp), evs_congr fun y hy => h y (by simp [hy])]

theorem evParts_congr {t t' : List (Option AV)} : ∀ {l : List (Nat × Operand)}, (∀ x ∈ l.map (·.2), ev t x = ev t' x) → evParts t l = evParts t' l
  | [], _ => rfl
  | (i, x) :: r, h => by simp only [evParts]; rw [h x (by simp), evParts_congr fun y hy => h y (by simp [hy])]

theorem aop_congr {P : Program} {s : Nat} {t t' : List (Option AV)} {h : Heap} {o : Oper} (hx : ∀ x ∈ o.op.operands, ev t x = ev t' x) : aop P s t h o = aop P s t' h o := by
  obtain ⟨dst, op, type, ps, after, guard⟩ := o
  simp only at hx
  cases op with
  | build ty parts => unfold aop; simp only; rw [evParts_congr fun x hx' => hx x (by simpa [Op.operands] using hx')]
  | buildSlice ty n parts => unfold aop; simp only; rw [evParts_congr fun x hx' => hx x (by simpa [Op.operands] using hx')]
  | makeFunc fn first cap =>
    have he : evs t cap.toList = evs t' cap.toList := evs_congr fun x hx' => hx x (by simp only [Op.operands, Array.mem_append]; exact .inr (by simpa using hx'))
    unfold aop; cases fn <;> simp only [he]
  | call c =>
    obtain ⟨callee, args, ts⟩ := c
    have he : evs t args.toList = evs t' args.toList := evs_congr fun x hx' => hx x (by simp only [Op.operands, Call.operands, Array.mem_append]; exact .inr (by simpa using hx'))
    unfold aop; cases callee <;> simp only [he]
  | slice ty x lo hi mx =>
    have h1 : ev t x = ev t' x := hx x (by simp [Op.operands])
    have h2 : evO t lo = evO t' lo := by cases lo with | none => rfl | some y => simp only [evO]; rw [hx y (by simp [Op.operands])]
    have h3 : evO t hi = evO t' hi := by cases hi with | none => rfl | some y => simp only [evO]; rw [hx y (by simp [Op.operands])]
    have h4 : evO t mx = evO t' mx := by cases mx with | none => rfl | some y => simp only [evO]; rw [hx y (by simp [Op.operands])]
    unfold aop; simp only [h1, h2, h3, h4]
  | pick c a b =>
    have h1 : ev t c = ev t' c := hx c (by simp [Op.operands])
    have h2 : ev t a = ev t' a := hx a (by simp [Op.operands])
    have h3 : ev t b = ev t' b := hx b (by simp [Op.operands])
    unfold aop; simp only [h1, h2, h3]
  | store ty x y =>
    have h1 : ev t x = ev t' x := hx x (by simp [Op.operands])
    have h2 : ev t y = ev t' y := hx y (by simp [Op.operands])
    unfold aop; simp only [h1, h2]
  | binOp b ty x y ty' =>
    have h1 : ev t x = ev t' x := hx x (by simp [Op.operands])
    have h2 : ev t y = ev t' y := hx y (by simp [Op.operands])
    unfold aop; simp only [h1, h2]
  | makeSlice ty x y =>
    have h1 : ev t x = ev t' x := hx x (by simp [Op.operands])
    have h2 : ev t y = ev t' y := hx y (by simp [Op.operands])
    unfold aop; simp only [h1, h2]
  | indexAddr ty x y =>
    have h1 : ev t x = ev t' x := hx x (by simp [Op.operands])
    have h2 : ev t y = ev t' y := hx y (by simp [Op.operands])
    unfold aop; simp only [h1, h2]
  | index ty x y =>
    have h1 : ev t x = ev t' x := hx x (by simp [Op.operands])
    have h2 : ev t y = ev t' y := hx y (by simp [Op.operands])
    unfold aop; simp only [h1, h2]
  | move x => unfold aop; simp only [hx x (by simp [Op.operands])]
  | assign x => unfold aop; simp only [hx x (by simp [Op.operands])]
  | box ty x => unfold aop; simp only [hx x (by simp [Op.operands])]
  | load ty x => unfold aop; simp only [hx x (by simp [Op.operands])]
  | nilCheck x => unfold aop; simp only [hx x (by simp [Op.operands])]
  | unOp b ty x => unfold aop; simp only [hx x (by simp [Op.operands])]
  | convert b ty x => unfold aop; simp only [hx x (by simp [Op.operands])]
  | fieldAddr ty x f => unfold aop; simp only [hx x (by simp [Op.operands])]
  | field ty x f => unfold aop; simp only [hx x (by simp [Op.operands])]
  | extract x f => unfold aop; simp only [hx x (by simp [Op.operands])]
  | makeMap b x => unfold aop; cases x <;> rfl
  | sliceToArrayPointer b x => unfold aop; simp only [hx x (by simp [Op.operands])]
  | makeInterface b x => unfold aop; simp only [hx x (by simp [Op.operands])]
  | typeAssert x b c d => unfold aop; simp only [hx x (by simp [Op.operands])]
  | range b x => unfold aop; simp only [hx x (by simp [Op.operands])]
  | next x b => unfold aop; simp only [hx x (by simp [Op.operands])]
  | entry x => unfold aop; simp only [hx x (by simp [Op.operands])]
  | lookup ty x y ok =>
    have h1 : ev t x = ev t' x := hx x (by simp [Op.operands])
    have h2 : ev t y = ev t' y := hx y (by simp [Op.operands])
    unfold aop; simp only [h1, h2]
  | mapUpdate ty x y z =>
    have h1 : ev t x = ev t' x := hx x (by simp [Op.operands])
    have h2 : ev t y = ev t' y := hx y (by simp [Op.operands])
    have h3 : ev t z = ev t' z := hx z (by simp [Op.operands])
    unfold aop; simp only [h1, h2, h3]
  | insert ty x y z =>
    have h1 : ev t x = ev t' x := hx x (by simp [Op.operands])
    have h2 : ev t y = ev t' y := hx y (by simp [Op.operands])
    have h3 : ev t z = ev t' z := hx z (by simp [Op.operands])
    unfold aop; simp only [h1, h2, h3]
  | _ => rfl

end Go.Ab
