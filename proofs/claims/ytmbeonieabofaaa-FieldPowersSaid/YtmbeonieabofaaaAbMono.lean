import Derived.Test.YtmbeonieabofaaaAbAop
set_option linter.unusedSimpArgs false
set_option linter.unusedVariables false
namespace Go.Ab

/-- h' has whatever h has. -/
def Sub (h h' : Heap) : Prop := ∀ i, hat h i ≠ .free → hat h' i = hat h i

theorem Sub.hget {h h' : Heap} (hs : Sub h h') {b : Nat} {blk : Blk} (hb : hget h b = some blk) : hget h' b = some blk := by
  have : nf h b := nf_of_hget hb
  unfold Ab.hget at *
  rw [hs b this]; exact hb

theorem Sub.nf {h h' : Heap} (hs : Sub h h') {b : Nat} (hb : nf h b) : nf h' b := by
  unfold Ab.nf at *; rw [hs b hb]; exact hb

section
variable {P : Program} {h h' : Heap} (hs : Sub h h')
include hs

theorem ldv_mono {t : TypeId} {b off : Nat} {r : AV} (hv : ldv P h t b off = some r) : ldv P h' t b off = some r := by
  unfold ldv at *
  cases hb : Ab.hget h b with
  | none => rw [hb] at hv; simp at hv
  | some blk => rw [hs.hget hb]; rw [hb] at hv; exact hv

theorem stv_mono {t : TypeId} {b off : Nat} {v : AV} {r : Delta} (hv : stv P h t b off v = some r) : stv P h' t b off v = some r := by
  unfold stv at *
  cases hb : Ab.hget h b with
  | none => rw [hb] at hv; simp at hv
  | some blk => rw [hs.hget hb]; rw [hb] at hv; exact hv

theorem aindexAddr_mono {t : TypeId} {x i r : AV} (hv : aindexAddr P h t x i = some r) : aindexAddr P h' t x i = some r := by
  unfold aindexAddr at *
  split at hv
  · exact hv
  · rename_i b off len c k i
    cases hb : Ab.hget h b with
    | none => rw [hb] at hv; simp at hv
    | some blk => rw [hs.hget hb]; rw [hb] at hv; exact hv
  · cases hv

theorem aslice_mono {s : Nat} {t : TypeId} {x : AV} {lo hi mx : Option AV} {r : Ans} (hv : aslice P h s t x lo hi mx = some r) : aslice P h' s t x lo hi mx = some r := by
  unfold aslice at *
  split at hv
  · rename_i n e b off _
    cases hb : Ab.hget h b with
    | none => rw [hb] at hv; simp at hv
    | some blk => rw [hs.hget hb]; rw [hb] at hv; exact hv
  · exact hv
  · rename_i e b off len c _
    cases hb : Ab.hget h b with
    | none => rw [hb] at hv; simp at hv
    | some blk => rw [hs.hget hb]; rw [hb] at hv; exact hv
  · rename_i e b off len _
    cases hb : Ab.hget h b with
    | none => rw [hb] at hv; simp at hv
    | some blk => rw [hs.hget hb]; rw [hb] at hv; exact hv
  · cases hv

theorem srcOf_mono {x : AV} {r : List AV × Nat × Bool} (hv : srcOf h x = some r) : srcOf h' x = some r := by
  unfold srcOf at *
  split at hv
  · exact hv
  · exact hv
  · rename_i b off len cap
    cases hb : Ab.hget h b with
    | none => rw [hb] at hv; simp at hv
    | some blk => rw [hs.hget hb]; rw [hb] at hv; exact hv
  · cases hv

theorem acopy_mono {t : TypeId} {x y : AV} {r : Ans} (hv : acopy P h t x y = some r) : acopy P h' t x y = some r := by
  unfold acopy at *
  split at hv
  · rename_i e b off dlen c _
    cases hb : Ab.hget h b with
    | none => rw [hb] at hv; simp at hv
    | some blk =>
      rw [hs.hget hb]; rw [hb] at hv
      cases hsrc : srcOf h y with
      | none => rw [hsrc] at hv; simp at hv
      | some q => rw [srcOf_mono hs hsrc]; rw [hsrc] at hv; exact hv
  · cases hv

theorem appended_mono {e t1 : TypeId} {x : AV} {r : AppArgs} (hv : appended P h e t1 x = some r) : appended P h' e t1 x = some r := by
  unfold appended at *
  split at hv
  · rename_i hi; rw [if_pos hi]; exact hv
  · rename_i hi; rw [if_neg hi]
    cases hsrc : srcOf h x with
    | none => rw [hsrc] at hv; simp at hv
    | some q => rw [srcOf_mono hs hsrc]; rw [hsrc] at hv; exact hv

theorem aappend_mono {s : Nat} {t t1 : TypeId} {x y : AV} {r : Ans} (hv : aappend P h s t t1 x y = some r) : aappend P h' s t t1 x y = some r := by
  unfold aappend at *
  split at hv
  · rename_i e _
    cases hA : appended P h e t1 y with
    | none => rw [hA] at hv; simp at hv
    | some A =>
      rw [appended_mono hs hA]; rw [hA] at hv
      split at hv
      · split at hv
        · rename_i hcc
          rw [if_pos hcc]
          split at hv
          · exact hv
          · rename_i b off len cap
            cases hb : Ab.hget h b with
            | none => rw [hb] at hv; simp at hv
            | some blk => rw [hs.hget hb]; rw [hb] at hv; exact hv
          · cases hv
        · cases hv
      · cases hv
  · cases hv

theorem aop_mono {s : Nat} {t : List (Option AV)} {o : Oper} {r : Ans} (hv : aop P s t h o = some r) : aop P s t h' o = some r := by
  obtain ⟨dst, op, type, ps, after, guard⟩ := o
  unfold aop at *
  simp only at *
  split at hv <;> first | exact hv | skip
  · split at hv
    · simp only [Option.map_eq_some_iff] at hv ⊢
      obtain ⟨u, hu, rfl⟩ := hv
      exact ⟨u, ldv_mono hs hu, rfl⟩
    · cases hv
  · split at hv
    · simp only [Option.map_eq_some_iff] at hv ⊢
      obtain ⟨u, hu, rfl⟩ := hv
      exact ⟨u, stv_mono hs hu, rfl⟩
    · cases hv
  · split at hv
    · exact aslice_mono hs hv
    · cases hv
  · split at hv
    · simp only [Option.map_eq_some_iff] at hv ⊢
      obtain ⟨u, hu, rfl⟩ := hv
      exact ⟨u, aindexAddr_mono hs hu, rfl⟩
    · cases hv
  · split at hv
    · unfold abuiltin at *
      split at hv <;> first | exact hv | skip
      · exact acopy_mono hs hv
      · exact aappend_mono hs hv
    · cases hv
end

theorem evs_congr {t t' : List (Option AV)} : ∀ {l : List Operand}, (∀ x ∈ l, ev t x = ev t' x) → evs t l = evs t' l
  | [], _ => rfl
  | x :: r, h => by simp only [evs]; rw [h x (by simp), evs_congr fun y hy => h y (by simp [hy])]

theorem evParts_congr {t t' : List (Option AV)} : ∀ {l : List (Nat × Operand)}, (∀ x ∈ l.map (·.2), ev t x = ev t' x) → evParts t l = evParts t' l
  | [], _ => rfl
  | (i, x) :: r, h => by simp only [evParts]; rw [h x (by simp), evParts_congr fun y hy => h y (by simp [hy])]

theorem aop_congr {P : Program} {s : Nat} {t t' : List (Option AV)} {h : Heap} {o : Oper} (hx : ∀ x ∈ o.op.operands, ev t x = ev t' x) : aop P s t h o = aop P s t' h o := by
  obtain ⟨dst, op, type, ps, after, guard⟩ := o
  simp only at hx
  cases op with
  | build ty parts => unfold aop; simp only; rw [evParts_congr fun x hx' => hx x (by simpa [Op.operands] using hx')]
  | buildSlice ty n parts => unfold aop; simp only; rw [evParts_congr fun x hx' => hx x (by simpa [Op.operands] using hx')]
  | makeFunc fn first cap =>
    have he : evs t cap.toList = evs t' cap.toList := evs_congr fun x hx' => hx x (by simp only [Op.operands, Array.mem_append]; exact .inr (by simpa using hx'))
    unfold aop; cases fn <;> simp only [he]
  | call c =>
    obtain ⟨callee, args, ts⟩ := c
    have he : evs t args.toList = evs t' args.toList := evs_congr fun x hx' => hx x (by simp only [Op.operands, Call.operands, Array.mem_append]; exact .inr (by simpa using hx'))
    unfold aop; cases callee <;> simp only [he]
  | slice ty x lo hi mx =>
    have h1 : ev t x = ev t' x := hx x (by simp [Op.operands])
    have h2 : evO t lo = evO t' lo := by cases lo with | none => rfl | some y => simp only [evO]; rw [hx y (by simp [Op.operands])]
    have h3 : evO t hi = evO t' hi := by cases hi with | none => rfl | some y => simp only [evO]; rw [hx y (by simp [Op.operands])]
    have h4 : evO t mx = evO t' mx := by cases mx with | none => rfl | some y => simp only [evO]; rw [hx y (by simp [Op.operands])]
    unfold aop; simp only [h1, h2, h3, h4]
  | pick c a b =>
    have h1 : ev t c = ev t' c := hx c (by simp [Op.operands])
    have h2 : ev t a = ev t' a := hx a (by simp [Op.operands])
    have h3 : ev t b = ev t' b := hx b (by simp [Op.operands])
    unfold aop; simp only [h1, h2, h3]
  | store ty x y =>
    have h1 : ev t x = ev t' x := hx x (by simp [Op.operands])
    have h2 : ev t y = ev t' y := hx y (by simp [Op.operands])
    unfold aop; simp only [h1, h2]
  | binOp b ty x y ty' =>
    have h1 : ev t x = ev t' x := hx x (by simp [Op.operands])
    have h2 : ev t y = ev t' y := hx y (by simp [Op.operands])
    unfold aop; simp only [h1, h2]
  | makeSlice ty x y =>
    have h1 : ev t x = ev t' x := hx x (by simp [Op.operands])
    have h2 : ev t y = ev t' y := hx y (by simp [Op.operands])
    unfold aop; simp only [h1, h2]
  | indexAddr ty x y =>
    have h1 : ev t x = ev t' x := hx x (by simp [Op.operands])
    have h2 : ev t y = ev t' y := hx y (by simp [Op.operands])
    unfold aop; simp only [h1, h2]
  | index ty x y =>
    have h1 : ev t x = ev t' x := hx x (by simp [Op.operands])
    have h2 : ev t y = ev t' y := hx y (by simp [Op.operands])
    unfold aop; simp only [h1, h2]
  | move x => unfold aop; simp only [hx x (by simp [Op.operands])]
  | assign x => unfold aop; simp only [hx x (by simp [Op.operands])]
  | box ty x => unfold aop; simp only [hx x (by simp [Op.operands])]
  | load ty x => unfold aop; simp only [hx x (by simp [Op.operands])]
  | nilCheck x => unfold aop; simp only [hx x (by simp [Op.operands])]
  | unOp b ty x => unfold aop; simp only [hx x (by simp [Op.operands])]
  | convert b ty x => unfold aop; simp only [hx x (by simp [Op.operands])]
  | fieldAddr ty x f => unfold aop; simp only [hx x (by simp [Op.operands])]
  | field ty x f => unfold aop; simp only [hx x (by simp [Op.operands])]
  | extract x f => unfold aop; simp only [hx x (by simp [Op.operands])]
  | _ => rfl

end Go.Ab
