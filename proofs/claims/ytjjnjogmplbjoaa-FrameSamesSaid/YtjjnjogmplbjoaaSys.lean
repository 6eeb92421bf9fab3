import Derived.Test.YtjjnjogmplbjoaaAbEnd
import Derived.Test.YtjjnjogmplbjoaaAbLoop2
import Derived.Test.YtjjnjogmplbjoaaProg
set_option linter.unusedVariables false
set_option linter.unusedSimpArgs false
namespace Go.Proofs.Ytjjnjogmplbjoaa
open Go.Ab

noncomputable def S : Ab.Sys := { P := Try.prog, X := fun _ => none }

theorem all_names : (Try.prog.funcs.toList.all fun f => f.name != "runtime.NumGoroutine") = true := by kernel_rfl
theorem all_regs : (Try.prog.funcs.toList.all fun f => match f.body with | some c => regOK c | none => true) = true := by kernel_rfl
theorem mixed : Try.prog.follows .mixedOrders = true := by kernel_rfl

theorem S_ok : SysOK2 S where
  mixed := mixed
  noNG g fn h := by
    have hm : fn ∈ Try.prog.funcs := Array.mem_of_getElem? h
    have := List.all_eq_true.1 all_names fn (Array.mem_toList_iff.2 hm)
    simpa using this
  ext g k h := by cases h
  regs g fn c h hb := by
    have hm : fn ∈ Try.prog.funcs := Array.mem_of_getElem? h
    have := List.all_eq_true.1 all_regs fn (Array.mem_toList_iff.2 hm)
    rw [hb] at this
    exact this

def noC : Cons := fun _ => none
theorem noC_ok {P : Program} : ConsOK P noC := fun g k h => by cases h

/-! ### words -/
def u64 (n : Int) : AV := .raw (.int .u64 n)
def u32 (n : Int) : AV := .raw (.int .u32 n)
def i64 (n : Int) : AV := .raw (.int .i64 n)
def i32 (n : Int) : AV := .raw (.int .i32 n)
def u8 (n : Int) : AV := .raw (.int .u8 n)
def bo (b : Bool) : AV := .raw (.bool b)
def un : Option AV := some (.raw undef)
def nilS : AV := .raw (.slice none 0 0)
def fo (v : AV) : Forced := .op v []
def QF (l : List (Nat × List (Nat × Forced))) : FQ := l.map fun r => (r.1, .ops r.2)
def isO (o : Option AV) (v : AV) : Prop := o.map (·, ([] : Delta)) = some (v, [])
def isV (x v : AV) : Prop := some (x, ([] : Delta)) = some (v, [])
theorem isV_int {k : IntKind} {a b : Int} (h : a = b) : isV (.raw (.int k a)) (.raw (.int k b)) := by unfold isV; rw [h]
theorem isV_bo {a b : Bool} (h : a = b) : isV (bo a) (bo b) := by unfold isV; rw [h]
theorem isO_some {o : Option AV} {v : AV} (h : o = some v) : isO o v := by rw [h]; rfl
theorem all_cons {p : Prop} {l : Obs} : Obs.all (p :: l) ↔ p ∧ Obs.all l := by unfold Obs.all; exact List.forall_mem_cons
theorem all_nil : Obs.all [] ↔ True := by simp [Obs.all]
theorem all_ite {b : Bool} {l m : Obs} : Obs.all (if b = true then l else m) ↔ (b = true → Obs.all l) ∧ (b = false → Obs.all m) := by cases b <;> simp
theorem all_map {α : Type} {l : List α} {f : α → Prop} (h : ∀ i ∈ l, f i) : Obs.all (l.map f) := by
  intro p hp
  obtain ⟨i, hi, rfl⟩ := List.mem_map.1 hp
  exact h i hi
def w64 (n : Int) : Int := IntKind.i64.wrap n
theorem w64_id (n : Int) (h0 : -9223372036854775808 ≤ n) (h1 : n < 9223372036854775808) : w64 n = n := by
  unfold w64 IntKind.wrap
  simp [IntKind.signed, IntKind.bits]
  omega
def wr (n : Int) : Int := IntKind.u64.wrap n
theorem wr_eq (n : Int) : wr n = n % 18446744073709551616 := rfl
theorem wr_id {x : Int} (h0 : 0 ≤ x) (h1 : x < 18446744073709551616) : wr x = x := by rw [wr_eq]; omega
def loopsOf : Code → List Code
  | .seq a b => loopsOf a ++ loopsOf b
  | .cond _ a b => loopsOf a ++ loopsOf b
  | .block _ c => loopsOf c
  | .scope c => loopsOf c
  | .loop c => c :: loopsOf c
  | _ => []
noncomputable def LB (fn : Func) (k : Nat) : Code := ((fn.body.map loopsOf).getD []).getD k .skip
theorem sel_all {k : Nat} {t : T} {h : Heap} {t' : T} {h' : Heap} (ids live : List Nat) (hv : Ab.pick ids h ids = some h') (hk : ids.take k = List.range k) (hn : nodupB ids = true) (ht : renT (pos ids) (maskT live t) = t') : Sel k t h t' h' := ⟨ids, live, hv, hk, hn, ht⟩

/-! ### bytes -/
def isB (L : List Int) : Prop := ∀ x ∈ L, 0 ≤ x ∧ x < 256
/-- Bytes as a string. -/
def bs (L : List Int) : ByteArray := ⟨(L.map fun n => UInt8.ofNat n.toNat).toArray⟩
def bcells (L : List Int) : List AV := L.map u8
/-- Bytes that came in, or that are looked at. -/
def lb (L : List Int) : HB := .live ⟨bcells L, false, false, true⟩

theorem bs_inj {L M : List Int} (hL : isB L) (hM : isB M) (h : (bs L).data.toList = (bs M).data.toList) : L = M := by
  simp only [bs, List.toList_toArray] at h
  induction L generalizing M with
  | nil => cases M with
    | nil => rfl
    | cons m M => simp at h
  | cons l L ih =>
    cases M with
    | nil => simp at h
    | cons m M =>
      simp only [List.map_cons, List.cons.injEq] at h
      obtain ⟨h1, h2⟩ := h
      have hl := hL l (.head _)
      have hm := hM m (.head _)
      have e : l.toNat = m.toNat := by
        have := congrArg UInt8.toNat h1
        simp only [UInt8.toNat_ofNat'] at this
        omega
      have : l = m := by omega
      rw [this, ih (fun x hx => hL x (.tail _ hx)) (fun x hx => hM x (.tail _ hx)) h2]
theorem bs_eq {L M : List Int} (hL : isB L) (hM : isB M) : ((bs L).data.toList == (bs M).data.toList) = decide (L = M) := by
  rw [Bool.eq_iff_iff, decide_eq_true_eq, beq_iff_eq]
  exact ⟨bs_inj hL hM, fun h => by rw [h]⟩

theorem byteOf_u8 (n : Int) : Ab.byteOf (u8 n) = UInt8.ofNat n.toNat := rfl
theorem strOf_b (L : List Int) : strOf (bcells L) = bs L := by
  unfold strOf bs bcells
  rw [List.map_map]; rfl
theorem allU8_b (L : List Int) : allU8 (bcells L) = true := by
  rw [allU8_iff]
  intro c hc
  obtain ⟨n, -, rfl⟩ := List.mem_map.1 hc
  rfl

end Go.Proofs.Ytjjnjogmplbjoaa
