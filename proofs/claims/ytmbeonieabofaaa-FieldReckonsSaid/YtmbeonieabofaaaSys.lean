import Derived.Test.YtmbeonieabofaaaAbEnd
import Derived.Test.YtmbeonieabofaaaAbLoop
import Derived.Test.YtmbeonieabofaaaProg
namespace Go.Proofs.Ytmbeonieabofaaa
open Go.Ab

noncomputable def S : Ab.Sys := { P := Try.prog, X := fun g => if g == 38 then some .add64 else if g == 44 then some .sub64 else none }

theorem all_names : (Try.prog.funcs.toList.all fun f => f.name != "runtime.NumGoroutine") = true := by kernel_rfl
theorem all_regs : (Try.prog.funcs.toList.all fun f => match f.body with | some c => regOK c | none => true) = true := by kernel_rfl
theorem mixed : Try.prog.follows .mixedOrders = true := by kernel_rfl
theorem next38 : Extern.findNext Try.f38 = none := by kernel_rfl
theorem find38 : Extern.find Try.f38 = some (Ext.row .add64) := by kernel_rfl
theorem next44 : Extern.findNext Try.f44 = none := by kernel_rfl
theorem find44 : Extern.find Try.f44 = some (Ext.row .sub64) := by kernel_rfl

theorem S_ok : SysOK2 S where
  mixed := mixed
  noNG g fn h := by
    have hm : fn ∈ Try.prog.funcs := Array.mem_of_getElem? h
    have := List.all_eq_true.1 all_names fn (Array.mem_toList_iff.2 hm)
    simpa using this
  ext g k h := by
    unfold S at h
    simp only at h
    split at h
    · rename_i e
      simp only [beq_iff_eq] at e
      subst e
      simp only [Option.some.injEq] at h; subst h
      exact ⟨Try.f38, Try.func38, rfl, next38, find38⟩
    · split at h
      · rename_i e
        simp only [beq_iff_eq] at e
        subst e
        simp only [Option.some.injEq] at h; subst h
        exact ⟨Try.f44, Try.func44, rfl, next44, find44⟩
      · cases h
  regs g fn c h hb := by
    have hm : fn ∈ Try.prog.funcs := Array.mem_of_getElem? h
    have := List.all_eq_true.1 all_regs fn (Array.mem_toList_iff.2 hm)
    rw [hb] at this
    exact this


def noC : Cons := fun _ => none
theorem noC_ok {P : Program} : ConsOK P noC := fun g k h => by cases h
end Go.Proofs.Ytmbeonieabofaaa
