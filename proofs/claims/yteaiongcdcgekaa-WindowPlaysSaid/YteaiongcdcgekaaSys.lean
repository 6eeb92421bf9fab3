import Derived.Test.YteaiongcdcgekaaAbExec
import Derived.Test.YteaiongcdcgekaaProg
namespace Go.Proofs.Yteaiongcdcgekaa
open Go.Ab

noncomputable def S : Ab.Sys := { P := Try.prog, X := fun _ => none }

theorem all_names : (Try.prog.funcs.toList.all fun f => f.name != "runtime.NumGoroutine") = true := by kernel_rfl
theorem all_regs : (Try.prog.funcs.toList.all fun f => match f.body with | some c => regOK c | none => true) = true := by kernel_rfl
theorem mixed : Try.prog.follows .mixedOrders = true := by kernel_rfl

theorem S_ok : SysOK2 S where
  mixed := mixed
  noNG g fn h := by
    have hm : fn ∈ Try.prog.funcs := Array.mem_of_getElem? h
    have := List.all_eq_true.1 all_names fn (Array.mem_toList_iff.2 hm)
    simpa using this
  ext g k h := by cases h
  regs g fn c h hb := by
    have hm : fn ∈ Try.prog.funcs := Array.mem_of_getElem? h
    have := List.all_eq_true.1 all_regs fn (Array.mem_toList_iff.2 hm)
    rw [hb] at this
    exact this

def noC : Cons := fun _ => none
theorem noC_ok {P : Program} : ConsOK P noC := fun g k h => by cases h
end Go.Proofs.Yteaiongcdcgekaa
