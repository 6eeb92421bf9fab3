import Derived.Test.YteaiongcdcgekaaAbExec
import Derived.Below
import Derived.Carry
set_option linter.unusedVariables false
namespace Go.Ab
open Go.RowKit

/-- Nothing that the call may write: so all that was there is as it was. -/
def noOwn (h : Heap) : Bool := h.all fun x => match x with | .live b => !b.own | _ => true

theorem noOwn_spec {σ : Sg} {h : Heap} (hn : noOwn h = true) (r : Nat) : ¬ OwnR σ h r := by
  rintro ⟨i, b, a, hb, ho, -, -⟩
  have hm : HB.live b ∈ h := by
    unfold hget hat at hb
    cases hx : h[i]? with
    | none => rw [List.getD_eq_getElem?_getD, hx] at hb; cases hb
    | some x =>
      rw [List.getD_eq_getElem?_getD, hx] at hb
      simp only [Option.getD_some] at hb
      split at hb
      · simp only [Option.some.injEq] at hb; subst hb
        exact List.mem_of_getElem? hx
      · cases hb
  have := List.all_eq_true.1 hn _ hm
  simp [ho] at this

theorem Step.below {σ σ' : Sg} {h h' : Heap} {w w' : World} (hs : Step σ h w σ' h' w') (hn : noOwn h = true) : Below w.heap.size w w' :=
  ⟨hs.os, hs.tape, hs.output, hs.size, fun k hk => hs.frame k hk (noOwn_spec hn k)⟩

/-- No memory is told: nothing to be shown of it. -/
theorem rel_nil (σ : Sg) (w : World) : Rel σ [] w :=
  ⟨fun i b h => by simp [hget, hat] at h, fun i b h => by simp [hget, hat] at h, fun i b h => by simp [hget, hat] at h, fun i b h => by simp [hget, hat] at h, fun i b h => by simp [hget, hat] at h, fun i j bi bj a a' h => by simp [hget, hat] at h⟩

/-- A call that is handed no memory. -/
theorem CallOK.calls {P : Program} {g : FuncId} {args : List AV} {v : AV} {foot' : Heap} (h : CallOK P g args [] v foot') (hin : inns (nf []) args) (σ : Sg) (w : World) :
    Calls P g (concs σ args).toArray w fun e w' => ∃ σ', e = .returned (conc σ' v) ∧ Below w.heap.size w w' :=
  (h σ w (rel_nil σ w) hin).mono fun e w' ⟨σ', he, hs, _⟩ => ⟨σ', he, hs.below rfl⟩

end Go.Ab
