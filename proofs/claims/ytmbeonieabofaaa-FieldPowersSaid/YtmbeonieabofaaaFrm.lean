import Derived.Test.YtmbeonieabofaaaFq
import Derived.Test.YtmbeonieabofaaaRows
import Derived.WalkKit
import Derived.ProofKit
import Derived.OpenShut
import Derived.ChangeSlices
import Derived.Carry
namespace Go.Proofs.Ytmbeonieabofaaa
open Go.ChangeShapes Go.WideShapes Go.ChangeAt Go.RowKit Go.Ab
set_option linter.unusedVariables false

theorem own : ownKnob Try.prog.godebug = none := by kernel_rfl
theorem laidOut : laidOutB Try.prog = true := by kernel_rfl
theorem cells23 : Try.prog.cellsOf 23 = 32 := by kernel_rfl
theorem cells5 : Try.prog.cellsOf 5 = 1 := by kernel_rfl

theorem wf_u64 {n : Int} (h : (Lit.int .u64 n).wf = true) : inW n := by
  have := bounds_u64 h
  unfold inW; omega

/-- An argument of 32 bytes, by value. -/
theorem open_key {H : Type} {enc : TypeId × Value → H} {w : World} {base b0 : Nat} {sp : Nat → Bool} {hd : Bool} {v : Value} {d : DataW H} {p : List MemPlace} (hv : Value.okWide Try.prog w .any base 23 v) (h : DataW.Trod enc Try.prog w b0 sp hd 23 v d p) :
    ∃ b : Nat → Int, isKey b ∧ v = conc (fun _ => default) (key b) := by
  obtain ⟨cs, rfl, hsz, _⟩ : ∃ cs, v = .agg cs ∧ cs.size = Try.prog.cellsOf 23 ∧ Row.okWide Try.prog w .any base 23 cs := by
    simpa [Value.okWide, Try.underlying23] using hv
  rw [cells23] at hsz
  obtain ⟨fuel, hf⟩ := h
  obtain ⟨xs, m, -, -, -, hxl, hx⟩ := DataW.trod_array Try.underlying23 hf
  have hc : ∀ i, i < 32 → ∃ n : Int, cs[i]? = some (.int .u8 n) ∧ 0 ≤ n ∧ n < 256 := fun i hi => by
    have hxi := hx i hi
    have hlt : i < xs.length := by omega
    rw [List.getElem?_eq_getElem hlt, cells5] at hxi
    obtain ⟨n, hcs, -, hwf⟩ := DataW.trod_int Try.underlying5 hxi
    have hb := bounds_u8 hwf
    refine ⟨n, ?_, by omega, by omega⟩
    have h1 : (List.take 1 (List.drop (i * 1) (Value.agg cs).cells.toList))[0]? = some (.int .u8 n) := by rw [hcs]; rfl
    simp only [Value.cells, Nat.mul_one, List.getElem?_take, Nat.zero_lt_one, if_true, List.getElem?_drop, Nat.add_zero, Array.getElem?_toList] at h1
    exact h1
  refine ⟨fun i => match cs[i]? with | some (.int .u8 n) => n | _ => 0, fun i => ?_, ?_⟩
  · by_cases hi : i < 32
    · obtain ⟨n, h1, h2, h3⟩ := hc i hi
      simp only [h1]; exact ⟨h2, h3⟩
    · have : cs[i]? = none := Array.getElem?_eq_none (by omega)
      simp only [this]; omega
  · unfold key
    simp only [conc, concs_eq, List.map_map, Value.agg.injEq]
    apply Array.ext'
    apply List.ext_getElem?
    intro i
    simp only [Array.getElem?_toList, List.getElem?_map]
    by_cases hi : i < 32
    · obtain ⟨n, h1, h2, h3⟩ := hc i hi
      rw [h1, List.getElem?_range hi]
      simp [u8, conc, h1]
    · have : cs[i]? = none := Array.getElem?_eq_none (by omega)
      rw [this, List.getElem?_eq_none (by simp; omega)]
      rfl

theorem inn_key (p : Nat → Prop) (b : Nat → Int) : (key b).inn p := by
  unfold key
  show inns p _
  rw [inns_iff]
  intro v hv
  obtain ⟨i, -, rfl⟩ := List.mem_map.1 hv
  trivial

end Go.Proofs.Ytmbeonieabofaaa
