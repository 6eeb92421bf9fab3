/-
  No cell of these rows narrows 'for every input' (looked for: loops, veiled, ifaces, maps, wideKeys, modest, calm, conditions, laid).
  DERIVED. THE GIVEN ROWS OF THIS SEAT. 5 by the template 'for every input the law returns true; each argument reads behind the call as it read before'; 0 by the template 'total and deterministic' (their statements: YtmbeonieabofaaaTotals.lean).
  GIVEN WITH THE SEED: the statements are not yours to turn. If you find one false, say at which input.
  Laid BY PROGRAM, IN A SANDBOX (cutbox-rows.mjs): the forced cells as the released guide's own fill.sh prints them over the translation fe8862cd5fb30506… (all of the seat's roots in one cut). By AI agents, Wed Nov 11 2026. No macro, syntax, notation, axiom, sorry.
-/
import Derived.Test.YtmbeonieabofaaaChecked
import GoSem.Claim
import GoSem.ClaimJoined
import GoSem.ClaimMapViews
import Derived.JoinedTies
import Derived.KernelRfl
namespace Go.Proofs.Ytmbeonieabofaaa
/- THE CELL 'sum', in the pinned program and in every row, IS THE sha256 OF THE DUMP (.gsa) THAT YtmbeonieabofaaaProg.lean LOADS. Nothing in Lean hashes anything: it is a label: what it is worth is what the hold of that sum in a sandbox is worth. -/
noncomputable def Try.pinned : Pinned := { name := "ytmbeonieabofaaa", sum := "fe8862cd5fb30506f4232dc2761cea80f66a6a7b6f9027a121dded07deedd5ae", checked := Try.checked }
namespace Rows
def none {H : Type} : Left H := { results := [], args := [] }

/-- 'escutcheonlaw02.FieldReckons': WHATEVER THE INPUT: true; the input reads as it did. -/
def fieldReckonsSpec : ChangeSpec := { name := "fieldReckons", fn := fun _ => fun
  | [d1, d2] => { results := [.lit (.bool true)], args := [d1, d2] }
  | _ => none }
def fieldReckonsRow : OpenClaim := { program := "ytmbeonieabofaaa", sum := "fe8862cd5fb30506f4232dc2761cea80f66a6a7b6f9027a121dded07deedd5ae", func := "escutcheon/escutcheonlaw02.FieldReckons", spec := "fieldReckons", inPlace := ["math/bits.Sub64", "math/bits.Add64"], recurses := true, apart := false }
def FieldReckonsSaid : Prop := fieldReckonsRow.holds Try.pinned (OpenSpec.ofChange fieldReckonsSpec)

/-- ITS FALSE NEIGHBOUR: 'it returns false'. Refute it at one input. -/
def fieldReckonsWrong : ChangeSpec := { name := "fieldReckons", fn := fun _ => fun
  | [d1, d2] => { results := [.lit (.bool false)], args := [d1, d2] }
  | _ => none }
def FieldReckonsWrongFalsely : Prop := fieldReckonsRow.holds Try.pinned (OpenSpec.ofChange fieldReckonsWrong)

/-- 'escutcheonlaw02.FieldPowers': WHATEVER THE INPUT: true; the input reads as it did. -/
def fieldPowersSpec : ChangeSpec := { name := "fieldPowers", fn := fun _ => fun
  | [d1, d2] => { results := [.lit (.bool true)], args := [d1, d2] }
  | _ => none }
def fieldPowersRow : OpenClaim := { program := "ytmbeonieabofaaa", sum := "fe8862cd5fb30506f4232dc2761cea80f66a6a7b6f9027a121dded07deedd5ae", func := "escutcheon/escutcheonlaw02.FieldPowers", spec := "fieldPowers", inPlace := ["math/bits.Sub64", "math/bits.Add64"], recurses := true, apart := false }
def FieldPowersSaid : Prop := fieldPowersRow.holds Try.pinned (OpenSpec.ofChange fieldPowersSpec)

/-- ITS FALSE NEIGHBOUR: 'it returns false'. Refute it at one input. -/
def fieldPowersWrong : ChangeSpec := { name := "fieldPowers", fn := fun _ => fun
  | [d1, d2] => { results := [.lit (.bool false)], args := [d1, d2] }
  | _ => none }
def FieldPowersWrongFalsely : Prop := fieldPowersRow.holds Try.pinned (OpenSpec.ofChange fieldPowersWrong)

/-- 'escutcheonlaw02.FieldIs': WHATEVER THE INPUT: true; the input reads as it did. -/
def fieldIsSpec : ChangeSpec := { name := "fieldIs", fn := fun _ => fun
  | [d1, d2, d3] => { results := [.lit (.bool true)], args := [d1, d2, d3] }
  | _ => none }
def fieldIsRow : OpenClaim := { program := "ytmbeonieabofaaa", sum := "fe8862cd5fb30506f4232dc2761cea80f66a6a7b6f9027a121dded07deedd5ae", func := "escutcheon/escutcheonlaw02.FieldIs", spec := "fieldIs", inPlace := ["math/bits.Sub64", "math/bits.Add64"], apart := false }
def FieldIsSaid : Prop := fieldIsRow.holds Try.pinned (OpenSpec.ofChange fieldIsSpec)

/-- ITS FALSE NEIGHBOUR: 'it returns false'. Refute it at one input. -/
def fieldIsWrong : ChangeSpec := { name := "fieldIs", fn := fun _ => fun
  | [d1, d2, d3] => { results := [.lit (.bool false)], args := [d1, d2, d3] }
  | _ => none }
def FieldIsWrongFalsely : Prop := fieldIsRow.holds Try.pinned (OpenSpec.ofChange fieldIsWrong)

/-- 'escutcheonlaw02.FieldReads': WHATEVER THE INPUT: true; the input reads as it did. -/
def fieldReadsSpec : ChangeSpec := { name := "fieldReads", fn := fun _ => fun
  | [d1, d2] => { results := [.lit (.bool true)], args := [d1, d2] }
  | _ => none }
def fieldReadsRow : OpenClaim := { program := "ytmbeonieabofaaa", sum := "fe8862cd5fb30506f4232dc2761cea80f66a6a7b6f9027a121dded07deedd5ae", func := "escutcheon/escutcheonlaw02.FieldReads", spec := "fieldReads", inPlace := ["math/bits.Sub64", "math/bits.Add64"], recurses := true, apart := false }
def FieldReadsSaid : Prop := fieldReadsRow.holds Try.pinned (OpenSpec.ofChange fieldReadsSpec)

/-- ITS FALSE NEIGHBOUR: 'it returns false'. Refute it at one input. -/
def fieldReadsWrong : ChangeSpec := { name := "fieldReads", fn := fun _ => fun
  | [d1, d2] => { results := [.lit (.bool false)], args := [d1, d2] }
  | _ => none }
def FieldReadsWrongFalsely : Prop := fieldReadsRow.holds Try.pinned (OpenSpec.ofChange fieldReadsWrong)

/-- 'escutcheonlaw02.FieldPicks': WHATEVER THE INPUT: true; the input reads as it did. -/
def fieldPicksSpec : ChangeSpec := { name := "fieldPicks", fn := fun _ => fun
  | [d1, d2, d3] => { results := [.lit (.bool true)], args := [d1, d2, d3] }
  | _ => none }
def fieldPicksRow : OpenClaim := { program := "ytmbeonieabofaaa", sum := "fe8862cd5fb30506f4232dc2761cea80f66a6a7b6f9027a121dded07deedd5ae", func := "escutcheon/escutcheonlaw02.FieldPicks", spec := "fieldPicks", inPlace := ["math/bits.Sub64", "math/bits.Add64"], apart := false }
def FieldPicksSaid : Prop := fieldPicksRow.holds Try.pinned (OpenSpec.ofChange fieldPicksSpec)

/-- ITS FALSE NEIGHBOUR: 'it returns false'. Refute it at one input. -/
def fieldPicksWrong : ChangeSpec := { name := "fieldPicks", fn := fun _ => fun
  | [d1, d2, d3] => { results := [.lit (.bool false)], args := [d1, d2, d3] }
  | _ => none }
def FieldPicksWrongFalsely : Prop := fieldPicksRow.holds Try.pinned (OpenSpec.ofChange fieldPicksWrong)

/- THE SECOND FORM. 'bulk': how many values and letters a reading holds, each counted each time it is reached (what is shared counts as often as it is met; a slice's spare places count too). A statement '..UptoSaid' is the law's where the arguments, and the package variables that the reading takes, are together of bulk at most 1048576: NARROWER than '..Said'. Prove '..Said' where nothing that the law and all that it calls make is longer than what came in: it says more and counts as full. Else prove '..UptoSaid'. A law counts once. -/
mutual
def uptoBulk {H : Type} : DataW H → Nat
  | .lit (.string bytes) => bytes.length + 1
  | .lit _ => 1
  | .nil => 1
  | .ptr d => uptoBulk d + 1
  | .slice elems spare => uptoBulkAll elems + uptoBulkAll spare + 1
  | .agg parts => uptoBulkAll parts + 1
  | .iface _ d => uptoBulk d + 1
  | .map entries => uptoBulkEntries entries + 1
  | .held _ => 1
def uptoBulkAll {H : Type} : List (DataW H) → Nat
  | [] => 0
  | d :: r => uptoBulk d + uptoBulkAll r
def uptoBulkEntries {H : Type} : List (Lit × DataW H) → Nat
  | [] => 0
  | x :: r => uptoBulkEntry x + uptoBulkEntries r
def uptoBulkEntry {H : Type} : Lit × DataW H → Nat
  | (.string bytes, d) => bytes.length + uptoBulk d + 1
  | (_, d) => uptoBulk d + 1
 end
def uptoSmall : (H : Type) → List (DataW H) → Bool := fun _ ds => decide (uptoBulkAll ds ≤ 1048576)
def OpenSpec.upto (s : _root_.Go.ChangeSpec) : _root_.Go.OpenSpec := { _root_.Go.OpenSpec.ofChange s with cond := some uptoSmall }

/-- 'escutcheonlaw02.FieldReckons', WHERE WHAT IT READS IS OF BULK AT MOST 1048576: true; the input reads as it did. -/
def fieldReckonsUptoRow : OpenClaim := { program := "ytmbeonieabofaaa", sum := "fe8862cd5fb30506f4232dc2761cea80f66a6a7b6f9027a121dded07deedd5ae", func := "escutcheon/escutcheonlaw02.FieldReckons", spec := "fieldReckons", inPlace := ["math/bits.Sub64", "math/bits.Add64"], recurses := true, apart := false, narrowed := true }
def FieldReckonsUptoSaid : Prop := fieldReckonsUptoRow.holds Try.pinned (OpenSpec.upto fieldReckonsSpec)

/-- 'escutcheonlaw02.FieldPowers', WHERE WHAT IT READS IS OF BULK AT MOST 1048576: true; the input reads as it did. -/
def fieldPowersUptoRow : OpenClaim := { program := "ytmbeonieabofaaa", sum := "fe8862cd5fb30506f4232dc2761cea80f66a6a7b6f9027a121dded07deedd5ae", func := "escutcheon/escutcheonlaw02.FieldPowers", spec := "fieldPowers", inPlace := ["math/bits.Sub64", "math/bits.Add64"], recurses := true, apart := false, narrowed := true }
def FieldPowersUptoSaid : Prop := fieldPowersUptoRow.holds Try.pinned (OpenSpec.upto fieldPowersSpec)

/-- 'escutcheonlaw02.FieldIs', WHERE WHAT IT READS IS OF BULK AT MOST 1048576: true; the input reads as it did. -/
def fieldIsUptoRow : OpenClaim := { program := "ytmbeonieabofaaa", sum := "fe8862cd5fb30506f4232dc2761cea80f66a6a7b6f9027a121dded07deedd5ae", func := "escutcheon/escutcheonlaw02.FieldIs", spec := "fieldIs", inPlace := ["math/bits.Sub64", "math/bits.Add64"], apart := false, narrowed := true }
def FieldIsUptoSaid : Prop := fieldIsUptoRow.holds Try.pinned (OpenSpec.upto fieldIsSpec)

/-- 'escutcheonlaw02.FieldReads', WHERE WHAT IT READS IS OF BULK AT MOST 1048576: true; the input reads as it did. -/
def fieldReadsUptoRow : OpenClaim := { program := "ytmbeonieabofaaa", sum := "fe8862cd5fb30506f4232dc2761cea80f66a6a7b6f9027a121dded07deedd5ae", func := "escutcheon/escutcheonlaw02.FieldReads", spec := "fieldReads", inPlace := ["math/bits.Sub64", "math/bits.Add64"], recurses := true, apart := false, narrowed := true }
def FieldReadsUptoSaid : Prop := fieldReadsUptoRow.holds Try.pinned (OpenSpec.upto fieldReadsSpec)

/-- 'escutcheonlaw02.FieldPicks', WHERE WHAT IT READS IS OF BULK AT MOST 1048576: true; the input reads as it did. -/
def fieldPicksUptoRow : OpenClaim := { program := "ytmbeonieabofaaa", sum := "fe8862cd5fb30506f4232dc2761cea80f66a6a7b6f9027a121dded07deedd5ae", func := "escutcheon/escutcheonlaw02.FieldPicks", spec := "fieldPicks", inPlace := ["math/bits.Sub64", "math/bits.Add64"], apart := false, narrowed := true }
def FieldPicksUptoSaid : Prop := fieldPicksUptoRow.holds Try.pinned (OpenSpec.upto fieldPicksSpec)

end Rows
end Go.Proofs.Ytmbeonieabofaaa
