/-
  No cell of these rows narrows 'for every input' (looked for: loops, veiled, ifaces, maps, wideKeys, modest, calm, conditions, laid).
  DERIVED. THE GIVEN ROWS OF THIS SEAT. 5 by the template 'for every input the law returns true; each argument reads behind the call as it read before'; 0 by the template 'total and deterministic' (their statements: YtjjnjogmplbjoaaTotals.lean).
  GIVEN WITH THE SEED: the statements are not yours to turn. If you find one false, say at which input.
  Laid BY PROGRAM, IN A SANDBOX (cutbox-rows.mjs): the forced cells as the released guide's own fill.sh prints them over the translation 5eb3798043963527… (all of the seat's roots in one cut). By AI agents, Wed Nov 11 2026. No macro, syntax, notation, axiom, sorry.
-/
import Derived.Test.YtjjnjogmplbjoaaChecked
import GoSem.Claim
import GoSem.ClaimJoined
import GoSem.ClaimMapViews
import Derived.JoinedTies
import Derived.KernelRfl
namespace Go.Proofs.Ytjjnjogmplbjoaa
/- THE CELL 'sum', in the pinned program and in every row, IS THE sha256 OF THE DUMP (.gsa) THAT YtjjnjogmplbjoaaProg.lean LOADS. Nothing in Lean hashes anything: it is a label: what it is worth is what the hold of that sum in a sandbox is worth. -/
noncomputable def Try.pinned : Pinned := { name := "ytjjnjogmplbjoaa", sum := "5eb37980439635270b4667871dbcc70d8c247b09bc44df662e44c865b2a5e04b", checked := Try.checked }
namespace Rows
def none {H : Type} : Left H := { results := [], args := [] }

/-- 'escutcheonlaw20.FrameSames': WHATEVER THE INPUT: true; the input reads as it did. -/
def frameSamesSpec : ChangeSpec := { name := "frameSames", fn := fun _ => fun
  | [d1, d2, d3, d4] => { results := [.lit (.bool true)], args := [d1, d2, d3, d4] }
  | _ => none }
def frameSamesRow : OpenClaim := { program := "ytjjnjogmplbjoaa", sum := "5eb37980439635270b4667871dbcc70d8c247b09bc44df662e44c865b2a5e04b", func := "escutcheon/escutcheonlaw20.FrameSames", spec := "frameSames", unfollowed := true, recurses := true, apart := false }
def FrameSamesSaid : Prop := frameSamesRow.holds Try.pinned (OpenSpec.ofChange frameSamesSpec)

/-- ITS FALSE NEIGHBOUR: 'it returns false'. Refute it at one input. -/
def frameSamesWrong : ChangeSpec := { name := "frameSames", fn := fun _ => fun
  | [d1, d2, d3, d4] => { results := [.lit (.bool false)], args := [d1, d2, d3, d4] }
  | _ => none }
def FrameSamesWrongFalsely : Prop := frameSamesRow.holds Try.pinned (OpenSpec.ofChange frameSamesWrong)

/-- 'escutcheonlaw01.WireBlobs': WHATEVER THE INPUT: true; the input reads as it did. -/
def wireBlobsSpec : ChangeSpec := { name := "wireBlobs", fn := fun _ => fun
  | [d1, d2, d3] => { results := [.lit (.bool true)], args := [d1, d2, d3] }
  | _ => none }
def wireBlobsRow : OpenClaim := { program := "ytjjnjogmplbjoaa", sum := "5eb37980439635270b4667871dbcc70d8c247b09bc44df662e44c865b2a5e04b", func := "escutcheon/escutcheonlaw01.WireBlobs", spec := "wireBlobs", apart := false }
def WireBlobsSaid : Prop := wireBlobsRow.holds Try.pinned (OpenSpec.ofChange wireBlobsSpec)

/-- ITS FALSE NEIGHBOUR: 'it returns false'. Refute it at one input. -/
def wireBlobsWrong : ChangeSpec := { name := "wireBlobs", fn := fun _ => fun
  | [d1, d2, d3] => { results := [.lit (.bool false)], args := [d1, d2, d3] }
  | _ => none }
def WireBlobsWrongFalsely : Prop := wireBlobsRow.holds Try.pinned (OpenSpec.ofChange wireBlobsWrong)

/-- 'escutcheonlaw01.WireMeans': WHATEVER THE INPUT: true; the input reads as it did. -/
def wireMeansSpec : ChangeSpec := { name := "wireMeans", fn := fun _ => fun
  | [d1, d2, d3, d4, d5] => { results := [.lit (.bool true)], args := [d1, d2, d3, d4, d5] }
  | _ => none }
def wireMeansRow : OpenClaim := { program := "ytjjnjogmplbjoaa", sum := "5eb37980439635270b4667871dbcc70d8c247b09bc44df662e44c865b2a5e04b", func := "escutcheon/escutcheonlaw01.WireMeans", spec := "wireMeans", apart := false }
def WireMeansSaid : Prop := wireMeansRow.holds Try.pinned (OpenSpec.ofChange wireMeansSpec)

/-- ITS FALSE NEIGHBOUR: 'it returns false'. Refute it at one input. -/
def wireMeansWrong : ChangeSpec := { name := "wireMeans", fn := fun _ => fun
  | [d1, d2, d3, d4, d5] => { results := [.lit (.bool false)], args := [d1, d2, d3, d4, d5] }
  | _ => none }
def WireMeansWrongFalsely : Prop := wireMeansRow.holds Try.pinned (OpenSpec.ofChange wireMeansWrong)

/-- 'escutcheonlaw20.FrameCmds': WHATEVER THE INPUT: true; the input reads as it did. -/
def frameCmdsSpec : ChangeSpec := { name := "frameCmds", fn := fun _ => fun
  | [d1, d2] => { results := [.lit (.bool true)], args := [d1, d2] }
  | _ => none }
def frameCmdsRow : OpenClaim := { program := "ytjjnjogmplbjoaa", sum := "5eb37980439635270b4667871dbcc70d8c247b09bc44df662e44c865b2a5e04b", func := "escutcheon/escutcheonlaw20.FrameCmds", spec := "frameCmds", unfollowed := true, recurses := true, apart := false }
def FrameCmdsSaid : Prop := frameCmdsRow.holds Try.pinned (OpenSpec.ofChange frameCmdsSpec)

/-- ITS FALSE NEIGHBOUR: 'it returns false'. Refute it at one input. -/
def frameCmdsWrong : ChangeSpec := { name := "frameCmds", fn := fun _ => fun
  | [d1, d2] => { results := [.lit (.bool false)], args := [d1, d2] }
  | _ => none }
def FrameCmdsWrongFalsely : Prop := frameCmdsRow.holds Try.pinned (OpenSpec.ofChange frameCmdsWrong)

/-- 'escutcheonlaw20.FrameReplies': WHATEVER THE INPUT: true; the input reads as it did. -/
def frameRepliesSpec : ChangeSpec := { name := "frameReplies", fn := fun _ => fun
  | [d1, d2] => { results := [.lit (.bool true)], args := [d1, d2] }
  | _ => none }
def frameRepliesRow : OpenClaim := { program := "ytjjnjogmplbjoaa", sum := "5eb37980439635270b4667871dbcc70d8c247b09bc44df662e44c865b2a5e04b", func := "escutcheon/escutcheonlaw20.FrameReplies", spec := "frameReplies", unfollowed := true, recurses := true, apart := false }
def FrameRepliesSaid : Prop := frameRepliesRow.holds Try.pinned (OpenSpec.ofChange frameRepliesSpec)

/-- ITS FALSE NEIGHBOUR: 'it returns false'. Refute it at one input. -/
def frameRepliesWrong : ChangeSpec := { name := "frameReplies", fn := fun _ => fun
  | [d1, d2] => { results := [.lit (.bool false)], args := [d1, d2] }
  | _ => none }
def FrameRepliesWrongFalsely : Prop := frameRepliesRow.holds Try.pinned (OpenSpec.ofChange frameRepliesWrong)

/- THE SECOND FORM. 'bulk': how many values and letters a reading holds, each counted each time it is reached (what is shared counts as often as it is met; a slice's spare places count too). A statement '..UptoSaid' is the law's where the arguments, and the package variables that the reading takes, are together of bulk at most 1048576: NARROWER than '..Said'. Prove '..Said' where nothing that the law and all that it calls make is longer than what came in: it says more and counts as full. Else prove '..UptoSaid'. A law counts once. -/
mutual
def uptoBulk {H : Type} : DataW H → Nat
  | .lit (.string bytes) => bytes.length + 1
  | .lit _ => 1
  | .nil => 1
  | .ptr d => uptoBulk d + 1
  | .slice elems spare => uptoBulkAll elems + uptoBulkAll spare + 1
  | .agg parts => uptoBulkAll parts + 1
  | .iface _ d => uptoBulk d + 1
  | .map entries => uptoBulkEntries entries + 1
  | .held _ => 1
def uptoBulkAll {H : Type} : List (DataW H) → Nat
  | [] => 0
  | d :: r => uptoBulk d + uptoBulkAll r
def uptoBulkEntries {H : Type} : List (Lit × DataW H) → Nat
  | [] => 0
  | x :: r => uptoBulkEntry x + uptoBulkEntries r
def uptoBulkEntry {H : Type} : Lit × DataW H → Nat
  | (.string bytes, d) => bytes.length + uptoBulk d + 1
  | (_, d) => uptoBulk d + 1
 end
def uptoSmall : (H : Type) → List (DataW H) → Bool := fun _ ds => decide (uptoBulkAll ds ≤ 1048576)
def OpenSpec.upto (s : _root_.Go.ChangeSpec) : _root_.Go.OpenSpec := { _root_.Go.OpenSpec.ofChange s with cond := some uptoSmall }

/-- 'escutcheonlaw20.FrameSames', WHERE WHAT IT READS IS OF BULK AT MOST 1048576: true; the input reads as it did. -/
def frameSamesUptoRow : OpenClaim := { program := "ytjjnjogmplbjoaa", sum := "5eb37980439635270b4667871dbcc70d8c247b09bc44df662e44c865b2a5e04b", func := "escutcheon/escutcheonlaw20.FrameSames", spec := "frameSames", unfollowed := true, recurses := true, apart := false, narrowed := true }
def FrameSamesUptoSaid : Prop := frameSamesUptoRow.holds Try.pinned (OpenSpec.upto frameSamesSpec)

/-- 'escutcheonlaw01.WireBlobs', WHERE WHAT IT READS IS OF BULK AT MOST 1048576: true; the input reads as it did. -/
def wireBlobsUptoRow : OpenClaim := { program := "ytjjnjogmplbjoaa", sum := "5eb37980439635270b4667871dbcc70d8c247b09bc44df662e44c865b2a5e04b", func := "escutcheon/escutcheonlaw01.WireBlobs", spec := "wireBlobs", apart := false, narrowed := true }
def WireBlobsUptoSaid : Prop := wireBlobsUptoRow.holds Try.pinned (OpenSpec.upto wireBlobsSpec)

/-- 'escutcheonlaw01.WireMeans', WHERE WHAT IT READS IS OF BULK AT MOST 1048576: true; the input reads as it did. -/
def wireMeansUptoRow : OpenClaim := { program := "ytjjnjogmplbjoaa", sum := "5eb37980439635270b4667871dbcc70d8c247b09bc44df662e44c865b2a5e04b", func := "escutcheon/escutcheonlaw01.WireMeans", spec := "wireMeans", apart := false, narrowed := true }
def WireMeansUptoSaid : Prop := wireMeansUptoRow.holds Try.pinned (OpenSpec.upto wireMeansSpec)

/-- 'escutcheonlaw20.FrameCmds', WHERE WHAT IT READS IS OF BULK AT MOST 1048576: true; the input reads as it did. -/
def frameCmdsUptoRow : OpenClaim := { program := "ytjjnjogmplbjoaa", sum := "5eb37980439635270b4667871dbcc70d8c247b09bc44df662e44c865b2a5e04b", func := "escutcheon/escutcheonlaw20.FrameCmds", spec := "frameCmds", unfollowed := true, recurses := true, apart := false, narrowed := true }
def FrameCmdsUptoSaid : Prop := frameCmdsUptoRow.holds Try.pinned (OpenSpec.upto frameCmdsSpec)

/-- 'escutcheonlaw20.FrameReplies', WHERE WHAT IT READS IS OF BULK AT MOST 1048576: true; the input reads as it did. -/
def frameRepliesUptoRow : OpenClaim := { program := "ytjjnjogmplbjoaa", sum := "5eb37980439635270b4667871dbcc70d8c247b09bc44df662e44c865b2a5e04b", func := "escutcheon/escutcheonlaw20.FrameReplies", spec := "frameReplies", unfollowed := true, recurses := true, apart := false, narrowed := true }
def FrameRepliesUptoSaid : Prop := frameRepliesUptoRow.holds Try.pinned (OpenSpec.upto frameRepliesSpec)

end Rows
end Go.Proofs.Ytjjnjogmplbjoaa
