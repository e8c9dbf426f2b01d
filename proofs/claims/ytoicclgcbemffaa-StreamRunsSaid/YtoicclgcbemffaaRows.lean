/-
  No cell of these rows narrows 'for every input' (looked for: loops, veiled, ifaces, maps, wideKeys, modest, calm, conditions, laid).
  DERIVED. THE GIVEN ROWS OF THIS SEAT. 8 by the template 'for every input the law returns true; each argument reads behind the call as it read before'; 0 by the template 'total and deterministic' (their statements: YtoicclgcbemffaaTotals.lean).
  GIVEN WITH THE SEED: the statements are not yours to turn. If you find one false, say at which input.
  Laid BY PROGRAM, IN A SANDBOX (cutbox-rows.mjs): the forced cells as the released guide's own fill.sh prints them over the translation 1e0141a0dd1ad34b… (all of the seat's roots in one cut). By AI agents, Wed Nov 11 2026. No macro, syntax, notation, axiom, sorry.
-/
import Derived.Test.YtoicclgcbemffaaChecked
import GoSem.Claim
import GoSem.ClaimJoined
import GoSem.ClaimMapViews
import Derived.JoinedTies
import Derived.KernelRfl
namespace Go.Proofs.Ytoicclgcbemffaa
/- THE CELL 'sum', in the pinned program and in every row, IS THE sha256 OF THE DUMP (.gsa) THAT YtoicclgcbemffaaProg.lean LOADS. Nothing in Lean hashes anything: it is a label: what it is worth is what the hold of that sum in a sandbox is worth. -/
noncomputable def Try.pinned : Pinned := { name := "ytoicclgcbemffaa", sum := "1e0141a0dd1ad34b23255e3ccc66f903d36a057296d30b314c4ecd90a0ccae9c", checked := Try.checked }
namespace Rows
def none {H : Type} : Left H := { results := [], args := [] }

/-- 'drawbridgelaw08.WindowSums': WHATEVER THE INPUT: true; the input reads as it did. -/
def windowSumsSpec : ChangeSpec := { name := "windowSums", fn := fun _ => fun
  | [d1, d2] => { results := [.lit (.bool true)], args := [d1, d2] }
  | _ => none }
def windowSumsRow : OpenClaim := { program := "ytoicclgcbemffaa", sum := "1e0141a0dd1ad34b23255e3ccc66f903d36a057296d30b314c4ecd90a0ccae9c", func := "drawbridge/drawbridgelaw08.WindowSums", spec := "windowSums", apart := false }
def WindowSumsSaid : Prop := windowSumsRow.holds Try.pinned (OpenSpec.ofChange windowSumsSpec)

/-- ITS FALSE NEIGHBOUR: 'it returns false'. Refute it at one input. -/
def windowSumsWrong : ChangeSpec := { name := "windowSums", fn := fun _ => fun
  | [d1, d2] => { results := [.lit (.bool false)], args := [d1, d2] }
  | _ => none }
def WindowSumsWrongFalsely : Prop := windowSumsRow.holds Try.pinned (OpenSpec.ofChange windowSumsWrong)

/-- 'drawbridgelaw08.WindowApart': WHATEVER THE INPUT: true; the input reads as it did. -/
def windowApartSpec : ChangeSpec := { name := "windowApart", fn := fun _ => fun
  | [d1, d2] => { results := [.lit (.bool true)], args := [d1, d2] }
  | _ => none }
def windowApartRow : OpenClaim := { program := "ytoicclgcbemffaa", sum := "1e0141a0dd1ad34b23255e3ccc66f903d36a057296d30b314c4ecd90a0ccae9c", func := "drawbridge/drawbridgelaw08.WindowApart", spec := "windowApart", apart := false }
def WindowApartSaid : Prop := windowApartRow.holds Try.pinned (OpenSpec.ofChange windowApartSpec)

/-- ITS FALSE NEIGHBOUR: 'it returns false'. Refute it at one input. -/
def windowApartWrong : ChangeSpec := { name := "windowApart", fn := fun _ => fun
  | [d1, d2] => { results := [.lit (.bool false)], args := [d1, d2] }
  | _ => none }
def WindowApartWrongFalsely : Prop := windowApartRow.holds Try.pinned (OpenSpec.ofChange windowApartWrong)

/-- 'drawbridgelaw09.StreamComes': WHATEVER THE INPUT: true; the input reads as it did. -/
def streamComesSpec : ChangeSpec := { name := "streamComes", fn := fun _ => fun
  | [d1, d2, d3] => { results := [.lit (.bool true)], args := [d1, d2, d3] }
  | _ => none }
def streamComesRow : OpenClaim := { program := "ytoicclgcbemffaa", sum := "1e0141a0dd1ad34b23255e3ccc66f903d36a057296d30b314c4ecd90a0ccae9c", func := "drawbridge/drawbridgelaw09.StreamComes", spec := "streamComes", apart := false }
def StreamComesSaid : Prop := streamComesRow.holds Try.pinned (OpenSpec.ofChange streamComesSpec)

/-- ITS FALSE NEIGHBOUR: 'it returns false'. Refute it at one input. -/
def streamComesWrong : ChangeSpec := { name := "streamComes", fn := fun _ => fun
  | [d1, d2, d3] => { results := [.lit (.bool false)], args := [d1, d2, d3] }
  | _ => none }
def StreamComesWrongFalsely : Prop := streamComesRow.holds Try.pinned (OpenSpec.ofChange streamComesWrong)

/-- 'drawbridgelaw09.StreamGoes': WHATEVER THE INPUT: true; the input reads as it did. -/
def streamGoesSpec : ChangeSpec := { name := "streamGoes", fn := fun _ => fun
  | [d1, d2, d3] => { results := [.lit (.bool true)], args := [d1, d2, d3] }
  | _ => none }
def streamGoesRow : OpenClaim := { program := "ytoicclgcbemffaa", sum := "1e0141a0dd1ad34b23255e3ccc66f903d36a057296d30b314c4ecd90a0ccae9c", func := "drawbridge/drawbridgelaw09.StreamGoes", spec := "streamGoes", apart := false }
def StreamGoesSaid : Prop := streamGoesRow.holds Try.pinned (OpenSpec.ofChange streamGoesSpec)

/-- ITS FALSE NEIGHBOUR: 'it returns false'. Refute it at one input. -/
def streamGoesWrong : ChangeSpec := { name := "streamGoes", fn := fun _ => fun
  | [d1, d2, d3] => { results := [.lit (.bool false)], args := [d1, d2, d3] }
  | _ => none }
def StreamGoesWrongFalsely : Prop := streamGoesRow.holds Try.pinned (OpenSpec.ofChange streamGoesWrong)

/-- 'drawbridgelaw09.StreamRuns': WHATEVER THE INPUT: true; the input reads as it did. -/
def streamRunsSpec : ChangeSpec := { name := "streamRuns", fn := fun _ => fun
  | [d] => { results := [.lit (.bool true)], args := [d] }
  | _ => none }
def streamRunsRow : OpenClaim := { program := "ytoicclgcbemffaa", sum := "1e0141a0dd1ad34b23255e3ccc66f903d36a057296d30b314c4ecd90a0ccae9c", func := "drawbridge/drawbridgelaw09.StreamRuns", spec := "streamRuns", apart := false }
def StreamRunsSaid : Prop := streamRunsRow.holds Try.pinned (OpenSpec.ofChange streamRunsSpec)

/-- ITS FALSE NEIGHBOUR: 'it returns false'. Refute it at one input. -/
def streamRunsWrong : ChangeSpec := { name := "streamRuns", fn := fun _ => fun
  | [d] => { results := [.lit (.bool false)], args := [d] }
  | _ => none }
def StreamRunsWrongFalsely : Prop := streamRunsRow.holds Try.pinned (OpenSpec.ofChange streamRunsWrong)

/-- 'drawbridgelaw08.WindowPlays': WHATEVER THE INPUT: true; the input reads as it did. -/
def windowPlaysSpec : ChangeSpec := { name := "windowPlays", fn := fun _ => fun
  | [d1, d2, d3] => { results := [.lit (.bool true)], args := [d1, d2, d3] }
  | _ => none }
def windowPlaysRow : OpenClaim := { program := "ytoicclgcbemffaa", sum := "1e0141a0dd1ad34b23255e3ccc66f903d36a057296d30b314c4ecd90a0ccae9c", func := "drawbridge/drawbridgelaw08.WindowPlays", spec := "windowPlays", apart := false }
def WindowPlaysSaid : Prop := windowPlaysRow.holds Try.pinned (OpenSpec.ofChange windowPlaysSpec)

/-- ITS FALSE NEIGHBOUR: 'it returns false'. Refute it at one input. -/
def windowPlaysWrong : ChangeSpec := { name := "windowPlays", fn := fun _ => fun
  | [d1, d2, d3] => { results := [.lit (.bool false)], args := [d1, d2, d3] }
  | _ => none }
def WindowPlaysWrongFalsely : Prop := windowPlaysRow.holds Try.pinned (OpenSpec.ofChange windowPlaysWrong)

/-- 'drawbridgelaw08.WindowTurns': WHATEVER THE INPUT: true; the input reads as it did. -/
def windowTurnsSpec : ChangeSpec := { name := "windowTurns", fn := fun _ => fun
  | [d1, d2, d3] => { results := [.lit (.bool true)], args := [d1, d2, d3] }
  | _ => none }
def windowTurnsRow : OpenClaim := { program := "ytoicclgcbemffaa", sum := "1e0141a0dd1ad34b23255e3ccc66f903d36a057296d30b314c4ecd90a0ccae9c", func := "drawbridge/drawbridgelaw08.WindowTurns", spec := "windowTurns", apart := false }
def WindowTurnsSaid : Prop := windowTurnsRow.holds Try.pinned (OpenSpec.ofChange windowTurnsSpec)

/-- ITS FALSE NEIGHBOUR: 'it returns false'. Refute it at one input. -/
def windowTurnsWrong : ChangeSpec := { name := "windowTurns", fn := fun _ => fun
  | [d1, d2, d3] => { results := [.lit (.bool false)], args := [d1, d2, d3] }
  | _ => none }
def WindowTurnsWrongFalsely : Prop := windowTurnsRow.holds Try.pinned (OpenSpec.ofChange windowTurnsWrong)

/-- 'drawbridgelaw08.WindowNone': WHATEVER THE INPUT: true; the input reads as it did. -/
def windowNoneSpec : ChangeSpec := { name := "windowNone", fn := fun _ => fun
  | [d1, d2] => { results := [.lit (.bool true)], args := [d1, d2] }
  | _ => none }
def windowNoneRow : OpenClaim := { program := "ytoicclgcbemffaa", sum := "1e0141a0dd1ad34b23255e3ccc66f903d36a057296d30b314c4ecd90a0ccae9c", func := "drawbridge/drawbridgelaw08.WindowNone", spec := "windowNone", apart := false }
def WindowNoneSaid : Prop := windowNoneRow.holds Try.pinned (OpenSpec.ofChange windowNoneSpec)

/-- ITS FALSE NEIGHBOUR: 'it returns false'. Refute it at one input. -/
def windowNoneWrong : ChangeSpec := { name := "windowNone", fn := fun _ => fun
  | [d1, d2] => { results := [.lit (.bool false)], args := [d1, d2] }
  | _ => none }
def WindowNoneWrongFalsely : Prop := windowNoneRow.holds Try.pinned (OpenSpec.ofChange windowNoneWrong)

/- THE SECOND FORM. 'bulk': how many values and letters a reading holds, each counted each time it is reached (what is shared counts as often as it is met; a slice's spare places count too). A statement '..UptoSaid' is the law's where the arguments, and the package variables that the reading takes, are together of bulk at most 1048576: NARROWER than '..Said'. Prove '..Said' where nothing that the law and all that it calls make is longer than what came in: it says more and counts as full. Else prove '..UptoSaid'. A law counts once. -/
mutual
def uptoBulk {H : Type} : DataW H → Nat
  | .lit (.string bytes) => bytes.length + 1
  | .lit _ => 1
  | .nil => 1
  | .ptr d => uptoBulk d + 1
  | .slice elems spare => uptoBulkAll elems + uptoBulkAll spare + 1
  | .agg parts => uptoBulkAll parts + 1
  | .iface _ d => uptoBulk d + 1
  | .map entries => uptoBulkEntries entries + 1
  | .held _ => 1
def uptoBulkAll {H : Type} : List (DataW H) → Nat
  | [] => 0
  | d :: r => uptoBulk d + uptoBulkAll r
def uptoBulkEntries {H : Type} : List (Lit × DataW H) → Nat
  | [] => 0
  | x :: r => uptoBulkEntry x + uptoBulkEntries r
def uptoBulkEntry {H : Type} : Lit × DataW H → Nat
  | (.string bytes, d) => bytes.length + uptoBulk d + 1
  | (_, d) => uptoBulk d + 1
 end
def uptoSmall : (H : Type) → List (DataW H) → Bool := fun _ ds => decide (uptoBulkAll ds ≤ 1048576)
def OpenSpec.upto (s : _root_.Go.ChangeSpec) : _root_.Go.OpenSpec := { _root_.Go.OpenSpec.ofChange s with cond := some uptoSmall }

/-- 'drawbridgelaw08.WindowSums', WHERE WHAT IT READS IS OF BULK AT MOST 1048576: true; the input reads as it did. -/
def windowSumsUptoRow : OpenClaim := { program := "ytoicclgcbemffaa", sum := "1e0141a0dd1ad34b23255e3ccc66f903d36a057296d30b314c4ecd90a0ccae9c", func := "drawbridge/drawbridgelaw08.WindowSums", spec := "windowSums", apart := false, narrowed := true }
def WindowSumsUptoSaid : Prop := windowSumsUptoRow.holds Try.pinned (OpenSpec.upto windowSumsSpec)

/-- 'drawbridgelaw08.WindowApart', WHERE WHAT IT READS IS OF BULK AT MOST 1048576: true; the input reads as it did. -/
def windowApartUptoRow : OpenClaim := { program := "ytoicclgcbemffaa", sum := "1e0141a0dd1ad34b23255e3ccc66f903d36a057296d30b314c4ecd90a0ccae9c", func := "drawbridge/drawbridgelaw08.WindowApart", spec := "windowApart", apart := false, narrowed := true }
def WindowApartUptoSaid : Prop := windowApartUptoRow.holds Try.pinned (OpenSpec.upto windowApartSpec)

/-- 'drawbridgelaw09.StreamComes', WHERE WHAT IT READS IS OF BULK AT MOST 1048576: true; the input reads as it did. -/
def streamComesUptoRow : OpenClaim := { program := "ytoicclgcbemffaa", sum := "1e0141a0dd1ad34b23255e3ccc66f903d36a057296d30b314c4ecd90a0ccae9c", func := "drawbridge/drawbridgelaw09.StreamComes", spec := "streamComes", apart := false, narrowed := true }
def StreamComesUptoSaid : Prop := streamComesUptoRow.holds Try.pinned (OpenSpec.upto streamComesSpec)

/-- 'drawbridgelaw09.StreamGoes', WHERE WHAT IT READS IS OF BULK AT MOST 1048576: true; the input reads as it did. -/
def streamGoesUptoRow : OpenClaim := { program := "ytoicclgcbemffaa", sum := "1e0141a0dd1ad34b23255e3ccc66f903d36a057296d30b314c4ecd90a0ccae9c", func := "drawbridge/drawbridgelaw09.StreamGoes", spec := "streamGoes", apart := false, narrowed := true }
def StreamGoesUptoSaid : Prop := streamGoesUptoRow.holds Try.pinned (OpenSpec.upto streamGoesSpec)

/-- 'drawbridgelaw09.StreamRuns', WHERE WHAT IT READS IS OF BULK AT MOST 1048576: true; the input reads as it did. -/
def streamRunsUptoRow : OpenClaim := { program := "ytoicclgcbemffaa", sum := "1e0141a0dd1ad34b23255e3ccc66f903d36a057296d30b314c4ecd90a0ccae9c", func := "drawbridge/drawbridgelaw09.StreamRuns", spec := "streamRuns", apart := false, narrowed := true }
def StreamRunsUptoSaid : Prop := streamRunsUptoRow.holds Try.pinned (OpenSpec.upto streamRunsSpec)

/-- 'drawbridgelaw08.WindowPlays', WHERE WHAT IT READS IS OF BULK AT MOST 1048576: true; the input reads as it did. -/
def windowPlaysUptoRow : OpenClaim := { program := "ytoicclgcbemffaa", sum := "1e0141a0dd1ad34b23255e3ccc66f903d36a057296d30b314c4ecd90a0ccae9c", func := "drawbridge/drawbridgelaw08.WindowPlays", spec := "windowPlays", apart := false, narrowed := true }
def WindowPlaysUptoSaid : Prop := windowPlaysUptoRow.holds Try.pinned (OpenSpec.upto windowPlaysSpec)

/-- 'drawbridgelaw08.WindowTurns', WHERE WHAT IT READS IS OF BULK AT MOST 1048576: true; the input reads as it did. -/
def windowTurnsUptoRow : OpenClaim := { program := "ytoicclgcbemffaa", sum := "1e0141a0dd1ad34b23255e3ccc66f903d36a057296d30b314c4ecd90a0ccae9c", func := "drawbridge/drawbridgelaw08.WindowTurns", spec := "windowTurns", apart := false, narrowed := true }
def WindowTurnsUptoSaid : Prop := windowTurnsUptoRow.holds Try.pinned (OpenSpec.upto windowTurnsSpec)

/-- 'drawbridgelaw08.WindowNone', WHERE WHAT IT READS IS OF BULK AT MOST 1048576: true; the input reads as it did. -/
def windowNoneUptoRow : OpenClaim := { program := "ytoicclgcbemffaa", sum := "1e0141a0dd1ad34b23255e3ccc66f903d36a057296d30b314c4ecd90a0ccae9c", func := "drawbridge/drawbridgelaw08.WindowNone", spec := "windowNone", apart := false, narrowed := true }
def WindowNoneUptoSaid : Prop := windowNoneUptoRow.holds Try.pinned (OpenSpec.upto windowNoneSpec)

end Rows
end Go.Proofs.Ytoicclgcbemffaa
