/-
  No cell of these rows narrows 'for every input' (looked for: loops, veiled, ifaces, maps, wideKeys, modest, calm, conditions, laid).
  DERIVED. THE GIVEN ROWS OF THIS SEAT. 12 by the template 'for every input the law returns true; each argument reads behind the call as it read before'; 0 by the template 'total and deterministic' (their statements: YtfcgacjonekfaaaTotals.lean).
  GIVEN WITH THE SEED: the statements are not yours to turn. If you find one false, say at which input.
  Laid BY PROGRAM, IN A SANDBOX (cutbox-rows.mjs): the forced cells as the released guide's own fill.sh prints them over the translation cb29cf578a25148b… (all of the seat's roots in one cut). By AI agents, Wed Nov 11 2026. No macro, syntax, notation, axiom, sorry.
-/
import Derived.Test.YtfcgacjonekfaaaChecked
import GoSem.Claim
import GoSem.ClaimJoined
import GoSem.ClaimMapViews
import Derived.JoinedTies
import Derived.KernelRfl
namespace Go.Proofs.Ytfcgacjonekfaaa
/- THE CELL 'sum', in the pinned program and in every row, IS THE sha256 OF THE DUMP (.gsa) THAT YtfcgacjonekfaaaProg.lean LOADS. Nothing in Lean hashes anything: it is a label: what it is worth is what the hold of that sum in a sandbox is worth. -/
noncomputable def Try.pinned : Pinned := { name := "ytfcgacjonekfaaa", sum := "cb29cf578a25148b96bedac85ad377ee3581902eb36210d726173d214f0495ff", checked := Try.checked }
namespace Rows
def none {H : Type} : Left H := { results := [], args := [] }

/-- 'drawbridgelaw02.HuffCodes': WHATEVER THE INPUT: true; the input reads as it did. -/
def huffCodesSpec : ChangeSpec := { name := "huffCodes", fn := fun _ => fun
  | [d1, d2] => { results := [.lit (.bool true)], args := [d1, d2] }
  | _ => none }
def huffCodesRow : OpenClaim := { program := "ytfcgacjonekfaaa", sum := "cb29cf578a25148b96bedac85ad377ee3581902eb36210d726173d214f0495ff", func := "drawbridge/drawbridgelaw02.HuffCodes", spec := "huffCodes", apart := false }
def HuffCodesSaid : Prop := huffCodesRow.holds Try.pinned (OpenSpec.ofChange huffCodesSpec)

/-- ITS FALSE NEIGHBOUR: 'it returns false'. Refute it at one input. -/
def huffCodesWrong : ChangeSpec := { name := "huffCodes", fn := fun _ => fun
  | [d1, d2] => { results := [.lit (.bool false)], args := [d1, d2] }
  | _ => none }
def HuffCodesWrongFalsely : Prop := huffCodesRow.holds Try.pinned (OpenSpec.ofChange huffCodesWrong)

/-- 'drawbridgelaw03.PrefixPuts': WHATEVER THE INPUT: true; the input reads as it did. -/
def prefixPutsSpec : ChangeSpec := { name := "prefixPuts", fn := fun _ => fun
  | [d1, d2, d3] => { results := [.lit (.bool true)], args := [d1, d2, d3] }
  | _ => none }
def prefixPutsRow : OpenClaim := { program := "ytfcgacjonekfaaa", sum := "cb29cf578a25148b96bedac85ad377ee3581902eb36210d726173d214f0495ff", func := "drawbridge/drawbridgelaw03.PrefixPuts", spec := "prefixPuts", apart := false }
def PrefixPutsSaid : Prop := prefixPutsRow.holds Try.pinned (OpenSpec.ofChange prefixPutsSpec)

/-- ITS FALSE NEIGHBOUR: 'it returns false'. Refute it at one input. -/
def prefixPutsWrong : ChangeSpec := { name := "prefixPuts", fn := fun _ => fun
  | [d1, d2, d3] => { results := [.lit (.bool false)], args := [d1, d2, d3] }
  | _ => none }
def PrefixPutsWrongFalsely : Prop := prefixPutsRow.holds Try.pinned (OpenSpec.ofChange prefixPutsWrong)

/-- 'drawbridgelaw03.PrefixTakes': WHATEVER THE INPUT: true; the input reads as it did. -/
def prefixTakesSpec : ChangeSpec := { name := "prefixTakes", fn := fun _ => fun
  | [d1, d2] => { results := [.lit (.bool true)], args := [d1, d2] }
  | _ => none }
def prefixTakesRow : OpenClaim := { program := "ytfcgacjonekfaaa", sum := "cb29cf578a25148b96bedac85ad377ee3581902eb36210d726173d214f0495ff", func := "drawbridge/drawbridgelaw03.PrefixTakes", spec := "prefixTakes", apart := false }
def PrefixTakesSaid : Prop := prefixTakesRow.holds Try.pinned (OpenSpec.ofChange prefixTakesSpec)

/-- ITS FALSE NEIGHBOUR: 'it returns false'. Refute it at one input. -/
def prefixTakesWrong : ChangeSpec := { name := "prefixTakes", fn := fun _ => fun
  | [d1, d2] => { results := [.lit (.bool false)], args := [d1, d2] }
  | _ => none }
def PrefixTakesWrongFalsely : Prop := prefixTakesRow.holds Try.pinned (OpenSpec.ofChange prefixTakesWrong)

/-- 'drawbridgelaw03.PrefixLong': WHATEVER THE INPUT: true; the input reads as it did. -/
def prefixLongSpec : ChangeSpec := { name := "prefixLong", fn := fun _ => fun
  | [d1, d2, d3] => { results := [.lit (.bool true)], args := [d1, d2, d3] }
  | _ => none }
def prefixLongRow : OpenClaim := { program := "ytfcgacjonekfaaa", sum := "cb29cf578a25148b96bedac85ad377ee3581902eb36210d726173d214f0495ff", func := "drawbridge/drawbridgelaw03.PrefixLong", spec := "prefixLong", apart := false }
def PrefixLongSaid : Prop := prefixLongRow.holds Try.pinned (OpenSpec.ofChange prefixLongSpec)

/-- ITS FALSE NEIGHBOUR: 'it returns false'. Refute it at one input. -/
def prefixLongWrong : ChangeSpec := { name := "prefixLong", fn := fun _ => fun
  | [d1, d2, d3] => { results := [.lit (.bool false)], args := [d1, d2, d3] }
  | _ => none }
def PrefixLongWrongFalsely : Prop := prefixLongRow.holds Try.pinned (OpenSpec.ofChange prefixLongWrong)

/-- 'drawbridgelaw02.HuffDecodes': WHATEVER THE INPUT: true; the input reads as it did. -/
def huffDecodesSpec : ChangeSpec := { name := "huffDecodes", fn := fun _ => fun
  | [d] => { results := [.lit (.bool true)], args := [d] }
  | _ => none }
def huffDecodesRow : OpenClaim := { program := "ytfcgacjonekfaaa", sum := "cb29cf578a25148b96bedac85ad377ee3581902eb36210d726173d214f0495ff", func := "drawbridge/drawbridgelaw02.HuffDecodes", spec := "huffDecodes", apart := false }
def HuffDecodesSaid : Prop := huffDecodesRow.holds Try.pinned (OpenSpec.ofChange huffDecodesSpec)

/-- ITS FALSE NEIGHBOUR: 'it returns false'. Refute it at one input. -/
def huffDecodesWrong : ChangeSpec := { name := "huffDecodes", fn := fun _ => fun
  | [d] => { results := [.lit (.bool false)], args := [d] }
  | _ => none }
def HuffDecodesWrongFalsely : Prop := huffDecodesRow.holds Try.pinned (OpenSpec.ofChange huffDecodesWrong)

/-- 'drawbridgelaw02.HuffSums': WHATEVER THE INPUT: true; the input reads as it did. -/
def huffSumsSpec : ChangeSpec := { name := "huffSums", fn := fun _ => fun
  | [d1, d2] => { results := [.lit (.bool true)], args := [d1, d2] }
  | _ => none }
def huffSumsRow : OpenClaim := { program := "ytfcgacjonekfaaa", sum := "cb29cf578a25148b96bedac85ad377ee3581902eb36210d726173d214f0495ff", func := "drawbridge/drawbridgelaw02.HuffSums", spec := "huffSums", apart := false }
def HuffSumsSaid : Prop := huffSumsRow.holds Try.pinned (OpenSpec.ofChange huffSumsSpec)

/-- ITS FALSE NEIGHBOUR: 'it returns false'. Refute it at one input. -/
def huffSumsWrong : ChangeSpec := { name := "huffSums", fn := fun _ => fun
  | [d1, d2] => { results := [.lit (.bool false)], args := [d1, d2] }
  | _ => none }
def HuffSumsWrongFalsely : Prop := huffSumsRow.holds Try.pinned (OpenSpec.ofChange huffSumsWrong)

/-- 'drawbridgelaw02.HuffEncodes': WHATEVER THE INPUT: true; the input reads as it did. -/
def huffEncodesSpec : ChangeSpec := { name := "huffEncodes", fn := fun _ => fun
  | [d] => { results := [.lit (.bool true)], args := [d] }
  | _ => none }
def huffEncodesRow : OpenClaim := { program := "ytfcgacjonekfaaa", sum := "cb29cf578a25148b96bedac85ad377ee3581902eb36210d726173d214f0495ff", func := "drawbridge/drawbridgelaw02.HuffEncodes", spec := "huffEncodes", apart := false }
def HuffEncodesSaid : Prop := huffEncodesRow.holds Try.pinned (OpenSpec.ofChange huffEncodesSpec)

/-- ITS FALSE NEIGHBOUR: 'it returns false'. Refute it at one input. -/
def huffEncodesWrong : ChangeSpec := { name := "huffEncodes", fn := fun _ => fun
  | [d] => { results := [.lit (.bool false)], args := [d] }
  | _ => none }
def HuffEncodesWrongFalsely : Prop := huffEncodesRow.holds Try.pinned (OpenSpec.ofChange huffEncodesWrong)

/-- 'drawbridgelaw02.HuffBack': WHATEVER THE INPUT: true; the input reads as it did. -/
def huffBackSpec : ChangeSpec := { name := "huffBack", fn := fun _ => fun
  | [d1, d2] => { results := [.lit (.bool true)], args := [d1, d2] }
  | _ => none }
def huffBackRow : OpenClaim := { program := "ytfcgacjonekfaaa", sum := "cb29cf578a25148b96bedac85ad377ee3581902eb36210d726173d214f0495ff", func := "drawbridge/drawbridgelaw02.HuffBack", spec := "huffBack", apart := false }
def HuffBackSaid : Prop := huffBackRow.holds Try.pinned (OpenSpec.ofChange huffBackSpec)

/-- ITS FALSE NEIGHBOUR: 'it returns false'. Refute it at one input. -/
def huffBackWrong : ChangeSpec := { name := "huffBack", fn := fun _ => fun
  | [d1, d2] => { results := [.lit (.bool false)], args := [d1, d2] }
  | _ => none }
def HuffBackWrongFalsely : Prop := huffBackRow.holds Try.pinned (OpenSpec.ofChange huffBackWrong)

/-- 'drawbridgelaw02.HuffJoins': WHATEVER THE INPUT: true; the input reads as it did. -/
def huffJoinsSpec : ChangeSpec := { name := "huffJoins", fn := fun _ => fun
  | [d1, d2] => { results := [.lit (.bool true)], args := [d1, d2] }
  | _ => none }
def huffJoinsRow : OpenClaim := { program := "ytfcgacjonekfaaa", sum := "cb29cf578a25148b96bedac85ad377ee3581902eb36210d726173d214f0495ff", func := "drawbridge/drawbridgelaw02.HuffJoins", spec := "huffJoins", apart := false }
def HuffJoinsSaid : Prop := huffJoinsRow.holds Try.pinned (OpenSpec.ofChange huffJoinsSpec)

/-- ITS FALSE NEIGHBOUR: 'it returns false'. Refute it at one input. -/
def huffJoinsWrong : ChangeSpec := { name := "huffJoins", fn := fun _ => fun
  | [d1, d2] => { results := [.lit (.bool false)], args := [d1, d2] }
  | _ => none }
def HuffJoinsWrongFalsely : Prop := huffJoinsRow.holds Try.pinned (OpenSpec.ofChange huffJoinsWrong)

/-- 'drawbridgelaw03.PrefixTexts': WHATEVER THE INPUT: true; the input reads as it did. -/
def prefixTextsSpec : ChangeSpec := { name := "prefixTexts", fn := fun _ => fun
  | [d] => { results := [.lit (.bool true)], args := [d] }
  | _ => none }
def prefixTextsRow : OpenClaim := { program := "ytfcgacjonekfaaa", sum := "cb29cf578a25148b96bedac85ad377ee3581902eb36210d726173d214f0495ff", func := "drawbridge/drawbridgelaw03.PrefixTexts", spec := "prefixTexts", apart := false }
def PrefixTextsSaid : Prop := prefixTextsRow.holds Try.pinned (OpenSpec.ofChange prefixTextsSpec)

/-- ITS FALSE NEIGHBOUR: 'it returns false'. Refute it at one input. -/
def prefixTextsWrong : ChangeSpec := { name := "prefixTexts", fn := fun _ => fun
  | [d] => { results := [.lit (.bool false)], args := [d] }
  | _ => none }
def PrefixTextsWrongFalsely : Prop := prefixTextsRow.holds Try.pinned (OpenSpec.ofChange prefixTextsWrong)

/-- 'drawbridgelaw03.PrefixReads': WHATEVER THE INPUT: true; the input reads as it did. -/
def prefixReadsSpec : ChangeSpec := { name := "prefixReads", fn := fun _ => fun
  | [d] => { results := [.lit (.bool true)], args := [d] }
  | _ => none }
def prefixReadsRow : OpenClaim := { program := "ytfcgacjonekfaaa", sum := "cb29cf578a25148b96bedac85ad377ee3581902eb36210d726173d214f0495ff", func := "drawbridge/drawbridgelaw03.PrefixReads", spec := "prefixReads", apart := false }
def PrefixReadsSaid : Prop := prefixReadsRow.holds Try.pinned (OpenSpec.ofChange prefixReadsSpec)

/-- ITS FALSE NEIGHBOUR: 'it returns false'. Refute it at one input. -/
def prefixReadsWrong : ChangeSpec := { name := "prefixReads", fn := fun _ => fun
  | [d] => { results := [.lit (.bool false)], args := [d] }
  | _ => none }
def PrefixReadsWrongFalsely : Prop := prefixReadsRow.holds Try.pinned (OpenSpec.ofChange prefixReadsWrong)

/-- 'drawbridgelaw03.PrefixBack': WHATEVER THE INPUT: true; the input reads as it did. -/
def prefixBackSpec : ChangeSpec := { name := "prefixBack", fn := fun _ => fun
  | [d1, d2, d3] => { results := [.lit (.bool true)], args := [d1, d2, d3] }
  | _ => none }
def prefixBackRow : OpenClaim := { program := "ytfcgacjonekfaaa", sum := "cb29cf578a25148b96bedac85ad377ee3581902eb36210d726173d214f0495ff", func := "drawbridge/drawbridgelaw03.PrefixBack", spec := "prefixBack", apart := false }
def PrefixBackSaid : Prop := prefixBackRow.holds Try.pinned (OpenSpec.ofChange prefixBackSpec)

/-- ITS FALSE NEIGHBOUR: 'it returns false'. Refute it at one input. -/
def prefixBackWrong : ChangeSpec := { name := "prefixBack", fn := fun _ => fun
  | [d1, d2, d3] => { results := [.lit (.bool false)], args := [d1, d2, d3] }
  | _ => none }
def PrefixBackWrongFalsely : Prop := prefixBackRow.holds Try.pinned (OpenSpec.ofChange prefixBackWrong)

/- THE SECOND FORM. 'bulk': how many values and letters a reading holds, each counted each time it is reached (what is shared counts as often as it is met; a slice's spare places count too). A statement '..UptoSaid' is the law's where the arguments, and the package variables that the reading takes, are together of bulk at most 1048576: NARROWER than '..Said'. Prove '..Said' where nothing that the law and all that it calls make is longer than what came in: it says more and counts as full. Else prove '..UptoSaid'. A law counts once. -/
mutual
def uptoBulk {H : Type} : DataW H → Nat
  | .lit (.string bytes) => bytes.length + 1
  | .lit _ => 1
  | .nil => 1
  | .ptr d => uptoBulk d + 1
  | .slice elems spare => uptoBulkAll elems + uptoBulkAll spare + 1
  | .agg parts => uptoBulkAll parts + 1
  | .iface _ d => uptoBulk d + 1
  | .map entries => uptoBulkEntries entries + 1
  | .held _ => 1
def uptoBulkAll {H : Type} : List (DataW H) → Nat
  | [] => 0
  | d :: r => uptoBulk d + uptoBulkAll r
def uptoBulkEntries {H : Type} : List (Lit × DataW H) → Nat
  | [] => 0
  | x :: r => uptoBulkEntry x + uptoBulkEntries r
def uptoBulkEntry {H : Type} : Lit × DataW H → Nat
  | (.string bytes, d) => bytes.length + uptoBulk d + 1
  | (_, d) => uptoBulk d + 1
 end
def uptoSmall : (H : Type) → List (DataW H) → Bool := fun _ ds => decide (uptoBulkAll ds ≤ 1048576)
def OpenSpec.upto (s : _root_.Go.ChangeSpec) : _root_.Go.OpenSpec := { _root_.Go.OpenSpec.ofChange s with cond := some uptoSmall }

/-- 'drawbridgelaw02.HuffCodes', WHERE WHAT IT READS IS OF BULK AT MOST 1048576: true; the input reads as it did. -/
def huffCodesUptoRow : OpenClaim := { program := "ytfcgacjonekfaaa", sum := "cb29cf578a25148b96bedac85ad377ee3581902eb36210d726173d214f0495ff", func := "drawbridge/drawbridgelaw02.HuffCodes", spec := "huffCodes", apart := false, narrowed := true }
def HuffCodesUptoSaid : Prop := huffCodesUptoRow.holds Try.pinned (OpenSpec.upto huffCodesSpec)

/-- 'drawbridgelaw03.PrefixPuts', WHERE WHAT IT READS IS OF BULK AT MOST 1048576: true; the input reads as it did. -/
def prefixPutsUptoRow : OpenClaim := { program := "ytfcgacjonekfaaa", sum := "cb29cf578a25148b96bedac85ad377ee3581902eb36210d726173d214f0495ff", func := "drawbridge/drawbridgelaw03.PrefixPuts", spec := "prefixPuts", apart := false, narrowed := true }
def PrefixPutsUptoSaid : Prop := prefixPutsUptoRow.holds Try.pinned (OpenSpec.upto prefixPutsSpec)

/-- 'drawbridgelaw03.PrefixTakes', WHERE WHAT IT READS IS OF BULK AT MOST 1048576: true; the input reads as it did. -/
def prefixTakesUptoRow : OpenClaim := { program := "ytfcgacjonekfaaa", sum := "cb29cf578a25148b96bedac85ad377ee3581902eb36210d726173d214f0495ff", func := "drawbridge/drawbridgelaw03.PrefixTakes", spec := "prefixTakes", apart := false, narrowed := true }
def PrefixTakesUptoSaid : Prop := prefixTakesUptoRow.holds Try.pinned (OpenSpec.upto prefixTakesSpec)

/-- 'drawbridgelaw03.PrefixLong', WHERE WHAT IT READS IS OF BULK AT MOST 1048576: true; the input reads as it did. -/
def prefixLongUptoRow : OpenClaim := { program := "ytfcgacjonekfaaa", sum := "cb29cf578a25148b96bedac85ad377ee3581902eb36210d726173d214f0495ff", func := "drawbridge/drawbridgelaw03.PrefixLong", spec := "prefixLong", apart := false, narrowed := true }
def PrefixLongUptoSaid : Prop := prefixLongUptoRow.holds Try.pinned (OpenSpec.upto prefixLongSpec)

/-- 'drawbridgelaw02.HuffDecodes', WHERE WHAT IT READS IS OF BULK AT MOST 1048576: true; the input reads as it did. -/
def huffDecodesUptoRow : OpenClaim := { program := "ytfcgacjonekfaaa", sum := "cb29cf578a25148b96bedac85ad377ee3581902eb36210d726173d214f0495ff", func := "drawbridge/drawbridgelaw02.HuffDecodes", spec := "huffDecodes", apart := false, narrowed := true }
def HuffDecodesUptoSaid : Prop := huffDecodesUptoRow.holds Try.pinned (OpenSpec.upto huffDecodesSpec)

/-- 'drawbridgelaw02.HuffSums', WHERE WHAT IT READS IS OF BULK AT MOST 1048576: true; the input reads as it did. -/
def huffSumsUptoRow : OpenClaim := { program := "ytfcgacjonekfaaa", sum := "cb29cf578a25148b96bedac85ad377ee3581902eb36210d726173d214f0495ff", func := "drawbridge/drawbridgelaw02.HuffSums", spec := "huffSums", apart := false, narrowed := true }
def HuffSumsUptoSaid : Prop := huffSumsUptoRow.holds Try.pinned (OpenSpec.upto huffSumsSpec)

/-- 'drawbridgelaw02.HuffEncodes', WHERE WHAT IT READS IS OF BULK AT MOST 1048576: true; the input reads as it did. -/
def huffEncodesUptoRow : OpenClaim := { program := "ytfcgacjonekfaaa", sum := "cb29cf578a25148b96bedac85ad377ee3581902eb36210d726173d214f0495ff", func := "drawbridge/drawbridgelaw02.HuffEncodes", spec := "huffEncodes", apart := false, narrowed := true }
def HuffEncodesUptoSaid : Prop := huffEncodesUptoRow.holds Try.pinned (OpenSpec.upto huffEncodesSpec)

/-- 'drawbridgelaw02.HuffBack', WHERE WHAT IT READS IS OF BULK AT MOST 1048576: true; the input reads as it did. -/
def huffBackUptoRow : OpenClaim := { program := "ytfcgacjonekfaaa", sum := "cb29cf578a25148b96bedac85ad377ee3581902eb36210d726173d214f0495ff", func := "drawbridge/drawbridgelaw02.HuffBack", spec := "huffBack", apart := false, narrowed := true }
def HuffBackUptoSaid : Prop := huffBackUptoRow.holds Try.pinned (OpenSpec.upto huffBackSpec)

/-- 'drawbridgelaw02.HuffJoins', WHERE WHAT IT READS IS OF BULK AT MOST 1048576: true; the input reads as it did. -/
def huffJoinsUptoRow : OpenClaim := { program := "ytfcgacjonekfaaa", sum := "cb29cf578a25148b96bedac85ad377ee3581902eb36210d726173d214f0495ff", func := "drawbridge/drawbridgelaw02.HuffJoins", spec := "huffJoins", apart := false, narrowed := true }
def HuffJoinsUptoSaid : Prop := huffJoinsUptoRow.holds Try.pinned (OpenSpec.upto huffJoinsSpec)

/-- 'drawbridgelaw03.PrefixTexts', WHERE WHAT IT READS IS OF BULK AT MOST 1048576: true; the input reads as it did. -/
def prefixTextsUptoRow : OpenClaim := { program := "ytfcgacjonekfaaa", sum := "cb29cf578a25148b96bedac85ad377ee3581902eb36210d726173d214f0495ff", func := "drawbridge/drawbridgelaw03.PrefixTexts", spec := "prefixTexts", apart := false, narrowed := true }
def PrefixTextsUptoSaid : Prop := prefixTextsUptoRow.holds Try.pinned (OpenSpec.upto prefixTextsSpec)

/-- 'drawbridgelaw03.PrefixReads', WHERE WHAT IT READS IS OF BULK AT MOST 1048576: true; the input reads as it did. -/
def prefixReadsUptoRow : OpenClaim := { program := "ytfcgacjonekfaaa", sum := "cb29cf578a25148b96bedac85ad377ee3581902eb36210d726173d214f0495ff", func := "drawbridge/drawbridgelaw03.PrefixReads", spec := "prefixReads", apart := false, narrowed := true }
def PrefixReadsUptoSaid : Prop := prefixReadsUptoRow.holds Try.pinned (OpenSpec.upto prefixReadsSpec)

/-- 'drawbridgelaw03.PrefixBack', WHERE WHAT IT READS IS OF BULK AT MOST 1048576: true; the input reads as it did. -/
def prefixBackUptoRow : OpenClaim := { program := "ytfcgacjonekfaaa", sum := "cb29cf578a25148b96bedac85ad377ee3581902eb36210d726173d214f0495ff", func := "drawbridge/drawbridgelaw03.PrefixBack", spec := "prefixBack", apart := false, narrowed := true }
def PrefixBackUptoSaid : Prop := prefixBackUptoRow.holds Try.pinned (OpenSpec.upto prefixBackSpec)

end Rows
end Go.Proofs.Ytfcgacjonekfaaa
