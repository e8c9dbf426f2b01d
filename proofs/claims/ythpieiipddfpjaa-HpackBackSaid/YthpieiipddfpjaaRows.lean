/-
  No cell of these rows narrows 'for every input' (looked for: loops, veiled, ifaces, maps, wideKeys, modest, calm, conditions, laid).
  DERIVED. THE GIVEN ROWS OF THIS SEAT. 10 by the template 'for every input the law returns true; each argument reads behind the call as it read before'; 0 by the template 'total and deterministic' (their statements: YthpieiipddfpjaaTotals.lean).
  GIVEN WITH THE SEED: the statements are not yours to turn. If you find one false, say at which input.
  Laid BY PROGRAM, IN A SANDBOX (cutbox-rows.mjs): the forced cells as the released guide's own fill.sh prints them over the translation dc443f9f96113786… (all of the seat's roots in one cut). By AI agents, Wed Nov 11 2026. No macro, syntax, notation, axiom, sorry.
-/
import Derived.Test.YthpieiipddfpjaaChecked
import GoSem.Claim
import GoSem.ClaimJoined
import GoSem.ClaimMapViews
import Derived.JoinedTies
import Derived.KernelRfl
namespace Go.Proofs.Ythpieiipddfpjaa
/- THE CELL 'sum', in the pinned program and in every row, IS THE sha256 OF THE DUMP (.gsa) THAT YthpieiipddfpjaaProg.lean LOADS. Nothing in Lean hashes anything: it is a label: what it is worth is what the hold of that sum in a sandbox is worth. -/
noncomputable def Try.pinned : Pinned := { name := "ythpieiipddfpjaa", sum := "dc443f9f96113786abe7713e23dfef2bc96082325b8de27a7e663aafb7681957", checked := Try.checked }
namespace Rows
def none {H : Type} : Left H := { results := [], args := [] }

/-- 'drawbridgelaw04.TableFinds': WHATEVER THE INPUT: true; the input reads as it did. -/
def tableFindsSpec : ChangeSpec := { name := "tableFinds", fn := fun _ => fun
  | [d1, d2, d3] => { results := [.lit (.bool true)], args := [d1, d2, d3] }
  | _ => none }
def tableFindsRow : OpenClaim := { program := "ythpieiipddfpjaa", sum := "dc443f9f96113786abe7713e23dfef2bc96082325b8de27a7e663aafb7681957", func := "drawbridge/drawbridgelaw04.TableFinds", spec := "tableFinds", unfollowed := true, recurses := true, plainKeys := false, apart := false }
def TableFindsSaid : Prop := tableFindsRow.holds Try.pinned (OpenSpec.ofChange tableFindsSpec)

/-- ITS FALSE NEIGHBOUR: 'it returns false'. Refute it at one input. -/
def tableFindsWrong : ChangeSpec := { name := "tableFinds", fn := fun _ => fun
  | [d1, d2, d3] => { results := [.lit (.bool false)], args := [d1, d2, d3] }
  | _ => none }
def TableFindsWrongFalsely : Prop := tableFindsRow.holds Try.pinned (OpenSpec.ofChange tableFindsWrong)

/-- 'drawbridgelaw04.TablePlays': WHATEVER THE INPUT: true; the input reads as it did. -/
def tablePlaysSpec : ChangeSpec := { name := "tablePlays", fn := fun _ => fun
  | [d1, d2] => { results := [.lit (.bool true)], args := [d1, d2] }
  | _ => none }
def tablePlaysRow : OpenClaim := { program := "ythpieiipddfpjaa", sum := "dc443f9f96113786abe7713e23dfef2bc96082325b8de27a7e663aafb7681957", func := "drawbridge/drawbridgelaw04.TablePlays", spec := "tablePlays", unfollowed := true, recurses := true, plainKeys := false, apart := false }
def TablePlaysSaid : Prop := tablePlaysRow.holds Try.pinned (OpenSpec.ofChange tablePlaysSpec)

/-- ITS FALSE NEIGHBOUR: 'it returns false'. Refute it at one input. -/
def tablePlaysWrong : ChangeSpec := { name := "tablePlays", fn := fun _ => fun
  | [d1, d2] => { results := [.lit (.bool false)], args := [d1, d2] }
  | _ => none }
def TablePlaysWrongFalsely : Prop := tablePlaysRow.holds Try.pinned (OpenSpec.ofChange tablePlaysWrong)

/-- 'drawbridgelaw04.TableStatic': WHATEVER THE INPUT: true; the input reads as it did. -/
def tableStaticSpec : ChangeSpec := { name := "tableStatic", fn := fun _ => fun
  | [d] => { results := [.lit (.bool true)], args := [d] }
  | _ => none }
def tableStaticRow : OpenClaim := { program := "ythpieiipddfpjaa", sum := "dc443f9f96113786abe7713e23dfef2bc96082325b8de27a7e663aafb7681957", func := "drawbridge/drawbridgelaw04.TableStatic", spec := "tableStatic", unfollowed := true, recurses := true, plainKeys := false, apart := false }
def TableStaticSaid : Prop := tableStaticRow.holds Try.pinned (OpenSpec.ofChange tableStaticSpec)

/-- ITS FALSE NEIGHBOUR: 'it returns false'. Refute it at one input. -/
def tableStaticWrong : ChangeSpec := { name := "tableStatic", fn := fun _ => fun
  | [d] => { results := [.lit (.bool false)], args := [d] }
  | _ => none }
def TableStaticWrongFalsely : Prop := tableStaticRow.holds Try.pinned (OpenSpec.ofChange tableStaticWrong)

/-- 'drawbridgelaw04.TableAlike': WHATEVER THE INPUT: true; the input reads as it did. -/
def tableAlikeSpec : ChangeSpec := { name := "tableAlike", fn := fun _ => fun
  | [d1, d2, d3] => { results := [.lit (.bool true)], args := [d1, d2, d3] }
  | _ => none }
def tableAlikeRow : OpenClaim := { program := "ythpieiipddfpjaa", sum := "dc443f9f96113786abe7713e23dfef2bc96082325b8de27a7e663aafb7681957", func := "drawbridge/drawbridgelaw04.TableAlike", spec := "tableAlike", unfollowed := true, recurses := true, plainKeys := false, apart := false }
def TableAlikeSaid : Prop := tableAlikeRow.holds Try.pinned (OpenSpec.ofChange tableAlikeSpec)

/-- ITS FALSE NEIGHBOUR: 'it returns false'. Refute it at one input. -/
def tableAlikeWrong : ChangeSpec := { name := "tableAlike", fn := fun _ => fun
  | [d1, d2, d3] => { results := [.lit (.bool false)], args := [d1, d2, d3] }
  | _ => none }
def TableAlikeWrongFalsely : Prop := tableAlikeRow.holds Try.pinned (OpenSpec.ofChange tableAlikeWrong)

/-- 'drawbridgelaw04.TableShifts': WHATEVER THE INPUT: true; the input reads as it did. -/
def tableShiftsSpec : ChangeSpec := { name := "tableShifts", fn := fun _ => fun
  | [d1, d2] => { results := [.lit (.bool true)], args := [d1, d2] }
  | _ => none }
def tableShiftsRow : OpenClaim := { program := "ythpieiipddfpjaa", sum := "dc443f9f96113786abe7713e23dfef2bc96082325b8de27a7e663aafb7681957", func := "drawbridge/drawbridgelaw04.TableShifts", spec := "tableShifts", unfollowed := true, recurses := true, plainKeys := false, apart := false }
def TableShiftsSaid : Prop := tableShiftsRow.holds Try.pinned (OpenSpec.ofChange tableShiftsSpec)

/-- ITS FALSE NEIGHBOUR: 'it returns false'. Refute it at one input. -/
def tableShiftsWrong : ChangeSpec := { name := "tableShifts", fn := fun _ => fun
  | [d1, d2] => { results := [.lit (.bool false)], args := [d1, d2] }
  | _ => none }
def TableShiftsWrongFalsely : Prop := tableShiftsRow.holds Try.pinned (OpenSpec.ofChange tableShiftsWrong)

/-- 'drawbridgelaw05.HpackDecodes': WHATEVER THE INPUT: true; the input reads as it did. -/
def hpackDecodesSpec : ChangeSpec := { name := "hpackDecodes", fn := fun _ => fun
  | [d1, d2, d3] => { results := [.lit (.bool true)], args := [d1, d2, d3] }
  | _ => none }
def hpackDecodesRow : OpenClaim := { program := "ythpieiipddfpjaa", sum := "dc443f9f96113786abe7713e23dfef2bc96082325b8de27a7e663aafb7681957", func := "drawbridge/drawbridgelaw05.HpackDecodes", spec := "hpackDecodes", unfollowed := true, recurses := true, plainKeys := false, apart := false }
def HpackDecodesSaid : Prop := hpackDecodesRow.holds Try.pinned (OpenSpec.ofChange hpackDecodesSpec)

/-- ITS FALSE NEIGHBOUR: 'it returns false'. Refute it at one input. -/
def hpackDecodesWrong : ChangeSpec := { name := "hpackDecodes", fn := fun _ => fun
  | [d1, d2, d3] => { results := [.lit (.bool false)], args := [d1, d2, d3] }
  | _ => none }
def HpackDecodesWrongFalsely : Prop := hpackDecodesRow.holds Try.pinned (OpenSpec.ofChange hpackDecodesWrong)

/-- 'drawbridgelaw05.HpackLists': WHATEVER THE INPUT: true; the input reads as it did. -/
def hpackListsSpec : ChangeSpec := { name := "hpackLists", fn := fun _ => fun
  | [d1, d2, d3] => { results := [.lit (.bool true)], args := [d1, d2, d3] }
  | _ => none }
def hpackListsRow : OpenClaim := { program := "ythpieiipddfpjaa", sum := "dc443f9f96113786abe7713e23dfef2bc96082325b8de27a7e663aafb7681957", func := "drawbridge/drawbridgelaw05.HpackLists", spec := "hpackLists", unfollowed := true, recurses := true, plainKeys := false, apart := false }
def HpackListsSaid : Prop := hpackListsRow.holds Try.pinned (OpenSpec.ofChange hpackListsSpec)

/-- ITS FALSE NEIGHBOUR: 'it returns false'. Refute it at one input. -/
def hpackListsWrong : ChangeSpec := { name := "hpackLists", fn := fun _ => fun
  | [d1, d2, d3] => { results := [.lit (.bool false)], args := [d1, d2, d3] }
  | _ => none }
def HpackListsWrongFalsely : Prop := hpackListsRow.holds Try.pinned (OpenSpec.ofChange hpackListsWrong)

/-- 'drawbridgelaw05.HpackNever': WHATEVER THE INPUT: true; the input reads as it did. -/
def hpackNeverSpec : ChangeSpec := { name := "hpackNever", fn := fun _ => fun
  | [d] => { results := [.lit (.bool true)], args := [d] }
  | _ => none }
def hpackNeverRow : OpenClaim := { program := "ythpieiipddfpjaa", sum := "dc443f9f96113786abe7713e23dfef2bc96082325b8de27a7e663aafb7681957", func := "drawbridge/drawbridgelaw05.HpackNever", spec := "hpackNever", unfollowed := true, recurses := true, plainKeys := false, apart := false }
def HpackNeverSaid : Prop := hpackNeverRow.holds Try.pinned (OpenSpec.ofChange hpackNeverSpec)

/-- ITS FALSE NEIGHBOUR: 'it returns false'. Refute it at one input. -/
def hpackNeverWrong : ChangeSpec := { name := "hpackNever", fn := fun _ => fun
  | [d] => { results := [.lit (.bool false)], args := [d] }
  | _ => none }
def HpackNeverWrongFalsely : Prop := hpackNeverRow.holds Try.pinned (OpenSpec.ofChange hpackNeverWrong)

/-- 'drawbridgelaw05.HpackBack': WHATEVER THE INPUT: true; the input reads as it did. -/
def hpackBackSpec : ChangeSpec := { name := "hpackBack", fn := fun _ => fun
  | [d1, d2] => { results := [.lit (.bool true)], args := [d1, d2] }
  | _ => none }
def hpackBackRow : OpenClaim := { program := "ythpieiipddfpjaa", sum := "dc443f9f96113786abe7713e23dfef2bc96082325b8de27a7e663aafb7681957", func := "drawbridge/drawbridgelaw05.HpackBack", spec := "hpackBack", unfollowed := true, recurses := true, plainKeys := false, apart := false }
def HpackBackSaid : Prop := hpackBackRow.holds Try.pinned (OpenSpec.ofChange hpackBackSpec)

/-- ITS FALSE NEIGHBOUR: 'it returns false'. Refute it at one input. -/
def hpackBackWrong : ChangeSpec := { name := "hpackBack", fn := fun _ => fun
  | [d1, d2] => { results := [.lit (.bool false)], args := [d1, d2] }
  | _ => none }
def HpackBackWrongFalsely : Prop := hpackBackRow.holds Try.pinned (OpenSpec.ofChange hpackBackWrong)

/-- 'drawbridgelaw05.HpackBroken': WHATEVER THE INPUT: true; the input reads as it did. -/
def hpackBrokenSpec : ChangeSpec := { name := "hpackBroken", fn := fun _ => fun
  | [d1, d2] => { results := [.lit (.bool true)], args := [d1, d2] }
  | _ => none }
def hpackBrokenRow : OpenClaim := { program := "ythpieiipddfpjaa", sum := "dc443f9f96113786abe7713e23dfef2bc96082325b8de27a7e663aafb7681957", func := "drawbridge/drawbridgelaw05.HpackBroken", spec := "hpackBroken", unfollowed := true, recurses := true, plainKeys := false, apart := false }
def HpackBrokenSaid : Prop := hpackBrokenRow.holds Try.pinned (OpenSpec.ofChange hpackBrokenSpec)

/-- ITS FALSE NEIGHBOUR: 'it returns false'. Refute it at one input. -/
def hpackBrokenWrong : ChangeSpec := { name := "hpackBroken", fn := fun _ => fun
  | [d1, d2] => { results := [.lit (.bool false)], args := [d1, d2] }
  | _ => none }
def HpackBrokenWrongFalsely : Prop := hpackBrokenRow.holds Try.pinned (OpenSpec.ofChange hpackBrokenWrong)

/- THE SECOND FORM. 'bulk': how many values and letters a reading holds, each counted each time it is reached (what is shared counts as often as it is met; a slice's spare places count too). A statement '..UptoSaid' is the law's where the arguments, and the package variables that the reading takes, are together of bulk at most 1048576: NARROWER than '..Said'. Prove '..Said' where nothing that the law and all that it calls make is longer than what came in: it says more and counts as full. Else prove '..UptoSaid'. A law counts once. -/
mutual
def uptoBulk {H : Type} : DataW H → Nat
  | .lit (.string bytes) => bytes.length + 1
  | .lit _ => 1
  | .nil => 1
  | .ptr d => uptoBulk d + 1
  | .slice elems spare => uptoBulkAll elems + uptoBulkAll spare + 1
  | .agg parts => uptoBulkAll parts + 1
  | .iface _ d => uptoBulk d + 1
  | .map entries => uptoBulkEntries entries + 1
  | .held _ => 1
def uptoBulkAll {H : Type} : List (DataW H) → Nat
  | [] => 0
  | d :: r => uptoBulk d + uptoBulkAll r
def uptoBulkEntries {H : Type} : List (Lit × DataW H) → Nat
  | [] => 0
  | x :: r => uptoBulkEntry x + uptoBulkEntries r
def uptoBulkEntry {H : Type} : Lit × DataW H → Nat
  | (.string bytes, d) => bytes.length + uptoBulk d + 1
  | (_, d) => uptoBulk d + 1
 end
def uptoSmall : (H : Type) → List (DataW H) → Bool := fun _ ds => decide (uptoBulkAll ds ≤ 1048576)
def OpenSpec.upto (s : _root_.Go.ChangeSpec) : _root_.Go.OpenSpec := { _root_.Go.OpenSpec.ofChange s with cond := some uptoSmall }

/-- 'drawbridgelaw04.TableFinds', WHERE WHAT IT READS IS OF BULK AT MOST 1048576: true; the input reads as it did. -/
def tableFindsUptoRow : OpenClaim := { program := "ythpieiipddfpjaa", sum := "dc443f9f96113786abe7713e23dfef2bc96082325b8de27a7e663aafb7681957", func := "drawbridge/drawbridgelaw04.TableFinds", spec := "tableFinds", unfollowed := true, recurses := true, plainKeys := false, apart := false, narrowed := true }
def TableFindsUptoSaid : Prop := tableFindsUptoRow.holds Try.pinned (OpenSpec.upto tableFindsSpec)

/-- 'drawbridgelaw04.TablePlays', WHERE WHAT IT READS IS OF BULK AT MOST 1048576: true; the input reads as it did. -/
def tablePlaysUptoRow : OpenClaim := { program := "ythpieiipddfpjaa", sum := "dc443f9f96113786abe7713e23dfef2bc96082325b8de27a7e663aafb7681957", func := "drawbridge/drawbridgelaw04.TablePlays", spec := "tablePlays", unfollowed := true, recurses := true, plainKeys := false, apart := false, narrowed := true }
def TablePlaysUptoSaid : Prop := tablePlaysUptoRow.holds Try.pinned (OpenSpec.upto tablePlaysSpec)

/-- 'drawbridgelaw04.TableStatic', WHERE WHAT IT READS IS OF BULK AT MOST 1048576: true; the input reads as it did. -/
def tableStaticUptoRow : OpenClaim := { program := "ythpieiipddfpjaa", sum := "dc443f9f96113786abe7713e23dfef2bc96082325b8de27a7e663aafb7681957", func := "drawbridge/drawbridgelaw04.TableStatic", spec := "tableStatic", unfollowed := true, recurses := true, plainKeys := false, apart := false, narrowed := true }
def TableStaticUptoSaid : Prop := tableStaticUptoRow.holds Try.pinned (OpenSpec.upto tableStaticSpec)

/-- 'drawbridgelaw04.TableAlike', WHERE WHAT IT READS IS OF BULK AT MOST 1048576: true; the input reads as it did. -/
def tableAlikeUptoRow : OpenClaim := { program := "ythpieiipddfpjaa", sum := "dc443f9f96113786abe7713e23dfef2bc96082325b8de27a7e663aafb7681957", func := "drawbridge/drawbridgelaw04.TableAlike", spec := "tableAlike", unfollowed := true, recurses := true, plainKeys := false, apart := false, narrowed := true }
def TableAlikeUptoSaid : Prop := tableAlikeUptoRow.holds Try.pinned (OpenSpec.upto tableAlikeSpec)

/-- 'drawbridgelaw04.TableShifts', WHERE WHAT IT READS IS OF BULK AT MOST 1048576: true; the input reads as it did. -/
def tableShiftsUptoRow : OpenClaim := { program := "ythpieiipddfpjaa", sum := "dc443f9f96113786abe7713e23dfef2bc96082325b8de27a7e663aafb7681957", func := "drawbridge/drawbridgelaw04.TableShifts", spec := "tableShifts", unfollowed := true, recurses := true, plainKeys := false, apart := false, narrowed := true }
def TableShiftsUptoSaid : Prop := tableShiftsUptoRow.holds Try.pinned (OpenSpec.upto tableShiftsSpec)

/-- 'drawbridgelaw05.HpackDecodes', WHERE WHAT IT READS IS OF BULK AT MOST 1048576: true; the input reads as it did. -/
def hpackDecodesUptoRow : OpenClaim := { program := "ythpieiipddfpjaa", sum := "dc443f9f96113786abe7713e23dfef2bc96082325b8de27a7e663aafb7681957", func := "drawbridge/drawbridgelaw05.HpackDecodes", spec := "hpackDecodes", unfollowed := true, recurses := true, plainKeys := false, apart := false, narrowed := true }
def HpackDecodesUptoSaid : Prop := hpackDecodesUptoRow.holds Try.pinned (OpenSpec.upto hpackDecodesSpec)

/-- 'drawbridgelaw05.HpackLists', WHERE WHAT IT READS IS OF BULK AT MOST 1048576: true; the input reads as it did. -/
def hpackListsUptoRow : OpenClaim := { program := "ythpieiipddfpjaa", sum := "dc443f9f96113786abe7713e23dfef2bc96082325b8de27a7e663aafb7681957", func := "drawbridge/drawbridgelaw05.HpackLists", spec := "hpackLists", unfollowed := true, recurses := true, plainKeys := false, apart := false, narrowed := true }
def HpackListsUptoSaid : Prop := hpackListsUptoRow.holds Try.pinned (OpenSpec.upto hpackListsSpec)

/-- 'drawbridgelaw05.HpackNever', WHERE WHAT IT READS IS OF BULK AT MOST 1048576: true; the input reads as it did. -/
def hpackNeverUptoRow : OpenClaim := { program := "ythpieiipddfpjaa", sum := "dc443f9f96113786abe7713e23dfef2bc96082325b8de27a7e663aafb7681957", func := "drawbridge/drawbridgelaw05.HpackNever", spec := "hpackNever", unfollowed := true, recurses := true, plainKeys := false, apart := false, narrowed := true }
def HpackNeverUptoSaid : Prop := hpackNeverUptoRow.holds Try.pinned (OpenSpec.upto hpackNeverSpec)

/-- 'drawbridgelaw05.HpackBack', WHERE WHAT IT READS IS OF BULK AT MOST 1048576: true; the input reads as it did. -/
def hpackBackUptoRow : OpenClaim := { program := "ythpieiipddfpjaa", sum := "dc443f9f96113786abe7713e23dfef2bc96082325b8de27a7e663aafb7681957", func := "drawbridge/drawbridgelaw05.HpackBack", spec := "hpackBack", unfollowed := true, recurses := true, plainKeys := false, apart := false, narrowed := true }
def HpackBackUptoSaid : Prop := hpackBackUptoRow.holds Try.pinned (OpenSpec.upto hpackBackSpec)

/-- 'drawbridgelaw05.HpackBroken', WHERE WHAT IT READS IS OF BULK AT MOST 1048576: true; the input reads as it did. -/
def hpackBrokenUptoRow : OpenClaim := { program := "ythpieiipddfpjaa", sum := "dc443f9f96113786abe7713e23dfef2bc96082325b8de27a7e663aafb7681957", func := "drawbridge/drawbridgelaw05.HpackBroken", spec := "hpackBroken", unfollowed := true, recurses := true, plainKeys := false, apart := false, narrowed := true }
def HpackBrokenUptoSaid : Prop := hpackBrokenUptoRow.holds Try.pinned (OpenSpec.upto hpackBrokenSpec)

end Rows
end Go.Proofs.Ythpieiipddfpjaa
