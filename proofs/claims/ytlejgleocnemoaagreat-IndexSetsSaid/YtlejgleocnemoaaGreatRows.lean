/-
  No cell of these rows narrows 'for every input' (looked for: loops, veiled, ifaces, maps, wideKeys, modest, calm, conditions, laid).
  DERIVED. THE GIVEN ROWS OF THIS SEAT. 6 by the template 'for every input the law returns true; each argument reads behind the call as it read before'; 0 by the template 'total and deterministic' (their statements: YtlejgleocnemoaaGreatTotals.lean).
  GIVEN WITH THE SEED: the statements are not yours to turn. If you find one false, say at which input.
  Laid BY PROGRAM, IN A SANDBOX (cutbox-rows.mjs): the forced cells as the released guide's own fill.sh prints them over the translation da10102eec20ce4b… (all of the seat's roots in one cut). By AI agents, Wed Nov 11 2026. No macro, syntax, notation, axiom, sorry.
-/
import Derived.Test.YtlejgleocnemoaaGreatChecked
import GoSem.Claim
import GoSem.ClaimJoined
import GoSem.ClaimMapViews
import Derived.JoinedTies
import Derived.KernelRfl
namespace Go.Proofs.YtlejgleocnemoaaGreat
/- THE CELL 'sum', in the pinned program and in every row, IS THE sha256 OF THE DUMP (.gsa) THAT YtlejgleocnemoaaGreatProg.lean LOADS. Nothing in Lean hashes anything: it is a label: what it is worth is what the hold of that sum in a sandbox is worth. -/
noncomputable def Tryz.pinned : Pinned := { name := "ytlejgleocnemoaagreat", sum := "da10102eec20ce4b5b8c12c4d71266526d40dcbb4215cfd31d3ae3ef8f20187c", checked := Tryz.checked }
namespace Rows
def none {H : Type} : Left H := { results := [], args := [] }

/-- 'typeballlaw11.IndexTakes': WHATEVER THE INPUT: true; the input reads as it did. -/
def indexTakesSpec : ChangeSpec := { name := "indexTakes", fn := fun _ => fun
  | [d1, d2, d3] => { results := [.lit (.bool true)], args := [d1, d2, d3] }
  | _ => none }
def indexTakesRow : OpenClaim := { program := "ytlejgleocnemoaagreat", sum := "da10102eec20ce4b5b8c12c4d71266526d40dcbb4215cfd31d3ae3ef8f20187c", func := "typeball/typeballlaw11.IndexTakes", spec := "indexTakes", apart := false }
def IndexTakesSaid : Prop := indexTakesRow.holds Tryz.pinned (OpenSpec.ofChange indexTakesSpec)

/-- ITS FALSE NEIGHBOUR: 'it returns false'. Refute it at one input. -/
def indexTakesWrong : ChangeSpec := { name := "indexTakes", fn := fun _ => fun
  | [d1, d2, d3] => { results := [.lit (.bool false)], args := [d1, d2, d3] }
  | _ => none }
def IndexTakesWrongFalsely : Prop := indexTakesRow.holds Tryz.pinned (OpenSpec.ofChange indexTakesWrong)

/-- 'typeballlaw11.IndexSets': WHATEVER THE INPUT: true; the input reads as it did. -/
def indexSetsSpec : ChangeSpec := { name := "indexSets", fn := fun _ => fun
  | [d1, d2, d3] => { results := [.lit (.bool true)], args := [d1, d2, d3] }
  | _ => none }
def indexSetsRow : OpenClaim := { program := "ytlejgleocnemoaagreat", sum := "da10102eec20ce4b5b8c12c4d71266526d40dcbb4215cfd31d3ae3ef8f20187c", func := "typeball/typeballlaw11.IndexSets", spec := "indexSets", apart := false }
def IndexSetsSaid : Prop := indexSetsRow.holds Tryz.pinned (OpenSpec.ofChange indexSetsSpec)

/-- ITS FALSE NEIGHBOUR: 'it returns false'. Refute it at one input. -/
def indexSetsWrong : ChangeSpec := { name := "indexSets", fn := fun _ => fun
  | [d1, d2, d3] => { results := [.lit (.bool false)], args := [d1, d2, d3] }
  | _ => none }
def IndexSetsWrongFalsely : Prop := indexSetsRow.holds Tryz.pinned (OpenSpec.ofChange indexSetsWrong)

/-- 'typeballlaw16.BaseEncodes': WHATEVER THE INPUT: true; the input reads as it did. -/
def baseEncodesSpec : ChangeSpec := { name := "baseEncodes", fn := fun _ => fun
  | [d1, d2, d3] => { results := [.lit (.bool true)], args := [d1, d2, d3] }
  | _ => none }
def baseEncodesRow : OpenClaim := { program := "ytlejgleocnemoaagreat", sum := "da10102eec20ce4b5b8c12c4d71266526d40dcbb4215cfd31d3ae3ef8f20187c", func := "typeball/typeballlaw16.BaseEncodes", spec := "baseEncodes", apart := false }
def BaseEncodesSaid : Prop := baseEncodesRow.holds Tryz.pinned (OpenSpec.ofChange baseEncodesSpec)

/-- ITS FALSE NEIGHBOUR: 'it returns false'. Refute it at one input. -/
def baseEncodesWrong : ChangeSpec := { name := "baseEncodes", fn := fun _ => fun
  | [d1, d2, d3] => { results := [.lit (.bool false)], args := [d1, d2, d3] }
  | _ => none }
def BaseEncodesWrongFalsely : Prop := baseEncodesRow.holds Tryz.pinned (OpenSpec.ofChange baseEncodesWrong)

/-- 'typeballlaw08.MoldShapes': WHATEVER THE INPUT: true; the input reads as it did. -/
def moldShapesSpec : ChangeSpec := { name := "moldShapes", fn := fun _ => fun
  | [d1, d2, d3] => { results := [.lit (.bool true)], args := [d1, d2, d3] }
  | _ => none }
def moldShapesRow : OpenClaim := { program := "ytlejgleocnemoaagreat", sum := "da10102eec20ce4b5b8c12c4d71266526d40dcbb4215cfd31d3ae3ef8f20187c", func := "typeball/typeballlaw08.MoldShapes", spec := "moldShapes", unfollowed := true, recurses := true, apart := false }
def MoldShapesSaid : Prop := moldShapesRow.holds Tryz.pinned (OpenSpec.ofChange moldShapesSpec)

/-- ITS FALSE NEIGHBOUR: 'it returns false'. Refute it at one input. -/
def moldShapesWrong : ChangeSpec := { name := "moldShapes", fn := fun _ => fun
  | [d1, d2, d3] => { results := [.lit (.bool false)], args := [d1, d2, d3] }
  | _ => none }
def MoldShapesWrongFalsely : Prop := moldShapesRow.holds Tryz.pinned (OpenSpec.ofChange moldShapesWrong)

/-- 'typeballlaw08.MoldAxes': WHATEVER THE INPUT: true; the input reads as it did. -/
def moldAxesSpec : ChangeSpec := { name := "moldAxes", fn := fun _ => fun
  | [d1, d2, d3] => { results := [.lit (.bool true)], args := [d1, d2, d3] }
  | _ => none }
def moldAxesRow : OpenClaim := { program := "ytlejgleocnemoaagreat", sum := "da10102eec20ce4b5b8c12c4d71266526d40dcbb4215cfd31d3ae3ef8f20187c", func := "typeball/typeballlaw08.MoldAxes", spec := "moldAxes", unfollowed := true, recurses := true, apart := false }
def MoldAxesSaid : Prop := moldAxesRow.holds Tryz.pinned (OpenSpec.ofChange moldAxesSpec)

/-- ITS FALSE NEIGHBOUR: 'it returns false'. Refute it at one input. -/
def moldAxesWrong : ChangeSpec := { name := "moldAxes", fn := fun _ => fun
  | [d1, d2, d3] => { results := [.lit (.bool false)], args := [d1, d2, d3] }
  | _ => none }
def MoldAxesWrongFalsely : Prop := moldAxesRow.holds Tryz.pinned (OpenSpec.ofChange moldAxesWrong)

/-- 'typeballlaw08.MoldTurns': WHATEVER THE INPUT: true; the input reads as it did. -/
def moldTurnsSpec : ChangeSpec := { name := "moldTurns", fn := fun _ => fun
  | [d1, d2, d3] => { results := [.lit (.bool true)], args := [d1, d2, d3] }
  | _ => none }
def moldTurnsRow : OpenClaim := { program := "ytlejgleocnemoaagreat", sum := "da10102eec20ce4b5b8c12c4d71266526d40dcbb4215cfd31d3ae3ef8f20187c", func := "typeball/typeballlaw08.MoldTurns", spec := "moldTurns", unfollowed := true, recurses := true, apart := false }
def MoldTurnsSaid : Prop := moldTurnsRow.holds Tryz.pinned (OpenSpec.ofChange moldTurnsSpec)

/-- ITS FALSE NEIGHBOUR: 'it returns false'. Refute it at one input. -/
def moldTurnsWrong : ChangeSpec := { name := "moldTurns", fn := fun _ => fun
  | [d1, d2, d3] => { results := [.lit (.bool false)], args := [d1, d2, d3] }
  | _ => none }
def MoldTurnsWrongFalsely : Prop := moldTurnsRow.holds Tryz.pinned (OpenSpec.ofChange moldTurnsWrong)

/- THE SECOND FORM. 'bulk': how many values and letters a reading holds, each counted each time it is reached (what is shared counts as often as it is met; a slice's spare places count too). A statement '..UptoSaid' is the law's where the arguments, and the package variables that the reading takes, are together of bulk at most 1048576: NARROWER than '..Said'. Prove '..Said' where nothing that the law and all that it calls make is longer than what came in: it says more and counts as full. Else prove '..UptoSaid'. A law counts once. -/
mutual
def uptoBulk {H : Type} : DataW H → Nat
  | .lit (.string bytes) => bytes.length + 1
  | .lit _ => 1
  | .nil => 1
  | .ptr d => uptoBulk d + 1
  | .slice elems spare => uptoBulkAll elems + uptoBulkAll spare + 1
  | .agg parts => uptoBulkAll parts + 1
  | .iface _ d => uptoBulk d + 1
  | .map entries => uptoBulkEntries entries + 1
  | .held _ => 1
def uptoBulkAll {H : Type} : List (DataW H) → Nat
  | [] => 0
  | d :: r => uptoBulk d + uptoBulkAll r
def uptoBulkEntries {H : Type} : List (Lit × DataW H) → Nat
  | [] => 0
  | x :: r => uptoBulkEntry x + uptoBulkEntries r
def uptoBulkEntry {H : Type} : Lit × DataW H → Nat
  | (.string bytes, d) => bytes.length + uptoBulk d + 1
  | (_, d) => uptoBulk d + 1
 end
def uptoSmall : (H : Type) → List (DataW H) → Bool := fun _ ds => decide (uptoBulkAll ds ≤ 1048576)
def OpenSpec.upto (s : _root_.Go.ChangeSpec) : _root_.Go.OpenSpec := { _root_.Go.OpenSpec.ofChange s with cond := some uptoSmall }

/-- 'typeballlaw11.IndexTakes', WHERE WHAT IT READS IS OF BULK AT MOST 1048576: true; the input reads as it did. -/
def indexTakesUptoRow : OpenClaim := { program := "ytlejgleocnemoaagreat", sum := "da10102eec20ce4b5b8c12c4d71266526d40dcbb4215cfd31d3ae3ef8f20187c", func := "typeball/typeballlaw11.IndexTakes", spec := "indexTakes", apart := false, narrowed := true }
def IndexTakesUptoSaid : Prop := indexTakesUptoRow.holds Tryz.pinned (OpenSpec.upto indexTakesSpec)

/-- 'typeballlaw11.IndexSets', WHERE WHAT IT READS IS OF BULK AT MOST 1048576: true; the input reads as it did. -/
def indexSetsUptoRow : OpenClaim := { program := "ytlejgleocnemoaagreat", sum := "da10102eec20ce4b5b8c12c4d71266526d40dcbb4215cfd31d3ae3ef8f20187c", func := "typeball/typeballlaw11.IndexSets", spec := "indexSets", apart := false, narrowed := true }
def IndexSetsUptoSaid : Prop := indexSetsUptoRow.holds Tryz.pinned (OpenSpec.upto indexSetsSpec)

/-- 'typeballlaw16.BaseEncodes', WHERE WHAT IT READS IS OF BULK AT MOST 1048576: true; the input reads as it did. -/
def baseEncodesUptoRow : OpenClaim := { program := "ytlejgleocnemoaagreat", sum := "da10102eec20ce4b5b8c12c4d71266526d40dcbb4215cfd31d3ae3ef8f20187c", func := "typeball/typeballlaw16.BaseEncodes", spec := "baseEncodes", apart := false, narrowed := true }
def BaseEncodesUptoSaid : Prop := baseEncodesUptoRow.holds Tryz.pinned (OpenSpec.upto baseEncodesSpec)

/-- 'typeballlaw08.MoldShapes', WHERE WHAT IT READS IS OF BULK AT MOST 1048576: true; the input reads as it did. -/
def moldShapesUptoRow : OpenClaim := { program := "ytlejgleocnemoaagreat", sum := "da10102eec20ce4b5b8c12c4d71266526d40dcbb4215cfd31d3ae3ef8f20187c", func := "typeball/typeballlaw08.MoldShapes", spec := "moldShapes", unfollowed := true, recurses := true, apart := false, narrowed := true }
def MoldShapesUptoSaid : Prop := moldShapesUptoRow.holds Tryz.pinned (OpenSpec.upto moldShapesSpec)

/-- 'typeballlaw08.MoldAxes', WHERE WHAT IT READS IS OF BULK AT MOST 1048576: true; the input reads as it did. -/
def moldAxesUptoRow : OpenClaim := { program := "ytlejgleocnemoaagreat", sum := "da10102eec20ce4b5b8c12c4d71266526d40dcbb4215cfd31d3ae3ef8f20187c", func := "typeball/typeballlaw08.MoldAxes", spec := "moldAxes", unfollowed := true, recurses := true, apart := false, narrowed := true }
def MoldAxesUptoSaid : Prop := moldAxesUptoRow.holds Tryz.pinned (OpenSpec.upto moldAxesSpec)

/-- 'typeballlaw08.MoldTurns', WHERE WHAT IT READS IS OF BULK AT MOST 1048576: true; the input reads as it did. -/
def moldTurnsUptoRow : OpenClaim := { program := "ytlejgleocnemoaagreat", sum := "da10102eec20ce4b5b8c12c4d71266526d40dcbb4215cfd31d3ae3ef8f20187c", func := "typeball/typeballlaw08.MoldTurns", spec := "moldTurns", unfollowed := true, recurses := true, apart := false, narrowed := true }
def MoldTurnsUptoSaid : Prop := moldTurnsUptoRow.holds Tryz.pinned (OpenSpec.upto moldTurnsSpec)

end Rows
end Go.Proofs.YtlejgleocnemoaaGreat
