/-
  No cell of these rows narrows 'for every input' (looked for: loops, veiled, ifaces, maps, wideKeys, modest, calm, conditions, laid).
  DERIVED. THE GIVEN ROWS OF THIS SEAT. 6 by the template 'for every input the law returns true; each argument reads behind the call as it read before'; 0 by the template 'total and deterministic' (their statements: YtlejgleocnemoaaTotals.lean).
  GIVEN WITH THE SEED: the statements are not yours to turn. If you find one false, say at which input.
  Laid BY PROGRAM, IN A SANDBOX (cutbox-rows.mjs): the forced cells as the released guide's own fill.sh prints them over the translation a02c6dfbbc802e0e… (all of the seat's roots in one cut). By AI agents, Wed Nov 11 2026. No macro, syntax, notation, axiom, sorry.
-/
import Derived.Test.YtlejgleocnemoaaChecked
import GoSem.Claim
import GoSem.ClaimJoined
import GoSem.ClaimMapViews
import Derived.JoinedTies
import Derived.KernelRfl
namespace Go.Proofs.Ytlejgleocnemoaa
/- THE CELL 'sum', in the pinned program and in every row, IS THE sha256 OF THE DUMP (.gsa) THAT YtlejgleocnemoaaProg.lean LOADS. Nothing in Lean hashes anything: it is a label: what it is worth is what the hold of that sum in a sandbox is worth. -/
noncomputable def Try.pinned : Pinned := { name := "ytlejgleocnemoaa", sum := "a02c6dfbbc802e0eb6653444885e3a26edbe068b22f5ff6a1e51abb5da970557", checked := Try.checked }
namespace Rows
def none {H : Type} : Left H := { results := [], args := [] }

/-- 'typeballlaw16.BaseBack': WHATEVER THE INPUT: true; the input reads as it did. -/
def baseBackSpec : ChangeSpec := { name := "baseBack", fn := fun _ => fun
  | [d1, d2] => { results := [.lit (.bool true)], args := [d1, d2] }
  | _ => none }
def baseBackRow : OpenClaim := { program := "ytlejgleocnemoaa", sum := "a02c6dfbbc802e0eb6653444885e3a26edbe068b22f5ff6a1e51abb5da970557", func := "typeball/typeballlaw16.BaseBack", spec := "baseBack", apart := false }
def BaseBackSaid : Prop := baseBackRow.holds Try.pinned (OpenSpec.ofChange baseBackSpec)

/-- ITS FALSE NEIGHBOUR: 'it returns false'. Refute it at one input. -/
def baseBackWrong : ChangeSpec := { name := "baseBack", fn := fun _ => fun
  | [d1, d2] => { results := [.lit (.bool false)], args := [d1, d2] }
  | _ => none }
def BaseBackWrongFalsely : Prop := baseBackRow.holds Try.pinned (OpenSpec.ofChange baseBackWrong)

/-- 'typeballlaw11.IndexBack': WHATEVER THE INPUT: true; the input reads as it did. -/
def indexBackSpec : ChangeSpec := { name := "indexBack", fn := fun _ => fun
  | [d1, d2, d3] => { results := [.lit (.bool true)], args := [d1, d2, d3] }
  | _ => none }
def indexBackRow : OpenClaim := { program := "ytlejgleocnemoaa", sum := "a02c6dfbbc802e0eb6653444885e3a26edbe068b22f5ff6a1e51abb5da970557", func := "typeball/typeballlaw11.IndexBack", spec := "indexBack", unfollowed := true, recurses := true, apart := false }
def IndexBackSaid : Prop := indexBackRow.holds Try.pinned (OpenSpec.ofChange indexBackSpec)

/-- ITS FALSE NEIGHBOUR: 'it returns false'. Refute it at one input. -/
def indexBackWrong : ChangeSpec := { name := "indexBack", fn := fun _ => fun
  | [d1, d2, d3] => { results := [.lit (.bool false)], args := [d1, d2, d3] }
  | _ => none }
def IndexBackWrongFalsely : Prop := indexBackRow.holds Try.pinned (OpenSpec.ofChange indexBackWrong)

/-- 'typeballlaw08.MoldRavel': WHATEVER THE INPUT: true; the input reads as it did. -/
def moldRavelSpec : ChangeSpec := { name := "moldRavel", fn := fun _ => fun
  | [d] => { results := [.lit (.bool true)], args := [d] }
  | _ => none }
def moldRavelRow : OpenClaim := { program := "ytlejgleocnemoaa", sum := "a02c6dfbbc802e0eb6653444885e3a26edbe068b22f5ff6a1e51abb5da970557", func := "typeball/typeballlaw08.MoldRavel", spec := "moldRavel", unfollowed := true, recurses := true, apart := false }
def MoldRavelSaid : Prop := moldRavelRow.holds Try.pinned (OpenSpec.ofChange moldRavelSpec)

/-- ITS FALSE NEIGHBOUR: 'it returns false'. Refute it at one input. -/
def moldRavelWrong : ChangeSpec := { name := "moldRavel", fn := fun _ => fun
  | [d] => { results := [.lit (.bool false)], args := [d] }
  | _ => none }
def MoldRavelWrongFalsely : Prop := moldRavelRow.holds Try.pinned (OpenSpec.ofChange moldRavelWrong)

/-- 'typeballlaw08.MoldBack': WHATEVER THE INPUT: true; the input reads as it did. -/
def moldBackSpec : ChangeSpec := { name := "moldBack", fn := fun _ => fun
  | [d1, d2] => { results := [.lit (.bool true)], args := [d1, d2] }
  | _ => none }
def moldBackRow : OpenClaim := { program := "ytlejgleocnemoaa", sum := "a02c6dfbbc802e0eb6653444885e3a26edbe068b22f5ff6a1e51abb5da970557", func := "typeball/typeballlaw08.MoldBack", spec := "moldBack", unfollowed := true, recurses := true, apart := false }
def MoldBackSaid : Prop := moldBackRow.holds Try.pinned (OpenSpec.ofChange moldBackSpec)

/-- ITS FALSE NEIGHBOUR: 'it returns false'. Refute it at one input. -/
def moldBackWrong : ChangeSpec := { name := "moldBack", fn := fun _ => fun
  | [d1, d2] => { results := [.lit (.bool false)], args := [d1, d2] }
  | _ => none }
def MoldBackWrongFalsely : Prop := moldBackRow.holds Try.pinned (OpenSpec.ofChange moldBackWrong)

/-- 'typeballlaw18.SolveBack': WHATEVER THE INPUT: true; the input reads as it did. -/
def solveBackSpec : ChangeSpec := { name := "solveBack", fn := fun _ => fun
  | [d1, d2] => { results := [.lit (.bool true)], args := [d1, d2] }
  | _ => none }
def solveBackRow : OpenClaim := { program := "ytlejgleocnemoaa", sum := "a02c6dfbbc802e0eb6653444885e3a26edbe068b22f5ff6a1e51abb5da970557", func := "typeball/typeballlaw18.SolveBack", spec := "solveBack", apart := false }
def SolveBackSaid : Prop := solveBackRow.holds Try.pinned (OpenSpec.ofChange solveBackSpec)

/-- ITS FALSE NEIGHBOUR: 'it returns false'. Refute it at one input. -/
def solveBackWrong : ChangeSpec := { name := "solveBack", fn := fun _ => fun
  | [d1, d2] => { results := [.lit (.bool false)], args := [d1, d2] }
  | _ => none }
def SolveBackWrongFalsely : Prop := solveBackRow.holds Try.pinned (OpenSpec.ofChange solveBackWrong)

/-- 'typeballlaw18.SolveTwice': WHATEVER THE INPUT: true; the input reads as it did. -/
def solveTwiceSpec : ChangeSpec := { name := "solveTwice", fn := fun _ => fun
  | [d1, d2] => { results := [.lit (.bool true)], args := [d1, d2] }
  | _ => none }
def solveTwiceRow : OpenClaim := { program := "ytlejgleocnemoaa", sum := "a02c6dfbbc802e0eb6653444885e3a26edbe068b22f5ff6a1e51abb5da970557", func := "typeball/typeballlaw18.SolveTwice", spec := "solveTwice", unfollowed := true, recurses := true, apart := false }
def SolveTwiceSaid : Prop := solveTwiceRow.holds Try.pinned (OpenSpec.ofChange solveTwiceSpec)

/-- ITS FALSE NEIGHBOUR: 'it returns false'. Refute it at one input. -/
def solveTwiceWrong : ChangeSpec := { name := "solveTwice", fn := fun _ => fun
  | [d1, d2] => { results := [.lit (.bool false)], args := [d1, d2] }
  | _ => none }
def SolveTwiceWrongFalsely : Prop := solveTwiceRow.holds Try.pinned (OpenSpec.ofChange solveTwiceWrong)

/- THE SECOND FORM. 'bulk': how many values and letters a reading holds, each counted each time it is reached (what is shared counts as often as it is met; a slice's spare places count too). A statement '..UptoSaid' is the law's where the arguments, and the package variables that the reading takes, are together of bulk at most 1048576: NARROWER than '..Said'. Prove '..Said' where nothing that the law and all that it calls make is longer than what came in: it says more and counts as full. Else prove '..UptoSaid'. A law counts once. -/
mutual
def uptoBulk {H : Type} : DataW H → Nat
  | .lit (.string bytes) => bytes.length + 1
  | .lit _ => 1
  | .nil => 1
  | .ptr d => uptoBulk d + 1
  | .slice elems spare => uptoBulkAll elems + uptoBulkAll spare + 1
  | .agg parts => uptoBulkAll parts + 1
  | .iface _ d => uptoBulk d + 1
  | .map entries => uptoBulkEntries entries + 1
  | .held _ => 1
def uptoBulkAll {H : Type} : List (DataW H) → Nat
  | [] => 0
  | d :: r => uptoBulk d + uptoBulkAll r
def uptoBulkEntries {H : Type} : List (Lit × DataW H) → Nat
  | [] => 0
  | x :: r => uptoBulkEntry x + uptoBulkEntries r
def uptoBulkEntry {H : Type} : Lit × DataW H → Nat
  | (.string bytes, d) => bytes.length + uptoBulk d + 1
  | (_, d) => uptoBulk d + 1
 end
def uptoSmall : (H : Type) → List (DataW H) → Bool := fun _ ds => decide (uptoBulkAll ds ≤ 1048576)
def OpenSpec.upto (s : _root_.Go.ChangeSpec) : _root_.Go.OpenSpec := { _root_.Go.OpenSpec.ofChange s with cond := some uptoSmall }

/-- 'typeballlaw16.BaseBack', WHERE WHAT IT READS IS OF BULK AT MOST 1048576: true; the input reads as it did. -/
def baseBackUptoRow : OpenClaim := { program := "ytlejgleocnemoaa", sum := "a02c6dfbbc802e0eb6653444885e3a26edbe068b22f5ff6a1e51abb5da970557", func := "typeball/typeballlaw16.BaseBack", spec := "baseBack", apart := false, narrowed := true }
def BaseBackUptoSaid : Prop := baseBackUptoRow.holds Try.pinned (OpenSpec.upto baseBackSpec)

/-- 'typeballlaw11.IndexBack', WHERE WHAT IT READS IS OF BULK AT MOST 1048576: true; the input reads as it did. -/
def indexBackUptoRow : OpenClaim := { program := "ytlejgleocnemoaa", sum := "a02c6dfbbc802e0eb6653444885e3a26edbe068b22f5ff6a1e51abb5da970557", func := "typeball/typeballlaw11.IndexBack", spec := "indexBack", unfollowed := true, recurses := true, apart := false, narrowed := true }
def IndexBackUptoSaid : Prop := indexBackUptoRow.holds Try.pinned (OpenSpec.upto indexBackSpec)

/-- 'typeballlaw08.MoldRavel', WHERE WHAT IT READS IS OF BULK AT MOST 1048576: true; the input reads as it did. -/
def moldRavelUptoRow : OpenClaim := { program := "ytlejgleocnemoaa", sum := "a02c6dfbbc802e0eb6653444885e3a26edbe068b22f5ff6a1e51abb5da970557", func := "typeball/typeballlaw08.MoldRavel", spec := "moldRavel", unfollowed := true, recurses := true, apart := false, narrowed := true }
def MoldRavelUptoSaid : Prop := moldRavelUptoRow.holds Try.pinned (OpenSpec.upto moldRavelSpec)

/-- 'typeballlaw08.MoldBack', WHERE WHAT IT READS IS OF BULK AT MOST 1048576: true; the input reads as it did. -/
def moldBackUptoRow : OpenClaim := { program := "ytlejgleocnemoaa", sum := "a02c6dfbbc802e0eb6653444885e3a26edbe068b22f5ff6a1e51abb5da970557", func := "typeball/typeballlaw08.MoldBack", spec := "moldBack", unfollowed := true, recurses := true, apart := false, narrowed := true }
def MoldBackUptoSaid : Prop := moldBackUptoRow.holds Try.pinned (OpenSpec.upto moldBackSpec)

/-- 'typeballlaw18.SolveBack', WHERE WHAT IT READS IS OF BULK AT MOST 1048576: true; the input reads as it did. -/
def solveBackUptoRow : OpenClaim := { program := "ytlejgleocnemoaa", sum := "a02c6dfbbc802e0eb6653444885e3a26edbe068b22f5ff6a1e51abb5da970557", func := "typeball/typeballlaw18.SolveBack", spec := "solveBack", apart := false, narrowed := true }
def SolveBackUptoSaid : Prop := solveBackUptoRow.holds Try.pinned (OpenSpec.upto solveBackSpec)

/-- 'typeballlaw18.SolveTwice', WHERE WHAT IT READS IS OF BULK AT MOST 1048576: true; the input reads as it did. -/
def solveTwiceUptoRow : OpenClaim := { program := "ytlejgleocnemoaa", sum := "a02c6dfbbc802e0eb6653444885e3a26edbe068b22f5ff6a1e51abb5da970557", func := "typeball/typeballlaw18.SolveTwice", spec := "solveTwice", unfollowed := true, recurses := true, apart := false, narrowed := true }
def SolveTwiceUptoSaid : Prop := solveTwiceUptoRow.holds Try.pinned (OpenSpec.upto solveTwiceSpec)

end Rows
end Go.Proofs.Ytlejgleocnemoaa
