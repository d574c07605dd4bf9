/-
  No cell of these rows narrows 'for every input' (looked for: loops, veiled, ifaces, maps, wideKeys, modest, calm, conditions, laid).
  DERIVED. THE GIVEN ROWS OF THIS SEAT. 10 by the template 'for every input the law returns true; each argument reads behind the call as it read before'; 0 by the template 'total and deterministic' (their statements: YtcmbaabkfihdmaaTotals.lean).
  GIVEN WITH THE SEED: the statements are not yours to turn. If you find one false, say at which input.
  Laid BY PROGRAM, IN A SANDBOX (cutbox-rows.mjs): the forced cells as the released guide's own fill.sh prints them over the translation 14cd2e2f74c4def0… (all of the seat's roots in one cut). By AI agents, Wed Nov 11 2026. No macro, syntax, notation, axiom, sorry.
-/
import Derived.Test.YtcmbaabkfihdmaaChecked
import GoSem.Claim
import GoSem.ClaimJoined
import GoSem.ClaimMapViews
import Derived.JoinedTies
import Derived.KernelRfl
namespace Go.Proofs.Ytcmbaabkfihdmaa
/- THE CELL 'sum', in the pinned program and in every row, IS THE sha256 OF THE DUMP (.gsa) THAT YtcmbaabkfihdmaaProg.lean LOADS. Nothing in Lean hashes anything: it is a label: what it is worth is what the hold of that sum in a sandbox is worth. -/
noncomputable def Try.pinned : Pinned := { name := "ytcmbaabkfihdmaa", sum := "14cd2e2f74c4def0967cdd1d3a904a64a5421ba26ce151212034849aa8099854", checked := Try.checked }
namespace Rows
def none {H : Type} : Left H := { results := [], args := [] }

/-- 'typeballlaw07.ShapeMisses': WHATEVER THE INPUT: true; the input reads as it did. -/
def shapeMissesSpec : ChangeSpec := { name := "shapeMisses", fn := fun _ => fun
  | [d1, d2, d3] => { results := [.lit (.bool true)], args := [d1, d2, d3] }
  | _ => none }
def shapeMissesRow : OpenClaim := { program := "ytcmbaabkfihdmaa", sum := "14cd2e2f74c4def0967cdd1d3a904a64a5421ba26ce151212034849aa8099854", func := "typeball/typeballlaw07.ShapeMisses", spec := "shapeMisses", apart := false }
def ShapeMissesSaid : Prop := shapeMissesRow.holds Try.pinned (OpenSpec.ofChange shapeMissesSpec)

/-- ITS FALSE NEIGHBOUR: 'it returns false'. Refute it at one input. -/
def shapeMissesWrong : ChangeSpec := { name := "shapeMisses", fn := fun _ => fun
  | [d1, d2, d3] => { results := [.lit (.bool false)], args := [d1, d2, d3] }
  | _ => none }
def ShapeMissesWrongFalsely : Prop := shapeMissesRow.holds Try.pinned (OpenSpec.ofChange shapeMissesWrong)

/-- 'typeballlaw07.ShapePlaces': WHATEVER THE INPUT: true; the input reads as it did. -/
def shapePlacesSpec : ChangeSpec := { name := "shapePlaces", fn := fun _ => fun
  | [d] => { results := [.lit (.bool true)], args := [d] }
  | _ => none }
def shapePlacesRow : OpenClaim := { program := "ytcmbaabkfihdmaa", sum := "14cd2e2f74c4def0967cdd1d3a904a64a5421ba26ce151212034849aa8099854", func := "typeball/typeballlaw07.ShapePlaces", spec := "shapePlaces", unfollowed := true, recurses := true, apart := false }
def ShapePlacesSaid : Prop := shapePlacesRow.holds Try.pinned (OpenSpec.ofChange shapePlacesSpec)

/-- ITS FALSE NEIGHBOUR: 'it returns false'. Refute it at one input. -/
def shapePlacesWrong : ChangeSpec := { name := "shapePlaces", fn := fun _ => fun
  | [d] => { results := [.lit (.bool false)], args := [d] }
  | _ => none }
def ShapePlacesWrongFalsely : Prop := shapePlacesRow.holds Try.pinned (OpenSpec.ofChange shapePlacesWrong)

/-- 'typeballlaw07.ShapeAxes': WHATEVER THE INPUT: true; the input reads as it did. -/
def shapeAxesSpec : ChangeSpec := { name := "shapeAxes", fn := fun _ => fun
  | [d1, d2, d3, d4] => { results := [.lit (.bool true)], args := [d1, d2, d3, d4] }
  | _ => none }
def shapeAxesRow : OpenClaim := { program := "ytcmbaabkfihdmaa", sum := "14cd2e2f74c4def0967cdd1d3a904a64a5421ba26ce151212034849aa8099854", func := "typeball/typeballlaw07.ShapeAxes", spec := "shapeAxes", apart := false }
def ShapeAxesSaid : Prop := shapeAxesRow.holds Try.pinned (OpenSpec.ofChange shapeAxesSpec)

/-- ITS FALSE NEIGHBOUR: 'it returns false'. Refute it at one input. -/
def shapeAxesWrong : ChangeSpec := { name := "shapeAxes", fn := fun _ => fun
  | [d1, d2, d3, d4] => { results := [.lit (.bool false)], args := [d1, d2, d3, d4] }
  | _ => none }
def ShapeAxesWrongFalsely : Prop := shapeAxesRow.holds Try.pinned (OpenSpec.ofChange shapeAxesWrong)

/-- 'typeballlaw06.ArrayCounts': WHATEVER THE INPUT: true; the input reads as it did. -/
def arrayCountsSpec : ChangeSpec := { name := "arrayCounts", fn := fun _ => fun
  | [d] => { results := [.lit (.bool true)], args := [d] }
  | _ => none }
def arrayCountsRow : OpenClaim := { program := "ytcmbaabkfihdmaa", sum := "14cd2e2f74c4def0967cdd1d3a904a64a5421ba26ce151212034849aa8099854", func := "typeball/typeballlaw06.ArrayCounts", spec := "arrayCounts", apart := false }
def ArrayCountsSaid : Prop := arrayCountsRow.holds Try.pinned (OpenSpec.ofChange arrayCountsSpec)

/-- ITS FALSE NEIGHBOUR: 'it returns false'. Refute it at one input. -/
def arrayCountsWrong : ChangeSpec := { name := "arrayCounts", fn := fun _ => fun
  | [d] => { results := [.lit (.bool false)], args := [d] }
  | _ => none }
def ArrayCountsWrongFalsely : Prop := arrayCountsRow.holds Try.pinned (OpenSpec.ofChange arrayCountsWrong)

/-- 'typeballlaw17.DrawApart': WHATEVER THE INPUT: true; the input reads as it did. -/
def drawApartSpec : ChangeSpec := { name := "drawApart", fn := fun _ => fun
  | [d1, d2, d3, d4] => { results := [.lit (.bool true)], args := [d1, d2, d3, d4] }
  | _ => none }
def drawApartRow : OpenClaim := { program := "ytcmbaabkfihdmaa", sum := "14cd2e2f74c4def0967cdd1d3a904a64a5421ba26ce151212034849aa8099854", func := "typeball/typeballlaw17.DrawApart", spec := "drawApart", apart := false }
def DrawApartSaid : Prop := drawApartRow.holds Try.pinned (OpenSpec.ofChange drawApartSpec)

/-- ITS FALSE NEIGHBOUR: 'it returns false'. Refute it at one input. -/
def drawApartWrong : ChangeSpec := { name := "drawApart", fn := fun _ => fun
  | [d1, d2, d3, d4] => { results := [.lit (.bool false)], args := [d1, d2, d3, d4] }
  | _ => none }
def DrawApartWrongFalsely : Prop := drawApartRow.holds Try.pinned (OpenSpec.ofChange drawApartWrong)

/-- 'typeballlaw17.DrawNumbers': WHATEVER THE INPUT: true; the input reads as it did. -/
def drawNumbersSpec : ChangeSpec := { name := "drawNumbers", fn := fun _ => fun
  | [d1, d2] => { results := [.lit (.bool true)], args := [d1, d2] }
  | _ => none }
def drawNumbersRow : OpenClaim := { program := "ytcmbaabkfihdmaa", sum := "14cd2e2f74c4def0967cdd1d3a904a64a5421ba26ce151212034849aa8099854", func := "typeball/typeballlaw17.DrawNumbers", spec := "drawNumbers", apart := false }
def DrawNumbersSaid : Prop := drawNumbersRow.holds Try.pinned (OpenSpec.ofChange drawNumbersSpec)

/-- ITS FALSE NEIGHBOUR: 'it returns false'. Refute it at one input. -/
def drawNumbersWrong : ChangeSpec := { name := "drawNumbers", fn := fun _ => fun
  | [d1, d2] => { results := [.lit (.bool false)], args := [d1, d2] }
  | _ => none }
def DrawNumbersWrongFalsely : Prop := drawNumbersRow.holds Try.pinned (OpenSpec.ofChange drawNumbersWrong)

/-- 'typeballlaw06.ArrayBuilds': WHATEVER THE INPUT: true; the input reads as it did. -/
def arrayBuildsSpec : ChangeSpec := { name := "arrayBuilds", fn := fun _ => fun
  | [d1, d2, d3, d4, d5] => { results := [.lit (.bool true)], args := [d1, d2, d3, d4, d5] }
  | _ => none }
def arrayBuildsRow : OpenClaim := { program := "ytcmbaabkfihdmaa", sum := "14cd2e2f74c4def0967cdd1d3a904a64a5421ba26ce151212034849aa8099854", func := "typeball/typeballlaw06.ArrayBuilds", spec := "arrayBuilds", apart := false }
def ArrayBuildsSaid : Prop := arrayBuildsRow.holds Try.pinned (OpenSpec.ofChange arrayBuildsSpec)

/-- ITS FALSE NEIGHBOUR: 'it returns false'. Refute it at one input. -/
def arrayBuildsWrong : ChangeSpec := { name := "arrayBuilds", fn := fun _ => fun
  | [d1, d2, d3, d4, d5] => { results := [.lit (.bool false)], args := [d1, d2, d3, d4, d5] }
  | _ => none }
def ArrayBuildsWrongFalsely : Prop := arrayBuildsRow.holds Try.pinned (OpenSpec.ofChange arrayBuildsWrong)

/-- 'typeballlaw06.ArrayPicks': WHATEVER THE INPUT: true; the input reads as it did. -/
def arrayPicksSpec : ChangeSpec := { name := "arrayPicks", fn := fun _ => fun
  | [d1, d2, d3] => { results := [.lit (.bool true)], args := [d1, d2, d3] }
  | _ => none }
def arrayPicksRow : OpenClaim := { program := "ytcmbaabkfihdmaa", sum := "14cd2e2f74c4def0967cdd1d3a904a64a5421ba26ce151212034849aa8099854", func := "typeball/typeballlaw06.ArrayPicks", spec := "arrayPicks", apart := false }
def ArrayPicksSaid : Prop := arrayPicksRow.holds Try.pinned (OpenSpec.ofChange arrayPicksSpec)

/-- ITS FALSE NEIGHBOUR: 'it returns false'. Refute it at one input. -/
def arrayPicksWrong : ChangeSpec := { name := "arrayPicks", fn := fun _ => fun
  | [d1, d2, d3] => { results := [.lit (.bool false)], args := [d1, d2, d3] }
  | _ => none }
def ArrayPicksWrongFalsely : Prop := arrayPicksRow.holds Try.pinned (OpenSpec.ofChange arrayPicksWrong)

/-- 'typeballlaw06.ArrayMakes': WHATEVER THE INPUT: true; the input reads as it did. -/
def arrayMakesSpec : ChangeSpec := { name := "arrayMakes", fn := fun _ => fun
  | [d1, d2] => { results := [.lit (.bool true)], args := [d1, d2] }
  | _ => none }
def arrayMakesRow : OpenClaim := { program := "ytcmbaabkfihdmaa", sum := "14cd2e2f74c4def0967cdd1d3a904a64a5421ba26ce151212034849aa8099854", func := "typeball/typeballlaw06.ArrayMakes", spec := "arrayMakes", apart := false }
def ArrayMakesSaid : Prop := arrayMakesRow.holds Try.pinned (OpenSpec.ofChange arrayMakesSpec)

/-- ITS FALSE NEIGHBOUR: 'it returns false'. Refute it at one input. -/
def arrayMakesWrong : ChangeSpec := { name := "arrayMakes", fn := fun _ => fun
  | [d1, d2] => { results := [.lit (.bool false)], args := [d1, d2] }
  | _ => none }
def ArrayMakesWrongFalsely : Prop := arrayMakesRow.holds Try.pinned (OpenSpec.ofChange arrayMakesWrong)

/-- 'typeballlaw06.ArraySames': WHATEVER THE INPUT: true; the input reads as it did. -/
def arraySamesSpec : ChangeSpec := { name := "arraySames", fn := fun _ => fun
  | [d1, d2] => { results := [.lit (.bool true)], args := [d1, d2] }
  | _ => none }
def arraySamesRow : OpenClaim := { program := "ytcmbaabkfihdmaa", sum := "14cd2e2f74c4def0967cdd1d3a904a64a5421ba26ce151212034849aa8099854", func := "typeball/typeballlaw06.ArraySames", spec := "arraySames", unfollowed := true, recurses := true, apart := false }
def ArraySamesSaid : Prop := arraySamesRow.holds Try.pinned (OpenSpec.ofChange arraySamesSpec)

/-- ITS FALSE NEIGHBOUR: 'it returns false'. Refute it at one input. -/
def arraySamesWrong : ChangeSpec := { name := "arraySames", fn := fun _ => fun
  | [d1, d2] => { results := [.lit (.bool false)], args := [d1, d2] }
  | _ => none }
def ArraySamesWrongFalsely : Prop := arraySamesRow.holds Try.pinned (OpenSpec.ofChange arraySamesWrong)

/- THE SECOND FORM. 'bulk': how many values and letters a reading holds, each counted each time it is reached (what is shared counts as often as it is met; a slice's spare places count too). A statement '..UptoSaid' is the law's where the arguments, and the package variables that the reading takes, are together of bulk at most 1048576: NARROWER than '..Said'. Prove '..Said' where nothing that the law and all that it calls make is longer than what came in: it says more and counts as full. Else prove '..UptoSaid'. A law counts once. -/
mutual
def uptoBulk {H : Type} : DataW H → Nat
  | .lit (.string bytes) => bytes.length + 1
  | .lit _ => 1
  | .nil => 1
  | .ptr d => uptoBulk d + 1
  | .slice elems spare => uptoBulkAll elems + uptoBulkAll spare + 1
  | .agg parts => uptoBulkAll parts + 1
  | .iface _ d => uptoBulk d + 1
  | .map entries => uptoBulkEntries entries + 1
  | .held _ => 1
def uptoBulkAll {H : Type} : List (DataW H) → Nat
  | [] => 0
  | d :: r => uptoBulk d + uptoBulkAll r
def uptoBulkEntries {H : Type} : List (Lit × DataW H) → Nat
  | [] => 0
  | x :: r => uptoBulkEntry x + uptoBulkEntries r
def uptoBulkEntry {H : Type} : Lit × DataW H → Nat
  | (.string bytes, d) => bytes.length + uptoBulk d + 1
  | (_, d) => uptoBulk d + 1
 end
def uptoSmall : (H : Type) → List (DataW H) → Bool := fun _ ds => decide (uptoBulkAll ds ≤ 1048576)
def OpenSpec.upto (s : _root_.Go.ChangeSpec) : _root_.Go.OpenSpec := { _root_.Go.OpenSpec.ofChange s with cond := some uptoSmall }

/-- 'typeballlaw07.ShapeMisses', WHERE WHAT IT READS IS OF BULK AT MOST 1048576: true; the input reads as it did. -/
def shapeMissesUptoRow : OpenClaim := { program := "ytcmbaabkfihdmaa", sum := "14cd2e2f74c4def0967cdd1d3a904a64a5421ba26ce151212034849aa8099854", func := "typeball/typeballlaw07.ShapeMisses", spec := "shapeMisses", apart := false, narrowed := true }
def ShapeMissesUptoSaid : Prop := shapeMissesUptoRow.holds Try.pinned (OpenSpec.upto shapeMissesSpec)

/-- 'typeballlaw07.ShapePlaces', WHERE WHAT IT READS IS OF BULK AT MOST 1048576: true; the input reads as it did. -/
def shapePlacesUptoRow : OpenClaim := { program := "ytcmbaabkfihdmaa", sum := "14cd2e2f74c4def0967cdd1d3a904a64a5421ba26ce151212034849aa8099854", func := "typeball/typeballlaw07.ShapePlaces", spec := "shapePlaces", unfollowed := true, recurses := true, apart := false, narrowed := true }
def ShapePlacesUptoSaid : Prop := shapePlacesUptoRow.holds Try.pinned (OpenSpec.upto shapePlacesSpec)

/-- 'typeballlaw07.ShapeAxes', WHERE WHAT IT READS IS OF BULK AT MOST 1048576: true; the input reads as it did. -/
def shapeAxesUptoRow : OpenClaim := { program := "ytcmbaabkfihdmaa", sum := "14cd2e2f74c4def0967cdd1d3a904a64a5421ba26ce151212034849aa8099854", func := "typeball/typeballlaw07.ShapeAxes", spec := "shapeAxes", apart := false, narrowed := true }
def ShapeAxesUptoSaid : Prop := shapeAxesUptoRow.holds Try.pinned (OpenSpec.upto shapeAxesSpec)

/-- 'typeballlaw06.ArrayCounts', WHERE WHAT IT READS IS OF BULK AT MOST 1048576: true; the input reads as it did. -/
def arrayCountsUptoRow : OpenClaim := { program := "ytcmbaabkfihdmaa", sum := "14cd2e2f74c4def0967cdd1d3a904a64a5421ba26ce151212034849aa8099854", func := "typeball/typeballlaw06.ArrayCounts", spec := "arrayCounts", apart := false, narrowed := true }
def ArrayCountsUptoSaid : Prop := arrayCountsUptoRow.holds Try.pinned (OpenSpec.upto arrayCountsSpec)

/-- 'typeballlaw17.DrawApart', WHERE WHAT IT READS IS OF BULK AT MOST 1048576: true; the input reads as it did. -/
def drawApartUptoRow : OpenClaim := { program := "ytcmbaabkfihdmaa", sum := "14cd2e2f74c4def0967cdd1d3a904a64a5421ba26ce151212034849aa8099854", func := "typeball/typeballlaw17.DrawApart", spec := "drawApart", apart := false, narrowed := true }
def DrawApartUptoSaid : Prop := drawApartUptoRow.holds Try.pinned (OpenSpec.upto drawApartSpec)

/-- 'typeballlaw17.DrawNumbers', WHERE WHAT IT READS IS OF BULK AT MOST 1048576: true; the input reads as it did. -/
def drawNumbersUptoRow : OpenClaim := { program := "ytcmbaabkfihdmaa", sum := "14cd2e2f74c4def0967cdd1d3a904a64a5421ba26ce151212034849aa8099854", func := "typeball/typeballlaw17.DrawNumbers", spec := "drawNumbers", apart := false, narrowed := true }
def DrawNumbersUptoSaid : Prop := drawNumbersUptoRow.holds Try.pinned (OpenSpec.upto drawNumbersSpec)

/-- 'typeballlaw06.ArrayBuilds', WHERE WHAT IT READS IS OF BULK AT MOST 1048576: true; the input reads as it did. -/
def arrayBuildsUptoRow : OpenClaim := { program := "ytcmbaabkfihdmaa", sum := "14cd2e2f74c4def0967cdd1d3a904a64a5421ba26ce151212034849aa8099854", func := "typeball/typeballlaw06.ArrayBuilds", spec := "arrayBuilds", apart := false, narrowed := true }
def ArrayBuildsUptoSaid : Prop := arrayBuildsUptoRow.holds Try.pinned (OpenSpec.upto arrayBuildsSpec)

/-- 'typeballlaw06.ArrayPicks', WHERE WHAT IT READS IS OF BULK AT MOST 1048576: true; the input reads as it did. -/
def arrayPicksUptoRow : OpenClaim := { program := "ytcmbaabkfihdmaa", sum := "14cd2e2f74c4def0967cdd1d3a904a64a5421ba26ce151212034849aa8099854", func := "typeball/typeballlaw06.ArrayPicks", spec := "arrayPicks", apart := false, narrowed := true }
def ArrayPicksUptoSaid : Prop := arrayPicksUptoRow.holds Try.pinned (OpenSpec.upto arrayPicksSpec)

/-- 'typeballlaw06.ArrayMakes', WHERE WHAT IT READS IS OF BULK AT MOST 1048576: true; the input reads as it did. -/
def arrayMakesUptoRow : OpenClaim := { program := "ytcmbaabkfihdmaa", sum := "14cd2e2f74c4def0967cdd1d3a904a64a5421ba26ce151212034849aa8099854", func := "typeball/typeballlaw06.ArrayMakes", spec := "arrayMakes", apart := false, narrowed := true }
def ArrayMakesUptoSaid : Prop := arrayMakesUptoRow.holds Try.pinned (OpenSpec.upto arrayMakesSpec)

/-- 'typeballlaw06.ArraySames', WHERE WHAT IT READS IS OF BULK AT MOST 1048576: true; the input reads as it did. -/
def arraySamesUptoRow : OpenClaim := { program := "ytcmbaabkfihdmaa", sum := "14cd2e2f74c4def0967cdd1d3a904a64a5421ba26ce151212034849aa8099854", func := "typeball/typeballlaw06.ArraySames", spec := "arraySames", unfollowed := true, recurses := true, apart := false, narrowed := true }
def ArraySamesUptoSaid : Prop := arraySamesUptoRow.holds Try.pinned (OpenSpec.upto arraySamesSpec)

end Rows
end Go.Proofs.Ytcmbaabkfihdmaa
