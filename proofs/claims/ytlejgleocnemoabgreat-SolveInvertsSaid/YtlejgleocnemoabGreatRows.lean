/-
  No cell of these rows narrows 'for every input' (looked for: loops, veiled, ifaces, maps, wideKeys, modest, calm, conditions, laid).
  DERIVED. THE GIVEN ROWS OF THIS SEAT. 5 by the template 'for every input the law returns true; each argument reads behind the call as it read before'; 0 by the template 'total and deterministic' (their statements: YtlejgleocnemoabGreatTotals.lean).
  GIVEN WITH THE SEED: the statements are not yours to turn. If you find one false, say at which input.
  Laid BY PROGRAM, IN A SANDBOX (cutbox-rows.mjs): the forced cells as the released guide's own fill.sh prints them over the translation d989bb68dd129224… (all of the seat's roots in one cut). By AI agents, Wed Nov 11 2026. No macro, syntax, notation, axiom, sorry.
-/
import Derived.Test.YtlejgleocnemoabGreatChecked
import GoSem.Claim
import GoSem.ClaimJoined
import GoSem.ClaimMapViews
import Derived.JoinedTies
import Derived.KernelRfl
namespace Go.Proofs.YtlejgleocnemoabGreat
/- THE CELL 'sum', in the pinned program and in every row, IS THE sha256 OF THE DUMP (.gsa) THAT YtlejgleocnemoabGreatProg.lean LOADS. Nothing in Lean hashes anything: it is a label: what it is worth is what the hold of that sum in a sandbox is worth. -/
noncomputable def Tryz.pinned : Pinned := { name := "ytlejgleocnemoabgreat", sum := "d989bb68dd129224ab93ab4641fe774725ac495cd49ed5067dbabcba31413d35", checked := Tryz.checked }
namespace Rows
def none {H : Type} : Left H := { results := [], args := [] }

/-- 'typeballlaw18.SolveDivides': WHATEVER THE INPUT: true; the input reads as it did. -/
def solveDividesSpec : ChangeSpec := { name := "solveDivides", fn := fun _ => fun
  | [d1, d2, d3] => { results := [.lit (.bool true)], args := [d1, d2, d3] }
  | _ => none }
def solveDividesRow : OpenClaim := { program := "ytlejgleocnemoabgreat", sum := "d989bb68dd129224ab93ab4641fe774725ac495cd49ed5067dbabcba31413d35", func := "typeball/typeballlaw18.SolveDivides", spec := "solveDivides", apart := false }
def SolveDividesSaid : Prop := solveDividesRow.holds Tryz.pinned (OpenSpec.ofChange solveDividesSpec)

/-- ITS FALSE NEIGHBOUR: 'it returns false'. Refute it at one input. -/
def solveDividesWrong : ChangeSpec := { name := "solveDivides", fn := fun _ => fun
  | [d1, d2, d3] => { results := [.lit (.bool false)], args := [d1, d2, d3] }
  | _ => none }
def SolveDividesWrongFalsely : Prop := solveDividesRow.holds Tryz.pinned (OpenSpec.ofChange solveDividesWrong)

/-- 'typeballlaw18.SolveInverts': WHATEVER THE INPUT: true; the input reads as it did. -/
def solveInvertsSpec : ChangeSpec := { name := "solveInverts", fn := fun _ => fun
  | [d1, d2] => { results := [.lit (.bool true)], args := [d1, d2] }
  | _ => none }
def solveInvertsRow : OpenClaim := { program := "ytlejgleocnemoabgreat", sum := "d989bb68dd129224ab93ab4641fe774725ac495cd49ed5067dbabcba31413d35", func := "typeball/typeballlaw18.SolveInverts", spec := "solveInverts", apart := false }
def SolveInvertsSaid : Prop := solveInvertsRow.holds Tryz.pinned (OpenSpec.ofChange solveInvertsSpec)

/-- ITS FALSE NEIGHBOUR: 'it returns false'. Refute it at one input. -/
def solveInvertsWrong : ChangeSpec := { name := "solveInverts", fn := fun _ => fun
  | [d1, d2] => { results := [.lit (.bool false)], args := [d1, d2] }
  | _ => none }
def SolveInvertsWrongFalsely : Prop := solveInvertsRow.holds Tryz.pinned (OpenSpec.ofChange solveInvertsWrong)

/-- 'typeballlaw15.FindOrders': WHATEVER THE INPUT: true; the input reads as it did. -/
def findOrdersSpec : ChangeSpec := { name := "findOrders", fn := fun _ => fun
  | [d1, d2, d3] => { results := [.lit (.bool true)], args := [d1, d2, d3] }
  | _ => none }
def findOrdersRow : OpenClaim := { program := "ytlejgleocnemoabgreat", sum := "d989bb68dd129224ab93ab4641fe774725ac495cd49ed5067dbabcba31413d35", func := "typeball/typeballlaw15.FindOrders", spec := "findOrders", unfollowed := true, recurses := true, apart := false }
def FindOrdersSaid : Prop := findOrdersRow.holds Tryz.pinned (OpenSpec.ofChange findOrdersSpec)

/-- ITS FALSE NEIGHBOUR: 'it returns false'. Refute it at one input. -/
def findOrdersWrong : ChangeSpec := { name := "findOrders", fn := fun _ => fun
  | [d1, d2, d3] => { results := [.lit (.bool false)], args := [d1, d2, d3] }
  | _ => none }
def FindOrdersWrongFalsely : Prop := findOrdersRow.holds Tryz.pinned (OpenSpec.ofChange findOrdersWrong)

/-- 'typeballlaw15.FindRises': WHATEVER THE INPUT: true; the input reads as it did. -/
def findRisesSpec : ChangeSpec := { name := "findRises", fn := fun _ => fun
  | [d] => { results := [.lit (.bool true)], args := [d] }
  | _ => none }
def findRisesRow : OpenClaim := { program := "ytlejgleocnemoabgreat", sum := "d989bb68dd129224ab93ab4641fe774725ac495cd49ed5067dbabcba31413d35", func := "typeball/typeballlaw15.FindRises", spec := "findRises", unfollowed := true, recurses := true, apart := false }
def FindRisesSaid : Prop := findRisesRow.holds Tryz.pinned (OpenSpec.ofChange findRisesSpec)

/-- ITS FALSE NEIGHBOUR: 'it returns false'. Refute it at one input. -/
def findRisesWrong : ChangeSpec := { name := "findRises", fn := fun _ => fun
  | [d] => { results := [.lit (.bool false)], args := [d] }
  | _ => none }
def FindRisesWrongFalsely : Prop := findRisesRow.holds Tryz.pinned (OpenSpec.ofChange findRisesWrong)

/-- 'typeballlaw15.FindPlaces': WHATEVER THE INPUT: true; the input reads as it did. -/
def findPlacesSpec : ChangeSpec := { name := "findPlaces", fn := fun _ => fun
  | [d1, d2, d3] => { results := [.lit (.bool true)], args := [d1, d2, d3] }
  | _ => none }
def findPlacesRow : OpenClaim := { program := "ytlejgleocnemoabgreat", sum := "d989bb68dd129224ab93ab4641fe774725ac495cd49ed5067dbabcba31413d35", func := "typeball/typeballlaw15.FindPlaces", spec := "findPlaces", unfollowed := true, recurses := true, apart := false }
def FindPlacesSaid : Prop := findPlacesRow.holds Tryz.pinned (OpenSpec.ofChange findPlacesSpec)

/-- ITS FALSE NEIGHBOUR: 'it returns false'. Refute it at one input. -/
def findPlacesWrong : ChangeSpec := { name := "findPlaces", fn := fun _ => fun
  | [d1, d2, d3] => { results := [.lit (.bool false)], args := [d1, d2, d3] }
  | _ => none }
def FindPlacesWrongFalsely : Prop := findPlacesRow.holds Tryz.pinned (OpenSpec.ofChange findPlacesWrong)

/- THE SECOND FORM. 'bulk': how many values and letters a reading holds, each counted each time it is reached (what is shared counts as often as it is met; a slice's spare places count too). A statement '..UptoSaid' is the law's where the arguments, and the package variables that the reading takes, are together of bulk at most 1048576: NARROWER than '..Said'. Prove '..Said' where nothing that the law and all that it calls make is longer than what came in: it says more and counts as full. Else prove '..UptoSaid'. A law counts once. -/
mutual
def uptoBulk {H : Type} : DataW H → Nat
  | .lit (.string bytes) => bytes.length + 1
  | .lit _ => 1
  | .nil => 1
  | .ptr d => uptoBulk d + 1
  | .slice elems spare => uptoBulkAll elems + uptoBulkAll spare + 1
  | .agg parts => uptoBulkAll parts + 1
  | .iface _ d => uptoBulk d + 1
  | .map entries => uptoBulkEntries entries + 1
  | .held _ => 1
def uptoBulkAll {H : Type} : List (DataW H) → Nat
  | [] => 0
  | d :: r => uptoBulk d + uptoBulkAll r
def uptoBulkEntries {H : Type} : List (Lit × DataW H) → Nat
  | [] => 0
  | x :: r => uptoBulkEntry x + uptoBulkEntries r
def uptoBulkEntry {H : Type} : Lit × DataW H → Nat
  | (.string bytes, d) => bytes.length + uptoBulk d + 1
  | (_, d) => uptoBulk d + 1
 end
def uptoSmall : (H : Type) → List (DataW H) → Bool := fun _ ds => decide (uptoBulkAll ds ≤ 1048576)
def OpenSpec.upto (s : _root_.Go.ChangeSpec) : _root_.Go.OpenSpec := { _root_.Go.OpenSpec.ofChange s with cond := some uptoSmall }

/-- 'typeballlaw18.SolveDivides', WHERE WHAT IT READS IS OF BULK AT MOST 1048576: true; the input reads as it did. -/
def solveDividesUptoRow : OpenClaim := { program := "ytlejgleocnemoabgreat", sum := "d989bb68dd129224ab93ab4641fe774725ac495cd49ed5067dbabcba31413d35", func := "typeball/typeballlaw18.SolveDivides", spec := "solveDivides", apart := false, narrowed := true }
def SolveDividesUptoSaid : Prop := solveDividesUptoRow.holds Tryz.pinned (OpenSpec.upto solveDividesSpec)

/-- 'typeballlaw18.SolveInverts', WHERE WHAT IT READS IS OF BULK AT MOST 1048576: true; the input reads as it did. -/
def solveInvertsUptoRow : OpenClaim := { program := "ytlejgleocnemoabgreat", sum := "d989bb68dd129224ab93ab4641fe774725ac495cd49ed5067dbabcba31413d35", func := "typeball/typeballlaw18.SolveInverts", spec := "solveInverts", apart := false, narrowed := true }
def SolveInvertsUptoSaid : Prop := solveInvertsUptoRow.holds Tryz.pinned (OpenSpec.upto solveInvertsSpec)

/-- 'typeballlaw15.FindOrders', WHERE WHAT IT READS IS OF BULK AT MOST 1048576: true; the input reads as it did. -/
def findOrdersUptoRow : OpenClaim := { program := "ytlejgleocnemoabgreat", sum := "d989bb68dd129224ab93ab4641fe774725ac495cd49ed5067dbabcba31413d35", func := "typeball/typeballlaw15.FindOrders", spec := "findOrders", unfollowed := true, recurses := true, apart := false, narrowed := true }
def FindOrdersUptoSaid : Prop := findOrdersUptoRow.holds Tryz.pinned (OpenSpec.upto findOrdersSpec)

/-- 'typeballlaw15.FindRises', WHERE WHAT IT READS IS OF BULK AT MOST 1048576: true; the input reads as it did. -/
def findRisesUptoRow : OpenClaim := { program := "ytlejgleocnemoabgreat", sum := "d989bb68dd129224ab93ab4641fe774725ac495cd49ed5067dbabcba31413d35", func := "typeball/typeballlaw15.FindRises", spec := "findRises", unfollowed := true, recurses := true, apart := false, narrowed := true }
def FindRisesUptoSaid : Prop := findRisesUptoRow.holds Tryz.pinned (OpenSpec.upto findRisesSpec)

/-- 'typeballlaw15.FindPlaces', WHERE WHAT IT READS IS OF BULK AT MOST 1048576: true; the input reads as it did. -/
def findPlacesUptoRow : OpenClaim := { program := "ytlejgleocnemoabgreat", sum := "d989bb68dd129224ab93ab4641fe774725ac495cd49ed5067dbabcba31413d35", func := "typeball/typeballlaw15.FindPlaces", spec := "findPlaces", unfollowed := true, recurses := true, apart := false, narrowed := true }
def FindPlacesUptoSaid : Prop := findPlacesUptoRow.holds Tryz.pinned (OpenSpec.upto findPlacesSpec)

end Rows
end Go.Proofs.YtlejgleocnemoabGreat
