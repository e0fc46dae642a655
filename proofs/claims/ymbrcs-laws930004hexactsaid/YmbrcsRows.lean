/-
  No cell of these rows narrows 'for every input' (looked for: loops, veiled, ifaces, maps, wideKeys, modest, calm, conditions, laid).
  DERIVED. THE GIVEN ROWS OF THIS SEAT. 12 by the template 'for every input the law returns true; each argument reads behind the call as it read before'; 0 by the template 'total and deterministic' (their statements: YmbrcsTotals.lean).
  GIVEN WITH THE SEED: the statements are not yours to turn. If you find one false, say at which input.
  Laid BY PROGRAM, IN A SANDBOX (cutbox-rows.mjs): the forced cells as the released guide's own fill.sh prints them over the translation 6763ef136e44ebe4… (all of the seat's roots in one cut). By AI agents, Wed Nov 11 2026. No macro, syntax, notation, axiom, sorry.
-/
import Derived.Test.YmbrcsChecked
import GoSem.Claim
import GoSem.ClaimJoined
import GoSem.ClaimMapViews
import Derived.JoinedTies
import Derived.KernelRfl
namespace Go.Proofs.Ymbrcs
/- THE CELL 'sum', in the pinned program and in every row, IS THE sha256 OF THE DUMP (.gsa) THAT YmbrcsProg.lean LOADS. Nothing in Lean hashes anything: it is a label: what it is worth is what the hold of that sum in a sandbox is worth. -/
noncomputable def Ycsm.pinned : Pinned := { name := "ymbrcs", sum := "6763ef136e44ebe4c8eba78801534d2f7d1ef948beb67b5425cb0067bf299125", checked := Ycsm.checked }
namespace Rows
def none {H : Type} : Left H := { results := [], args := [] }

/-- 'hexdump.LawS930004EExact': WHATEVER THE INPUT: true; the input reads as it did. -/
def lawS930004EExactSpec : ChangeSpec := { name := "lawS930004EExact", fn := fun _ => fun
  | [d] => { results := [.lit (.bool true)], args := [d] }
  | _ => none }
def lawS930004EExactRow : OpenClaim := { program := "ymbrcs", sum := "6763ef136e44ebe4c8eba78801534d2f7d1ef948beb67b5425cb0067bf299125", func := "example.com/own/hexdump.LawS930004EExact", spec := "lawS930004EExact", apart := false }
def LawS930004EExactSaid : Prop := lawS930004EExactRow.holds Ycsm.pinned (OpenSpec.ofChange lawS930004EExactSpec)

/-- ITS FALSE NEIGHBOUR: 'it returns false'. Refute it at one input. -/
def lawS930004EExactWrong : ChangeSpec := { name := "lawS930004EExact", fn := fun _ => fun
  | [d] => { results := [.lit (.bool false)], args := [d] }
  | _ => none }
def LawS930004EExactWrongFalsely : Prop := lawS930004EExactRow.holds Ycsm.pinned (OpenSpec.ofChange lawS930004EExactWrong)

/-- 'hexdump.LawS930004ERoundTrip': WHATEVER THE INPUT: true; the input reads as it did. -/
def lawS930004ERoundTripSpec : ChangeSpec := { name := "lawS930004ERoundTrip", fn := fun _ => fun
  | [d] => { results := [.lit (.bool true)], args := [d] }
  | _ => none }
def lawS930004ERoundTripRow : OpenClaim := { program := "ymbrcs", sum := "6763ef136e44ebe4c8eba78801534d2f7d1ef948beb67b5425cb0067bf299125", func := "example.com/own/hexdump.LawS930004ERoundTrip", spec := "lawS930004ERoundTrip", apart := false }
def LawS930004ERoundTripSaid : Prop := lawS930004ERoundTripRow.holds Ycsm.pinned (OpenSpec.ofChange lawS930004ERoundTripSpec)

/-- ITS FALSE NEIGHBOUR: 'it returns false'. Refute it at one input. -/
def lawS930004ERoundTripWrong : ChangeSpec := { name := "lawS930004ERoundTrip", fn := fun _ => fun
  | [d] => { results := [.lit (.bool false)], args := [d] }
  | _ => none }
def LawS930004ERoundTripWrongFalsely : Prop := lawS930004ERoundTripRow.holds Ycsm.pinned (OpenSpec.ofChange lawS930004ERoundTripWrong)

/-- 'hexdump.LawS930004ESpoil': WHATEVER THE INPUT: true; the input reads as it did. -/
def lawS930004ESpoilSpec : ChangeSpec := { name := "lawS930004ESpoil", fn := fun _ => fun
  | [d1, d2, d3, d4] => { results := [.lit (.bool true)], args := [d1, d2, d3, d4] }
  | _ => none }
def lawS930004ESpoilRow : OpenClaim := { program := "ymbrcs", sum := "6763ef136e44ebe4c8eba78801534d2f7d1ef948beb67b5425cb0067bf299125", func := "example.com/own/hexdump.LawS930004ESpoil", spec := "lawS930004ESpoil", apart := false }
def LawS930004ESpoilSaid : Prop := lawS930004ESpoilRow.holds Ycsm.pinned (OpenSpec.ofChange lawS930004ESpoilSpec)

/-- ITS FALSE NEIGHBOUR: 'it returns false'. Refute it at one input. -/
def lawS930004ESpoilWrong : ChangeSpec := { name := "lawS930004ESpoil", fn := fun _ => fun
  | [d1, d2, d3, d4] => { results := [.lit (.bool false)], args := [d1, d2, d3, d4] }
  | _ => none }
def LawS930004ESpoilWrongFalsely : Prop := lawS930004ESpoilRow.holds Ycsm.pinned (OpenSpec.ofChange lawS930004ESpoilWrong)

/-- 'hexdump.LawS930004FExact': WHATEVER THE INPUT: true; the input reads as it did. -/
def lawS930004FExactSpec : ChangeSpec := { name := "lawS930004FExact", fn := fun _ => fun
  | [d1, d2, d3] => { results := [.lit (.bool true)], args := [d1, d2, d3] }
  | _ => none }
def lawS930004FExactRow : OpenClaim := { program := "ymbrcs", sum := "6763ef136e44ebe4c8eba78801534d2f7d1ef948beb67b5425cb0067bf299125", func := "example.com/own/hexdump.LawS930004FExact", spec := "lawS930004FExact", apart := false }
def LawS930004FExactSaid : Prop := lawS930004FExactRow.holds Ycsm.pinned (OpenSpec.ofChange lawS930004FExactSpec)

/-- ITS FALSE NEIGHBOUR: 'it returns false'. Refute it at one input. -/
def lawS930004FExactWrong : ChangeSpec := { name := "lawS930004FExact", fn := fun _ => fun
  | [d1, d2, d3] => { results := [.lit (.bool false)], args := [d1, d2, d3] }
  | _ => none }
def LawS930004FExactWrongFalsely : Prop := lawS930004FExactRow.holds Ycsm.pinned (OpenSpec.ofChange lawS930004FExactWrong)

/-- 'hexdump.LawS930004FInPlace': WHATEVER THE INPUT: true; the input reads as it did. -/
def lawS930004FInPlaceSpec : ChangeSpec := { name := "lawS930004FInPlace", fn := fun _ => fun
  | [d1, d2, d3, d4, d5, d6, d7] => { results := [.lit (.bool true)], args := [d1, d2, d3, d4, d5, d6, d7] }
  | _ => none }
def lawS930004FInPlaceRow : OpenClaim := { program := "ymbrcs", sum := "6763ef136e44ebe4c8eba78801534d2f7d1ef948beb67b5425cb0067bf299125", func := "example.com/own/hexdump.LawS930004FInPlace", spec := "lawS930004FInPlace", apart := false }
def LawS930004FInPlaceSaid : Prop := lawS930004FInPlaceRow.holds Ycsm.pinned (OpenSpec.ofChange lawS930004FInPlaceSpec)

/-- ITS FALSE NEIGHBOUR: 'it returns false'. Refute it at one input. -/
def lawS930004FInPlaceWrong : ChangeSpec := { name := "lawS930004FInPlace", fn := fun _ => fun
  | [d1, d2, d3, d4, d5, d6, d7] => { results := [.lit (.bool false)], args := [d1, d2, d3, d4, d5, d6, d7] }
  | _ => none }
def LawS930004FInPlaceWrongFalsely : Prop := lawS930004FInPlaceRow.holds Ycsm.pinned (OpenSpec.ofChange lawS930004FInPlaceWrong)

/-- 'hexdump.LawS930004GTable': WHATEVER THE INPUT: true; the input reads as it did. -/
def lawS930004GTableSpec : ChangeSpec := { name := "lawS930004GTable", fn := fun _ => fun
  | [d1, d2] => { results := [.lit (.bool true)], args := [d1, d2] }
  | _ => none }
def lawS930004GTableRow : OpenClaim := { program := "ymbrcs", sum := "6763ef136e44ebe4c8eba78801534d2f7d1ef948beb67b5425cb0067bf299125", func := "example.com/own/hexdump.LawS930004GTable", spec := "lawS930004GTable", apart := false }
def LawS930004GTableSaid : Prop := lawS930004GTableRow.holds Ycsm.pinned (OpenSpec.ofChange lawS930004GTableSpec)

/-- ITS FALSE NEIGHBOUR: 'it returns false'. Refute it at one input. -/
def lawS930004GTableWrong : ChangeSpec := { name := "lawS930004GTable", fn := fun _ => fun
  | [d1, d2] => { results := [.lit (.bool false)], args := [d1, d2] }
  | _ => none }
def LawS930004GTableWrongFalsely : Prop := lawS930004GTableRow.holds Ycsm.pinned (OpenSpec.ofChange lawS930004GTableWrong)

/-- 'hexdump.LawS930004GDigit': WHATEVER THE INPUT: true; the input reads as it did. -/
def lawS930004GDigitSpec : ChangeSpec := { name := "lawS930004GDigit", fn := fun _ => fun
  | [d] => { results := [.lit (.bool true)], args := [d] }
  | _ => none }
def lawS930004GDigitRow : OpenClaim := { program := "ymbrcs", sum := "6763ef136e44ebe4c8eba78801534d2f7d1ef948beb67b5425cb0067bf299125", func := "example.com/own/hexdump.LawS930004GDigit", spec := "lawS930004GDigit", apart := false }
def LawS930004GDigitSaid : Prop := lawS930004GDigitRow.holds Ycsm.pinned (OpenSpec.ofChange lawS930004GDigitSpec)

/-- ITS FALSE NEIGHBOUR: 'it returns false'. Refute it at one input. -/
def lawS930004GDigitWrong : ChangeSpec := { name := "lawS930004GDigit", fn := fun _ => fun
  | [d] => { results := [.lit (.bool false)], args := [d] }
  | _ => none }
def LawS930004GDigitWrongFalsely : Prop := lawS930004GDigitRow.holds Ycsm.pinned (OpenSpec.ofChange lawS930004GDigitWrong)

/-- 'hexdump.LawS930004HRound': WHATEVER THE INPUT: true; the input reads as it did. -/
def lawS930004HRoundSpec : ChangeSpec := { name := "lawS930004HRound", fn := fun _ => fun
  | [d1, d2, d3, d4, d5] => { results := [.lit (.bool true)], args := [d1, d2, d3, d4, d5] }
  | _ => none }
def lawS930004HRoundRow : OpenClaim := { program := "ymbrcs", sum := "6763ef136e44ebe4c8eba78801534d2f7d1ef948beb67b5425cb0067bf299125", func := "example.com/own/hexdump.LawS930004HRound", spec := "lawS930004HRound", apart := false }
def LawS930004HRoundSaid : Prop := lawS930004HRoundRow.holds Ycsm.pinned (OpenSpec.ofChange lawS930004HRoundSpec)

/-- ITS FALSE NEIGHBOUR: 'it returns false'. Refute it at one input. -/
def lawS930004HRoundWrong : ChangeSpec := { name := "lawS930004HRound", fn := fun _ => fun
  | [d1, d2, d3, d4, d5] => { results := [.lit (.bool false)], args := [d1, d2, d3, d4, d5] }
  | _ => none }
def LawS930004HRoundWrongFalsely : Prop := lawS930004HRoundRow.holds Ycsm.pinned (OpenSpec.ofChange lawS930004HRoundWrong)

/-- 'hexdump.LawS930004HExact': WHATEVER THE INPUT: true; the input reads as it did. -/
def lawS930004HExactSpec : ChangeSpec := { name := "lawS930004HExact", fn := fun _ => fun
  | [d1, d2, d3, d4, d5, d6, d7, d8, d9] => { results := [.lit (.bool true)], args := [d1, d2, d3, d4, d5, d6, d7, d8, d9] }
  | _ => none }
def lawS930004HExactRow : OpenClaim := { program := "ymbrcs", sum := "6763ef136e44ebe4c8eba78801534d2f7d1ef948beb67b5425cb0067bf299125", func := "example.com/own/hexdump.LawS930004HExact", spec := "lawS930004HExact", apart := false }
def LawS930004HExactSaid : Prop := lawS930004HExactRow.holds Ycsm.pinned (OpenSpec.ofChange lawS930004HExactSpec)

/-- ITS FALSE NEIGHBOUR: 'it returns false'. Refute it at one input. -/
def lawS930004HExactWrong : ChangeSpec := { name := "lawS930004HExact", fn := fun _ => fun
  | [d1, d2, d3, d4, d5, d6, d7, d8, d9] => { results := [.lit (.bool false)], args := [d1, d2, d3, d4, d5, d6, d7, d8, d9] }
  | _ => none }
def LawS930004HExactWrongFalsely : Prop := lawS930004HExactRow.holds Ycsm.pinned (OpenSpec.ofChange lawS930004HExactWrong)

/-- 'hexdump.LawS930004IWalk': WHATEVER THE INPUT: true; the input reads as it did. -/
def lawS930004IWalkSpec : ChangeSpec := { name := "lawS930004IWalk", fn := fun _ => fun
  | [d1, d2, d3] => { results := [.lit (.bool true)], args := [d1, d2, d3] }
  | _ => none }
def lawS930004IWalkRow : OpenClaim := { program := "ymbrcs", sum := "6763ef136e44ebe4c8eba78801534d2f7d1ef948beb67b5425cb0067bf299125", func := "example.com/own/hexdump.LawS930004IWalk", spec := "lawS930004IWalk", apart := false }
def LawS930004IWalkSaid : Prop := lawS930004IWalkRow.holds Ycsm.pinned (OpenSpec.ofChange lawS930004IWalkSpec)

/-- ITS FALSE NEIGHBOUR: 'it returns false'. Refute it at one input. -/
def lawS930004IWalkWrong : ChangeSpec := { name := "lawS930004IWalk", fn := fun _ => fun
  | [d1, d2, d3] => { results := [.lit (.bool false)], args := [d1, d2, d3] }
  | _ => none }
def LawS930004IWalkWrongFalsely : Prop := lawS930004IWalkRow.holds Ycsm.pinned (OpenSpec.ofChange lawS930004IWalkWrong)

/-- 'hexdump.LawS930004IPlanted': WHATEVER THE INPUT: true; the input reads as it did. -/
def lawS930004IPlantedSpec : ChangeSpec := { name := "lawS930004IPlanted", fn := fun _ => fun
  | [d1, d2, d3, d4, d5, d6, d7] => { results := [.lit (.bool true)], args := [d1, d2, d3, d4, d5, d6, d7] }
  | _ => none }
def lawS930004IPlantedRow : OpenClaim := { program := "ymbrcs", sum := "6763ef136e44ebe4c8eba78801534d2f7d1ef948beb67b5425cb0067bf299125", func := "example.com/own/hexdump.LawS930004IPlanted", spec := "lawS930004IPlanted", apart := false }
def LawS930004IPlantedSaid : Prop := lawS930004IPlantedRow.holds Ycsm.pinned (OpenSpec.ofChange lawS930004IPlantedSpec)

/-- ITS FALSE NEIGHBOUR: 'it returns false'. Refute it at one input. -/
def lawS930004IPlantedWrong : ChangeSpec := { name := "lawS930004IPlanted", fn := fun _ => fun
  | [d1, d2, d3, d4, d5, d6, d7] => { results := [.lit (.bool false)], args := [d1, d2, d3, d4, d5, d6, d7] }
  | _ => none }
def LawS930004IPlantedWrongFalsely : Prop := lawS930004IPlantedRow.holds Ycsm.pinned (OpenSpec.ofChange lawS930004IPlantedWrong)

/-- 'hexdump.LawS930004JTable': WHATEVER THE INPUT: true; the input reads as it did. -/
def lawS930004JTableSpec : ChangeSpec := { name := "lawS930004JTable", fn := fun _ => fun
  | [d] => { results := [.lit (.bool true)], args := [d] }
  | _ => none }
def lawS930004JTableRow : OpenClaim := { program := "ymbrcs", sum := "6763ef136e44ebe4c8eba78801534d2f7d1ef948beb67b5425cb0067bf299125", func := "example.com/own/hexdump.LawS930004JTable", spec := "lawS930004JTable", apart := false }
def LawS930004JTableSaid : Prop := lawS930004JTableRow.holds Ycsm.pinned (OpenSpec.ofChange lawS930004JTableSpec)

/-- ITS FALSE NEIGHBOUR: 'it returns false'. Refute it at one input. -/
def lawS930004JTableWrong : ChangeSpec := { name := "lawS930004JTable", fn := fun _ => fun
  | [d] => { results := [.lit (.bool false)], args := [d] }
  | _ => none }
def LawS930004JTableWrongFalsely : Prop := lawS930004JTableRow.holds Ycsm.pinned (OpenSpec.ofChange lawS930004JTableWrong)

end Rows
end Go.Proofs.Ymbrcs
