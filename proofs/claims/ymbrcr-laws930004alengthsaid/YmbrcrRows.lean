/-
  No cell of these rows narrows 'for every input' (looked for: loops, veiled, ifaces, maps, wideKeys, modest, calm, conditions, laid).
  DERIVED. THE GIVEN ROWS OF THIS SEAT. 12 by the template 'for every input the law returns true; each argument reads behind the call as it read before'; 0 by the template 'total and deterministic' (their statements: YmbrcrTotals.lean).
  GIVEN WITH THE SEED: the statements are not yours to turn. If you find one false, say at which input.
  Laid BY PROGRAM, IN A SANDBOX (cutbox-rows.mjs): the forced cells as the released guide's own fill.sh prints them over the translation 64a9c026415c8a71… (all of the seat's roots in one cut). By AI agents, Wed Nov 11 2026. No macro, syntax, notation, axiom, sorry.
-/
import Derived.Test.YmbrcrChecked
import GoSem.Claim
import GoSem.ClaimJoined
import GoSem.ClaimMapViews
import Derived.JoinedTies
import Derived.KernelRfl
namespace Go.Proofs.Ymbrcr
/- THE CELL 'sum', in the pinned program and in every row, IS THE sha256 OF THE DUMP (.gsa) THAT YmbrcrProg.lean LOADS. Nothing in Lean hashes anything: it is a label: what it is worth is what the hold of that sum in a sandbox is worth. -/
noncomputable def Ycrm.pinned : Pinned := { name := "ymbrcr", sum := "64a9c026415c8a7102b3949fa3cde5fb5db4bad8c0cf78eb68f92577a6e19d5c", checked := Ycrm.checked }
namespace Rows
def none {H : Type} : Left H := { results := [], args := [] }

/-- 'hexdump.LawS930004AExact': WHATEVER THE INPUT: true; the input reads as it did. -/
def lawS930004AExactSpec : ChangeSpec := { name := "lawS930004AExact", fn := fun _ => fun
  | [d] => { results := [.lit (.bool true)], args := [d] }
  | _ => none }
def lawS930004AExactRow : OpenClaim := { program := "ymbrcr", sum := "64a9c026415c8a7102b3949fa3cde5fb5db4bad8c0cf78eb68f92577a6e19d5c", func := "example.com/own/hexdump.LawS930004AExact", spec := "lawS930004AExact", apart := false }
def LawS930004AExactSaid : Prop := lawS930004AExactRow.holds Ycrm.pinned (OpenSpec.ofChange lawS930004AExactSpec)

/-- ITS FALSE NEIGHBOUR: 'it returns false'. Refute it at one input. -/
def lawS930004AExactWrong : ChangeSpec := { name := "lawS930004AExact", fn := fun _ => fun
  | [d] => { results := [.lit (.bool false)], args := [d] }
  | _ => none }
def LawS930004AExactWrongFalsely : Prop := lawS930004AExactRow.holds Ycrm.pinned (OpenSpec.ofChange lawS930004AExactWrong)

/-- 'hexdump.LawS930004ALength': WHATEVER THE INPUT: true; the input reads as it did. -/
def lawS930004ALengthSpec : ChangeSpec := { name := "lawS930004ALength", fn := fun _ => fun
  | [d] => { results := [.lit (.bool true)], args := [d] }
  | _ => none }
def lawS930004ALengthRow : OpenClaim := { program := "ymbrcr", sum := "64a9c026415c8a7102b3949fa3cde5fb5db4bad8c0cf78eb68f92577a6e19d5c", func := "example.com/own/hexdump.LawS930004ALength", spec := "lawS930004ALength", apart := false }
def LawS930004ALengthSaid : Prop := lawS930004ALengthRow.holds Ycrm.pinned (OpenSpec.ofChange lawS930004ALengthSpec)

/-- ITS FALSE NEIGHBOUR: 'it returns false'. Refute it at one input. -/
def lawS930004ALengthWrong : ChangeSpec := { name := "lawS930004ALength", fn := fun _ => fun
  | [d] => { results := [.lit (.bool false)], args := [d] }
  | _ => none }
def LawS930004ALengthWrongFalsely : Prop := lawS930004ALengthRow.holds Ycrm.pinned (OpenSpec.ofChange lawS930004ALengthWrong)

/-- 'hexdump.LawS930004ASwap': WHATEVER THE INPUT: true; the input reads as it did. -/
def lawS930004ASwapSpec : ChangeSpec := { name := "lawS930004ASwap", fn := fun _ => fun
  | [d1, d2, d3, d4] => { results := [.lit (.bool true)], args := [d1, d2, d3, d4] }
  | _ => none }
def lawS930004ASwapRow : OpenClaim := { program := "ymbrcr", sum := "64a9c026415c8a7102b3949fa3cde5fb5db4bad8c0cf78eb68f92577a6e19d5c", func := "example.com/own/hexdump.LawS930004ASwap", spec := "lawS930004ASwap", apart := false }
def LawS930004ASwapSaid : Prop := lawS930004ASwapRow.holds Ycrm.pinned (OpenSpec.ofChange lawS930004ASwapSpec)

/-- ITS FALSE NEIGHBOUR: 'it returns false'. Refute it at one input. -/
def lawS930004ASwapWrong : ChangeSpec := { name := "lawS930004ASwap", fn := fun _ => fun
  | [d1, d2, d3, d4] => { results := [.lit (.bool false)], args := [d1, d2, d3, d4] }
  | _ => none }
def LawS930004ASwapWrongFalsely : Prop := lawS930004ASwapRow.holds Ycrm.pinned (OpenSpec.ofChange lawS930004ASwapWrong)

/-- 'hexdump.LawS930004BRound': WHATEVER THE INPUT: true; the input reads as it did. -/
def lawS930004BRoundSpec : ChangeSpec := { name := "lawS930004BRound", fn := fun _ => fun
  | [d1, d2] => { results := [.lit (.bool true)], args := [d1, d2] }
  | _ => none }
def lawS930004BRoundRow : OpenClaim := { program := "ymbrcr", sum := "64a9c026415c8a7102b3949fa3cde5fb5db4bad8c0cf78eb68f92577a6e19d5c", func := "example.com/own/hexdump.LawS930004BRound", spec := "lawS930004BRound", apart := false }
def LawS930004BRoundSaid : Prop := lawS930004BRoundRow.holds Ycrm.pinned (OpenSpec.ofChange lawS930004BRoundSpec)

/-- ITS FALSE NEIGHBOUR: 'it returns false'. Refute it at one input. -/
def lawS930004BRoundWrong : ChangeSpec := { name := "lawS930004BRound", fn := fun _ => fun
  | [d1, d2] => { results := [.lit (.bool false)], args := [d1, d2] }
  | _ => none }
def LawS930004BRoundWrongFalsely : Prop := lawS930004BRoundRow.holds Ycrm.pinned (OpenSpec.ofChange lawS930004BRoundWrong)

/-- 'hexdump.LawS930004BGaps': WHATEVER THE INPUT: true; the input reads as it did. -/
def lawS930004BGapsSpec : ChangeSpec := { name := "lawS930004BGaps", fn := fun _ => fun
  | [d1, d2, d3] => { results := [.lit (.bool true)], args := [d1, d2, d3] }
  | _ => none }
def lawS930004BGapsRow : OpenClaim := { program := "ymbrcr", sum := "64a9c026415c8a7102b3949fa3cde5fb5db4bad8c0cf78eb68f92577a6e19d5c", func := "example.com/own/hexdump.LawS930004BGaps", spec := "lawS930004BGaps", apart := false }
def LawS930004BGapsSaid : Prop := lawS930004BGapsRow.holds Ycrm.pinned (OpenSpec.ofChange lawS930004BGapsSpec)

/-- ITS FALSE NEIGHBOUR: 'it returns false'. Refute it at one input. -/
def lawS930004BGapsWrong : ChangeSpec := { name := "lawS930004BGaps", fn := fun _ => fun
  | [d1, d2, d3] => { results := [.lit (.bool false)], args := [d1, d2, d3] }
  | _ => none }
def LawS930004BGapsWrongFalsely : Prop := lawS930004BGapsRow.holds Ycrm.pinned (OpenSpec.ofChange lawS930004BGapsWrong)

/-- 'hexdump.LawS930004BExact': WHATEVER THE INPUT: true; the input reads as it did. -/
def lawS930004BExactSpec : ChangeSpec := { name := "lawS930004BExact", fn := fun _ => fun
  | [d] => { results := [.lit (.bool true)], args := [d] }
  | _ => none }
def lawS930004BExactRow : OpenClaim := { program := "ymbrcr", sum := "64a9c026415c8a7102b3949fa3cde5fb5db4bad8c0cf78eb68f92577a6e19d5c", func := "example.com/own/hexdump.LawS930004BExact", spec := "lawS930004BExact", apart := false }
def LawS930004BExactSaid : Prop := lawS930004BExactRow.holds Ycrm.pinned (OpenSpec.ofChange lawS930004BExactSpec)

/-- ITS FALSE NEIGHBOUR: 'it returns false'. Refute it at one input. -/
def lawS930004BExactWrong : ChangeSpec := { name := "lawS930004BExact", fn := fun _ => fun
  | [d] => { results := [.lit (.bool false)], args := [d] }
  | _ => none }
def LawS930004BExactWrongFalsely : Prop := lawS930004BExactRow.holds Ycrm.pinned (OpenSpec.ofChange lawS930004BExactWrong)

/-- 'hexdump.LawS930004CExact': WHATEVER THE INPUT: true; the input reads as it did. -/
def lawS930004CExactSpec : ChangeSpec := { name := "lawS930004CExact", fn := fun _ => fun
  | [d1, d2] => { results := [.lit (.bool true)], args := [d1, d2] }
  | _ => none }
def lawS930004CExactRow : OpenClaim := { program := "ymbrcr", sum := "64a9c026415c8a7102b3949fa3cde5fb5db4bad8c0cf78eb68f92577a6e19d5c", func := "example.com/own/hexdump.LawS930004CExact", spec := "lawS930004CExact", apart := false }
def LawS930004CExactSaid : Prop := lawS930004CExactRow.holds Ycrm.pinned (OpenSpec.ofChange lawS930004CExactSpec)

/-- ITS FALSE NEIGHBOUR: 'it returns false'. Refute it at one input. -/
def lawS930004CExactWrong : ChangeSpec := { name := "lawS930004CExact", fn := fun _ => fun
  | [d1, d2] => { results := [.lit (.bool false)], args := [d1, d2] }
  | _ => none }
def LawS930004CExactWrongFalsely : Prop := lawS930004CExactRow.holds Ycrm.pinned (OpenSpec.ofChange lawS930004CExactWrong)

/-- 'hexdump.LawS930004CTop': WHATEVER THE INPUT: true; the input reads as it did. -/
def lawS930004CTopSpec : ChangeSpec := { name := "lawS930004CTop", fn := fun _ => fun
  | [d1, d2, d3, d4] => { results := [.lit (.bool true)], args := [d1, d2, d3, d4] }
  | _ => none }
def lawS930004CTopRow : OpenClaim := { program := "ymbrcr", sum := "64a9c026415c8a7102b3949fa3cde5fb5db4bad8c0cf78eb68f92577a6e19d5c", func := "example.com/own/hexdump.LawS930004CTop", spec := "lawS930004CTop", apart := false }
def LawS930004CTopSaid : Prop := lawS930004CTopRow.holds Ycrm.pinned (OpenSpec.ofChange lawS930004CTopSpec)

/-- ITS FALSE NEIGHBOUR: 'it returns false'. Refute it at one input. -/
def lawS930004CTopWrong : ChangeSpec := { name := "lawS930004CTop", fn := fun _ => fun
  | [d1, d2, d3, d4] => { results := [.lit (.bool false)], args := [d1, d2, d3, d4] }
  | _ => none }
def LawS930004CTopWrongFalsely : Prop := lawS930004CTopRow.holds Ycrm.pinned (OpenSpec.ofChange lawS930004CTopWrong)

/-- 'hexdump.LawS930004CSplit': WHATEVER THE INPUT: true; the input reads as it did. -/
def lawS930004CSplitSpec : ChangeSpec := { name := "lawS930004CSplit", fn := fun _ => fun
  | [d1, d2, d3, d4, d5] => { results := [.lit (.bool true)], args := [d1, d2, d3, d4, d5] }
  | _ => none }
def lawS930004CSplitRow : OpenClaim := { program := "ymbrcr", sum := "64a9c026415c8a7102b3949fa3cde5fb5db4bad8c0cf78eb68f92577a6e19d5c", func := "example.com/own/hexdump.LawS930004CSplit", spec := "lawS930004CSplit", apart := false }
def LawS930004CSplitSaid : Prop := lawS930004CSplitRow.holds Ycrm.pinned (OpenSpec.ofChange lawS930004CSplitSpec)

/-- ITS FALSE NEIGHBOUR: 'it returns false'. Refute it at one input. -/
def lawS930004CSplitWrong : ChangeSpec := { name := "lawS930004CSplit", fn := fun _ => fun
  | [d1, d2, d3, d4, d5] => { results := [.lit (.bool false)], args := [d1, d2, d3, d4, d5] }
  | _ => none }
def LawS930004CSplitWrongFalsely : Prop := lawS930004CSplitRow.holds Ycrm.pinned (OpenSpec.ofChange lawS930004CSplitWrong)

/-- 'hexdump.LawS930004DExact': WHATEVER THE INPUT: true; the input reads as it did. -/
def lawS930004DExactSpec : ChangeSpec := { name := "lawS930004DExact", fn := fun _ => fun
  | [d1, d2] => { results := [.lit (.bool true)], args := [d1, d2] }
  | _ => none }
def lawS930004DExactRow : OpenClaim := { program := "ymbrcr", sum := "64a9c026415c8a7102b3949fa3cde5fb5db4bad8c0cf78eb68f92577a6e19d5c", func := "example.com/own/hexdump.LawS930004DExact", spec := "lawS930004DExact", apart := false }
def LawS930004DExactSaid : Prop := lawS930004DExactRow.holds Ycrm.pinned (OpenSpec.ofChange lawS930004DExactSpec)

/-- ITS FALSE NEIGHBOUR: 'it returns false'. Refute it at one input. -/
def lawS930004DExactWrong : ChangeSpec := { name := "lawS930004DExact", fn := fun _ => fun
  | [d1, d2] => { results := [.lit (.bool false)], args := [d1, d2] }
  | _ => none }
def LawS930004DExactWrongFalsely : Prop := lawS930004DExactRow.holds Ycrm.pinned (OpenSpec.ofChange lawS930004DExactWrong)

/-- 'hexdump.LawS930004DStep': WHATEVER THE INPUT: true; the input reads as it did. -/
def lawS930004DStepSpec : ChangeSpec := { name := "lawS930004DStep", fn := fun _ => fun
  | [d1, d2] => { results := [.lit (.bool true)], args := [d1, d2] }
  | _ => none }
def lawS930004DStepRow : OpenClaim := { program := "ymbrcr", sum := "64a9c026415c8a7102b3949fa3cde5fb5db4bad8c0cf78eb68f92577a6e19d5c", func := "example.com/own/hexdump.LawS930004DStep", spec := "lawS930004DStep", apart := false }
def LawS930004DStepSaid : Prop := lawS930004DStepRow.holds Ycrm.pinned (OpenSpec.ofChange lawS930004DStepSpec)

/-- ITS FALSE NEIGHBOUR: 'it returns false'. Refute it at one input. -/
def lawS930004DStepWrong : ChangeSpec := { name := "lawS930004DStep", fn := fun _ => fun
  | [d1, d2] => { results := [.lit (.bool false)], args := [d1, d2] }
  | _ => none }
def LawS930004DStepWrongFalsely : Prop := lawS930004DStepRow.holds Ycrm.pinned (OpenSpec.ofChange lawS930004DStepWrong)

/-- 'hexdump.LawS930004DSplit': WHATEVER THE INPUT: true; the input reads as it did. -/
def lawS930004DSplitSpec : ChangeSpec := { name := "lawS930004DSplit", fn := fun _ => fun
  | [d1, d2, d3] => { results := [.lit (.bool true)], args := [d1, d2, d3] }
  | _ => none }
def lawS930004DSplitRow : OpenClaim := { program := "ymbrcr", sum := "64a9c026415c8a7102b3949fa3cde5fb5db4bad8c0cf78eb68f92577a6e19d5c", func := "example.com/own/hexdump.LawS930004DSplit", spec := "lawS930004DSplit", apart := false }
def LawS930004DSplitSaid : Prop := lawS930004DSplitRow.holds Ycrm.pinned (OpenSpec.ofChange lawS930004DSplitSpec)

/-- ITS FALSE NEIGHBOUR: 'it returns false'. Refute it at one input. -/
def lawS930004DSplitWrong : ChangeSpec := { name := "lawS930004DSplit", fn := fun _ => fun
  | [d1, d2, d3] => { results := [.lit (.bool false)], args := [d1, d2, d3] }
  | _ => none }
def LawS930004DSplitWrongFalsely : Prop := lawS930004DSplitRow.holds Ycrm.pinned (OpenSpec.ofChange lawS930004DSplitWrong)

end Rows
end Go.Proofs.Ymbrcr
