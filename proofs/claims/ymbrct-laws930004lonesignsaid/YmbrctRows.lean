/-
  No cell of these rows narrows 'for every input' (looked for: loops, veiled, ifaces, maps, wideKeys, modest, calm, conditions, laid).
  DERIVED. THE GIVEN ROWS OF THIS SEAT. 8 by the template 'for every input the law returns true; each argument reads behind the call as it read before'; 0 by the template 'total and deterministic' (their statements: YmbrctTotals.lean).
  GIVEN WITH THE SEED: the statements are not yours to turn. If you find one false, say at which input.
  Laid BY PROGRAM, IN A SANDBOX (cutbox-rows.mjs): the forced cells as the released guide's own fill.sh prints them over the translation 5665f4459c81d626… (all of the seat's roots in one cut). By AI agents, Wed Nov 11 2026. No macro, syntax, notation, axiom, sorry.
-/
import Derived.Test.YmbrctChecked
import GoSem.Claim
import GoSem.ClaimJoined
import GoSem.ClaimMapViews
import Derived.JoinedTies
import Derived.KernelRfl
namespace Go.Proofs.Ymbrct
/- THE CELL 'sum', in the pinned program and in every row, IS THE sha256 OF THE DUMP (.gsa) THAT YmbrctProg.lean LOADS. Nothing in Lean hashes anything: it is a label: what it is worth is what the hold of that sum in a sandbox is worth. -/
noncomputable def Yctm.pinned : Pinned := { name := "ymbrct", sum := "5665f4459c81d62611344e0fcfeb08016e9727ff5d58c1ef4585c16a19cd3cd1", checked := Yctm.checked }
namespace Rows
def none {H : Type} : Left H := { results := [], args := [] }

/-- 'hexdump.LawS930004JRoundTrip': WHATEVER THE INPUT: true; the input reads as it did. -/
def lawS930004JRoundTripSpec : ChangeSpec := { name := "lawS930004JRoundTrip", fn := fun _ => fun
  | [d] => { results := [.lit (.bool true)], args := [d] }
  | _ => none }
def lawS930004JRoundTripRow : OpenClaim := { program := "ymbrct", sum := "5665f4459c81d62611344e0fcfeb08016e9727ff5d58c1ef4585c16a19cd3cd1", func := "example.com/own/hexdump.LawS930004JRoundTrip", spec := "lawS930004JRoundTrip", apart := false }
def LawS930004JRoundTripSaid : Prop := lawS930004JRoundTripRow.holds Yctm.pinned (OpenSpec.ofChange lawS930004JRoundTripSpec)

/-- ITS FALSE NEIGHBOUR: 'it returns false'. Refute it at one input. -/
def lawS930004JRoundTripWrong : ChangeSpec := { name := "lawS930004JRoundTrip", fn := fun _ => fun
  | [d] => { results := [.lit (.bool false)], args := [d] }
  | _ => none }
def LawS930004JRoundTripWrongFalsely : Prop := lawS930004JRoundTripRow.holds Yctm.pinned (OpenSpec.ofChange lawS930004JRoundTripWrong)

/-- 'hexdump.LawS930004JOrder': WHATEVER THE INPUT: true; the input reads as it did. -/
def lawS930004JOrderSpec : ChangeSpec := { name := "lawS930004JOrder", fn := fun _ => fun
  | [d1, d2] => { results := [.lit (.bool true)], args := [d1, d2] }
  | _ => none }
def lawS930004JOrderRow : OpenClaim := { program := "ymbrct", sum := "5665f4459c81d62611344e0fcfeb08016e9727ff5d58c1ef4585c16a19cd3cd1", func := "example.com/own/hexdump.LawS930004JOrder", spec := "lawS930004JOrder", apart := false }
def LawS930004JOrderSaid : Prop := lawS930004JOrderRow.holds Yctm.pinned (OpenSpec.ofChange lawS930004JOrderSpec)

/-- ITS FALSE NEIGHBOUR: 'it returns false'. Refute it at one input. -/
def lawS930004JOrderWrong : ChangeSpec := { name := "lawS930004JOrder", fn := fun _ => fun
  | [d1, d2] => { results := [.lit (.bool false)], args := [d1, d2] }
  | _ => none }
def LawS930004JOrderWrongFalsely : Prop := lawS930004JOrderRow.holds Yctm.pinned (OpenSpec.ofChange lawS930004JOrderWrong)

/-- 'hexdump.LawS930004KExact': WHATEVER THE INPUT: true; the input reads as it did. -/
def lawS930004KExactSpec : ChangeSpec := { name := "lawS930004KExact", fn := fun _ => fun
  | [d1, d2] => { results := [.lit (.bool true)], args := [d1, d2] }
  | _ => none }
def lawS930004KExactRow : OpenClaim := { program := "ymbrct", sum := "5665f4459c81d62611344e0fcfeb08016e9727ff5d58c1ef4585c16a19cd3cd1", func := "example.com/own/hexdump.LawS930004KExact", spec := "lawS930004KExact", apart := false }
def LawS930004KExactSaid : Prop := lawS930004KExactRow.holds Yctm.pinned (OpenSpec.ofChange lawS930004KExactSpec)

/-- ITS FALSE NEIGHBOUR: 'it returns false'. Refute it at one input. -/
def lawS930004KExactWrong : ChangeSpec := { name := "lawS930004KExact", fn := fun _ => fun
  | [d1, d2] => { results := [.lit (.bool false)], args := [d1, d2] }
  | _ => none }
def LawS930004KExactWrongFalsely : Prop := lawS930004KExactRow.holds Yctm.pinned (OpenSpec.ofChange lawS930004KExactWrong)

/-- 'hexdump.LawS930004KInPlace': WHATEVER THE INPUT: true; the input reads as it did. -/
def lawS930004KInPlaceSpec : ChangeSpec := { name := "lawS930004KInPlace", fn := fun _ => fun
  | [d1, d2, d3, d4] => { results := [.lit (.bool true)], args := [d1, d2, d3, d4] }
  | _ => none }
def lawS930004KInPlaceRow : OpenClaim := { program := "ymbrct", sum := "5665f4459c81d62611344e0fcfeb08016e9727ff5d58c1ef4585c16a19cd3cd1", func := "example.com/own/hexdump.LawS930004KInPlace", spec := "lawS930004KInPlace", apart := false }
def LawS930004KInPlaceSaid : Prop := lawS930004KInPlaceRow.holds Yctm.pinned (OpenSpec.ofChange lawS930004KInPlaceSpec)

/-- ITS FALSE NEIGHBOUR: 'it returns false'. Refute it at one input. -/
def lawS930004KInPlaceWrong : ChangeSpec := { name := "lawS930004KInPlace", fn := fun _ => fun
  | [d1, d2, d3, d4] => { results := [.lit (.bool false)], args := [d1, d2, d3, d4] }
  | _ => none }
def LawS930004KInPlaceWrongFalsely : Prop := lawS930004KInPlaceRow.holds Yctm.pinned (OpenSpec.ofChange lawS930004KInPlaceWrong)

/-- 'hexdump.LawS930004KSplit': WHATEVER THE INPUT: true; the input reads as it did. -/
def lawS930004KSplitSpec : ChangeSpec := { name := "lawS930004KSplit", fn := fun _ => fun
  | [d1, d2, d3] => { results := [.lit (.bool true)], args := [d1, d2, d3] }
  | _ => none }
def lawS930004KSplitRow : OpenClaim := { program := "ymbrct", sum := "5665f4459c81d62611344e0fcfeb08016e9727ff5d58c1ef4585c16a19cd3cd1", func := "example.com/own/hexdump.LawS930004KSplit", spec := "lawS930004KSplit", apart := false }
def LawS930004KSplitSaid : Prop := lawS930004KSplitRow.holds Yctm.pinned (OpenSpec.ofChange lawS930004KSplitSpec)

/-- ITS FALSE NEIGHBOUR: 'it returns false'. Refute it at one input. -/
def lawS930004KSplitWrong : ChangeSpec := { name := "lawS930004KSplit", fn := fun _ => fun
  | [d1, d2, d3] => { results := [.lit (.bool false)], args := [d1, d2, d3] }
  | _ => none }
def LawS930004KSplitWrongFalsely : Prop := lawS930004KSplitRow.holds Yctm.pinned (OpenSpec.ofChange lawS930004KSplitWrong)

/-- 'hexdump.LawS930004LRoundTrip': WHATEVER THE INPUT: true; the input reads as it did. -/
def lawS930004LRoundTripSpec : ChangeSpec := { name := "lawS930004LRoundTrip", fn := fun _ => fun
  | [d1, d2, d3] => { results := [.lit (.bool true)], args := [d1, d2, d3] }
  | _ => none }
def lawS930004LRoundTripRow : OpenClaim := { program := "ymbrct", sum := "5665f4459c81d62611344e0fcfeb08016e9727ff5d58c1ef4585c16a19cd3cd1", func := "example.com/own/hexdump.LawS930004LRoundTrip", spec := "lawS930004LRoundTrip", apart := false }
def LawS930004LRoundTripSaid : Prop := lawS930004LRoundTripRow.holds Yctm.pinned (OpenSpec.ofChange lawS930004LRoundTripSpec)

/-- ITS FALSE NEIGHBOUR: 'it returns false'. Refute it at one input. -/
def lawS930004LRoundTripWrong : ChangeSpec := { name := "lawS930004LRoundTrip", fn := fun _ => fun
  | [d1, d2, d3] => { results := [.lit (.bool false)], args := [d1, d2, d3] }
  | _ => none }
def LawS930004LRoundTripWrongFalsely : Prop := lawS930004LRoundTripRow.holds Yctm.pinned (OpenSpec.ofChange lawS930004LRoundTripWrong)

/-- 'hexdump.LawS930004LOneSign': WHATEVER THE INPUT: true; the input reads as it did. -/
def lawS930004LOneSignSpec : ChangeSpec := { name := "lawS930004LOneSign", fn := fun _ => fun
  | [d1, d2, d3, d4, d5, d6, d7] => { results := [.lit (.bool true)], args := [d1, d2, d3, d4, d5, d6, d7] }
  | _ => none }
def lawS930004LOneSignRow : OpenClaim := { program := "ymbrct", sum := "5665f4459c81d62611344e0fcfeb08016e9727ff5d58c1ef4585c16a19cd3cd1", func := "example.com/own/hexdump.LawS930004LOneSign", spec := "lawS930004LOneSign", apart := false }
def LawS930004LOneSignSaid : Prop := lawS930004LOneSignRow.holds Yctm.pinned (OpenSpec.ofChange lawS930004LOneSignSpec)

/-- ITS FALSE NEIGHBOUR: 'it returns false'. Refute it at one input. -/
def lawS930004LOneSignWrong : ChangeSpec := { name := "lawS930004LOneSign", fn := fun _ => fun
  | [d1, d2, d3, d4, d5, d6, d7] => { results := [.lit (.bool false)], args := [d1, d2, d3, d4, d5, d6, d7] }
  | _ => none }
def LawS930004LOneSignWrongFalsely : Prop := lawS930004LOneSignRow.holds Yctm.pinned (OpenSpec.ofChange lawS930004LOneSignWrong)

/-- 'hexdump.LawS930004LExact': WHATEVER THE INPUT: true; the input reads as it did. -/
def lawS930004LExactSpec : ChangeSpec := { name := "lawS930004LExact", fn := fun _ => fun
  | [d1, d2] => { results := [.lit (.bool true)], args := [d1, d2] }
  | _ => none }
def lawS930004LExactRow : OpenClaim := { program := "ymbrct", sum := "5665f4459c81d62611344e0fcfeb08016e9727ff5d58c1ef4585c16a19cd3cd1", func := "example.com/own/hexdump.LawS930004LExact", spec := "lawS930004LExact", apart := false }
def LawS930004LExactSaid : Prop := lawS930004LExactRow.holds Yctm.pinned (OpenSpec.ofChange lawS930004LExactSpec)

/-- ITS FALSE NEIGHBOUR: 'it returns false'. Refute it at one input. -/
def lawS930004LExactWrong : ChangeSpec := { name := "lawS930004LExact", fn := fun _ => fun
  | [d1, d2] => { results := [.lit (.bool false)], args := [d1, d2] }
  | _ => none }
def LawS930004LExactWrongFalsely : Prop := lawS930004LExactRow.holds Yctm.pinned (OpenSpec.ofChange lawS930004LExactWrong)

end Rows
end Go.Proofs.Ymbrct
