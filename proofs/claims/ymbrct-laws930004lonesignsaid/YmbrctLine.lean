import Derived.Test.YmbrctOfs
namespace Go.Proofs.Ymbrct
open Go.RowKit

/-- A cell: a space and two digits. A line. -/
def cell3 (b : Int) : List Int := 32 :: hex2 b
def cellL (l : List Int) : List Int := l.flatMap cell3
def lineL (off : Int) (row : List Int) : List Int := offD off ++ [58] ++ cellL row ++ [10]
theorem cellL_snoc (l : List Int) (x : Int) : cellL (l ++ [x]) = cellL l ++ cell3 x := by simp [cellL]
theorem cellL_length (l : List Int) : (cellL l).length = 3 * l.length := by
  induction l with
  | nil => rfl
  | cons x l ih => simp only [cellL, List.flatMap_cons, List.length_append, List.length_cons] at *; rw [ih]; simp [cell3, hex2]; omega
theorem lineL_length (off : Int) (row : List Int) : (lineL off row).length = 10 + 3 * row.length := by
  simp [lineL, offD_length, cellL_length]; omega
theorem hexL_one (x : Int) : hexL [x] = hex2 x := by simp [hexL]

/-- The line as far as its first k cells. -/
def lpre (x : Int) (l : List Int) (k : Nat) : List Int := offD x ++ [58] ++ cellL (l.take k)
theorem lpre_zero (x : Int) (l : List Int) : lpre x l 0 = offD x ++ [58] := by simp [lpre, cellL]
theorem lpre_succ (x : Int) (l : List Int) (k : Nat) (h : k < l.length) : lpre x l (k + 1) = lpre x l k ++ [32] ++ hexL [nth l k] := by
  unfold lpre; rw [take_snoc h, cellL_snoc, hexL_one]; simp [cell3]
theorem lpre_all (x : Int) (l : List Int) (k : Nat) (h : l.length ≤ k) : lpre x l k ++ [10] = lineL x l := by
  unfold lpre lineL; rw [List.take_of_length_le h]
theorem lpre_length (x : Int) (l : List Int) (k : Nat) (h : k ≤ l.length) : (lpre x l k).length = 9 + 3 * k := by
  simp [lpre, offD_length, cellL_length]; omega

end Go.Proofs.Ymbrct
