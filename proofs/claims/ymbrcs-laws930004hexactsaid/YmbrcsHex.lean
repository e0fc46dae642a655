import Derived.WalkKit
import Derived.WalkSpells
namespace Go.Proofs.Ymbrcs
open Go.RowKit

/-! The sixteen digits, plainly. -/
/-- The i-th lower-case hex digit. -/
def dg (i : Nat) : Int := if i < 10 then 48 + i else 87 + i
/-- The value of a digit; 0 if it is none. -/
def hexVal (c : Int) : Int := if 48 ≤ c ∧ c ≤ 57 then c - 48 else if 97 ≤ c ∧ c ≤ 102 then c - 87 else 0
def hexOk (c : Int) : Bool := decide ((48 ≤ c ∧ c ≤ 57) ∨ (97 ≤ c ∧ c ≤ 102))

theorem dg_bd (i : Nat) (h : i < 16) : 48 ≤ dg i ∧ dg i ≤ 102 := by unfold dg; split <;> omega
theorem hexVal_dg (i : Nat) (h : i < 16) : hexVal (dg i) = i := by unfold hexVal dg; split <;> (try split) <;> (try split) <;> omega
theorem hexOk_dg (i : Nat) (h : i < 16) : hexOk (dg i) = true := by unfold hexOk dg; simp; split <;> omega
theorem hexVal_bd (c : Int) : 0 ≤ hexVal c ∧ hexVal c < 16 := by unfold hexVal; split <;> (try split) <;> omega
theorem dg_hexVal (c : Int) (h : hexOk c = true) : dg (hexVal c).toNat = c := by
  simp [hexOk] at h
  unfold hexVal dg; split <;> (try split) <;> (try split) <;> omega
theorem hexOk_iff (c : Int) : hexOk c = true ↔ ∃ i, i < 16 ∧ dg i = c := by
  constructor
  · intro h
    have := hexVal_bd c
    exact ⟨(hexVal c).toNat, by omega, dg_hexVal c h⟩
  · rintro ⟨i, h, rfl⟩
    exact hexOk_dg i h
theorem hexVal_no (c : Int) (h : hexOk c = false) : hexVal c = 0 := by
  simp [hexOk] at h
  unfold hexVal; split <;> (try split) <;> omega
theorem dg_inj (i j : Nat) (hi : i < 16) (hj : j < 16) (h : dg i = dg j) : i = j := by
  have h1 := hexVal_dg i hi
  have h2 := hexVal_dg j hj
  rw [h] at h1; omega
theorem dg_lt (i j : Nat) (_hi : i < 16) (hj : j < 16) : (i < j) ↔ dg i < dg j := by unfold dg; split <;> split <;> omega
/-- A digit found by looking through the row: the first i with 'dg i = c'. -/
theorem hexOk_at (c : Int) (i : Nat) (hi : i < 16) (h : dg i = c) : hexOk c = true ∧ hexVal c = i := by
  subst h; exact ⟨hexOk_dg i hi, hexVal_dg i hi⟩
theorem hexOk_none (c : Int) (h : ∀ i, i < 16 → dg i ≠ c) : hexOk c = false := by
  rcases hb : hexOk c with _ | _
  · rfl
  · obtain ⟨i, hi, he⟩ := (hexOk_iff c).1 hb
    exact absurd he (h i hi)

/-- The constant's byte at a place, as the walk spells it. -/
theorem dg_get (i : Nat) (h : i < ByteArray.size { data := #[48, 49, 50, 51, 52, 53, 54, 55, 56, 57, 97, 98, 99, 100, 101, 102] }) :
    ((({ data := #[48, 49, 50, 51, 52, 53, 54, 55, 56, 57, 97, 98, 99, 100, 101, 102] } : ByteArray)[i]'h).toNat : Int) = dg i := by
  have h' : i < 16 := h
  have : i = 0 ∨ i = 1 ∨ i = 2 ∨ i = 3 ∨ i = 4 ∨ i = 5 ∨ i = 6 ∨ i = 7 ∨ i = 8 ∨ i = 9 ∨ i = 10 ∨ i = 11 ∨ i = 12 ∨ i = 13 ∨ i = 14 ∨ i = 15 := by omega
  rcases this with rfl | rfl | rfl | rfl | rfl | rfl | rfl | rfl | rfl | rfl | rfl | rfl | rfl | rfl | rfl | rfl <;> rfl
end Go.Proofs.Ymbrcs
