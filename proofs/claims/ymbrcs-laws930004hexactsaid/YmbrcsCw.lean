import Derived.Test.YmbrcsLine
namespace Go.Proofs.Ymbrcs
open Go.RowKit

/-! The dump, byte by byte (plain). -/
def hdP (base : Int) (i : Nat) : List Int := if i % 16 = 0 then offD ((base + i) % 4294967296) ++ [58] else []
def tlP (n i : Nat) : List Int := if i % 16 = 15 ∨ i + 1 = n then [10] else []
/-- What stands behind the first k bytes. -/
def cw (base : Int) (l : List Int) : Nat → List Int
  | 0 => []
  | k + 1 => cw base l k ++ (hdP base k ++ cell3 (nth l k) ++ tlP l.length k)
theorem cw_bd (base : Int) (l : List Int) (k : Nat) : (cw base l k).length ≤ 13 * k := by
  induction k with
  | zero => simp [cw]
  | succ k ih =>
    have h1 : (hdP base k).length ≤ 9 := by unfold hdP; split <;> simp [offD_length]
    have h2 : (tlP l.length k).length ≤ 1 := by unfold tlP; split <;> simp
    simp only [cw, List.length_append, cell3, hex2, List.length_cons, List.length_nil]
    omega
/-- A stretch inside one line. -/
theorem cw_mid (base : Int) (l : List Int) (p : Nat) (hp : p % 16 = 0) : ∀ m, m ≤ 15 → p + m < l.length → cw base l (p + m + 1) = cw base l p ++ offD ((base + p) % 4294967296) ++ [58] ++ cellL ((l.drop p).take (m + 1)) ++ (if m = 15 ∨ p + m + 1 = l.length then [10] else []) := by
  intro m
  induction m with
  | zero =>
    intro _ hl
    have e1 : (l.drop p).take 1 = [nth l p] := by
      rw [take_snoc (by simp; omega), nth_drop]; simp
    simp only [Nat.add_zero, cw, hdP, hp, if_true, e1, tlP, cellL, List.flatMap_cons, List.flatMap_nil, List.append_nil]
    have e2 : (0 = 15 ∨ p + 1 = l.length) ↔ (0 = 15 ∨ p + 1 = l.length) := Iff.rfl
    simp [List.append_assoc]
  | succ m ih =>
    intro hm hl
    have := ih (by omega) (by omega)
    rw [show p + (m + 1) + 1 = (p + m + 1) + 1 by omega, cw, this, if_neg (by omega), List.append_nil]
    have e0 : hdP base (p + m + 1) = [] := by unfold hdP; rw [if_neg (by omega)]
    have e1 : (l.drop p).take (m + 1 + 1) = (l.drop p).take (m + 1) ++ [nth l (p + m + 1)] := by
      rw [take_snoc (k := m + 1) (by simp; omega), nth_drop, Nat.add_assoc]
    have e2 : tlP l.length (p + m + 1) = if m + 1 = 15 ∨ p + m + 1 + 1 = l.length then [10] else [] := by
      unfold tlP
      by_cases h : m + 1 = 15 ∨ p + m + 1 + 1 = l.length
      · rw [if_pos h, if_pos (by omega)]
      · rw [if_neg h, if_neg (by omega)]
    rw [e0, e1, e2, cellL_snoc]
    simp [List.append_assoc]
/-- A whole line. -/
theorem cw_line (base : Int) (l : List Int) (p e : Nat) (hp : p % 16 = 0) (hpe : p < e) (he : e ≤ l.length) (h16 : e ≤ p + 16) (hend : e = p + 16 ∨ e = l.length) :
    cw base l e = cw base l p ++ lineL ((base + p) % 4294967296) ((l.drop p).take (e - p)) := by
  have := cw_mid base l p hp (e - p - 1) (by omega) (by omega)
  rw [show p + (e - p - 1) + 1 = e by omega, show e - p - 1 + 1 = e - p by omega, if_pos (by omega)] at this
  rw [this]
  unfold lineL
  simp [List.append_assoc]
end Go.Proofs.Ymbrcs
