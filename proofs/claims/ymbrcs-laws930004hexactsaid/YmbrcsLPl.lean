import Derived.Test.YmbrcsPLine
import Derived.Test.YmbrcsLine
namespace Go.Proofs.Ymbrcs
open Go.RowKit

/-! A printed line, read (plain). -/
theorem nth_cellL (l : List Int) (i : Nat) (h : i < l.length) : nth (cellL l) (3 * i) = 32 ∧ nth (cellL l) (3 * i + 1) = dg (nth l i / 16).toNat ∧ nth (cellL l) (3 * i + 2) = dg (nth l i % 16).toNat := by
  have e : cellL l = cellL (l.take i) ++ (cell3 (nth l i) ++ cellL (l.drop (i + 1))) := by
    have : l = l.take i ++ (nth l i :: l.drop (i + 1)) := by
      rw [nth_eq h, List.getElem_cons_drop, List.take_append_drop]
    conv => lhs; rw [this]
    simp [cellL]
  have hl : (cellL (l.take i)).length = 3 * i := by rw [cellL_length]; simp; omega
  rw [e]
  refine ⟨?_, ?_, ?_⟩
  · rw [nth_right (by omega), hl, Nat.sub_self]; rfl
  · rw [nth_right (by omega), hl, show 3 * i + 1 - 3 * i = 1 by omega]; rfl
  · rw [nth_right (by omega), hl, show 3 * i + 2 - 3 * i = 2 by omega]; rfl
theorem lineL_off (x : Int) (l : List Int) (i : Nat) (h : i < 8) : nth (lineL x l) i = nth (offD x) i := by
  unfold lineL
  rw [List.append_assoc, List.append_assoc, nth_left (by rw [offD_length]; exact h)]
theorem lineL_at (x : Int) (l : List Int) (i : Nat) (h : i < 3 * l.length) : nth (lineL x l) (9 + i) = nth (cellL l) i := by
  unfold lineL
  have h9 : (offD x ++ [58]).length = 9 := by simp [offD_length]
  rw [List.append_assoc, nth_right (by omega), h9, nth_left (by rw [cellL_length]; omega), show 9 + i - 9 = i by omega]
theorem lineL_colon (x : Int) (l : List Int) : nth (lineL x l) 8 = 58 := by
  unfold lineL
  rw [List.append_assoc, List.append_assoc, nth_right (by rw [offD_length]; omega), offD_length]; rfl
theorem lineL_nl (x : Int) (l : List Int) : nth (lineL x l) (9 + 3 * l.length) = 10 := by
  unfold lineL
  have h9 : (offD x ++ [58] ++ cellL l).length = 9 + 3 * l.length := by simp [offD_length, cellL_length]; omega
  rw [nth_right (by omega), h9, Nat.sub_self, nth_zero]
theorem offV_offD (x : Int) (h0 : 0 ≤ x) (h1 : x < 4294967296) : offV (offD x) 8 = x := by
  have hd : ∀ i, i < 8 → hexVal (nth (offD x) i) = x / 16 ^ (7 - i) % 16 := fun i hi => by
    rw [nth_offD x i hi, hexVal_dg _ (by omega)]; omega
  simp only [offV]
  rw [hd 0 (by omega), hd 1 (by omega), hd 2 (by omega), hd 3 (by omega), hd 4 (by omega), hd 5 (by omega), hd 6 (by omega), hd 7 (by omega)]
  simp
  omega
theorem offV_congr (l m : List Int) (k : Nat) (h : ∀ i, i < k → nth l i = nth m i) : offV l k = offV m k := by
  induction k with
  | zero => rfl
  | succ k ih => rw [offV, offV, ih (fun i hi => h i (by omega)), h k (by omega)]
theorem offV_lineL (x : Int) (l : List Int) (h0 : 0 ≤ x) (h1 : x < 4294967296) : offV (lineL x l) 8 = x := by
  rw [offV_congr _ (offD x) 8 (fun i hi => lineL_off x l i hi), offV_offD x h0 h1]
theorem lineL_cell (x : Int) (l : List Int) (hb : Bts l) (j : Nat) (h : j < l.length) : CellOk (lineL x l) j := by
  have hc := nth_cellL l j h
  have hbj := hb j
  refine ⟨?_, ?_, ?_⟩
  · rw [lineL_at x l _ (by omega)]; exact hc.1
  · rw [show 10 + 3 * j = 9 + (3 * j + 1) by omega, lineL_at x l _ (by omega), hc.2.1]; exact hexOk_dg _ (by omega)
  · rw [show 11 + 3 * j = 9 + (3 * j + 2) by omega, lineL_at x l _ (by omega), hc.2.2]; exact hexOk_dg _ (by omega)
theorem rowL_lineL (x : Int) (l : List Int) (hb : Bts l) : rowL (lineL x l) l.length = l := by
  apply ext_nth
  · rw [rowL_length]
  · intro j hj
    rw [rowL_length] at hj
    have hc := nth_cellL l j hj
    have hbj := hb j
    rw [nth_rowL _ _ _ hj, show 10 + 3 * j = 9 + (3 * j + 1) by omega, lineL_at x l _ (by omega), hc.2.1, show 11 + 3 * j = 9 + (3 * j + 2) by omega, lineL_at x l _ (by omega), hc.2.2,
      hexVal_dg _ (by omega), hexVal_dg _ (by omega)]
    omega
theorem offD_ok (x : Int) (i : Nat) (hi : i < 8) : hexOk (nth (offD x) i) = true := by rw [nth_offD x i hi]; exact hexOk_dg _ (by omega)
theorem lineL_iff (x : Int) (l : List Int) (hb : Bts l) (h0 : 0 ≤ x) (h1 : x < 4294967296) : LOk (lineL x l) l.length ↔ 1 ≤ l.length ∧ l.length ≤ 16 ∧ x + l.length ≤ 4294967296 := by
  constructor
  · intro h
    have := h.fits
    rw [offV_lineL x l h0 h1] at this
    exact ⟨h.pos, h.le, this⟩
  · rintro ⟨k1, k2, k3⟩
    exact ⟨by rw [lineL_length], k1, k2, fun i hi => by rw [lineL_off x l i hi]; exact offD_ok x i hi, lineL_colon x l, lineL_nl x l, fun j hj => lineL_cell x l hb j hj, by rw [offV_lineL x l h0 h1]; exact k3⟩
theorem lineL_bts (x : Int) (l : List Int) (hb : Bts l) : Bts (lineL x l) := fun i => by
  by_cases h8 : i < 8
  · rw [lineL_off x l i h8, nth_offD x i h8]; have := dg_bd (x / 16 ^ (7 - i) % 16).toNat (by omega); omega
  · by_cases h9 : i = 8
    · subst h9; rw [lineL_colon]; omega
    · by_cases hc : i < 9 + 3 * l.length
      · obtain ⟨j, r, hr, e⟩ : ∃ j r : Nat, r < 3 ∧ i = 9 + (3 * j + r) := ⟨(i - 9) / 3, (i - 9) % 3, by omega, by omega⟩
        have hn := nth_cellL l j (by omega)
        have hbj := hb j
        have d1 := dg_bd (nth l j / 16).toNat (by omega)
        have d2 := dg_bd (nth l j % 16).toNat (by omega)
        rw [e, lineL_at x l _ (by omega)]
        have : r = 0 ∨ r = 1 ∨ r = 2 := by omega
        rcases this with rfl | rfl | rfl
        · rw [Nat.add_zero, hn.1]; omega
        · rw [hn.2.1]; omega
        · rw [hn.2.2]; omega
      · by_cases hq : i = 9 + 3 * l.length
        · subst hq; rw [lineL_nl]; omega
        · rw [nth_ge (by rw [lineL_length]; omega)]; omega
end Go.Proofs.Ymbrcs
