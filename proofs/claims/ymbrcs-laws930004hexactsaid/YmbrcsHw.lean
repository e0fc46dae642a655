import Derived.Test.YmbrcsHh
import Derived.Test.YmbrcsPa
import Derived.Test.YmbrcsLPl
import Derived.Test.YmbrcsFind
namespace Go.Proofs.Ymbrcs
open Go.RowKit

/-- What a sign at a place of a line of N signs must be. -/
def PosOk (l : List Int) (N p : Nat) : Prop := if p = 8 then nth l p = 58 else if p = N - 1 then nth l p = 10 else if 8 < p ∧ p % 3 = 0 then nth l p = 32 else hexOk (nth l p) = true
theorem posOk_of (l : List Int) (m : Nat) (h : LOk l m) (p : Nat) (hp : p < 10 + 3 * m) : PosOk l (10 + 3 * m) p := by
  unfold PosOk
  by_cases h8 : p = 8
  · rw [if_pos h8, h8]; exact h.colon
  · rw [if_neg h8]
    by_cases hN : p = 10 + 3 * m - 1
    · rw [if_pos hN, show p = 9 + 3 * m by omega]; exact h.nl
    · rw [if_neg hN]
      by_cases h3 : 8 < p ∧ p % 3 = 0
      · rw [if_pos h3]
        have := (h.cells ((p - 9) / 3) (by omega)).1
        rwa [show 9 + 3 * ((p - 9) / 3) = p by omega] at this
      · rw [if_neg h3]
        by_cases hlt : p < 8
        · exact h.off p hlt
        · have hc := h.cells ((p - 9) / 3) (by omega)
          by_cases h1 : p % 3 = 1
          · have := hc.2.1
            rwa [show 10 + 3 * ((p - 9) / 3) = p by omega] at this
          · have := hc.2.2
            rwa [show 11 + 3 * ((p - 9) / 3) = p by omega] at this
theorem lOk_of (l : List Int) (m : Nat) (hl : l.length = 10 + 3 * m) (h1 : 1 ≤ m) (h16 : m ≤ 16) (h : ∀ p, p < 10 + 3 * m → PosOk l (10 + 3 * m) p) (hf : offV l 8 + m ≤ 4294967296) : LOk l m := by
  refine ⟨hl, h1, h16, fun i hi => ?_, ?_, ?_, fun j hj => ⟨?_, ?_, ?_⟩, hf⟩
  · have := h i (by omega)
    unfold PosOk at this
    rwa [if_neg (by omega), if_neg (by omega), if_neg (by omega)] at this
  · have := h 8 (by omega)
    unfold PosOk at this
    rwa [if_pos rfl] at this
  · have := h (9 + 3 * m) (by omega)
    unfold PosOk at this
    rwa [if_neg (by omega), if_pos (by omega)] at this
  · have := h (9 + 3 * j) (by omega)
    unfold PosOk at this
    rwa [if_neg (by omega), if_neg (by omega), if_pos (by omega)] at this
  · have := h (10 + 3 * j) (by omega)
    unfold PosOk at this
    rwa [if_neg (by omega), if_neg (by omega), if_neg (by omega)] at this
  · have := h (11 + 3 * j) (by omega)
    unfold PosOk at this
    rwa [if_neg (by omega), if_neg (by omega), if_neg (by omega)] at this


/-! Sign by sign, and line by line (plain). -/
theorem offD_of (l : List Int) (y : Int) (hok : ∀ i, i < 8 → hexOk (nth l i) = true) (h : offV l 8 = y) (i : Nat) (hi : i < 8) : nth l i = nth (offD y) i := by
  have b0 := hexVal_bd (nth l 0)
  have b1 := hexVal_bd (nth l 1)
  have b2 := hexVal_bd (nth l 2)
  have b3 := hexVal_bd (nth l 3)
  have b4 := hexVal_bd (nth l 4)
  have b5 := hexVal_bd (nth l 5)
  have b6 := hexVal_bd (nth l 6)
  have b7 := hexVal_bd (nth l 7)
  simp only [offV] at h
  have key : y / 16 ^ (7 - i) % 16 = hexVal (nth l i) := by
    have : i = 0 ∨ i = 1 ∨ i = 2 ∨ i = 3 ∨ i = 4 ∨ i = 5 ∨ i = 6 ∨ i = 7 := by omega
    rcases this with rfl | rfl | rfl | rfl | rfl | rfl | rfl | rfl <;> simp <;> omega
  rw [nth_offD y i hi, key, dg_hexVal _ (hok i hi)]
/-- What the sign at p must be. -/
def HPos (b : Int) (T : List Int) (p : Nat) : Prop :=
  if p % 58 < 8 then nth T p = nth (offD ((b + ((p / 58 * 16 : Nat) : Int)) % 4294967296)) (p % 58)
  else if p % 58 = 8 then nth T p = 58
  else if p % 58 = 57 ∨ p = T.length - 1 then nth T p = 10
  else if p % 58 % 3 = 0 then nth T p = 32
  else hexOk (nth T p) = true
def LenOk (N : Nat) : Prop := N % 58 = 0 ∨ (13 ≤ N % 58 ∧ N % 58 % 3 = 1)
theorem lenOk_data (N : Nat) (h : N ≤ 1000000) : DataOk (N : Int) ↔ LenOk N := by
  constructor
  · rintro ⟨_, h1, _⟩
    unfold LenOk; omega
  · intro h1
    unfold LenOk at h1
    have hd : DataOk (N : Int) ∨ True := .inr trivial
    refine ⟨by omega, by omega, ?_⟩
    unfold dataN
    split <;> omega
/-- The line i, when its length is one of a line. -/
theorem seg_shape (T : List Int) (i : Nat) (hl : LenOk T.length) (hi : 58 * i < T.length) : (seg T i).length = 10 + 3 * segM T i ∧ 1 ≤ segM T i ∧ segM T i ≤ 16 := by
  have h1 := seg_length T i
  have h2 : segM T i = ((seg T i).length - 10) / 3 := rfl
  unfold LenOk at hl
  by_cases hq : i < T.length / 58
  · have h3 : (seg T i).length = 58 := by omega
    rw [h2, h3]; omega
  · have h3 : (seg T i).length = T.length % 58 := by omega
    rw [h2, h3]
    have h4 : T.length % 58 ≠ 0 := by omega
    have h5 : 13 ≤ T.length % 58 := by omega
    have h6 : T.length % 58 % 3 = 1 := by omega
    have h7 : T.length % 58 < 58 := by omega
    generalize T.length % 58 = r at *
    clear h1 h2 h3 hl hi hq
    omega
theorem hpos_line (b : Int) (T : List Int) (i t : Nat) (hl : LenOk T.length) (hi : 58 * i < T.length) (ht : t < (seg T i).length) (h8 : 8 ≤ t) : HPos b T (58 * i + t) ↔ PosOk (seg T i) (10 + 3 * segM T i) t := by
  obtain ⟨s1, s2, s3⟩ := seg_shape T i hl hi
  have hsl := seg_length T i
  have e1 : (58 * i + t) % 58 = t := by omega
  unfold HPos PosOk
  rw [e1, nth_seg T i t (by omega), if_neg (by omega)]
  by_cases h : t = 8
  · rw [if_pos h, if_pos h]
  · rw [if_neg h, if_neg h]
    by_cases hn : t = 10 + 3 * segM T i - 1
    · rw [if_pos hn, if_pos (by omega)]
    · rw [if_neg hn, if_neg (by unfold LenOk at hl; omega)]
      by_cases h3 : t % 3 = 0
      · rw [if_pos h3, if_pos ⟨by omega, h3⟩]
      · rw [if_neg h3, if_neg (by omega)]
theorem hpos_low (b : Int) (T : List Int) (i t : Nat) (h8 : t < 8) : HPos b T (58 * i + t) ↔ nth (seg T i) t = nth (offD ((b + ((16 * i : Nat) : Int)) % 4294967296)) t := by
  have e1 : (58 * i + t) % 58 = t := by omega
  have e2 : (58 * i + t) / 58 * 16 = 16 * i := by omega
  unfold HPos
  rw [e1, e2, nth_seg T i t (by omega), if_pos h8]
theorem lineGood_iff (b : Int) (T : List Int) (i : Nat) (h0 : 0 ≤ b) (hl : LenOk T.length) (hf : b + dNat T.length ≤ 4294967296) (hi : 58 * i < T.length) : LineGood b T i ↔ ∀ t, t < (seg T i).length → HPos b T (58 * i + t) := by
  obtain ⟨s1, s2, s3⟩ := seg_shape T i hl hi
  have hsl := seg_length T i
  have hy : (b + ((16 * i : Nat) : Int)) % 4294967296 = b + ((16 * i : Nat) : Int) ∧ b + ((16 * i : Nat) : Int) + segM T i ≤ 4294967296 := by
    have : 16 * i + segM T i ≤ dNat T.length := by unfold dNat; unfold LenOk at hl; omega
    constructor
    · exact Int.emod_eq_of_lt (by omega) (by omega)
    · omega
  constructor
  · rintro ⟨hok, hoff⟩ t ht
    by_cases h8 : t < 8
    · rw [hpos_low b T i t h8]
      exact offD_of _ _ hok.off hoff t h8
    · rw [hpos_line b T i t hl hi ht (by omega)]
      exact posOk_of _ _ hok t (by omega)
  · intro h
    have hoff : offV (seg T i) 8 = (b + ((16 * i : Nat) : Int)) % 4294967296 := by
      rw [offV_congr (seg T i) (offD ((b + ((16 * i : Nat) : Int)) % 4294967296)) 8 (fun t ht => (hpos_low b T i t ht).1 (h t (by omega)))]
      exact offV_offD _ (by omega) (by omega)
    refine ⟨lOk_of _ _ s1 s2 s3 (fun t ht => ?_) (by rw [hoff, hy.1]; exact hy.2), hoff⟩
    by_cases h8 : t < 8
    · unfold PosOk
      rw [if_neg (by omega), if_neg (by omega), if_neg (by omega), (hpos_low b T i t h8).1 (h t (by omega)), nth_offD _ t h8]
      exact hexOk_dg _ (by omega)
    · exact (hpos_line b T i t hl hi (by omega) (by omega)).1 (h t (by omega))
theorem pOk_iffP (b : Int) (T : List Int) (h0 : 0 ≤ b) (hN : T.length ≤ 1000000) : POk b T ↔ LenOk T.length ∧ b + dNat T.length ≤ 4294967296 ∧ ∀ p, p < T.length → HPos b T p := by
  constructor
  · intro h
    have hl := (lenOk_data _ hN).1 h.len
    refine ⟨hl, h.fits, fun p hp => ?_⟩
    have := (lineGood_iff b T (p / 58) h0 hl h.fits (by omega)).1 (h.lines (p / 58) (by omega)) (p % 58) (by rw [seg_length]; omega)
    rwa [show 58 * (p / 58) + p % 58 = p by omega] at this
  · rintro ⟨hl, hf, h⟩
    refine ⟨(lenOk_data _ hN).2 hl, hf, fun i hi => (lineGood_iff b T i h0 hl hf hi).2 (fun t ht => h _ ?_)⟩
    rw [seg_length] at ht; omega
/-- How many bytes the first p signs show. -/
def cnt (p : Nat) : Nat := p / 58 * 16 + (p % 58 - 9) / 3
theorem cnt_same (p : Nat) (h : p % 58 < 9 ∨ p % 58 % 3 ≠ 2) : cnt (p + 1) = cnt p := by
  unfold cnt
  by_cases hc : p % 58 = 57
  · have e1 : (p + 1) / 58 = p / 58 + 1 := by omega
    have e2 : (p + 1) % 58 = 0 := by omega
    rw [e1, e2, hc]; omega
  · have e1 : (p + 1) / 58 = p / 58 := by omega
    have e2 : (p + 1) % 58 = p % 58 + 1 := by omega
    rw [e1, e2]; omega
theorem cnt_up (p : Nat) (h1 : 9 ≤ p % 58) (h2 : p % 58 % 3 = 2) : cnt (p + 1) = cnt p + 1 ∧ posP (cnt p) + 1 = p := by
  have e1 : (p + 1) / 58 = p / 58 := by omega
  have e2 : (p + 1) % 58 = p % 58 + 1 := by omega
  unfold cnt posP
  rw [e1, e2]
  obtain ⟨q, hq⟩ : ∃ q : Nat, p / 58 = q := ⟨_, rfl⟩
  obtain ⟨j, hj⟩ : ∃ j : Nat, (p % 58 - 9) / 3 = j := ⟨_, rfl⟩
  have hj16 : j < 16 := by omega
  rw [hq, hj]
  have d1 : (q * 16 + j) / 16 = q := by omega
  have d2 : (q * 16 + j) % 16 = j := by omega
  rw [d1, d2]
  omega
theorem cnt_all (N : Nat) (h : LenOk N) : cnt N = dNat N := by unfold cnt dNat; unfold LenOk at h; omega
theorem cnt_le (p : Nat) : cnt p ≤ p := by unfold cnt; omega

theorem hvalue_any (c : Int) (w : World) :
    Calls Ycsm.prog 41 #[.int .u8 c] w fun e w' => e = .returned (.int .i64 (iV c)) ∧ w' = w := by
  go_enter Ycsm.func41, Ycsm.ntmps41
  go_wp2
  go_loop [3] (fun i => ∃ k : Nat, k ≤ 16 ∧ i = .int .i64 k ∧ ∀ j, j < k → dg j ≠ c) (fun i => 16 - (intOf i).toNat)
  case atStart => exact ⟨0, by omega, rfl, fun j hj => by omega⟩
  case round =>
    obtain ⟨k, hk, rfl, hne⟩ := hrel
    by_cases hlt : k < 16
    · have hkk : ((k : Int) % 16).toNat = k := by omega
      by_cases hq : dg k = c
      · obtain ⟨u1, u2⟩ := hexOk_at c k hlt hq
        have hb : (dg k == c) = true := by simp [hq]
        have U1 : Hid (iV c = k) := by unfold Hid; rw [iV_yes c u1, u2]
        clear u1 u2 hq
        go_wp2_with fail
        refine (hdigit_any (k : Int) _).mono ?_
        rw [hkk]
        rintro e w' ⟨rfl, rfl⟩
        go_wp2_with fail
        go_ret
        exact ⟨by rw [U1.out]; rfl, rfl⟩
      · have hb : (dg k == c) = false := by simp [hq]
        go_wp2_with fail
        refine (hdigit_any (k : Int) _).mono ?_
        rw [hkk]
        rintro e w' ⟨rfl, rfl⟩
        go_wp2_with fail
        go_round
        case rel => exact ⟨k + 1, by omega, by go_num, fun j hj => by
          by_cases h : j = k
          · subst h; exact hq
          · exact hne j (by omega)⟩
        case measure => simp [intOf]; omega
    · have u1 := hexOk_none c (fun j hj => hne j (by omega))
      have U1 : Hid (iV c = -1) := iV_no c u1
      clear u1
      go_wp2
      go_ret
      exact ⟨by rw [U1.out]; rfl, rfl⟩
end Go.Proofs.Ymbrcs
