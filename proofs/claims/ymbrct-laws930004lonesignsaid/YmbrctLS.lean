import Derived.Test.YmbrctLR
import Derived.Test.YmbrctFind
import Derived.Test.YmbrctCpy
namespace Go.Proofs.Ymbrct
open Go.RowKit

/-- What a sign at a place of a line of N signs must be. -/
def PosOk (l : List Int) (N p : Nat) : Prop := if p = 8 then nth l p = 58 else if p = N - 1 then nth l p = 10 else if 8 < p ∧ p % 3 = 0 then nth l p = 32 else hexOk (nth l p) = true
theorem posOk_of (l : List Int) (m : Nat) (h : LOk l m) (p : Nat) (hp : p < 10 + 3 * m) : PosOk l (10 + 3 * m) p := by
  unfold PosOk
  by_cases h8 : p = 8
  · rw [if_pos h8, h8]; exact h.colon
  · rw [if_neg h8]
    by_cases hN : p = 10 + 3 * m - 1
    · rw [if_pos hN, show p = 9 + 3 * m by omega]; exact h.nl
    · rw [if_neg hN]
      by_cases h3 : 8 < p ∧ p % 3 = 0
      · rw [if_pos h3]
        have := (h.cells ((p - 9) / 3) (by omega)).1
        rwa [show 9 + 3 * ((p - 9) / 3) = p by omega] at this
      · rw [if_neg h3]
        by_cases hlt : p < 8
        · exact h.off p hlt
        · have hc := h.cells ((p - 9) / 3) (by omega)
          by_cases h1 : p % 3 = 1
          · have := hc.2.1
            rwa [show 10 + 3 * ((p - 9) / 3) = p by omega] at this
          · have := hc.2.2
            rwa [show 11 + 3 * ((p - 9) / 3) = p by omega] at this
theorem lOk_of (l : List Int) (m : Nat) (hl : l.length = 10 + 3 * m) (h1 : 1 ≤ m) (h16 : m ≤ 16) (h : ∀ p, p < 10 + 3 * m → PosOk l (10 + 3 * m) p) (hf : offV l 8 + m ≤ 4294967296) : LOk l m := by
  refine ⟨hl, h1, h16, fun i hi => ?_, ?_, ?_, fun j hj => ⟨?_, ?_, ?_⟩, hf⟩
  · have := h i (by omega)
    unfold PosOk at this
    rwa [if_neg (by omega), if_neg (by omega), if_neg (by omega)] at this
  · have := h 8 (by omega)
    unfold PosOk at this
    rwa [if_pos rfl] at this
  · have := h (9 + 3 * m) (by omega)
    unfold PosOk at this
    rwa [if_neg (by omega), if_pos (by omega)] at this
  · have := h (9 + 3 * j) (by omega)
    unfold PosOk at this
    rwa [if_neg (by omega), if_neg (by omega), if_pos (by omega)] at this
  · have := h (10 + 3 * j) (by omega)
    unfold PosOk at this
    rwa [if_neg (by omega), if_neg (by omega), if_neg (by omega)] at this
  · have := h (11 + 3 * j) (by omega)
    unfold PosOk at this
    rwa [if_neg (by omega), if_neg (by omega), if_neg (by omega)] at this

/-- The row as it is gathered: behind the first i signs. -/
def rs (l : List Int) (i j : Nat) : Int := if 12 + 3 * j ≤ i then hexVal (nth l (10 + 3 * j)) * 16 + hexVal (nth l (11 + 3 * j)) else if 11 + 3 * j ≤ i then hexVal (nth l (10 + 3 * j)) else 0
def rsL (l : List Int) (m i : Nat) : List Int := (List.range m).map (rs l i)
theorem rsL_length (l : List Int) (m i : Nat) : (rsL l m i).length = m := by simp [rsL]
theorem nth_rsL (l : List Int) (m i j : Nat) (h : j < m) : nth (rsL l m i) j = rs l i j := by
  rw [nth_eq (by rw [rsL_length]; exact h)]; simp [rsL]
theorem rsL_zero (l : List Int) (m i : Nat) (h : i ≤ 9) : rsL l m i = List.replicate m 0 := by
  apply ext_nth
  · simp [rsL]
  · intro j hj
    rw [rsL_length] at hj
    rw [nth_rsL l m i j hj, nth_eq (by simpa using hj)]
    unfold rs
    rw [if_neg (by omega), if_neg (by omega)]; simp
theorem rsL_keep (l : List Int) (m p : Nat) (h : p < 9 ∨ p % 3 = 0) : rsL l m (p + 1) = rsL l m p := by
  apply ext_nth
  · simp [rsL]
  · intro j hj
    rw [rsL_length] at hj
    rw [nth_rsL _ _ _ _ hj, nth_rsL _ _ _ _ hj]
    unfold rs
    by_cases h1 : 12 + 3 * j ≤ p
    · rw [if_pos (by omega), if_pos h1]
    · rw [if_neg (by omega), if_neg h1]
      by_cases h2 : 11 + 3 * j ≤ p
      · rw [if_pos (by omega), if_pos h2]
      · rw [if_neg (by omega), if_neg h2]
theorem rs_bd (l : List Int) (i j : Nat) (h : i < 12 + 3 * j) : 0 ≤ rs l i j ∧ rs l i j < 16 := by
  have h1 := hexVal_bd (nth l (10 + 3 * j))
  unfold rs
  rw [if_neg (by omega)]
  split <;> omega
theorem rsL_step (l : List Int) (m p j : Nat) (hp : 9 ≤ p) (h3 : p % 3 ≠ 0) (hj : (p - 9) / 3 = j) (hjm : j < m) : (rsL l m p).set j (rs l p j * 16 + hexVal (nth l p)) = rsL l m (p + 1) := by
  apply ext_nth
  · simp [rsL]
  · intro q hq
    rw [List.length_set, rsL_length] at hq
    rw [nth_set (by rw [rsL_length]; exact hjm), nth_rsL _ _ _ _ hq, nth_rsL _ _ _ _ hq]
    by_cases hqj : q = j
    · rw [if_pos hqj, hqj]
      unfold rs
      by_cases h1 : p % 3 = 1
      · have e : p = 10 + 3 * j := by omega
        rw [if_neg (by omega), if_neg (by omega), if_neg (by omega), if_pos (by omega), e]; omega
      · have e : p = 11 + 3 * j := by omega
        rw [if_neg (by omega), if_pos (by omega), if_pos (by omega), e]
    · rw [if_neg hqj]
      unfold rs
      by_cases h1 : 12 + 3 * q ≤ p
      · have e1 : 12 + 3 * q ≤ p + 1 := by omega
        simp only [if_pos h1, if_pos e1]
      · have e1 : ¬ 12 + 3 * q ≤ p + 1 := by omega
        simp only [if_neg h1, if_neg e1]
        by_cases h2 : 11 + 3 * q ≤ p
        · have e2 : 11 + 3 * q ≤ p + 1 := by omega
          simp only [if_pos h2, if_pos e2]
        · have e2 : ¬ 11 + 3 * q ≤ p + 1 := by omega
          simp only [if_neg h2, if_neg e2]
theorem rsL_all (l : List Int) (m : Nat) : rsL l m (10 + 3 * m) = rowL l m := by
  apply ext_nth
  · rw [rsL_length, rowL_length]
  · intro j hj
    rw [rsL_length] at hj
    rw [nth_rsL _ _ _ _ hj, nth_rowL _ _ _ hj]
    unfold rs
    rw [if_pos (by omega)]
/-- The count of bytes that the length allows, looked for up to k. -/
def nv (N k : Nat) : Nat := if 13 ≤ N ∧ (N - 10) % 3 = 0 ∧ (N - 10) / 3 < k then (N - 10) / 3 else 0
theorem nv_hit (N k : Nat) (h1 : 1 ≤ k) (h : N = 10 + 3 * k) : nv N (k + 1) = k := by unfold nv; rw [if_pos (by omega)]; omega
theorem nv_miss (N k : Nat) (_h1 : 1 ≤ k) (h : N ≠ 10 + 3 * k) : nv N (k + 1) = nv N k := by
  unfold nv
  by_cases hc : 13 ≤ N ∧ (N - 10) % 3 = 0 ∧ (N - 10) / 3 < k
  · rw [if_pos (by omega), if_pos hc]
  · rw [if_neg (by omega), if_neg hc]

theorem lsame_yes (a b : Option Addr) (l : List Int) (n ca cb : Nat) (w : World) (ha : Vw w a l) (hb : Vw w b l) (hn : l.length = n) (hab : a.isNone = b.isNone) (_hbd : n ≤ 1000000) :
    Calls Yctm.prog 25 #[.slice a n ca, .slice b n cb] w fun e w' => e = .returned (.bool true) ∧ Same w w' := by
  have hq := eqlNil
  have hnn : ((n : Int) != (n : Int)) = false := by simp
  have hxx : (b.isNone != b.isNone) = false := by simp
  have HA : Hid (Vw w a l) := ha
  have HB : Hid (Vw w b l) := hb
  clear ha hb
  go_enter Yctm.func25, Yctm.ntmps25
  go_wp2_with fail
  clear hq
  go_loopw [5] (fun i wr => ∃ j : Nat, j ≤ n ∧ i = .int .i64 j ∧ Same w wr) (fun i _ => n - (intOf i).toNat)
  case atStart => exact ⟨0, by omega, rfl, Same.refl _⟩
  case round =>
    obtain ⟨j, hj, rfl, hsm⟩ := hrel
    have HSM : Hid (Same w wr) := hsm
    clear hsm
    by_cases hlt : j < n
    · obtain ⟨b1, o1, ea, hc1⟩ := (HA.out.same HSM.out) j (by omega)
      obtain ⟨b2, o2, eb, hc2⟩ := (HB.out.same HSM.out) j (by omega)
      subst ea eb
      have hne : (nth l j != nth l j) = false := by simp
      go_wp2
      go_quiet (fail)
      go_wp2
      go_roundw
      case rel => exact ⟨j + 1, by omega, by go_num, HSM.out.drewN _⟩
      case measure => simp [intOf]; omega
    · go_wp2_with fail
      go_ret
      exact ⟨rfl, HSM.out⟩
end Go.Proofs.Ymbrct
