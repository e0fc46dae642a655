import Derived.Test.YmbrcsLPl
import Derived.Test.YmbrcsCpy
namespace Go.Proofs.Ymbrcs
open Go.RowKit
attribute [local go_sem] dg_get

theorem fdigit_any (x : Int) (w : World) (_h0 : 0 ≤ x) :
    Calls Ycsm.prog 37 #[.int .u32 x] w fun e w' => e = .returned (.int .u8 (dg (x % 16).toNat)) ∧ w' = w := by
  have e15 := and15_u32 x
  go_enter Ycsm.func37, Ycsm.ntmps37
  go_wp2_with fail
  go_ret
  exact ⟨rfl, rfl⟩

set_option maxRecDepth 20000 in
set_option maxHeartbeats 1600000 in
theorem fat_any (p : Nat) (x : Int) (a : Option Addr) (l : List Int) (n c : Nat) (w : World) (h0 : 0 ≤ x) (_h1 : x < 4294967296) (hv : Vw w a l) (hb : Bts l) (hn : l.length = n) (hbd : n ≤ 1000000) (hp : p < 10 + 3 * n) :
    Calls Ycsm.prog 21 #[.int .i64 p, .int .u32 x, .slice a n c] w fun e w' => e = .returned (.int .u8 (nth (lineL x l) p)) ∧ w' = w := by
  have HV : Hid (Vw w a l) := hv
  clear hv
  by_cases h8 : p < 8
  · have E1 : Hid (x / 2 ^ (28 - 4 * p) % 16 = x / 16 ^ (7 - p) % 16) := by unfold Hid; rw [pow_nib p h8]
    have E2 : Hid (nth (lineL x l) p = dg (x / 2 ^ (28 - 4 * p) % 16).toNat) := by
      unfold Hid; rw [lineL_off x l p h8, nth_offD x p h8, E1.out]
    have qa : 0 ≤ x / 2 ^ (28 - 4 * p) := Int.ediv_nonneg h0 (Int.pow_nonneg (by decide))
    go_enter Ycsm.func21, Ycsm.ntmps21
    go_wp2_with fail
    refine (fdigit_any _ _ qa).mono ?_
    rintro e w' ⟨rfl, rfl⟩
    go_wp2_with fail
    go_ret
    exact ⟨by rw [E2.out]; rfl, rfl⟩
  by_cases h9 : p = 8
  · subst h9
    have E2 : Hid (nth (lineL x l) 8 = 58) := lineL_colon x l
    go_enter Ycsm.func21, Ycsm.ntmps21
    go_wp2_with fail
    go_ret
    exact ⟨by rw [E2.out]; rfl, rfl⟩
  have h9' : ((p : Int) == 8) = false := by simp; omega
  obtain ⟨q, hq⟩ : ∃ q : Nat, p = 9 + q := ⟨p - 9, by omega⟩
  have hqi : (p : Int) - 9 = (q : Int) := by omega
  by_cases hl : q = 3 * n
  · have hl' : ((q : Int) == 3 * (n : Int)) = true := by simp; omega
    have E2 : Hid (nth (lineL x l) p = 10) := by unfold Hid; rw [hq, hl, ← hn]; exact lineL_nl x l
    clear h9 hq hl
    go_enter Ycsm.func21, Ycsm.ntmps21
    go_wp2_with fail
    go_ret
    exact ⟨by rw [E2.out]; rfl, rfl⟩
  have hl' : ((q : Int) == 3 * (n : Int)) = false := by simp; omega
  obtain ⟨j, hj⟩ : ∃ j : Nat, q / 3 = j := ⟨_, rfl⟩
  have hji : (q : Int) / 3 = (j : Int) := by omega
  have hjn : j < n := by omega
  obtain ⟨b1, o1, rfl, hc1⟩ := HV.out j (by omega)
  have hbj := hb j
  have hE : Hid (nth (lineL x l) p = nth (cellL l) q) := by unfold Hid; rw [hq]; exact lineL_at x l q (by omega)
  have hC := nth_cellL l j (by omega)
  by_cases r0 : q % 3 = 0
  · have r0' : ((q : Int) % 3 == 0) = true := by simp; omega
    have E2 : Hid (nth (lineL x l) p = 32) := by unfold Hid; rw [hE.out, show q = 3 * j by omega]; exact hC.1
    clear h9 hq hl hC r0 hj
    go_enter Ycsm.func21, Ycsm.ntmps21
    go_wp2_with fail
    go_ret
    exact ⟨by rw [E2.out]; rfl, rfl⟩
  have r0' : ((q : Int) % 3 == 0) = false := by simp; omega
  by_cases r1 : q % 3 = 1
  · have r1' : ((q : Int) % 3 == 1) = true := by simp; omega
    have E2 : Hid (nth (lineL x l) p = dg (nth l j / 16 % 16).toNat) := by
      unfold Hid; rw [hE.out, show q = 3 * j + 1 by omega, hC.2.1]; congr 2; omega
    clear h9 hq hl hC r0 r1 hj
    go_enter Ycsm.func21, Ycsm.ntmps21
    go_wp2_with fail
    refine (fdigit_any (nth l j / 16) _ (by omega)).mono ?_
    rintro e w' ⟨rfl, rfl⟩
    go_wp2_with fail
    go_ret
    exact ⟨by rw [E2.out]; rfl, rfl⟩
  · have r1' : ((q : Int) % 3 == 1) = false := by simp; omega
    have E2 : Hid (nth (lineL x l) p = dg (nth l j % 16).toNat) := by
      unfold Hid; rw [hE.out, show q = 3 * j + 2 by omega, hC.2.2]
    clear h9 hq hl hC r0 r1 hj
    go_enter Ycsm.func21, Ycsm.ntmps21
    go_wp2_with fail
    refine (fdigit_any (nth l j) _ (by omega)).mono ?_
    rintro e w' ⟨rfl, rfl⟩
    go_wp2_with fail
    go_ret
    exact ⟨by rw [E2.out]; rfl, rfl⟩

def goodB (x : Int) (n : Nat) : Bool := decide (1 ≤ n) && decide (n ≤ 16) && fitsB x n
theorem goodB_yes {x : Int} {n : Nat} (h : goodB x n = true) : 1 ≤ n ∧ n ≤ 16 ∧ fitsB x n = true := by
  unfold goodB at h
  simp only [Bool.and_eq_true, decide_eq_true_eq] at h
  exact ⟨h.1.1, h.1.2, h.2⟩
theorem goodB_no {x : Int} {n : Nat} (h : goodB x n = false) : n = 0 ∨ 16 < n ∨ fitsB x n = false := by
  by_cases h1 : n = 0
  · exact .inl h1
  by_cases h2 : 16 < n
  · exact .inr (.inl h2)
  refine .inr (.inr ?_)
  unfold goodB at h
  rw [decide_eq_true (show 1 ≤ n by omega), decide_eq_true (show n ≤ 16 by omega)] at h
  simpa using h
theorem fgood_any (x : Int) (n : Nat) (w : World) (h0 : 0 ≤ x) (h1 : x < 4294967296) (hn : n ≤ 1000000) :
    Calls Ycsm.prog 20 #[.int .u32 x, .int .i64 n] w fun e w' => e = .returned (.bool (goodB x n)) ∧ w' = w := by
  by_cases a1 : 1 ≤ n
  case neg =>
    have E : Hid (goodB x n = false) := by unfold Hid goodB; rw [decide_eq_false a1]; rfl
    go_enter Ycsm.func20, Ycsm.ntmps20
    go_wp2_with fail
    go_ret
    exact ⟨by rw [E.out]; rfl, rfl⟩
  by_cases a2 : n ≤ 16
  case neg =>
    have E : Hid (goodB x n = false) := by unfold Hid goodB; rw [decide_eq_false a2, Bool.and_false]; rfl
    go_enter Ycsm.func20, Ycsm.ntmps20
    go_wp2_with fail
    go_ret
    exact ⟨by rw [E.out]; rfl, rfl⟩
  by_cases a3 : x + n ≤ 4294967296
  · have E : Hid (goodB x n = true) := by
      unfold Hid goodB fitsB
      rw [decide_eq_true a1, decide_eq_true a2, decide_eq_true (show (0 : Int) ≤ n by omega), decide_eq_true (show (n : Int) ≤ 4294967296 - x by omega)]; rfl
    go_enter Ycsm.func20, Ycsm.ntmps20
    go_wp2_with fail
    go_ret
    exact ⟨by rw [E.out]; rfl, rfl⟩
  · have E : Hid (goodB x n = false) := by
      unfold Hid goodB fitsB
      rw [decide_eq_false (show ¬ (n : Int) ≤ 4294967296 - x by omega), Bool.and_false, Bool.and_false]
    go_enter Ycsm.func20, Ycsm.ntmps20
    go_wp2_with fail
    go_ret
    exact ⟨by rw [E.out]; rfl, rfl⟩
end Go.Proofs.Ymbrcs
