import Derived.Test.YmbrctLeaf
namespace Go.Proofs.Ymbrct
open Go.RowKit

theorem jread_any (i : Nat) (hi : i < 16) (w : World) :
    Calls Yctm.prog 12 #[.int .u8 (dg i)] w fun e w' => e = .returned (.int .u8 i) ∧ w' = w := by
  have hv := hexVal_dg i hi
  have ho := hexOk_dg i hi
  have hb := dg_bd i hi
  generalize dg i = c at *
  by_cases h : c ≤ 57
  · have e1 : Hid (c - 48 = i) := by unfold hexVal at hv; rw [if_pos (by omega)] at hv; exact hv
    clear hv ho
    go_enter Yctm.func12, Yctm.ntmps12
    go_wp2
    go_ret
    exact ⟨by rw [← e1.out]; rfl, rfl⟩
  · have hc : 97 ≤ c := by simp [hexOk] at ho; omega
    have e1 : Hid (c - 97 + 10 = i) := by unfold hexVal at hv; rw [if_neg (by omega), if_pos (by omega)] at hv; unfold Hid; omega
    clear hv ho
    go_enter Yctm.func12, Yctm.ntmps12
    go_wp2
    go_ret
    exact ⟨by rw [← e1.out]; rfl, rfl⟩

theorem jround_walk (b : Int) (h0 : 0 ≤ b) (h1 : b < 256) (w : World) :
    Calls Yctm.prog 3 #[.int .u8 b] w fun e w' => e = .returned (.bool true) ∧ w' = w := by
  obtain ⟨i, hi⟩ : ∃ i : Nat, (b / 16).toNat = i := ⟨_, rfl⟩
  obtain ⟨j, hj⟩ : ∃ i : Nat, (b % 16).toNat = i := ⟨_, rfl⟩
  have hi16 : i < 16 := by omega
  have hj16 : j < 16 := by omega
  have ei : b / 16 = i := by omega
  have ej : b % 16 = j := by omega
  have e5 : ((i : Int) * 16 + j == b) = true := by simp; omega
  go_enter Yctm.func3, Yctm.ntmps3
  go_wp2_with fail
  refine (hexDigit_yes _ (by omega) (by omega) _).mono ?_
  rintro e w' ⟨rfl, rfl⟩
  go_wp2_with fail
  refine (hexDigit_yes _ (by omega) (by omega) _).mono ?_
  rintro e w' ⟨rfl, rfl⟩
  go_wp2_with fail
  refine (jread_any i hi16 _).mono ?_
  rintro e w' ⟨rfl, rfl⟩
  go_wp2_with fail
  refine (jread_any j hj16 _).mono ?_
  rintro e w' ⟨rfl, rfl⟩
  go_wp2_with fail
  go_ret
  exact ⟨rfl, rfl⟩

theorem jorder_walk (a b : Int) (h0 : 0 ≤ a) (g0 : 0 ≤ b) (w : World) :
    Calls Yctm.prog 4 #[.int .u8 a, .int .u8 b] w fun e w' => e = .returned (.bool true) ∧ w' = w := by
  obtain ⟨i, hi⟩ : ∃ i : Nat, (a % 16).toNat = i := ⟨_, rfl⟩
  obtain ⟨j, hj⟩ : ∃ i : Nat, (b % 16).toNat = i := ⟨_, rfl⟩
  have hi16 : i < 16 := by omega
  have hj16 : j < 16 := by omega
  have ei : a % 16 = i := by omega
  have ej : b % 16 = j := by omega
  have lt := dg_lt i j hi16 hj16
  have gt := dg_lt j i hj16 hi16
  have inj := dg_inj i j hi16 hj16
  rcases Nat.lt_trichotomy i j with h | h | h
  · have l1 : dg i < dg j := lt.1 h
    have l2 : ((i : Int) == (j : Int)) = false := by simp; omega
    have l3 : (dg i == dg j) = false := by simp; omega
    clear lt gt inj
    go_enter Yctm.func4, Yctm.ntmps4
    go_wp2_with fail
    refine (hexDigit_yes _ (by omega) (by omega) _).mono ?_
    rintro e w' ⟨rfl, rfl⟩
    go_wp2_with fail
    refine (hexDigit_yes _ (by omega) (by omega) _).mono ?_
    rintro e w' ⟨rfl, rfl⟩
    go_wp2_with fail
    go_ret
    exact ⟨rfl, rfl⟩
  · subst h
    clear lt gt inj
    go_enter Yctm.func4, Yctm.ntmps4
    go_wp2_with fail
    refine (hexDigit_yes _ (by omega) (by omega) _).mono ?_
    rintro e w' ⟨rfl, rfl⟩
    go_wp2_with fail
    refine (hexDigit_yes _ (by omega) (by omega) _).mono ?_
    rintro e w' ⟨rfl, rfl⟩
    go_wp2_with fail
    go_ret
    exact ⟨rfl, rfl⟩
  · have l1 : dg j < dg i := gt.1 h
    have l2 : ((i : Int) == (j : Int)) = false := by simp; omega
    have l3 : (dg i == dg j) = false := by simp; omega
    clear lt gt inj
    go_enter Yctm.func4, Yctm.ntmps4
    go_wp2_with fail
    refine (hexDigit_yes _ (by omega) (by omega) _).mono ?_
    rintro e w' ⟨rfl, rfl⟩
    go_wp2_with fail
    refine (hexDigit_yes _ (by omega) (by omega) _).mono ?_
    rintro e w' ⟨rfl, rfl⟩
    go_wp2_with fail
    go_ret
    exact ⟨rfl, rfl⟩
end Go.Proofs.Ymbrct
