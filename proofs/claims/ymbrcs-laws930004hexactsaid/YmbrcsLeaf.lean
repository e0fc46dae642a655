import Derived.Test.YmbrcsRows
import Derived.WalkKit
import Derived.ProofKit
import Derived.OpenShut
import Derived.WalkSpells
import Derived.Test.YmbrcsHex
namespace Go.Proofs.Ymbrcs
open Go.RowKit

theorem hexValue_any (c : Int) (h0 : 0 ≤ c) (h1 : c < 256) (w : World) :
    Calls Ycsm.prog 23 #[.int .u8 c] w fun e w' => e = .returned (.tuple #[.int .u8 (hexVal c), .bool (hexOk c)]) ∧ w' = w := by
  by_cases ha : 48 ≤ c
  · by_cases hb : c ≤ 57
    · have e1 : Hid (hexVal c = c - 48) := by unfold hexVal Hid; rw [if_pos ⟨ha, hb⟩]
      have e2 : Hid (hexOk c = true) := by unfold hexOk Hid; simp; omega
      go_enter Ycsm.func23, Ycsm.ntmps23
      go_wp2
      go_ret2
      exact ⟨by rw [e1.out, e2.out]; rfl, rfl⟩
    · by_cases hc : 97 ≤ c
      · by_cases hd : c ≤ 102
        · have e1 : Hid (hexVal c = c - 97 + 10) := by unfold hexVal Hid; rw [if_neg (by omega), if_pos ⟨hc, hd⟩]; omega
          have e2 : Hid (hexOk c = true) := by unfold hexOk Hid; simp; omega
          go_enter Ycsm.func23, Ycsm.ntmps23
          go_wp2
          go_ret2
          exact ⟨by rw [e1.out, e2.out]; rfl, rfl⟩
        · have e1 : Hid (hexVal c = 0) := by unfold hexVal Hid; rw [if_neg (by omega), if_neg (by omega)]
          have e2 : Hid (hexOk c = false) := by unfold hexOk Hid; simp; omega
          go_enter Ycsm.func23, Ycsm.ntmps23
          go_wp2
          go_ret2
          exact ⟨by rw [e1.out, e2.out]; rfl, rfl⟩
      · have e1 : Hid (hexVal c = 0) := by unfold hexVal Hid; rw [if_neg (by omega), if_neg (by omega)]
        have e2 : Hid (hexOk c = false) := by unfold hexOk Hid; simp; omega
        go_enter Ycsm.func23, Ycsm.ntmps23
        go_wp2
        go_ret2
        exact ⟨by rw [e1.out, e2.out]; rfl, rfl⟩
  · have e1 : Hid (hexVal c = 0) := by unfold hexVal Hid; rw [if_neg (by omega), if_neg (by omega)]
    have e2 : Hid (hexOk c = false) := by unfold hexOk Hid; simp; omega
    have hc : ¬ 97 ≤ c := by omega
    go_enter Ycsm.func23, Ycsm.ntmps23
    go_wp2
    go_ret2
    exact ⟨by rw [e1.out, e2.out]; rfl, rfl⟩

theorem hexDigit_yes (n : Int) (h0 : 0 ≤ n) (h1 : n < 16) (w : World) :
    Calls Ycsm.prog 43 #[.int .u8 n] w fun e w' => e = .returned (.tuple #[.int .u8 (dg n.toNat), .bool true]) ∧ w' = w := by
  by_cases ha : n < 10
  · have e1 : Hid (dg n.toNat = 48 + n) := by unfold dg Hid; rw [if_pos (by omega)]; omega
    go_enter Ycsm.func43, Ycsm.ntmps43
    go_wp2
    go_ret2
    exact ⟨by rw [e1.out]; rfl, rfl⟩
  · have e1 : Hid (dg n.toNat = 97 + (n - 10)) := by unfold dg Hid; rw [if_neg (by omega)]; omega
    go_enter Ycsm.func43, Ycsm.ntmps43
    go_wp2
    go_ret2
    exact ⟨by rw [e1.out]; rfl, rfl⟩
theorem hexDigit_no (n : Int) (h0 : 16 ≤ n) (h1 : n < 256) (w : World) :
    Calls Ycsm.prog 43 #[.int .u8 n] w fun e w' => e = .returned (.tuple #[.int .u8 0, .bool false]) ∧ w' = w := by
  have ha : ¬ n < 10 := by omega
  have hb : ¬ n < 16 := by omega
  go_enter Ycsm.func43, Ycsm.ntmps43
  go_wp2
  go_ret2
  exact ⟨rfl, rfl⟩
end Go.Proofs.Ymbrcs
