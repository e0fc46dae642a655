import Derived.Test.YmbrcsLeaf
namespace Go.Proofs.Ymbrcs
open Go.RowKit
attribute [local go_sem] dg_get

/-- The place of a digit among the sixteen, or -1. -/
def iV (c : Int) : Int := if hexOk c = true then hexVal c else -1
theorem iV_bd (c : Int) : -1 ≤ iV c ∧ iV c < 16 := by
  have := hexVal_bd c
  unfold iV; split <;> omega
theorem iV_yes (c : Int) (h : hexOk c = true) : iV c = hexVal c := by unfold iV; rw [if_pos h]
theorem iV_no (c : Int) (h : hexOk c = false) : iV c = -1 := by unfold iV; rw [if_neg (by simp [h])]

theorem eval_any (c : Int) (w : World) :
    Calls Ycsm.prog 16 #[.int .u8 c] w fun e w' => e = .returned (.int .i64 (iV c)) ∧ w' = w := by
  go_enter Ycsm.func16, Ycsm.ntmps16
  go_wp2
  go_loop [3] (fun i => ∃ k : Nat, k ≤ 16 ∧ i = .int .i64 k ∧ ∀ j, j < k → dg j ≠ c) (fun i => 16 - (intOf i).toNat)
  case atStart => exact ⟨0, by omega, rfl, fun j hj => by omega⟩
  case round =>
    obtain ⟨k, hk, rfl, hne⟩ := hrel
    by_cases hlt : k < 16
    · by_cases hq : dg k = c
      · obtain ⟨u1, u2⟩ := hexOk_at c k hlt hq
        have hb : (dg k == c) = true := by simp [hq]
        have U1 : Hid (iV c = k) := by unfold Hid; rw [iV_yes c u1, u2]
        clear u1 u2 hq
        go_wp2
        go_ret
        exact ⟨by rw [U1.out]; rfl, rfl⟩
      · have hb : (dg k == c) = false := by simp [hq]
        go_wp2
        go_round
        case rel => exact ⟨k + 1, by omega, by go_num, fun j hj => by
          by_cases h : j = k
          · subst h; exact hq
          · exact hne j (by omega)⟩
        case measure => simp [intOf]; omega
    · have u1 := hexOk_none c (fun j hj => hne j (by omega))
      have U1 : Hid (iV c = -1) := iV_no c u1
      clear u1
      go_wp2
      go_ret
      exact ⟨by rw [U1.out]; rfl, rfl⟩
theorem idigit_any (c : Int) (w : World) :
    Calls Ycsm.prog 42 #[.int .u8 c] w fun e w' => e = .returned (.int .i64 (iV c)) ∧ w' = w := by
  go_enter Ycsm.func42, Ycsm.ntmps42
  go_wp2
  go_loop [3] (fun i => ∃ k : Nat, k ≤ 16 ∧ i = .int .i64 k ∧ ∀ j, j < k → dg j ≠ c) (fun i => 16 - (intOf i).toNat)
  case atStart => exact ⟨0, by omega, rfl, fun j hj => by omega⟩
  case round =>
    obtain ⟨k, hk, rfl, hne⟩ := hrel
    by_cases hlt : k < 16
    · by_cases hq : dg k = c
      · obtain ⟨u1, u2⟩ := hexOk_at c k hlt hq
        have hb : (dg k == c) = true := by simp [hq]
        have U1 : Hid (iV c = k) := by unfold Hid; rw [iV_yes c u1, u2]
        clear u1 u2 hq
        go_wp2
        go_ret
        exact ⟨by rw [U1.out]; rfl, rfl⟩
      · have hb : (dg k == c) = false := by simp [hq]
        go_wp2
        go_round
        case rel => exact ⟨k + 1, by omega, by go_num, fun j hj => by
          by_cases h : j = k
          · subst h; exact hq
          · exact hne j (by omega)⟩
        case measure => simp [intOf]; omega
    · have u1 := hexOk_none c (fun j hj => hne j (by omega))
      have U1 : Hid (iV c = -1) := iV_no c u1
      clear u1
      go_wp2
      go_ret
      exact ⟨by rw [U1.out]; rfl, rfl⟩
end Go.Proofs.Ymbrcs
