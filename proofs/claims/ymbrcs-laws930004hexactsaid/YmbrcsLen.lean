import Derived.Test.YmbrcsRows
import Derived.WalkKit
import Derived.ProofKit
import Derived.OpenShut
import Derived.WalkSpells
namespace Go.Proofs.Ymbrcs
open Go.RowKit

/-- How many bytes a dump of so many signs holds, if its length is one of a dump. -/
def dataN (size : Int) : Int := size / 58 * 16 + if 0 < size % 58 then (size % 58 - 10) / 3 else 0
def DataOk (size : Int) : Prop := 0 ≤ size ∧ (size % 58 = 0 ∨ (13 ≤ size % 58 ∧ (size % 58 - 10) % 3 = 0)) ∧ dataN size ≤ 4294967296

theorem dataLen_yes (size : Int) (w : World) (h : DataOk size) (_hm : size ≤ 9223372036854775807) :
    Calls Ycsm.prog 39 #[.int .i64 size] w fun e w' => e = .returned (.tuple #[.int .i64 (dataN size), .bool true]) ∧ w' = w := by
  obtain ⟨h0, h1, h2⟩ := h
  rcases h1 with h1 | ⟨h1, h3⟩
  · have e1 : dataN size = size / 58 * 16 := by unfold dataN; rw [if_neg (by omega)]; omega
    have h4 : size / 58 * 16 ≤ 4294967296 := by omega
    have E1 : Hid (dataN size = size / 58 * 16) := e1
    clear e1 h2
    go_enter Ycsm.func39, Ycsm.ntmps39
    go_wp2
    go_ret2
    exact ⟨by rw [E1.out]; rfl, rfl⟩
  · have e1 : dataN size = size / 58 * 16 + (size % 58 - 10) / 3 := by unfold dataN; rw [if_pos (by omega)]
    have h4 : size / 58 * 16 + (size % 58 - 10) / 3 ≤ 4294967296 := by omega
    have h5 : 0 < size % 58 := by omega
    have h6 : ((size % 58 - 10) % 3 != 0) = false := by simp [h3]
    have E1 : Hid (dataN size = size / 58 * 16 + (size % 58 - 10) / 3) := e1
    clear e1 h2 h3
    go_enter Ycsm.func39, Ycsm.ntmps39
    go_wp2
    go_ret2
    exact ⟨by rw [E1.out]; rfl, rfl⟩

theorem dataLen_no (size : Int) (w : World) (h : ¬ DataOk size) (_hm : size ≤ 9223372036854775807) :
    Calls Ycsm.prog 39 #[.int .i64 size] w fun e w' => e = .returned (.tuple #[.int .i64 0, .bool false]) ∧ w' = w := by
  by_cases h0 : size < 0
  · go_enter Ycsm.func39, Ycsm.ntmps39
    go_wp2
    go_ret2
    exact ⟨rfl, rfl⟩
  by_cases h1 : size % 58 = 0
  · have e1 : dataN size = size / 58 * 16 := by unfold dataN; rw [if_neg (by omega)]; omega
    have h4 : 4294967296 < size / 58 * 16 := by
      apply Int.not_le.1
      intro hh; exact h ⟨by omega, .inl h1, by omega⟩
    clear e1 h
    go_enter Ycsm.func39, Ycsm.ntmps39
    go_wp2
    go_ret2
    exact ⟨rfl, rfl⟩
  have h5 : 0 < size % 58 := by omega
  by_cases h2 : size % 58 < 13
  · clear h
    go_enter Ycsm.func39, Ycsm.ntmps39
    go_wp2
    go_ret2
    exact ⟨rfl, rfl⟩
  by_cases h3 : (size % 58 - 10) % 3 = 0
  · have e1 : dataN size = size / 58 * 16 + (size % 58 - 10) / 3 := by unfold dataN; rw [if_pos (by omega)]
    have h4 : 4294967296 < size / 58 * 16 + (size % 58 - 10) / 3 := by
      apply Int.not_le.1
      intro hh; exact h ⟨by omega, .inr ⟨by omega, h3⟩, by omega⟩
    have h6 : ((size % 58 - 10) % 3 != 0) = false := by simp [h3]
    clear e1 h h3
    go_enter Ycsm.func39, Ycsm.ntmps39
    go_wp2
    go_ret2
    exact ⟨rfl, rfl⟩
  · have h6 : ((size % 58 - 10) % 3 != 0) = true := by simpa using h3
    clear h h3
    go_enter Ycsm.func39, Ycsm.ntmps39
    go_wp2
    go_ret2
    exact ⟨rfl, rfl⟩
end Go.Proofs.Ymbrcs
