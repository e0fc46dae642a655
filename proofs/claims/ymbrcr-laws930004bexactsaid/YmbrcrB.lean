import Derived.Test.YmbrcrLen
import Derived.Test.YmbrcrD
namespace Go.Proofs.Ymbrcr
open Go.RowKit

/-- zzs930004blen. -/
theorem blen_any (n : Int) (w : World) (h0 : 0 ≤ n) (h1 : n ≤ 4294967296) :
    Calls Ycrm.prog 18 #[.int .i64 n] w fun e w' => e = .returned (.int .i64 (dlen n)) ∧ w' = w := by
  by_cases h : 0 < n % 16
  · have e : Hid (dlen n = n / 16 * 58 + (10 + 3 * (n % 16))) := by unfold dlen Hid; rw [if_pos h]
    go_enter Ycrm.func18, Ycrm.ntmps18
    go_wp2
    go_ret
    exact ⟨by rw [e.out]; rfl, rfl⟩
  · have e : Hid (dlen n = n / 16 * 58) := by unfold dlen Hid; rw [if_neg h]; omega
    go_enter Ycrm.func18, Ycrm.ntmps18
    go_wp2
    go_ret
    exact ⟨by rw [e.out]; rfl, rfl⟩

theorem data_dlen (n : Int) (h0 : 0 ≤ n) (h1 : n ≤ 4294967296) : DataOk (dlen n) ∧ dataN (dlen n) = n := by
  have key : dataN (dlen n) = n := by
    unfold dataN dlen; split <;> split <;> omega
  refine ⟨⟨by have := dlen_bd n h0 h1; omega, ?_, by omega⟩, key⟩
  unfold dlen
  split
  · have e : (n / 16 * 58 + (10 + 3 * (n % 16))) % 58 = 10 + 3 * (n % 16) := by omega
    rw [e]; omega
  · omega

/-- The candidate k stands. -/
def Cand (size : Int) (j : Nat) : Prop := size / 58 * 16 + j ≤ 4294967296 ∧ dlen (size / 58 * 16 + j) = size
theorem cand_yes (size : Int) (j : Nat) (h0 : 0 ≤ size) (hj : j < 16) (h : Cand size j) : DataOk size ∧ dataN size = size / 58 * 16 + j := by
  obtain ⟨h1, h2⟩ := h
  have := data_dlen (size / 58 * 16 + j) (by omega) h1
  rw [h2] at this
  exact this
theorem cand_of (size : Int) (h : DataOk size) : ∃ j : Nat, j < 16 ∧ Cand size j := by
  obtain ⟨h0, h1, h2⟩ := h
  rcases h1 with h1 | ⟨h1, h3⟩
  · refine ⟨0, by omega, ?_, ?_⟩
    · unfold dataN at h2; rw [if_neg (by omega)] at h2; omega
    · unfold dlen; rw [if_neg (by omega)]; omega
  · refine ⟨((size % 58 - 10) / 3).toNat, by omega, ?_, ?_⟩
    · unfold dataN at h2; rw [if_pos (by omega)] at h2; omega
    · unfold dlen; rw [if_pos (by omega)]; omega

theorem bround_walk (a0 : Int) (a1 : Bool) (h0 : 0 ≤ a0) (w : World) :
    Calls Ycrm.prog 6 #[.int .u64 a0, .bool a1] w fun e w' => e = .returned (.bool true) ∧ w' = w := by
  cases a1
  go_enter Ycrm.func6, Ycrm.ntmps6
  go_wp2_with fail
  have g0 : 0 ≤ a0 % 4294967297 := by omega
  have g1 : a0 % 4294967297 ≤ 4294967296 := by omega
  generalize a0 % 4294967297 = n at *
  rotate_left
  go_enter Ycrm.func6, Ycrm.ntmps6
  go_wp2_with fail
  have g0 : 0 ≤ 4294967296 - a0 % 4294967297 := by omega
  have g1 : 4294967296 - a0 % 4294967297 ≤ 4294967296 := by omega
  generalize 4294967296 - a0 % 4294967297 = n at *
  all_goals
    clear h0
    refine (blen_any n _ g0 g1).mono ?_
    rintro e w' ⟨rfl, rfl⟩
    obtain ⟨k1, k2⟩ := data_dlen n g0 g1
    have bd := dlen_bd n g0 g1
    go_wp2_with fail
    refine (dataLen_yes (dlen n) _ k1 (by omega)).mono ?_
    rintro e w' ⟨rfl, rfl⟩
    clear k1
    go_wp2_with fail
    go_ret
    exact ⟨rfl, rfl⟩

theorem cand_step {a0 : Int} {k : Nat} {want found : Value}
    (h : (want = .int .i64 0 ∧ found = .bool false ∧ ∀ j, j < k → ¬ Cand a0 j) ∨ ∃ j, j < k ∧ Cand a0 j ∧ want = .int .i64 (a0 / 58 * 16 + j) ∧ found = .bool true) (hn : ¬ Cand a0 k) :
    (want = .int .i64 0 ∧ found = .bool false ∧ ∀ j, j < k + 1 → ¬ Cand a0 j) ∨ ∃ j, j < k + 1 ∧ Cand a0 j ∧ want = .int .i64 (a0 / 58 * 16 + j) ∧ found = .bool true := by
  rcases h with ⟨e1, e2, h⟩ | ⟨j, hj, hc, e1, e2⟩
  · refine .inl ⟨e1, e2, fun j hj => ?_⟩
    by_cases hjk : j = k
    · rw [hjk]; exact hn
    · exact h j (by omega)
  · exact .inr ⟨j, by omega, hc, e1, e2⟩

set_option maxHeartbeats 800000 in
theorem bexact_walk (a0 : Int) (hm : a0 ≤ 9223372036854775807) (w : World) :
    Calls Ycrm.prog 8 #[.int .i64 a0] w fun e w' => e = .returned (.bool true) ∧ w' = w := by
  by_cases h0 : 0 ≤ a0
  · go_enter Ycrm.func8, Ycrm.ntmps8
    go_wp2_with fail
    go_loop [3, 4, 6] (fun want found i => ∃ k : Nat, k ≤ 16 ∧ i = .int .i64 k ∧
        ((want = .int .i64 0 ∧ found = .bool false ∧ ∀ j, j < k → ¬ Cand a0 j) ∨ ∃ j, j < k ∧ Cand a0 j ∧ want = .int .i64 (a0 / 58 * 16 + j) ∧ found = .bool true))
      (fun _ _ i => 16 - (intOf i).toNat)
    case atStart => exact ⟨0, by omega, rfl, .inl ⟨rfl, rfl, fun j hj => by omega⟩⟩
    case round =>
      obtain ⟨k, hk, rfl, hrel⟩ := hrel
      by_cases hlt : k < 16
      · by_cases hle : a0 / 58 * 16 + k ≤ 4294967296
        · by_cases hq : dlen (a0 / 58 * 16 + k) = a0
          · have hb : (dlen (a0 / 58 * 16 + k) == a0) = true := by simp [hq]
            have HQ : Hid (dlen (a0 / 58 * 16 + k) = a0) := hq
            clear hq hrel
            go_wp2_with fail
            refine (blen_any _ _ (by omega) hle).mono ?_
            rintro e w' ⟨rfl, rfl⟩
            go_wp2_with fail
            go_round
            case rel => exact ⟨k + 1, by omega, by go_num, .inr ⟨k, by omega, ⟨hle, HQ.out⟩, rfl, rfl⟩⟩
            case measure => simp [intOf]; omega
          · have hb : (dlen (a0 / 58 * 16 + k) == a0) = false := by simp [hq]
            go_wp2_with fail
            refine (blen_any _ _ (by omega) hle).mono ?_
            rintro e w' ⟨rfl, rfl⟩
            go_wp2_with fail
            go_round
            case rel => exact ⟨k + 1, by omega, by go_num, cand_step hrel (fun h => hq h.2)⟩
            case measure => simp [intOf]; omega
        · go_wp2_with fail
          go_round
          case rel => exact ⟨k + 1, by omega, by go_num, cand_step hrel (fun h => hle h.1)⟩
          case measure => simp [intOf]; omega
      · rcases hrel with ⟨rfl, rfl, hno⟩ | ⟨j, hj, hc, rfl, rfl⟩
        · have hd : ¬ DataOk a0 := fun h => by
            obtain ⟨j, hj, hc⟩ := cand_of a0 h
            exact hno j (by omega) hc
          clear hno
          go_wp2_with fail
          refine (dataLen_no a0 _ hd hm).mono ?_
          rintro e w' ⟨rfl, rfl⟩
          clear hd
          go_wp2_with fail
          go_ret
          exact ⟨rfl, rfl⟩
        · obtain ⟨k1, k2⟩ := cand_yes a0 j h0 (by omega) hc
          clear hc
          go_wp2_with fail
          refine (dataLen_yes a0 _ k1 hm).mono ?_
          rintro e w' ⟨rfl, rfl⟩
          clear k1
          go_wp2_with fail
          go_ret
          exact ⟨rfl, rfl⟩
  · have hd : ¬ DataOk a0 := fun h => h0 h.1
    go_enter Ycrm.func8, Ycrm.ntmps8
    go_wp2_with fail
    refine (dataLen_no a0 _ hd hm).mono ?_
    rintro e w' ⟨rfl, rfl⟩
    clear hd
    go_wp2_with fail
    go_ret
    exact ⟨rfl, rfl⟩
end Go.Proofs.Ymbrcr
