import Derived.Test.YmbrcsLeaf
namespace Go.Proofs.Ymbrcs
open Go.RowKit
attribute [local go_sem] dg_get

/-- The i-th digit, its letters in upper case. -/
def dgU (i : Nat) : Int := if i < 10 then 48 + i else 55 + i
theorem dgU_get (i : Nat) (h : i < ByteArray.size { data := #[48, 49, 50, 51, 52, 53, 54, 55, 56, 57, 65, 66, 67, 68, 69, 70] }) :
    ((({ data := #[48, 49, 50, 51, 52, 53, 54, 55, 56, 57, 65, 66, 67, 68, 69, 70] } : ByteArray)[i]'h).toNat : Int) = dgU i := by
  have h' : i < 16 := h
  have : i = 0 ∨ i = 1 ∨ i = 2 ∨ i = 3 ∨ i = 4 ∨ i = 5 ∨ i = 6 ∨ i = 7 ∨ i = 8 ∨ i = 9 ∨ i = 10 ∨ i = 11 ∨ i = 12 ∨ i = 13 ∨ i = 14 ∨ i = 15 := by omega
  rcases this with rfl | rfl | rfl | rfl | rfl | rfl | rfl | rfl | rfl | rfl | rfl | rfl | rfl | rfl | rfl | rfl <;> rfl
attribute [local go_sem] dgU_get
theorem dgU_bd (i : Nat) (h : i < 16) : 0 ≤ dgU i ∧ dgU i < 256 := by unfold dgU; split <;> omega
theorem dgU_lo (i : Nat) (h : i < 10) : hexVal (dgU i) = i ∧ hexOk (dgU i) = true := by
  unfold hexVal hexOk dgU
  rw [if_pos h]
  exact ⟨by rw [if_pos (by omega)]; omega, by simp; omega⟩
theorem dgU_hi (i : Nat) (h : ¬ i < 10) (h16 : i < 16) : hexVal (dgU i) = 0 ∧ hexOk (dgU i) = false := by
  unfold hexVal hexOk dgU
  rw [if_neg h]
  exact ⟨by rw [if_neg (by omega), if_neg (by omega)], by simp; omega⟩

theorem gdigit_walk (a0 : Int) (h0 : 0 ≤ a0) (_h1 : a0 < 256) (w : World) :
    Calls Ycsm.prog 9 #[.int .u8 a0] w fun e w' => e = .returned (.bool true) ∧ w' = w := by
  obtain ⟨n, hn⟩ : ∃ n : Nat, (a0 % 16).toNat = n := ⟨_, rfl⟩
  have hn16 : n < 16 := by omega
  have hn' : a0 % 16 = n := by omega
  have b1 := dg_bd n hn16
  have b2 := dgU_bd n hn16
  have v1 := hexVal_dg n hn16
  have v2 := hexOk_dg n hn16
  go_enter Ycsm.func9, Ycsm.ntmps9
  go_wp2_with fail
  refine (hexValue_any (dg n) (by omega) (by omega) _).mono ?_
  rintro e w' ⟨rfl, rfl⟩
  go_wp2_with fail
  refine (hexValue_any (dgU n) (by omega) (by omega) _).mono ?_
  rintro e w' ⟨rfl, rfl⟩
  by_cases hc : n < 10
  · obtain ⟨u1, u2⟩ := dgU_lo n hc
    go_wp2_with fail
    go_ret
    exact ⟨rfl, rfl⟩
  · obtain ⟨u1, u2⟩ := dgU_hi n hc hn16
    go_wp2_with fail
    go_ret
    exact ⟨rfl, rfl⟩

/-- zzs930004gfind. -/
theorem gfind_any (c : Int) (w : World) :
    Calls Ycsm.prog 22 #[.int .u8 c] w fun e w' => e = .returned (.tuple #[.int .u8 (hexVal c), .bool (hexOk c)]) ∧ w' = w := by
  go_enter Ycsm.func22, Ycsm.ntmps22
  go_wp2
  go_loop [4] (fun i => ∃ k : Nat, k ≤ 16 ∧ i = .int .i64 k ∧ ∀ j, j < k → dg j ≠ c) (fun i => 16 - (intOf i).toNat)
  case atStart => exact ⟨0, by omega, rfl, fun j hj => by omega⟩
  case round =>
    obtain ⟨k, hk, rfl, hne⟩ := hrel
    by_cases hlt : k < 16
    · by_cases hq : dg k = c
      · obtain ⟨u1, u2⟩ := hexOk_at c k hlt hq
        have hb : (dg k == c) = true := by simp [hq]
        have U1 : Hid (hexOk c = true) := u1
        have U2 : Hid (hexVal c = k) := u2
        clear u1 u2 hq
        go_wp2
        go_ret2
        exact ⟨by rw [U1.out, U2.out]; rfl, rfl⟩
      · have hb : (dg k == c) = false := by simp [hq]
        go_wp2
        go_round
        case rel => exact ⟨k + 1, by omega, by go_num, fun j hj => by
          by_cases h : j = k
          · subst h; exact hq
          · exact hne j (by omega)⟩
        case measure => simp [intOf]; omega
    · have u1 := hexOk_none c (fun j hj => hne j (by omega))
      have U1 : Hid (hexOk c = false) := u1
      have U2 : Hid (hexVal c = 0) := hexVal_no c u1
      clear u1
      go_wp2
      go_ret2
      exact ⟨by rw [U1.out, U2.out]; rfl, rfl⟩

def anc (i : Nat) : Int := if i = 0 then 0 else if i = 1 then 47 else if i = 2 then 57 else if i = 3 then 96 else if i = 4 then 102 else 65
theorem anc_get (i : Nat) (h : i < ByteArray.size { data := #[0, 47, 57, 96, 102, 65] }) : ((({ data := #[0, 47, 57, 96, 102, 65] } : ByteArray)[i]'h).toNat : Int) = anc i := by
  have h' : i < 6 := h
  have : i = 0 ∨ i = 1 ∨ i = 2 ∨ i = 3 ∨ i = 4 ∨ i = 5 := by omega
  rcases this with rfl | rfl | rfl | rfl | rfl | rfl <;> rfl
attribute [local go_sem] anc_get

theorem gtable_walk (a0 a1 : Int) (h0 : 0 ≤ a0) (_h1 : a0 < 256) (w : World) :
    Calls Ycsm.prog 8 #[.int .u8 a0, .int .u8 a1] w fun e w' => e = .returned (.bool true) ∧ w' = w := by
  go_enter Ycsm.func8, Ycsm.ntmps8
  go_wp2_with fail
  have g0 : 0 ≤ (anc (a0 % 6).toNat + a1) % 256 := by omega
  have g1 : (anc (a0 % 6).toNat + a1) % 256 < 256 := by omega
  generalize (anc (a0 % 6).toNat + a1) % 256 = c at *
  refine (gfind_any c _).mono ?_
  rintro e w' ⟨rfl, rfl⟩
  go_wp2_with fail
  refine (hexValue_any c g0 g1 _).mono ?_
  rintro e w' ⟨rfl, rfl⟩
  go_wp2_with fail
  go_ret
  exact ⟨rfl, rfl⟩
end Go.Proofs.Ymbrcs
