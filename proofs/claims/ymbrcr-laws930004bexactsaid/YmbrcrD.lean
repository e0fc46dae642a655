import Derived.Test.YmbrcrRows
import Derived.WalkKit
import Derived.ProofKit
import Derived.OpenShut
import Derived.WalkSpells
import Derived.Outline
import Derived.Test.YmbrcrBits
namespace Go.Proofs.Ymbrcr
open Go.RowKit

theorem dumpLen_no (n : Int) (w : World) (h : n < 0 ∨ 4294967296 < n) :
    Calls Ycrm.prog 23 #[.int .i64 n] w fun e w' => e = .returned (.tuple #[.int .i64 0, .bool false]) ∧ w' = w := by
  rcases h with h | h
  · go_enter Ycrm.func23, Ycrm.ntmps23
    go_wp2
    go_ret2
    exact ⟨rfl, rfl⟩
  · have h' : ¬ n < 0 := by omega
    go_enter Ycrm.func23, Ycrm.ntmps23
    go_wp2
    go_ret2
    exact ⟨rfl, rfl⟩

def dlen (n : Int) : Int := n / 16 * 58 + if 0 < n % 16 then 10 + 3 * (n % 16) else 0

theorem dumpLen_yes (n : Int) (w : World) (h0 : 0 ≤ n) (h1 : n ≤ 4294967296) :
    Calls Ycrm.prog 23 #[.int .i64 n] w fun e w' => e = .returned (.tuple #[.int .i64 (dlen n), .bool true]) ∧ w' = w := by
  by_cases h : 0 < n % 16
  · have e : Hid (dlen n = n / 16 * 58 + (10 + 3 * (n % 16))) := by unfold dlen Hid; rw [if_pos h]
    go_enter Ycrm.func23, Ycrm.ntmps23
    go_wp2
    go_ret2
    exact ⟨by rw [e.out]; rfl, rfl⟩
  · have e : Hid (dlen n = n / 16 * 58) := by unfold dlen Hid; rw [if_neg h]; omega
    go_enter Ycrm.func23, Ycrm.ntmps23
    go_wp2
    go_ret2
    exact ⟨by rw [e.out]; rfl, rfl⟩

theorem dlen_ceil (n : Int) : dlen n = (n + 15) / 16 * 10 + 3 * n := by
  unfold dlen; split <;> omega

theorem dexact_walk (a0 : Int) (a1 : Bool) (w : World) :
    Calls Ycrm.prog 12 #[.int .i64 a0, .bool a1] w fun e w' => e = .returned (.bool true) ∧ w' = w := by
  cases a1
  go_enter Ycrm.func12, Ycrm.ntmps12
  go_wp2_with fail
  rotate_left
  go_enter Ycrm.func12, Ycrm.ntmps12
  go_wp2_with fail
  generalize wrap64 (a0 + 4294967296) = a0
  all_goals
    by_cases h : a0 < 0 ∨ 4294967296 < a0
    · refine (dumpLen_no _ _ h).mono ?_
      rintro e w' ⟨rfl, rfl⟩
      rcases h with h | h
      · go_wp2_with fail
        go_ret
        exact ⟨rfl, rfl⟩
      · have h' : ¬ a0 < 0 := by omega
        go_wp2_with fail
        go_ret
        exact ⟨rfl, rfl⟩
    · refine (dumpLen_yes _ _ (by omega) (by omega)).mono ?_
      rintro e w' ⟨rfl, rfl⟩
      have h1 : 0 ≤ a0 := by omega
      have h2 : a0 ≤ 4294967296 := by omega
      have hd : (dlen a0 == (a0 + 15) / 16 * 10 + 3 * a0) = true := by rw [dlen_ceil a0]; simp
      clear h
      go_wp2_with fail
      go_ret
      exact ⟨rfl, rfl⟩

theorem dlen_step (n : Int) (h : n % 16 ≠ 0) : dlen (n + 1) - dlen n = 3 := by
  unfold dlen; split <;> split <;> omega
theorem dlen_step0 (n : Int) (h : n % 16 = 0) : dlen (n + 1) - dlen n = 13 := by
  unfold dlen; split <;> split <;> omega
theorem dlen_bd (n : Int) (h0 : 0 ≤ n) (h1 : n ≤ 4294967296) : 0 ≤ dlen n ∧ dlen n ≤ 60000000000 := by
  unfold dlen; split <;> omega

theorem dstep_walk (a0 : Int) (a1 : Bool) (h0 : 0 ≤ a0) (h1 : a0 < 4294967296) (w : World) :
    Calls Ycrm.prog 13 #[.int .u32 a0, .bool a1] w fun e w' => e = .returned (.bool true) ∧ w' = w := by
  have ea : ∀ x : Int, bits .and .u32 x 15 = x % 16 := and15_u32
  have ex : bits .xor .u32 IntKind.u32.max a0 = 4294967295 - a0 := not_u32 a0 h0 h1
  cases a1
  go_enter Ycrm.func13, Ycrm.ntmps13
  go_wp2_with fail
  rotate_left
  go_enter Ycrm.func13, Ycrm.ntmps13
  go_wp2_with fail
  have h2 : 0 ≤ 4294967295 - a0 := by omega
  have h3 : 4294967295 - a0 < 4294967296 := by omega
  rw [IntWalk.wrap64_in (4294967295 - a0) ⟨by omega, by omega⟩]
  clear h0 h1 ex
  generalize 4294967295 - a0 = a0 at *
  all_goals
    have b1 := dlen_bd a0 (by omega) (by omega)
    have b2 := dlen_bd (a0 + 1) (by omega) (by omega)
    refine (dumpLen_yes a0 _ (by omega) (by omega)).mono ?_
    rintro e w' ⟨rfl, rfl⟩
    go_wp2_with fail
    refine (dumpLen_yes (a0 + 1) _ (by omega) (by omega)).mono ?_
    rintro e w' ⟨rfl, rfl⟩
    by_cases h : a0 % 16 = 0
    · have e1 := dlen_step0 a0 h
      go_wp2_with fail
      go_ret
      exact ⟨rfl, rfl⟩
    · have e1 := dlen_step a0 h
      go_wp2_with fail
      go_ret
      exact ⟨rfl, rfl⟩

theorem dlen_add (p q : Int) (h : p % 16 = 0) : dlen (p + q) = dlen p + dlen q := by
  unfold dlen; split <;> split <;> split <;> omega

theorem dsplit_walk (a0 q : Int) (a2 : Bool) (h0 : 0 ≤ a0) (h1 : a0 < 4294967296) (g0 : 0 ≤ q) (g1 : q < 4294967296) (w : World) :
    Calls Ycrm.prog 14 #[.int .u32 a0, .int .u32 q, .bool a2] w fun e w' => e = .returned (.bool true) ∧ w' = w := by
  have ex : bits .xor .u32 IntKind.u32.max a0 = 4294967295 - a0 := not_u32 a0 h0 h1
  have e1 : bits .andNot .u32 a0 15 = a0 - a0 % 16 := andNot15_u32 a0 h0 h1
  have e2 : bits .andNot .u32 (4294967295 - a0) 15 = (4294967295 - a0) - (4294967295 - a0) % 16 := andNot15_u32 _ (by omega) (by omega)
  cases a2
  go_enter Ycrm.func14, Ycrm.ntmps14
  go_wp2_with fail
  clear ex e1 e2
  have h2 : 0 ≤ a0 - a0 % 16 := by omega
  have h3 : a0 - a0 % 16 < 4294967296 := by omega
  have h4 : (a0 - a0 % 16) % 16 = 0 := by omega
  clear h0 h1
  generalize a0 - a0 % 16 = p at *
  rotate_left
  go_enter Ycrm.func14, Ycrm.ntmps14
  go_wp2_with fail
  clear ex e1 e2
  have h2 : 0 ≤ (4294967295 - a0) - (4294967295 - a0) % 16 := by omega
  have h3 : (4294967295 - a0) - (4294967295 - a0) % 16 < 4294967296 := by omega
  have h4 : ((4294967295 - a0) - (4294967295 - a0) % 16) % 16 = 0 := by omega
  clear h0 h1
  try rw [IntWalk.wrap64_in (4294967295 - a0 - (4294967295 - a0) % 16) ⟨by omega, by omega⟩]
  generalize (4294967295 - a0) - (4294967295 - a0) % 16 = p at *
  all_goals
    have b1 := dlen_bd p (by omega) (by omega)
    have b2 := dlen_bd q (by omega) (by omega)
    refine (dumpLen_yes p _ (by omega) (by omega)).mono ?_
    rintro e w' ⟨rfl, rfl⟩
    go_wp2_with fail
    refine (dumpLen_yes q _ (by omega) (by omega)).mono ?_
    rintro e w' ⟨rfl, rfl⟩
    go_wp2_with fail
    by_cases h : 4294967296 < p + q
    · refine (dumpLen_no (p + q) _ (.inr h)).mono ?_
      rintro e w' ⟨rfl, rfl⟩
      go_wp2_with fail
      go_ret
      exact ⟨rfl, rfl⟩
    · refine (dumpLen_yes (p + q) _ (by omega) (by omega)).mono ?_
      rintro e w' ⟨rfl, rfl⟩
      have e1 := dlen_add p q h4
      go_wp2_with fail
      go_ret
      exact ⟨rfl, rfl⟩
end Go.Proofs.Ymbrcr
