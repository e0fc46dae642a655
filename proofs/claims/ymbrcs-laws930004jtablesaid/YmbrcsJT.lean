import Derived.Test.YmbrcsLeaf
namespace Go.Proofs.Ymbrcs
open Go.RowKit
attribute [local go_sem] dg_get

/-- zzs930004jok answers true at every byte. -/
theorem jok_any (n : Int) (h0 : 0 ≤ n) (h1 : n < 256) (w : World) :
    Calls Ycsm.prog 33 #[.int .u8 n] w fun e w' => e = .returned (.bool true) ∧ w' = w := by
  by_cases h : n < 16
  · go_enter Ycsm.func33, Ycsm.ntmps33
    go_wp2_with fail
    refine (hexDigit_yes n h0 h _).mono ?_
    rintro e w' ⟨rfl, rfl⟩
    go_wp2_with fail
    go_ret
    exact ⟨rfl, rfl⟩
  · go_enter Ycsm.func33, Ycsm.ntmps33
    go_wp2_with fail
    refine (hexDigit_no n (by omega) h1 _).mono ?_
    rintro e w' ⟨rfl, rfl⟩
    go_wp2_with fail
    go_ret
    exact ⟨rfl, rfl⟩

theorem jtable_walk (n : Int) (h0 : 0 ≤ n) (h1 : n < 256) (w : World) :
    Calls Ycsm.prog 14 #[.int .u8 n] w fun e w' => e = .returned (.bool true) ∧ w' = w := by
  go_enter Ycsm.func14, Ycsm.ntmps14
  go_wp2_with fail
  refine (jok_any n h0 h1 _).mono ?_
  rintro e w' ⟨rfl, rfl⟩
  go_wp2_with fail
  refine (jok_any _ (by omega) (by omega) _).mono ?_
  rintro e w' ⟨rfl, rfl⟩
  go_wp2_with fail
  refine (jok_any _ (by omega) (by omega) _).mono ?_
  rintro e w' ⟨rfl, rfl⟩
  go_wp2_with fail
  go_ret
  exact ⟨rfl, rfl⟩
end Go.Proofs.Ymbrcs
