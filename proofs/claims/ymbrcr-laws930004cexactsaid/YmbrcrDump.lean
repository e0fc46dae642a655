import Derived.Test.YmbrcrCw
namespace Go.Proofs.Ymbrcr
open Go.RowKit

theorem dump_no (x : Int) (a : Option Addr) (n c : Nat) (w : World) (h0 : 0 ≤ x) (h1 : x < 4294967296) (_hm : n ≤ 9223372036854775807) (h : fitsB x n = false) :
    Calls Ycrm.prog 19 #[.int .u32 x, .slice a n c] w fun e w' => e = .returned (.tuple #[.slice none 0 0, .bool false]) ∧ w' = w := by
  go_enter Ycrm.func19, Ycrm.ntmps19
  go_wp2_with fail
  refine (fits_any x n _ h0 h1).mono ?_
  rintro e w' ⟨rfl, rfl⟩
  go_wp2_with fail
  go_ret2
  exact ⟨rfl, rfl⟩

set_option maxHeartbeats 1600000 in
theorem dump_yes (x : Int) (a : Option Addr) (l : List Int) (n c : Nat) (w : World) (h0 : 0 ≤ x) (h1 : x < 4294967296) (hv : Vw w a l) (hb : Bts l) (hn : l.length = n) (hc : n ≤ c) (_hcm : c ≤ 9223372036854775807)
    (h : fitsB x n = true) (hbd : n ≤ 1000000) :
    Calls Ycrm.prog 19 #[.int .u32 x, .slice a n c] w fun e w' => ∃ v, e = .returned (.tuple #[v, .bool true]) ∧ Res w w' v (cw x l n) := by
  go_enter Ycrm.func19, Ycrm.ntmps19
  go_wp2_with fail
  refine (fits_any x n _ h0 h1).mono ?_
  rintro e w' ⟨rfl, rfl⟩
  go_wp2_with fail
  have hfit : (n : Int) ≤ 4294967296 - x := by unfold fitsB at h; simp at h; omega
  have hvW : Vw (w'.alloc (.cells #[] 5)) a l := hv.below ((Below.refl w'.heap.size _).alloc (Nat.le_refl _) _) (Nat.le_refl _)
  have HV : Hid (Vw (w'.alloc (.cells #[] 5)) a l) := hvW
  clear hvW
  go_loopw [6, 7] (fun v i wr => ∃ p : Nat, p ≤ n ∧ i = .int .i64 p ∧ (p % 16 = 0 ∨ p = n) ∧ App (w'.alloc (.cells #[] 5)) (some ⟨w'.heap.size, 0, none⟩) 0 0 0 0 [] wr v (cw x l p)) (fun _ i _ => n - (intOf i).toNat)
  case atStart => exact ⟨0, by omega, rfl, .inl rfl, app_fresh _⟩
  case round =>
    obtain ⟨p, hp, rfl, hp16, happ⟩ := hrel
    by_cases hlt : p < n
    · have hp0 : p % 16 = 0 := by omega
      have HP0 : Hid (p % 16 = 0) := hp0
      obtain ⟨b1, o1, rfl, _⟩ := hv p (by omega)
      clear hp0 hp16 hv
      have hcp : ¬ c = p := by omega
      have hlen := cw_bd x l p
      have HA : Hid _ := happ
      clear happ
      by_cases hbig : 16 < n - p
      · have E : Hid (cw x l (p + 16) = cw x l p ++ lineL (x + p) ((l.drop p).take (16))) := by
          unfold Hid
          rw [cw_line x l p (p + 16) HP0.out (by omega) (by omega) (by omega) (by omega), Int.emod_eq_of_lt (by omega) (by omega), show p + 16 - p = 16 by omega]
        go_wp2_with fail
        refine (appendLine_yes (org_fresh _) HA.out (x + p) (by omega) (by omega) (some ⟨b1, o1 + p, none⟩) ((l.drop p).take (16)) (16) (c - p) (HV.out.sub p (16) (by omega)) (fun b off e hc => absurd hc (Nat.lt_irrefl _))
          ((hb.drop p).take (16)) ?hl (by omega) (by omega) (by omega) (by omega) ?hf (by omega)).mono ?_
        case hl => simp; omega
        case hf => unfold fitsB; simp; omega
        rintro e w2 ⟨v2, rfl, happ2⟩
        have HA2 : Hid (App (w'.alloc (.cells #[] 5)) (some ⟨w'.heap.size, 0, none⟩) 0 0 0 0 [] w2 v2 (cw x l (p + 16))) := by unfold Hid; rw [E.out]; exact happ2
        clear happ2 HA E
        go_wp2_with fail
        go_roundw
        case rel => exact ⟨p + 16, by omega, by go_num, by have := HP0.out; omega, HA2.out⟩
        case measure => simp [intOf]; omega
      · have E : Hid (cw x l (n) = cw x l p ++ lineL (x + p) ((l.drop p).take (n - p))) := by
          unfold Hid
          rw [cw_line x l p (n) HP0.out (by omega) (by omega) (by omega) (by omega), Int.emod_eq_of_lt (by omega) (by omega), show n - p = n - p by omega]
        go_wp2_with fail
        refine (appendLine_yes (org_fresh _) HA.out (x + p) (by omega) (by omega) (some ⟨b1, o1 + p, none⟩) ((l.drop p).take (n - p)) (n - p) (c - p) (HV.out.sub p (n - p) (by omega)) (fun b off e hc => absurd hc (Nat.lt_irrefl _))
          ((hb.drop p).take (n - p)) ?hl (by omega) (by omega) (by omega) (by omega) ?hf (by omega)).mono ?_
        case hl => simp; omega
        case hf => unfold fitsB; simp; omega
        rintro e w2 ⟨v2, rfl, happ2⟩
        have HA2 : Hid (App (w'.alloc (.cells #[] 5)) (some ⟨w'.heap.size, 0, none⟩) 0 0 0 0 [] w2 v2 (cw x l (n))) := by unfold Hid; rw [E.out]; exact happ2
        clear happ2 HA E
        go_wp2_with fail
        go_roundw
        case rel => exact ⟨n, by omega, by go_num, by have := HP0.out; omega, HA2.out⟩
        case measure => simp [intOf]; omega
    · obtain rfl : p = n := by omega
      have HR := happ.res
      have H : Hid _ := HR
      clear HR happ
      go_wp2_with fail
      go_ret2
      exact ⟨_, rfl, H.out⟩
end Go.Proofs.Ymbrcr
