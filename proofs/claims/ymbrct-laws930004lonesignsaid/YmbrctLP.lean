import Derived.Test.YmbrctPLine
import Derived.Test.YmbrctLine
import Derived.Deep.DeepCutAuto
import Derived.Deep.LoopGhost
namespace Go.Proofs.Ymbrct
open Go.RowKit
attribute [local go_sem] dg_get

theorem ldigit_any (n : Int) (w : World) (h0 : 0 ≤ n) :
    Calls Yctm.prog 20 #[.int .u8 n] w fun e w' => e = .returned (.int .u8 (dg (n % 16).toNat)) ∧ w' = w := by
  go_enter Yctm.func20, Yctm.ntmps20
  go_wp2
  go_ret
  exact ⟨rfl, rfl⟩

theorem lbase_any (off : Int) (near : Bool) (n : Nat) (w : World) (h0 : 0 ≤ off) (h1 : off < 4294967296) (hn : n ≤ 100) :
    Calls Yctm.prog 16 #[.int .u32 off, .bool near, .int .i64 n] w fun e w' => ∃ b : Int, 0 ≤ b ∧ b < 4294967296 ∧ e = .returned (.int .u32 b) ∧ w' = w := by
  cases near
  · go_enter Yctm.func16, Yctm.ntmps16
    go_wp2
    go_ret
    exact ⟨off, h0, h1, rfl, rfl⟩
  · go_enter Yctm.func16, Yctm.ntmps16
    go_wp2
    go_ret
    exact ⟨_, by omega, by omega, rfl, rfl⟩

set_option maxRecDepth 20000 in
set_option maxHeartbeats 1600000 in
/-- zzs930004lprint. -/
theorem lprint_any (x : Int) (a : Option Addr) (l : List Int) (n c : Nat) (w : World) (h0 : 0 ≤ x) (_h1 : x < 4294967296) (hv : Vw w a l) (hb : Bts l) (hn : l.length = n) (hbd : n ≤ 1000000) :
    Calls Yctm.prog 17 #[.int .u32 x, .slice a n c] w fun e w' => ∃ v, e = .returned v ∧ Res w w' v (lineL x l) := by
  have HV : Hid (Vw (w.alloc (.cells #[] 5)) a l) := hv.below ((Below.refl w.heap.size _).alloc (Nat.le_refl _) _) (Nat.le_refl _)
  clear hv
  go_enter Yctm.func17, Yctm.ntmps17
  go_wp2_with fail
  go_loopg [5, 6] 8 (fun g v i wr => ∃ k : Nat, k ≤ 8 ∧ g = 8 - k ∧ i = .int .i64 k ∧ App (w.alloc (.cells #[] 5)) (some ⟨w.heap.size, 0, none⟩) 0 0 0 0 [] wr v ((offD x).take k))
  case atStart => exact ⟨0, by omega, rfl, rfl, app_fresh _⟩
  case round =>
    obtain ⟨k, hk, rfl, rfl, happ⟩ := hrel
    have HP : Hid _ := happ
    clear happ
    by_cases hk8 : k < 8
    · have hl : ((offD x).take k).length = k := by simp [offD_length]; omega
      have HB : Hid (0 + ((offD x).take k).length + 1 ≤ 140737488355328) := by unfold Hid; rw [hl]; omega
      have E1 : Hid ((x / 2 ^ (28 - 4 * k)).tmod 16 = x / 16 ^ (7 - k) % 16) := shr_nib _ k h0 hk8
      have qa : 0 ≤ (x / 2 ^ (28 - 4 * k)).tmod 16 := by rw [E1.out]; omega
      have qb : (x / 2 ^ (28 - 4 * k)).tmod 16 < 16 := by rw [E1.out]; omega
      clear hl
      have E2 : Hid (nth (offD x) k = dg ((x / 2 ^ (28 - 4 * k)).tmod 16 % 16).toNat) := by
        unfold Hid; rw [nth_offD x k hk8, E1.out]; congr 2; omega
      go_wp2_with fail
      refine (ldigit_any _ _ qa).mono ?_
      rintro e w' ⟨rfl, rfl⟩
      go_wp2_with (at_builtin; go_must (refine wpList_append_app _ rfl (.tmp 13) (.tmp 23) rfl bprog (org_fresh w) rfl (HP.out.alloc _) _ [dg ((x / 2 ^ (28 - 4 * k)).tmod 16 % 16).toNat] rfl (src_new bprog w' [dg ((x / 2 ^ (28 - 4 * k)).tmod 16 % 16).toNat] 1) HB.out ?_))
      intro v2 w2 happ2
      have HP2 : Hid (App (w.alloc (.cells #[] 5)) (some ⟨w.heap.size, 0, none⟩) 0 0 0 0 [] w2 v2 ((offD x).take (k + 1))) := by
        unfold Hid; rw [take_snoc (by rw [offD_length]; exact hk8), E2.out]; exact happ2
      clear happ2 HP
      go_wp2_with fail
      go_roundg (8 - (k + 1))
      case measure => omega
      case rel => exact ⟨k + 1, by omega, rfl, by go_num, HP2.out⟩
    · have hp := HP.out
      rw [show (offD x).take k = offD x from List.take_of_length_le (by rw [offD_length]; omega)] at hp
      have HP1 : Hid _ := hp
      have HB : Hid (0 + (offD x).length + 1 ≤ 140737488355328) := by unfold Hid; rw [offD_length]; omega
      clear hp HP
      go_wp2_with (at_builtin; go_must (refine wpList_append_app _ rfl (.tmp 25) (.tmp 26) rfl bprog (org_fresh w) rfl (HP1.out.alloc _) _ [58] rfl (src_new bprog wr [58] 1) HB.out ?_))
      intro v2 w2 happ2
      have HP2 : Hid (App (w.alloc (.cells #[] 5)) (some ⟨w.heap.size, 0, none⟩) 0 0 0 0 [] w2 v2 (lpre x l 0)) := by
        unfold Hid; rw [lpre_zero]; exact happ2
      clear happ2 HP1
      go_wp2_with fail
      go_loopg [5, 7] n (fun g v i wr => ∃ p : Nat, p ≤ n ∧ g = n - p ∧ i = .int .i64 p ∧ App (w.alloc (.cells #[] 5)) (some ⟨w.heap.size, 0, none⟩) 0 0 0 0 [] wr v (lpre x l p))
      case atStart => exact ⟨0, by omega, rfl, rfl, HP2.out⟩
      case round =>
        clear HP2
        obtain ⟨p, hp, rfl, rfl, happ⟩ := hrel
        have HP : Hid _ := happ
        clear happ
        have hll := lpre_length x l p (by omega)
        by_cases hlt : p < n
        · obtain ⟨b1, o1, rfl, hc1⟩ := (HP.out.oldVw HV.out (fun b off e hc => absurd hc (Nat.lt_irrefl _))) p (by omega)
          have hbp := hb p
          have q0 : 0 ≤ nth l p := hbp.1
          have q1 : 0 ≤ nth l p / 16 := by omega
          have q2 : nth l p / 16 < 16 := by omega
          have q3 : 0 ≤ nth l p % 16 := by omega
          have q4 : nth l p % 16 < 16 := by omega
          have t1 : (nth l p).tdiv 16 = nth l p / 16 := Int.tdiv_eq_ediv_of_nonneg hbp.1
          have t2 : (nth l p).tmod 16 = nth l p % 16 := Int.tmod_eq_emod_of_nonneg hbp.1
          have t3 : IntKind.u8.wrap (nth l p / 16) = nth l p / 16 := by rw [IntKind.wrap_u8']; omega
          have t4 : IntKind.u8.wrap (nth l p % 16) = nth l p % 16 := by rw [IntKind.wrap_u8']; omega
          have t5 : nth l p / 16 % 16 = nth l p / 16 := by omega
          have t6 : nth l p % 16 % 16 = nth l p % 16 := by omega
          have HB2 : Hid (0 + (lpre x l p).length + 3 ≤ 140737488355328) := by unfold Hid; rw [hll]; omega
          clear hll
          go_upto_region 10 with fail
          go_region_law (first | (go_simp; go_at_call 20; refine (ldigit_any _ _ (by assumption)).mono ?_; rintro e w' ⟨rfl, rfl⟩) | (refine step_append_app rfl (.tmp 34) (.tmp 47) rfl bprog (org_fresh w) rfl (HP.out.alloc _).drew _ [32, dg (nth l p / 16).toNat, dg (nth l p % 16).toNat] rfl (src_own bprog _ wr.heap.size [32, dg (nth l p / 16).toNat, dg (nth l p % 16).toNat] 3 (OwnB.new wr [32, dg (nth l p / 16).toNat, dg (nth l p % 16).toNat])) HB2.out ?_; intro v2 w2 happ2))
          all_goals
            have HP3 : Hid (App (w.alloc (.cells #[] 5)) (some ⟨w.heap.size, 0, none⟩) 0 0 0 0 [] w2 v2 (lpre x l (p + 1))) := by
              unfold Hid; rw [lpre_succ x l p (by omega), hexL_one]; simpa [hex2] using happ2
            clear happ2 HP t1 t2 t3 t4 t5 t6
            go_wp2_with fail
            go_roundg (n - (p + 1))
            case measure => omega
            case rel => exact ⟨p + 1, by omega, rfl, by go_num, HP3.out⟩
        · have HB2 : Hid (0 + (lpre x l p).length + 1 ≤ 140737488355328) := by unfold Hid; rw [hll]; omega
          clear hll
          go_wp2_with (at_builtin; go_must (refine wpList_append_app _ rfl (.tmp 49) (.tmp 50) rfl bprog (org_fresh w) rfl (HP.out.alloc _) _ [10] rfl (src_new bprog wr [10] 1) HB2.out ?_))
          intro v2 w2 happ2
          have hr := happ2.res
          rw [lpre_all x l p (by omega)] at hr
          have HR : Hid _ := hr
          clear hr happ2 HP
          go_wp2_with fail
          go_ret
          exact ⟨_, rfl, HR.out⟩
end Go.Proofs.Ymbrct
