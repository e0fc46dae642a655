import Derived.Test.YmbrcrCw
import Derived.Deep.DeepCutAuto
import Derived.Deep.LoopGhost
namespace Go.Proofs.Ymbrcr
open Go.RowKit
attribute [local go_sem] dg_get

set_option maxHeartbeats 1600000 in
/-- zzs930004cwant. -/
theorem cwant_any (x : Int) (a : Option Addr) (l : List Int) (n c : Nat) (w : World) (h0 : 0 ≤ x) (h1 : x < 4294967296) (hv : Vw w a l) (hb : Bts l) (hn : l.length = n) (hbd : n ≤ 1000000) (hfit : x + n ≤ 4294967296) :
    Calls Ycrm.prog 21 #[.int .u32 x, .slice a n c] w fun e w' => ∃ v, e = .returned v ∧ Res w w' v (cw x l n) := by
  go_enter Ycrm.func21, Ycrm.ntmps21
  go_wp2_with fail
  have hvW : Vw (w.alloc (.cells #[] 5)) a l := hv.below ((Below.refl w.heap.size _).alloc (Nat.le_refl _) _) (Nat.le_refl _)
  have HV : Hid (Vw (w.alloc (.cells #[] 5)) a l) := hvW
  clear hvW hv
  go_loopg [5, 6] n (fun g v i wr => ∃ p : Nat, p ≤ n ∧ g = n - p ∧ i = .int .i64 p ∧ App (w.alloc (.cells #[] 5)) (some ⟨w.heap.size, 0, none⟩) 0 0 0 0 [] wr v (cw x l p))
  case atStart => exact ⟨0, by omega, rfl, rfl, app_fresh _⟩
  case round =>
    obtain ⟨p, hp, rfl, rfl, happ⟩ := hrel
    have hlen := cw_bd x l p
    by_cases hlt : p < n
    · have HA : Hid _ := happ
      clear happ
      go_upto_if 18 with fail
      go_cut [5] (fun v wx => App (w.alloc (.cells #[] 5)) (some ⟨w.heap.size, 0, none⟩) 0 0 0 0 [] wx v (cw x l p ++ hdP x p))
      case first =>
        by_cases h16 : p % 16 = 0
        · have h16b : ((p : Int) % 16 == 0) = true := by simp; omega
          have HH : Hid (hdP x p = offD (x + p) ++ [58]) := by unfold Hid hdP; rw [if_pos h16, Int.emod_eq_of_lt (by omega) (by omega)]
          clear h16
          rw [h16b]
          go_wp2_with fail
          go_loopg [5, 8] 8 (fun g v i wr => ∃ k : Nat, k ≤ 8 ∧ g = 8 - k ∧ i = .int .i64 k ∧ App (w.alloc (.cells #[] 5)) (some ⟨w.heap.size, 0, none⟩) 0 0 0 0 [] wr v (cw x l p ++ (offD (x + p)).take k))
          case atStart => exact ⟨0, by omega, rfl, rfl, by simpa using HA.out⟩
          case round =>
            obtain ⟨k, hk, rfl, rfl, happ⟩ := hrel
            by_cases hk8 : k < 8
            · have hl : ((offD (x + p)).take k).length = k := by simp [offD_length]; omega
              have HB : Hid (0 + (cw x l p ++ (offD (x + p)).take k).length + 1 ≤ 140737488355328) := by unfold Hid; rw [List.length_append, hl]; omega
              have E1 : Hid (((x + p) / 2 ^ (28 - 4 * k)).tmod 16 = (x + p) / 16 ^ (7 - k) % 16) := shr_nib _ k (by omega) hk8
              have qa : 0 ≤ ((x + p) / 2 ^ (28 - 4 * k)).tmod 16 := by rw [E1.out]; omega
              have qb : ((x + p) / 2 ^ (28 - 4 * k)).tmod 16 < 16 := by rw [E1.out]; omega
              clear hl
              have HA1 : Hid _ := happ
              clear happ
              go_wp2_with (at_builtin; go_must (refine wpList_append_app _ rfl (.tmp 28) (.tmp 37) rfl bprog (org_fresh w) rfl (HA1.out.alloc _) _ [dg (((x + p) / 2 ^ (28 - 4 * k)).tmod 16).toNat] rfl (src_new bprog wr [dg (((x + p) / 2 ^ (28 - 4 * k)).tmod 16).toNat] 1) HB.out ?_))
              intro v2 w2 happ2
              have HA2 : Hid (App (w.alloc (.cells #[] 5)) (some ⟨w.heap.size, 0, none⟩) 0 0 0 0 [] w2 v2 (cw x l p ++ (offD (x + p)).take (k + 1))) := by
                unfold Hid; rw [take_snoc (by rw [offD_length]; exact hk8), nth_offD _ k hk8, ← E1.out]; simpa using happ2
              clear happ2 HA1
              go_wp2_with fail
              go_roundg (8 - (k + 1))
              case measure => omega
              case rel => exact ⟨k + 1, by omega, rfl, by go_num, HA2.out⟩
            · have e : (offD (x + p)).take k = offD (x + p) := List.take_of_length_le (by rw [offD_length]; omega)
              rw [e] at happ
              have HB : Hid (0 + (cw x l p ++ offD (x + p)).length + 1 ≤ 140737488355328) := by unfold Hid; rw [List.length_append, offD_length]; omega
              have HA1 : Hid _ := happ
              clear happ e
              go_wp2_with (at_builtin; go_must (refine wpList_append_app _ rfl (.tmp 39) (.tmp 40) rfl bprog (org_fresh w) rfl (HA1.out.alloc _) _ [58] rfl (src_new bprog wr [58] 1) HB.out ?_))
              intro v2 w2 happ2
              have HA2 : Hid (App (w.alloc (.cells #[] 5)) (some ⟨w.heap.size, 0, none⟩) 0 0 0 0 [] w2 v2 (cw x l p ++ hdP x p)) := by
                unfold Hid; rw [HH.out]; simpa using happ2
              clear happ2 HA1
              go_wp2_with fail
              go_meet
              case rel => exact HA2.out
        · have h16b : ((p : Int) % 16 == 0) = false := by simp; omega
          have HH : Hid (hdP x p = []) := by unfold Hid hdP; rw [if_neg h16]
          go_wp2_with fail
          go_meet
          case rel => rw [HH.out, List.append_nil]; exact HA.out
      case rest =>
        have hhd : (hdP x p).length ≤ 9 := by unfold hdP; split <;> simp [offD_length]
        have HA1 : Hid _ := hcut
        clear hcut HA
        obtain ⟨b1, o1, rfl, hc1⟩ := (HA1.out.oldVw HV.out (fun b off e hc => absurd hc (Nat.lt_irrefl _))) p (by omega)
        have hbp := hb p
        have q1 : 0 ≤ nth l p / 16 := by omega
        have q2 : nth l p / 16 < 16 := by omega
        have q3 : 0 ≤ nth l p % 16 := by omega
        have q4 : nth l p % 16 < 16 := by omega
        have t1 : (nth l p).tdiv 16 = nth l p / 16 := Int.tdiv_eq_ediv_of_nonneg hbp.1
        have t2 : (nth l p).tmod 16 = nth l p % 16 := Int.tmod_eq_emod_of_nonneg hbp.1
        have t3 : IntKind.u8.wrap (nth l p / 16) = nth l p / 16 := by rw [IntKind.wrap_u8']; omega
        have t4 : IntKind.u8.wrap (nth l p % 16) = nth l p % 16 := by rw [IntKind.wrap_u8']; omega
        have HB : Hid (0 + (cw x l p ++ hdP x p).length + 3 ≤ 140737488355328) := by unfold Hid; rw [List.length_append]; omega
        go_upto_region 12 with fail
        go_cut [5] (fun v wx => App (w.alloc (.cells #[] 5)) (some ⟨w.heap.size, 0, none⟩) 0 0 0 0 [] wx v (cw x l p ++ hdP x p ++ cell3 (nth l p)))
        case first =>
          go_region_law (refine step_append_app rfl (.tmp 42) (.tmp 55) rfl bprog (org_fresh w) rfl (HA1.out.alloc _).drew _ [32, dg (nth l p / 16).toNat, dg (nth l p % 16).toNat] rfl (src_own bprog _ wc.heap.size [32, dg (nth l p / 16).toNat, dg (nth l p % 16).toNat] 3 (OwnB.new wc [32, dg (nth l p / 16).toNat, dg (nth l p % 16).toNat])) HB.out ?_; intro v2 w2 happ2)
          all_goals
            go_wp2_with fail
            go_meet
            case rel => simpa [cell3, hex2] using happ2
        case rest =>
          have HA2 : Hid _ := hcut
          clear hcut HA1 HB t1 t2 t3 t4 q1 q2 q3 q4 hc1 hbp
          have HB : Hid (0 + (cw x l p ++ hdP x p ++ cell3 (nth l p)).length + 1 ≤ 140737488355328) := by
            unfold Hid; simp only [List.length_append, cell3, hex2, List.length_cons, List.length_nil]; omega
          by_cases hnl : p % 16 = 15 ∨ p + 1 = n
          · have HC : Hid (cw x l (p + 1) = cw x l p ++ hdP x p ++ cell3 (nth l p) ++ [10]) := by
              unfold Hid; simp only [cw, tlP, hn]; rw [if_pos hnl]; simp [List.append_assoc]
            have hnb : ((p : Int) % 16 == 15) = true ∨ (((p : Int) % 16 == 15) = false ∧ ((p : Int) == (n : Int) - 1) = true) := by
              by_cases h15 : p % 16 = 15
              · exact .inl (by simp; omega)
              · exact .inr ⟨by simp; omega, by simp; omega⟩
            clear hnl
            rcases hnb with hb1 | ⟨hb1, hb2⟩
            all_goals
              go_wp2_with (at_builtin; go_must (refine wpList_append_app _ rfl (.tmp 67) (.tmp 68) rfl bprog (org_fresh w) rfl (HA2.out.alloc _) _ [10] rfl (src_new bprog wc [10] 1) HB.out ?_))
              intro v2 w2 happ2
              have HA3 : Hid (App (w.alloc (.cells #[] 5)) (some ⟨w.heap.size, 0, none⟩) 0 0 0 0 [] w2 v2 (cw x l (p + 1))) := by
                unfold Hid; rw [HC.out]; simpa using happ2
              clear happ2 HA2
              go_wp2_with fail
              go_roundg (n - (p + 1))
              case measure => omega
              case rel => exact ⟨p + 1, by omega, rfl, by go_num, HA3.out⟩
          · have HC : Hid (cw x l (p + 1) = cw x l p ++ hdP x p ++ cell3 (nth l p)) := by
              unfold Hid; simp only [cw, tlP, hn]; rw [if_neg hnl]; simp [List.append_assoc]
            have hb1 : ((p : Int) % 16 == 15) = false := by simp; omega
            have hb2 : ((p : Int) == (n : Int) - 1) = false := by simp; omega
            clear hnl
            go_wp2_with fail
            go_roundg (n - (p + 1))
            case measure => omega
            case rel => exact ⟨p + 1, by omega, rfl, by go_num, by rw [HC.out]; exact HA2.out⟩
    · obtain rfl : p = n := by omega
      have H : Hid _ := happ.res
      clear happ
      go_wp2_with fail
      go_ret
      exact ⟨_, rfl, H.out⟩
end Go.Proofs.Ymbrcr
