import Derived.Test.YmbrcsCw
import Derived.Deep.DeepCutAuto
import Derived.Deep.LoopGhost
namespace Go.Proofs.Ymbrcs
open Go.RowKit
attribute [local go_sem] dg_get

theorem hdigit_any (x : Int) (w : World) :
    Calls Ycsm.prog 38 #[.int .u32 x] w fun e w' => e = .returned (.int .u8 (dg (x % 16).toNat)) ∧ w' = w := by
  have e15 := and15_u32 x
  have q0 : 0 ≤ x % 16 := by omega
  have q1 : x % 16 < 16 := by omega
  go_enter Ycsm.func38, Ycsm.ntmps38
  go_wp2_with fail
  go_ret
  exact ⟨rfl, rfl⟩

theorem hbase_any (b mode rows : Int) (n : Nat) (w : World) (b0 : 0 ≤ b) (b1 : b < 4294967296) (m0 : 0 ≤ mode) (_m1 : mode < 256) (r0 : 0 ≤ rows) (_r1 : rows < 256) (hn : n ≤ 1000000) :
    Calls Ycsm.prog 25 #[.int .u32 b, .int .u8 mode, .int .u8 rows, .int .i64 n] w fun e w' => ∃ y : Int, 0 ≤ y ∧ y < 4294967296 ∧ e = .returned (.int .u32 y) ∧ w' = w := by
  have hx := not_u32 b b0 b1
  have hm : mode % 5 = 0 ∨ mode % 5 = 1 ∨ mode % 5 = 2 ∨ mode % 5 = 3 ∨ mode % 5 = 4 := by omega
  rcases hm with hm | hm | hm | hm | hm
  all_goals
    go_enter Ycsm.func25, Ycsm.ntmps25
    go_wp2_with fail
    go_ret
    exact ⟨_, by omega, by omega, rfl, rfl⟩

set_option maxRecDepth 20000 in
set_option maxHeartbeats 1600000 in
theorem hdata_any (rows seed : Int) (a : Option Addr) (l : List Int) (n c : Nat) (w : World) (r0 : 0 ≤ rows) (_r1 : rows < 256) (hv : Vw w a l) (hb : Bts l) (hn : l.length = n) (hbd : n ≤ 1000000) :
    Calls Ycsm.prog 24 #[.int .u8 rows, .int .u8 seed, .slice a n c] w fun e w' => ∃ v L, e = .returned v ∧ L.length ≤ n + 64 ∧ Bts L ∧ Res w w' v L := by
  obtain ⟨R, hR⟩ : ∃ R : Nat, rows % 5 = R := ⟨(rows % 5).toNat, by omega⟩
  have hR5 : R < 5 := by omega
  have HV : Hid (Vw (w.alloc (.cells #[] 5)) a l) := hv.below ((Below.refl w.heap.size _).alloc (Nat.le_refl _) _) (Nat.le_refl _)
  have HN : Hid (l.length = n) := hn
  clear hv hn
  go_enter Ycsm.func24, Ycsm.ntmps24
  go_wp2_with fail
  go_loopw [7, 8] (fun v i wr => ∃ (j : Nat) (L : List Int), j ≤ 16 * R ∧ i = .int .i64 j ∧ L.length = j ∧ Bts L ∧ App (w.alloc (.cells #[] 5)) (some ⟨w.heap.size, 0, none⟩) 0 0 0 0 [] wr v L) (fun _ i _ => 16 * R - (intOf i).toNat)
  case atStart => exact ⟨0, [], by omega, rfl, rfl, Bts.nil, app_fresh _⟩
  case round =>
    obtain ⟨j, L, hj, rfl, hl, hbt, happ⟩ := hrel
    have HP : Hid _ := happ
    have HL : Hid (L.length = j) := hl
    have HT : Hid (Bts L) := hbt
    clear happ hl hbt
    by_cases hlt : j < 16 * R
    · have hlt' : (j : Int) < 16 * (R : Int) := by omega
      have HB : Hid (0 + L.length + 1 ≤ 140737488355328) := by unfold Hid; rw [HL.out]; omega
      go_wp2_with (at_builtin; go_must (refine wpList_append_app _ rfl (.tmp 19) (.tmp 25) rfl bprog (org_fresh w) rfl (HP.out.alloc _) _ [(seed + (j : Int) * 37) % 256] rfl (src_new bprog wr [(seed + (j : Int) * 37) % 256] 1) HB.out ?_))
      intro v2 w2 happ2
      have HP2 : Hid _ := happ2
      clear happ2 HP
      go_wp2_with fail
      go_roundw
      case rel => exact ⟨j + 1, L ++ [(seed + (j : Int) * 37) % 256], by omega, by go_num, by simp [HL.out], HT.out.app (Bts.nil.cons (by omega) (by omega)), HP2.out⟩
      case measure => simp [intOf]; omega
    · have hlt' : ¬ (j : Int) < 16 * (R : Int) := by omega
      go_wp2_with fail
      go_loopw [7, 9] (fun v i wr => ∃ (p : Nat) (K : List Int), p ≤ n ∧ i = .int .i64 p ∧ K.length = j + p ∧ Bts K ∧ App (w.alloc (.cells #[] 5)) (some ⟨w.heap.size, 0, none⟩) 0 0 0 0 [] wr v K) (fun _ i _ => n - (intOf i).toNat)
      case atStart => exact ⟨0, L, by omega, rfl, HL.out, HT.out, HP.out⟩
      case round =>
        clear HP HL HT
        obtain ⟨p, K, hp, rfl, hl, hbt, happ⟩ := hrel
        have HP : Hid _ := happ
        have HL : Hid (K.length = j + p) := hl
        have HT : Hid (Bts K) := hbt
        clear happ hl hbt
        by_cases hlt2 : p < n
        · obtain ⟨b1, o1, rfl, hc1⟩ := (HP.out.oldVw HV.out (fun b off e hc => absurd hc (Nat.lt_irrefl _))) p (by rw [HN.out]; exact hlt2)
          have hbp := hb p
          have HB : Hid (0 + K.length + 1 ≤ 140737488355328) := by unfold Hid; rw [HL.out]; omega
          go_wp2_with (at_builtin; go_must (refine wpList_append_app _ rfl (.tmp 33) (.tmp 38) rfl bprog (org_fresh w) rfl (HP.out.alloc _) _ [nth l p] rfl (src_new bprog wr [nth l p] 1) HB.out ?_))
          intro v2 w2 happ2
          have HP2 : Hid _ := happ2
          clear happ2 HP hc1
          go_wp2_with fail
          go_roundw
          case rel => exact ⟨p + 1, K ++ [nth l p], by omega, by go_num, by simp [HL.out]; omega, HT.out.app (Bts.nil.cons hbp.1 hbp.2), HP2.out⟩
          case measure => simp [intOf]; omega
        · have HR : Hid _ := HP.out.res
          clear HP
          go_wp2_with fail
          go_ret
          exact ⟨_, K, rfl, by rw [HL.out]; omega, HT.out, HR.out⟩

set_option maxRecDepth 20000 in
set_option maxHeartbeats 3200000 in
theorem hdump_any (x : Int) (a : Option Addr) (l : List Int) (n c : Nat) (w : World) (hv : Vw w a l) (hb : Bts l) (hn : l.length = n) (hbd : n ≤ 1000000) :
    Calls Ycsm.prog 26 #[.int .u32 x, .slice a n c] w fun e w' => ∃ v, e = .returned v ∧ Res w w' v (cw x l n) := by
  have HV : Hid (Vw (w.alloc (.cells #[] 5)) a l) := hv.below ((Below.refl w.heap.size _).alloc (Nat.le_refl _) _) (Nat.le_refl _)
  have HN : Hid (l.length = n) := hn
  clear hv hn
  go_enter Ycsm.func26, Ycsm.ntmps26
  go_wp2_with fail
  go_loopg [5, 6] n (fun g v i wr => ∃ p : Nat, p ≤ n ∧ g = n - p ∧ i = .int .i64 p ∧ App (w.alloc (.cells #[] 5)) (some ⟨w.heap.size, 0, none⟩) 0 0 0 0 [] wr v (cw x l p))
  case atStart => exact ⟨0, by omega, rfl, rfl, app_fresh _⟩
  case round =>
    obtain ⟨p, hp, rfl, rfl, happ⟩ := hrel
    have hlen := cw_bd x l p
    by_cases hlt : p < n
    · have HA : Hid _ := happ
      clear happ
      go_upto_if 18 with fail
      go_cut [5] (fun v wx => App (w.alloc (.cells #[] 5)) (some ⟨w.heap.size, 0, none⟩) 0 0 0 0 [] wx v (cw x l p ++ hdP x p))
      case first =>
        by_cases h16 : p % 16 = 0
        · have h16b : ((p : Int) % 16 == 0) = true := by simp; omega
          obtain ⟨y, hy⟩ : ∃ y : Int, (x + (p : Int)) % 4294967296 = y := ⟨_, rfl⟩
          have hy0 : 0 ≤ y := by omega
          have hy1 : y < 4294967296 := by omega
          have HH : Hid (hdP x p = offD y ++ [58]) := by unfold Hid hdP; rw [if_pos h16, hy]
          clear h16
          rw [h16b]
          go_wp2_with fail
          try simp only [hy]
          clear hy
          go_loopg [5, 8] 8 (fun g v i wr => ∃ k : Nat, k ≤ 8 ∧ g = 8 - k ∧ i = .int .i64 k ∧ App (w.alloc (.cells #[] 5)) (some ⟨w.heap.size, 0, none⟩) 0 0 0 0 [] wr v (cw x l p ++ (offD y).take k))
          case atStart => exact ⟨0, by omega, rfl, rfl, by simpa using HA.out⟩
          case round =>
            obtain ⟨k, hk, rfl, rfl, happ⟩ := hrel
            by_cases hk8 : k < 8
            · have hl : ((offD y).take k).length = k := by simp [offD_length]; omega
              have HB : Hid (0 + (cw x l p ++ (offD y).take k).length + 1 ≤ 140737488355328) := by unfold Hid; rw [List.length_append, hl]; omega
              have E1 : Hid (y / 2 ^ (28 - 4 * k) % 16 = y / 16 ^ (7 - k) % 16) := by unfold Hid; rw [pow_nib k hk8]
              clear hl
              have HA1 : Hid _ := happ
              clear happ
              go_wp2_with fail
              refine (hdigit_any _ _).mono ?_
              rintro e w' ⟨rfl, rfl⟩
              go_wp2_with (at_builtin; go_must (refine wpList_append_app _ rfl (.tmp 27) (.tmp 35) rfl bprog (org_fresh w) rfl (HA1.out.alloc _) _ [dg (y / 2 ^ (28 - 4 * k) % 16).toNat] rfl (src_new bprog w' [dg (y / 2 ^ (28 - 4 * k) % 16).toNat] 1) HB.out ?_))
              intro v2 w2 happ2
              have HA2 : Hid (App (w.alloc (.cells #[] 5)) (some ⟨w.heap.size, 0, none⟩) 0 0 0 0 [] w2 v2 (cw x l p ++ (offD y).take (k + 1))) := by
                unfold Hid; rw [take_snoc (by rw [offD_length]; exact hk8), nth_offD _ k hk8, ← E1.out]; simpa using happ2
              clear happ2 HA1
              go_wp2_with fail
              go_roundg (8 - (k + 1))
              case measure => omega
              case rel => exact ⟨k + 1, by omega, rfl, by go_num, HA2.out⟩
            · have e : (offD y).take k = offD y := List.take_of_length_le (by rw [offD_length]; omega)
              rw [e] at happ
              have HB : Hid (0 + (cw x l p ++ offD y).length + 1 ≤ 140737488355328) := by unfold Hid; rw [List.length_append, offD_length]; omega
              have HA1 : Hid _ := happ
              clear happ e
              go_wp2_with (at_builtin; go_must (refine wpList_append_app _ rfl (.tmp 37) (.tmp 38) rfl bprog (org_fresh w) rfl (HA1.out.alloc _) _ [58] rfl (src_new bprog wr [58] 1) HB.out ?_))
              intro v2 w2 happ2
              have HA2 : Hid (App (w.alloc (.cells #[] 5)) (some ⟨w.heap.size, 0, none⟩) 0 0 0 0 [] w2 v2 (cw x l p ++ hdP x p)) := by
                unfold Hid; rw [HH.out]; simpa using happ2
              clear happ2 HA1
              go_wp2_with fail
              go_meet
              case rel => exact HA2.out
        · have h16b : ((p : Int) % 16 == 0) = false := by simp; omega
          have HH : Hid (hdP x p = []) := by unfold Hid hdP; rw [if_neg h16]
          go_wp2_with fail
          go_meet
          case rel => rw [HH.out, List.append_nil]; exact HA.out
      case rest =>
        have hhd : (hdP x p).length ≤ 9 := by unfold hdP; split <;> simp [offD_length]
        have HA1 : Hid _ := hcut
        clear hcut HA
        have hbp := hb p
        have HB1 : Hid (0 + (cw x l p ++ hdP x p).length + 1 ≤ 140737488355328) := by unfold Hid; rw [List.length_append]; omega
        have HB2 : Hid (0 + (cw x l p ++ hdP x p ++ [32]).length + 1 ≤ 140737488355328) := by unfold Hid; simp only [List.length_append, List.length_cons, List.length_nil]; omega
        have HB3 : Hid (0 + (cw x l p ++ hdP x p ++ [32] ++ [dg (nth l p / 16 % 16).toNat]).length + 1 ≤ 140737488355328) := by unfold Hid; simp only [List.length_append, List.length_cons, List.length_nil]; omega
        go_wp2_with (at_builtin; go_must (refine wpList_append_app _ rfl (.tmp 40) (.tmp 41) rfl bprog (org_fresh w) rfl (HA1.out.alloc _) _ [32] rfl (src_new bprog wc [32] 1) HB1.out ?_))
        intro v2 w2 happ2
        have HA2 : Hid (App (w.alloc (.cells #[] 5)) (some ⟨w.heap.size, 0, none⟩) 0 0 0 0 [] w2 v2 (cw x l p ++ hdP x p ++ [32])) := by unfold Hid; simpa using happ2
        clear happ2 HA1
        obtain ⟨b1, o1, rfl, hc1⟩ := (HA2.out.oldVw HV.out (fun b off e hc => absurd hc (Nat.lt_irrefl _))) p (by rw [HN.out]; exact hlt)
        go_wp2_with fail
        refine (hdigit_any _ _).mono ?_
        rintro e w' ⟨rfl, rfl⟩
        go_wp2_with (at_builtin; go_must (refine wpList_append_app _ rfl (.tmp 43) (.tmp 51) rfl bprog (org_fresh w) rfl (HA2.out.alloc _) _ [dg (nth l p / 16 % 16).toNat] rfl (src_new bprog w' [dg (nth l p / 16 % 16).toNat] 1) HB2.out ?_))
        intro v3 w3 happ3
        have HA3 : Hid (App (w.alloc (.cells #[] 5)) (some ⟨w.heap.size, 0, none⟩) 0 0 0 0 [] w3 v3 (cw x l p ++ hdP x p ++ [32] ++ [dg (nth l p / 16 % 16).toNat])) := by unfold Hid; simpa using happ3
        clear happ3 HA2 hc1
        obtain ⟨b2, o2, e2, hc1⟩ := (HA3.out.oldVw HV.out (fun b off e hc => absurd hc (Nat.lt_irrefl _))) p (by rw [HN.out]; exact hlt)
        simp only [Option.some.injEq, Addr.mk.injEq] at e2
        obtain ⟨rfl, rfl, _⟩ := e2
        go_wp2_with fail
        refine (hdigit_any _ _).mono ?_
        rintro e w' ⟨rfl, rfl⟩
        go_wp2_with (at_builtin; go_must (refine wpList_append_app _ rfl (.tmp 53) (.tmp 60) rfl bprog (org_fresh w) rfl (HA3.out.alloc _) _ [dg (nth l p % 16).toNat] rfl (src_new bprog w' [dg (nth l p % 16).toNat] 1) HB3.out ?_))
        intro v4 w4 happ4
        have HA4 : Hid (App (w.alloc (.cells #[] 5)) (some ⟨w.heap.size, 0, none⟩) 0 0 0 0 [] w4 v4 (cw x l p ++ hdP x p ++ cell3 (nth l p))) := by
          unfold Hid
          have e : nth l p / 16 % 16 = nth l p / 16 := by omega
          rw [e] at happ4
          simpa [cell3, hex2] using happ4
        clear happ4 HA3 hc1 HB1 HB2 HB3
        have HB : Hid (0 + (cw x l p ++ hdP x p ++ cell3 (nth l p)).length + 1 ≤ 140737488355328) := by
          unfold Hid; simp only [List.length_append, cell3, hex2, List.length_cons, List.length_nil]; omega
        by_cases hnl : p % 16 = 15 ∨ p + 1 = n
        · have HC : Hid (cw x l (p + 1) = cw x l p ++ hdP x p ++ cell3 (nth l p) ++ [10]) := by
            unfold Hid; simp only [cw, tlP, HN.out]; rw [if_pos hnl]; simp [List.append_assoc]
          have hnb : ((p : Int) % 16 == 15) = true ∨ (((p : Int) % 16 == 15) = false ∧ ((p : Int) == (n : Int) - 1) = true) := by
            by_cases h15 : p % 16 = 15
            · exact .inl (by simp; omega)
            · exact .inr ⟨by simp; omega, by simp; omega⟩
          clear hnl
          rcases hnb with hb1 | ⟨hb1, hb2⟩
          all_goals
            go_wp2_with (at_builtin; go_must (refine wpList_append_app _ rfl (.tmp 72) (.tmp 73) rfl bprog (org_fresh w) rfl (HA4.out.alloc _) _ [10] rfl (src_new bprog w4 [10] 1) HB.out ?_))
            intro v5 w5 happ5
            have HA5 : Hid (App (w.alloc (.cells #[] 5)) (some ⟨w.heap.size, 0, none⟩) 0 0 0 0 [] w5 v5 (cw x l (p + 1))) := by
              unfold Hid; rw [HC.out]; simpa using happ5
            clear happ5 HA4
            go_wp2_with fail
            go_roundg (n - (p + 1))
            case measure => omega
            case rel => exact ⟨p + 1, by omega, rfl, by go_num, HA5.out⟩
        · have HC : Hid (cw x l (p + 1) = cw x l p ++ hdP x p ++ cell3 (nth l p)) := by
            unfold Hid; simp only [cw, tlP, HN.out]; rw [if_neg hnl]; simp [List.append_assoc]
          have hb1 : ((p : Int) % 16 == 15) = false := by simp; omega
          have hb2 : ((p : Int) == (n : Int) - 1) = false := by simp; omega
          clear hnl
          go_wp2_with fail
          go_roundg (n - (p + 1))
          case measure => omega
          case rel => exact ⟨p + 1, by omega, rfl, by go_num, by rw [HC.out]; exact HA4.out⟩
    · obtain rfl : p = n := by omega
      have hpp : decide ((p : Int) < (p : Int)) = false := by simp
      have HR : Hid _ := happ.res
      clear happ
      go_wp2_with fail
      go_ret
      exact ⟨_, rfl, HR.out⟩
end Go.Proofs.Ymbrcs
