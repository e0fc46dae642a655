import Derived.Test.YmbrcsHw
namespace Go.Proofs.Ymbrcs
open Go.RowKit

theorem next_not (p q : Nat) (hq : p % 58 = q) (h : q < 9 ∨ q % 3 = 0 ∨ q % 3 = 2) : ¬ (9 ≤ (p + 1) % 58 ∧ (p + 1) % 58 % 3 = 2) := by
  by_cases h57 : q = 57
  · have e : (p + 1) % 58 = 0 := by omega
    rw [e]; omega
  · have e : (p + 1) % 58 = q + 1 := by omega
    rw [e]; omega
theorem last_mod (N p q r : Nat) (hq : p % 58 = q) (hr : N % 58 = r) (hl : r = 0 ∨ (13 ≤ r ∧ r % 3 = 1)) (hp : p < N) (h : q = 57 ∨ p = N - 1) : q % 3 = 0 := by
  rcases h with h | h
  · omega
  · rcases hl with h1 | ⟨h1, h2⟩
    · have : q = 57 := by omega
      omega
    · have : q = r - 1 := by omega
      omega

set_option maxRecDepth 20000 in
set_option maxHeartbeats 3200000 in
theorem hwant_any (b : Int) (a : Option Addr) (T : List Int) (N c : Nat) (w : World) (h0 : 0 ≤ b) (h1 : b < 4294967296) (hv : Vw w a T) (hb : Bts T) (hn : T.length = N) (hbd : N ≤ 1000000) :
    Calls Ycsm.prog 29 #[.int .u32 b, .slice a N c] w fun e w' =>
      (¬ POk b T ∧ e = .returned (.tuple #[.slice none 0 0, .bool false]) ∧ Below w.heap.size w w') ∨
      (POk b T ∧ ∃ v, e = .returned (.tuple #[v, .bool true]) ∧ Res w w' v (outL T (dNat N))) := by
  have HV : Hid (Vw w a T) := hv
  have HN : Hid (T.length = N) := hn
  have HIFF : Hid (POk b T ↔ LenOk N ∧ b + dNat N ≤ 4294967296 ∧ ∀ p, p < N → HPos b T p) := by
    have := pOk_iffP b T h0 (by omega)
    rwa [hn] at this
  clear hv hn
  obtain ⟨r, hr⟩ : ∃ r : Nat, N % 58 = r := ⟨_, rfl⟩
  have hri : (N : Int) % 58 = (r : Int) := by omega
  have HLO : Hid (LenOk N ↔ r = 0 ∨ (13 ≤ r ∧ r % 3 = 1)) := by unfold Hid LenOk; rw [hr]
  have hr58 : r < 58 := by omega
  by_cases hl : LenOk N
  case neg =>
    have H : Hid (¬ POk b T) := fun h => hl (HIFF.out.1 h).1
    rw [HLO.out] at hl
    have hz : ((r : Int) != 0) = true := by simp; omega
    by_cases h13 : r < 13
    · clear hl hr
      go_enter Ycsm.func29, Ycsm.ntmps29
      go_wp2_with fail
      go_ret2
      exact .inl ⟨H.out, rfl, Below.refl _ _⟩
    · have h3 : ((r : Int) % 3 != 1) = true := by simp; omega
      clear hl hr
      go_enter Ycsm.func29, Ycsm.ntmps29
      go_wp2_with fail
      go_ret2
      exact .inl ⟨H.out, rfl, Below.refl _ _⟩
  have HL : Hid (LenOk N) := hl
  have hcase : r = 0 ∨ (((r : Int) != 0) = true ∧ ¬ r < 13 ∧ ((r : Int) % 3 != 1) = false) := by
    rw [HLO.out] at hl
    rcases hl with h | ⟨h1, h2⟩
    · exact .inl h
    · exact .inr ⟨by simp; omega, by omega, by simp; omega⟩
  have HR : Hid (N % 58 = r) := hr
  have HVW : Hid (Vw (w.alloc (.cells #[] 5)) a T) := HV.out.below ((Below.refl w.heap.size _).alloc (Nat.le_refl _) _) (Nat.le_refl _)
  clear hl hr
  go_enter Ycsm.func29, Ycsm.ntmps29
  rcases hcase with rfl | ⟨hz, h13, h3⟩
  · have hri0 : (N : Int) % 58 = 0 := hri
    clear hri
    go_wp2_with fail
    go_loopw [7, 8, 9] (fun v h i wr => ∃ (p k : Nat) (hv' : Int), p ≤ N ∧ i = .int .i64 p ∧ h = .int .i64 hv' ∧ cnt p = k ∧ (9 ≤ p % 58 → p % 58 % 3 = 2 → hv' = hexVal (nth T (p - 1))) ∧ (∀ q, q < p → HPos b T q) ∧ App (w.alloc (.cells #[] 5)) (some ⟨w.heap.size, 0, none⟩) 0 0 0 0 [] wr v (outL T k)) (fun _ _ i _ => N - (intOf i).toNat)
    case atStart => exact ⟨0, 0, 0, by omega, rfl, rfl, rfl, fun h => by omega, fun q hq => by omega, app_fresh _⟩
    case round =>
      obtain ⟨p, k, hv', hp, rfl, rfl, hck, hh, hall, happ⟩ := hrel
      have HAL : Hid (∀ q, q < p → HPos b T q) := hall
      have HCK : Hid (cnt p = k) := hck
      have HP : Hid (App (w.alloc (.cells #[] 5)) (some ⟨w.heap.size, 0, none⟩) 0 0 0 0 [] wr _ (outL T k)) := happ
      have HBe : Hid (Below w.heap.size w wr) := happ.res.below
      have hkN : k ≤ N := by rw [← hck]; exact Nat.le_trans (cnt_le p) hp
      clear hall hck
      by_cases hlt : p < N
      · obtain ⟨b1, o1, rfl, hc1⟩ := (HP.out.oldVw HVW.out (fun b off e hc => absurd hc (Nat.lt_irrefl _))) p (by rw [HN.out]; exact hlt)
        have hbp := hb p
        obtain ⟨q, hq⟩ : ∃ q : Nat, p % 58 = q := ⟨_, rfl⟩
        have hqi : (p : Int) % 58 = (q : Int) := by omega
        have hq58 : q < 58 := by omega
        have hstep : HPos b T p → Hid (∀ q, q < p + 1 → HPos b T q) := fun h q hq => by
          by_cases hqp : q = p
          · subst hqp; exact h
          · exact HAL.out q (by omega)
        have hbad : ¬ HPos b T p → Hid (¬ POk b T) := fun h h2 => h ((HIFF.out.1 h2).2.2 p hlt)
        by_cases h8 : q < 8
        · obtain ⟨y, hy⟩ : ∃ y : Int, (b + (p : Int) / 58 * 16) % 4294967296 = y := ⟨_, rfl⟩
          have hy0 : 0 ≤ y := by omega
          have hpos : HPos b T p ↔ nth T p = dg (y / 2 ^ (28 - 4 * q) % 16).toNat := by
            unfold HPos
            have e : (b + ((p / 58 * 16 : Nat) : Int)) % 4294967296 = y := by rw [← hy]; congr 1
            rw [hq, if_pos h8, e, nth_offD y q h8, pow_nib q h8]
          have HCN : Hid (cnt (p + 1) = k) := by unfold Hid; rw [cnt_same p (by omega)]; exact HCK.out
          by_cases hs : nth T p = dg (y / 2 ^ (28 - 4 * q) % 16).toNat
          · have hs' : (nth T p != dg (y / 2 ^ (28 - 4 * q) % 16).toNat) = false := by simp [hs]
            have HA2 := hstep (hpos.2 hs)
            have HQ : Hid (¬ (9 ≤ (p + 1) % 58 ∧ (p + 1) % 58 % 3 = 2)) := next_not p q hq (by omega)
            clear hs hpos hstep hbad hh hq
            go_wp2_with fail
            refine (hdigit_any _ _).mono ?_
            rintro e w' ⟨rfl, rfl⟩
            go_wp2_with fail
            go_roundw
            case rel => exact ⟨p + 1, k, hv', by omega, by go_num, rfl, HCN.out, fun h1 h2 => absurd ⟨h1, h2⟩ HQ.out, HA2.out, HP.out⟩
            case measure => simp [intOf]; omega
          · have hs' : (nth T p != dg (y / 2 ^ (28 - 4 * q) % 16).toNat) = true := by simp [hs]
            have H := hbad (fun h => hs (hpos.1 h))
            clear hs hpos hstep hbad hh hq
            go_wp2_with fail
            refine (hdigit_any _ _).mono ?_
            rintro e w' ⟨rfl, rfl⟩
            go_wp2_with fail
            go_ret2
            exact .inl ⟨H.out, rfl, HBe.out⟩
        by_cases h9 : q = 8
        · have hpos : HPos b T p ↔ nth T p = 58 := by unfold HPos; rw [hq, if_neg h8, if_pos h9]
          have h9' : ((q : Int) == 8) = true := by simp; omega
          have HCN : Hid (cnt (p + 1) = k) := by unfold Hid; rw [cnt_same p (by omega)]; exact HCK.out
          have HQ : Hid (¬ (9 ≤ (p + 1) % 58 ∧ (p + 1) % 58 % 3 = 2)) := next_not p q hq (by omega)
          by_cases hs : nth T p = 58
          · have hs' : (nth T p != 58) = false := by simp [hs]
            have HA2 := hstep (hpos.2 hs)
            clear hs hpos hstep hbad hh hq h9
            go_wp2_with fail
            go_roundw
            case rel => exact ⟨p + 1, k, hv', by omega, by go_num, rfl, HCN.out, fun h1 h2 => absurd ⟨h1, h2⟩ HQ.out, HA2.out, HP.out⟩
            case measure => simp [intOf]; omega
          · have hs' : (nth T p != 58) = true := by simp [hs]
            have H := hbad (fun h => hs (hpos.1 h))
            clear hs hpos hstep hbad hh hq h9
            go_wp2_with fail
            go_ret2
            exact .inl ⟨H.out, rfl, HBe.out⟩
        have h9' : ((q : Int) == 8) = false := by simp; omega
        by_cases hnl : q = 57 ∨ p = N - 1
        · have hpos : HPos b T p ↔ nth T p = 10 := by unfold HPos; rw [hq, if_neg h8, if_neg h9, if_pos (by rw [HN.out]; exact hnl)]
          have hmod : q % 3 = 0 := last_mod N p q (N % 58) hq rfl HL.out hlt hnl
          have hnb : ((q : Int) == 57) = true ∨ (((q : Int) == 57) = false ∧ ((p : Int) == (N : Int) - 1) = true) := by
            by_cases h57 : q = 57
            · exact .inl (by simp; omega)
            · exact .inr ⟨by simp; omega, by simp; omega⟩
          have HCN : Hid (cnt (p + 1) = k) := by unfold Hid; rw [cnt_same p (by omega)]; exact HCK.out
          have HQ : Hid (¬ (9 ≤ (p + 1) % 58 ∧ (p + 1) % 58 % 3 = 2)) := next_not p q hq (by omega)
          by_cases hs : nth T p = 10
          · have hs' : (nth T p != 10) = false := by simp [hs]
            have HA2 := hstep (hpos.2 hs)
            clear hs hpos hstep hbad hh hq h9 hnl hmod
            rcases hnb with hb1 | ⟨hb1, hb2⟩
            all_goals
              go_wp2_with fail
              go_roundw
              case rel => exact ⟨p + 1, k, hv', by omega, by go_num, rfl, HCN.out, fun h1 h2 => absurd ⟨h1, h2⟩ HQ.out, HA2.out, HP.out⟩
              case measure => simp [intOf]; omega
          · have hs' : (nth T p != 10) = true := by simp [hs]
            have H := hbad (fun h => hs (hpos.1 h))
            clear hs hpos hstep hbad hh hq h9 hnl hmod
            rcases hnb with hb1 | ⟨hb1, hb2⟩
            all_goals
              go_wp2_with fail
              go_ret2
              exact .inl ⟨H.out, rfl, HBe.out⟩
        have hb1 : ((q : Int) == 57) = false := by simp; omega
        have hb2 : ((p : Int) == (N : Int) - 1) = false := by simp; omega
        by_cases h3 : q % 3 = 0
        · have hpos : HPos b T p ↔ nth T p = 32 := by unfold HPos; rw [hq, if_neg h8, if_neg h9, if_neg (by rw [HN.out]; exact hnl), if_pos h3]
          have h3' : ((q : Int) % 3 == 0) = true := by simp; omega
          have HCN : Hid (cnt (p + 1) = k) := by unfold Hid; rw [cnt_same p (by omega)]; exact HCK.out
          have HQ : Hid (¬ (9 ≤ (p + 1) % 58 ∧ (p + 1) % 58 % 3 = 2)) := next_not p q hq (by omega)
          by_cases hs : nth T p = 32
          · have hs' : (nth T p != 32) = false := by simp [hs]
            have HA2 := hstep (hpos.2 hs)
            clear hs hpos hstep hbad hh hq h9 hnl h3
            go_wp2_with fail
            go_roundw
            case rel => exact ⟨p + 1, k, hv', by omega, by go_num, rfl, HCN.out, fun h1 h2 => absurd ⟨h1, h2⟩ HQ.out, HA2.out, HP.out⟩
            case measure => simp [intOf]; omega
          · have hs' : (nth T p != 32) = true := by simp [hs]
            have H := hbad (fun h => hs (hpos.1 h))
            clear hs hpos hstep hbad hh hq h9 hnl h3
            go_wp2_with fail
            go_ret2
            exact .inl ⟨H.out, rfl, HBe.out⟩
        have h3' : ((q : Int) % 3 == 0) = false := by simp; omega
        have hpos : HPos b T p ↔ hexOk (nth T p) = true := by unfold HPos; rw [hq, if_neg h8, if_neg h9, if_neg (by rw [HN.out]; exact hnl), if_neg h3]
        have hvb := hexVal_bd (nth T p)
        cases hs : hexOk (nth T p)
        · have H := hbad (fun h => by rw [hpos.1 h] at hs; exact absurd hs (by decide))
          have hi := iV_no _ hs
          clear hs hpos hstep hbad hh hq h9 hnl h3
          go_wp2_with fail
          refine (hvalue_any (nth T p) _).mono ?_
          rintro e w' ⟨rfl, rfl⟩
          go_wp2_with fail
          go_ret2
          exact .inl ⟨H.out, rfl, HBe.out⟩
        · have HA2 := hstep (hpos.2 hs)
          have hi := iV_yes _ hs
          by_cases h31 : q % 3 = 1
          · have h31' : ((q : Int) % 3 == 1) = true := by simp; omega
            have HCN : Hid (cnt (p + 1) = k) := by unfold Hid; rw [cnt_same p (by omega)]; exact HCK.out
            clear hs hpos hstep hbad hh hq h9 hnl h3 h31
            go_wp2_with fail
            refine (hvalue_any (nth T p) _).mono ?_
            rintro e w' ⟨rfl, rfl⟩
            go_wp2_with fail
            go_roundw
            case rel => exact ⟨p + 1, k, hexVal (nth T p), by omega, by go_num, rfl, HCN.out, fun _ _ => rfl, HA2.out, HP.out⟩
            case measure => simp [intOf]; omega
          · have h31' : ((q : Int) % 3 == 1) = false := by simp; omega
            obtain ⟨cu1, cu2⟩ := cnt_up p (by omega) (by omega)
            rw [HCK.out] at cu1 cu2
            have hhv : hv' = hexVal (nth T (p - 1)) := hh (by omega) (by omega)
            have hvb2 := hexVal_bd (nth T (p - 1))
            rw [← hhv] at hvb2
            have HPA : Hid (pairAt T k = 16 * hv' + hexVal (nth T p)) := by
              unfold Hid pairAt
              rw [cu2, hhv, show posP k = p - 1 by omega]; omega
            have HCN : Hid (cnt (p + 1) = k + 1) := cu1
            have HQ : Hid (¬ (9 ≤ (p + 1) % 58 ∧ (p + 1) % 58 % 3 = 2)) := next_not p q hq (by omega)
            have HBd : Hid (0 + (outL T k).length + 1 ≤ 140737488355328) := by unfold Hid; rw [outL_length]; omega
            clear hs hpos hstep hbad hh hq h9 hnl h3 h31 cu1 cu2 hhv
            go_wp2_with fail
            refine (hvalue_any (nth T p) _).mono ?_
            rintro e w' ⟨rfl, rfl⟩
            go_wp2_with (at_builtin; go_must (refine wpList_append_app _ rfl (.tmp 86) (.tmp 92) rfl bprog (org_fresh w) rfl (HP.out.alloc _) _ [16 * hv' + hexVal (nth T p)] rfl (src_new bprog w' [16 * hv' + hexVal (nth T p)] 1) HBd.out ?_))
            intro v2 w2 happ2
            have HP2 : Hid (App (w.alloc (.cells #[] 5)) (some ⟨w.heap.size, 0, none⟩) 0 0 0 0 [] w2 v2 (outL T (k + 1))) := by
              unfold Hid; rw [outL, HPA.out]; exact happ2
            clear happ2 HP hc1
            go_wp2_with fail
            go_roundw
            case rel => exact ⟨p + 1, k + 1, hv', by omega, by go_num, rfl, HCN.out, fun h1 h2 => absurd ⟨h1, h2⟩ HQ.out, HA2.out, HP2.out⟩
            case measure => simp [intOf]; omega
      · obtain rfl : p = N := by omega
        have hpp : decide ((p : Int) < (p : Int)) = false := by simp
        have hkd : dNat p = k := by rw [← cnt_all p HL.out]; exact HCK.out
        have HKD : Hid (dNat p = k) := hkd
        obtain ⟨a9, c9, hv9⟩ := happ.shape
        rw [outL_length, Nat.zero_add] at hv9
        subst hv9
        have HRs : Hid (Res w wr (.slice a9 k c9) (outL T k)) := happ.res
        by_cases hf : b + k ≤ 4294967296
        · have H : Hid (POk b T) := HIFF.out.2 ⟨HL.out, by rw [hkd]; exact hf, HAL.out⟩
          clear HP happ hh hkd
          go_wp2_with fail
          go_ret2
          exact .inr ⟨H.out, _, rfl, by rw [HKD.out]; exact HRs.out⟩
        · have H : Hid (¬ POk b T) := fun h => hf (by have := (HIFF.out.1 h).2.1; rwa [hkd] at this)
          clear HP happ hh hkd
          go_wp2_with fail
          go_ret2
          exact .inl ⟨H.out, rfl, HBe.out⟩
  · go_wp2_with fail
    go_loopw [7, 8, 9] (fun v h i wr => ∃ (p k : Nat) (hv' : Int), p ≤ N ∧ i = .int .i64 p ∧ h = .int .i64 hv' ∧ cnt p = k ∧ (9 ≤ p % 58 → p % 58 % 3 = 2 → hv' = hexVal (nth T (p - 1))) ∧ (∀ q, q < p → HPos b T q) ∧ App (w.alloc (.cells #[] 5)) (some ⟨w.heap.size, 0, none⟩) 0 0 0 0 [] wr v (outL T k)) (fun _ _ i _ => N - (intOf i).toNat)
    case atStart => exact ⟨0, 0, 0, by omega, rfl, rfl, rfl, fun h => by omega, fun q hq => by omega, app_fresh _⟩
    case round =>
      obtain ⟨p, k, hv', hp, rfl, rfl, hck, hh, hall, happ⟩ := hrel
      have HAL : Hid (∀ q, q < p → HPos b T q) := hall
      have HCK : Hid (cnt p = k) := hck
      have HP : Hid (App (w.alloc (.cells #[] 5)) (some ⟨w.heap.size, 0, none⟩) 0 0 0 0 [] wr _ (outL T k)) := happ
      have HBe : Hid (Below w.heap.size w wr) := happ.res.below
      have hkN : k ≤ N := by rw [← hck]; exact Nat.le_trans (cnt_le p) hp
      clear hall hck
      by_cases hlt : p < N
      · obtain ⟨b1, o1, rfl, hc1⟩ := (HP.out.oldVw HVW.out (fun b off e hc => absurd hc (Nat.lt_irrefl _))) p (by rw [HN.out]; exact hlt)
        have hbp := hb p
        obtain ⟨q, hq⟩ : ∃ q : Nat, p % 58 = q := ⟨_, rfl⟩
        have hqi : (p : Int) % 58 = (q : Int) := by omega
        have hq58 : q < 58 := by omega
        have hstep : HPos b T p → Hid (∀ q, q < p + 1 → HPos b T q) := fun h q hq => by
          by_cases hqp : q = p
          · subst hqp; exact h
          · exact HAL.out q (by omega)
        have hbad : ¬ HPos b T p → Hid (¬ POk b T) := fun h h2 => h ((HIFF.out.1 h2).2.2 p hlt)
        by_cases h8 : q < 8
        · obtain ⟨y, hy⟩ : ∃ y : Int, (b + (p : Int) / 58 * 16) % 4294967296 = y := ⟨_, rfl⟩
          have hy0 : 0 ≤ y := by omega
          have hpos : HPos b T p ↔ nth T p = dg (y / 2 ^ (28 - 4 * q) % 16).toNat := by
            unfold HPos
            have e : (b + ((p / 58 * 16 : Nat) : Int)) % 4294967296 = y := by rw [← hy]; congr 1
            rw [hq, if_pos h8, e, nth_offD y q h8, pow_nib q h8]
          have HCN : Hid (cnt (p + 1) = k) := by unfold Hid; rw [cnt_same p (by omega)]; exact HCK.out
          by_cases hs : nth T p = dg (y / 2 ^ (28 - 4 * q) % 16).toNat
          · have hs' : (nth T p != dg (y / 2 ^ (28 - 4 * q) % 16).toNat) = false := by simp [hs]
            have HA2 := hstep (hpos.2 hs)
            have HQ : Hid (¬ (9 ≤ (p + 1) % 58 ∧ (p + 1) % 58 % 3 = 2)) := next_not p q hq (by omega)
            clear hs hpos hstep hbad hh hq
            go_wp2_with fail
            refine (hdigit_any _ _).mono ?_
            rintro e w' ⟨rfl, rfl⟩
            go_wp2_with fail
            go_roundw
            case rel => exact ⟨p + 1, k, hv', by omega, by go_num, rfl, HCN.out, fun h1 h2 => absurd ⟨h1, h2⟩ HQ.out, HA2.out, HP.out⟩
            case measure => simp [intOf]; omega
          · have hs' : (nth T p != dg (y / 2 ^ (28 - 4 * q) % 16).toNat) = true := by simp [hs]
            have H := hbad (fun h => hs (hpos.1 h))
            clear hs hpos hstep hbad hh hq
            go_wp2_with fail
            refine (hdigit_any _ _).mono ?_
            rintro e w' ⟨rfl, rfl⟩
            go_wp2_with fail
            go_ret2
            exact .inl ⟨H.out, rfl, HBe.out⟩
        by_cases h9 : q = 8
        · have hpos : HPos b T p ↔ nth T p = 58 := by unfold HPos; rw [hq, if_neg h8, if_pos h9]
          have h9' : ((q : Int) == 8) = true := by simp; omega
          have HCN : Hid (cnt (p + 1) = k) := by unfold Hid; rw [cnt_same p (by omega)]; exact HCK.out
          have HQ : Hid (¬ (9 ≤ (p + 1) % 58 ∧ (p + 1) % 58 % 3 = 2)) := next_not p q hq (by omega)
          by_cases hs : nth T p = 58
          · have hs' : (nth T p != 58) = false := by simp [hs]
            have HA2 := hstep (hpos.2 hs)
            clear hs hpos hstep hbad hh hq h9
            go_wp2_with fail
            go_roundw
            case rel => exact ⟨p + 1, k, hv', by omega, by go_num, rfl, HCN.out, fun h1 h2 => absurd ⟨h1, h2⟩ HQ.out, HA2.out, HP.out⟩
            case measure => simp [intOf]; omega
          · have hs' : (nth T p != 58) = true := by simp [hs]
            have H := hbad (fun h => hs (hpos.1 h))
            clear hs hpos hstep hbad hh hq h9
            go_wp2_with fail
            go_ret2
            exact .inl ⟨H.out, rfl, HBe.out⟩
        have h9' : ((q : Int) == 8) = false := by simp; omega
        by_cases hnl : q = 57 ∨ p = N - 1
        · have hpos : HPos b T p ↔ nth T p = 10 := by unfold HPos; rw [hq, if_neg h8, if_neg h9, if_pos (by rw [HN.out]; exact hnl)]
          have hmod : q % 3 = 0 := last_mod N p q (N % 58) hq rfl HL.out hlt hnl
          have hnb : ((q : Int) == 57) = true ∨ (((q : Int) == 57) = false ∧ ((p : Int) == (N : Int) - 1) = true) := by
            by_cases h57 : q = 57
            · exact .inl (by simp; omega)
            · exact .inr ⟨by simp; omega, by simp; omega⟩
          have HCN : Hid (cnt (p + 1) = k) := by unfold Hid; rw [cnt_same p (by omega)]; exact HCK.out
          have HQ : Hid (¬ (9 ≤ (p + 1) % 58 ∧ (p + 1) % 58 % 3 = 2)) := next_not p q hq (by omega)
          by_cases hs : nth T p = 10
          · have hs' : (nth T p != 10) = false := by simp [hs]
            have HA2 := hstep (hpos.2 hs)
            clear hs hpos hstep hbad hh hq h9 hnl hmod
            rcases hnb with hb1 | ⟨hb1, hb2⟩
            all_goals
              go_wp2_with fail
              go_roundw
              case rel => exact ⟨p + 1, k, hv', by omega, by go_num, rfl, HCN.out, fun h1 h2 => absurd ⟨h1, h2⟩ HQ.out, HA2.out, HP.out⟩
              case measure => simp [intOf]; omega
          · have hs' : (nth T p != 10) = true := by simp [hs]
            have H := hbad (fun h => hs (hpos.1 h))
            clear hs hpos hstep hbad hh hq h9 hnl hmod
            rcases hnb with hb1 | ⟨hb1, hb2⟩
            all_goals
              go_wp2_with fail
              go_ret2
              exact .inl ⟨H.out, rfl, HBe.out⟩
        have hb1 : ((q : Int) == 57) = false := by simp; omega
        have hb2 : ((p : Int) == (N : Int) - 1) = false := by simp; omega
        by_cases h3 : q % 3 = 0
        · have hpos : HPos b T p ↔ nth T p = 32 := by unfold HPos; rw [hq, if_neg h8, if_neg h9, if_neg (by rw [HN.out]; exact hnl), if_pos h3]
          have h3' : ((q : Int) % 3 == 0) = true := by simp; omega
          have HCN : Hid (cnt (p + 1) = k) := by unfold Hid; rw [cnt_same p (by omega)]; exact HCK.out
          have HQ : Hid (¬ (9 ≤ (p + 1) % 58 ∧ (p + 1) % 58 % 3 = 2)) := next_not p q hq (by omega)
          by_cases hs : nth T p = 32
          · have hs' : (nth T p != 32) = false := by simp [hs]
            have HA2 := hstep (hpos.2 hs)
            clear hs hpos hstep hbad hh hq h9 hnl h3
            go_wp2_with fail
            go_roundw
            case rel => exact ⟨p + 1, k, hv', by omega, by go_num, rfl, HCN.out, fun h1 h2 => absurd ⟨h1, h2⟩ HQ.out, HA2.out, HP.out⟩
            case measure => simp [intOf]; omega
          · have hs' : (nth T p != 32) = true := by simp [hs]
            have H := hbad (fun h => hs (hpos.1 h))
            clear hs hpos hstep hbad hh hq h9 hnl h3
            go_wp2_with fail
            go_ret2
            exact .inl ⟨H.out, rfl, HBe.out⟩
        have h3' : ((q : Int) % 3 == 0) = false := by simp; omega
        have hpos : HPos b T p ↔ hexOk (nth T p) = true := by unfold HPos; rw [hq, if_neg h8, if_neg h9, if_neg (by rw [HN.out]; exact hnl), if_neg h3]
        have hvb := hexVal_bd (nth T p)
        cases hs : hexOk (nth T p)
        · have H := hbad (fun h => by rw [hpos.1 h] at hs; exact absurd hs (by decide))
          have hi := iV_no _ hs
          clear hs hpos hstep hbad hh hq h9 hnl h3
          go_wp2_with fail
          refine (hvalue_any (nth T p) _).mono ?_
          rintro e w' ⟨rfl, rfl⟩
          go_wp2_with fail
          go_ret2
          exact .inl ⟨H.out, rfl, HBe.out⟩
        · have HA2 := hstep (hpos.2 hs)
          have hi := iV_yes _ hs
          by_cases h31 : q % 3 = 1
          · have h31' : ((q : Int) % 3 == 1) = true := by simp; omega
            have HCN : Hid (cnt (p + 1) = k) := by unfold Hid; rw [cnt_same p (by omega)]; exact HCK.out
            clear hs hpos hstep hbad hh hq h9 hnl h3 h31
            go_wp2_with fail
            refine (hvalue_any (nth T p) _).mono ?_
            rintro e w' ⟨rfl, rfl⟩
            go_wp2_with fail
            go_roundw
            case rel => exact ⟨p + 1, k, hexVal (nth T p), by omega, by go_num, rfl, HCN.out, fun _ _ => rfl, HA2.out, HP.out⟩
            case measure => simp [intOf]; omega
          · have h31' : ((q : Int) % 3 == 1) = false := by simp; omega
            obtain ⟨cu1, cu2⟩ := cnt_up p (by omega) (by omega)
            rw [HCK.out] at cu1 cu2
            have hhv : hv' = hexVal (nth T (p - 1)) := hh (by omega) (by omega)
            have hvb2 := hexVal_bd (nth T (p - 1))
            rw [← hhv] at hvb2
            have HPA : Hid (pairAt T k = 16 * hv' + hexVal (nth T p)) := by
              unfold Hid pairAt
              rw [cu2, hhv, show posP k = p - 1 by omega]; omega
            have HCN : Hid (cnt (p + 1) = k + 1) := cu1
            have HQ : Hid (¬ (9 ≤ (p + 1) % 58 ∧ (p + 1) % 58 % 3 = 2)) := next_not p q hq (by omega)
            have HBd : Hid (0 + (outL T k).length + 1 ≤ 140737488355328) := by unfold Hid; rw [outL_length]; omega
            clear hs hpos hstep hbad hh hq h9 hnl h3 h31 cu1 cu2 hhv
            go_wp2_with fail
            refine (hvalue_any (nth T p) _).mono ?_
            rintro e w' ⟨rfl, rfl⟩
            go_wp2_with (at_builtin; go_must (refine wpList_append_app _ rfl (.tmp 86) (.tmp 92) rfl bprog (org_fresh w) rfl (HP.out.alloc _) _ [16 * hv' + hexVal (nth T p)] rfl (src_new bprog w' [16 * hv' + hexVal (nth T p)] 1) HBd.out ?_))
            intro v2 w2 happ2
            have HP2 : Hid (App (w.alloc (.cells #[] 5)) (some ⟨w.heap.size, 0, none⟩) 0 0 0 0 [] w2 v2 (outL T (k + 1))) := by
              unfold Hid; rw [outL, HPA.out]; exact happ2
            clear happ2 HP hc1
            go_wp2_with fail
            go_roundw
            case rel => exact ⟨p + 1, k + 1, hv', by omega, by go_num, rfl, HCN.out, fun h1 h2 => absurd ⟨h1, h2⟩ HQ.out, HA2.out, HP2.out⟩
            case measure => simp [intOf]; omega
      · obtain rfl : p = N := by omega
        have hpp : decide ((p : Int) < (p : Int)) = false := by simp
        have hkd : dNat p = k := by rw [← cnt_all p HL.out]; exact HCK.out
        have HKD : Hid (dNat p = k) := hkd
        obtain ⟨a9, c9, hv9⟩ := happ.shape
        rw [outL_length, Nat.zero_add] at hv9
        subst hv9
        have HRs : Hid (Res w wr (.slice a9 k c9) (outL T k)) := happ.res
        by_cases hf : b + k ≤ 4294967296
        · have H : Hid (POk b T) := HIFF.out.2 ⟨HL.out, by rw [hkd]; exact hf, HAL.out⟩
          clear HP happ hh hkd
          go_wp2_with fail
          go_ret2
          exact .inr ⟨H.out, _, rfl, by rw [HKD.out]; exact HRs.out⟩
        · have H : Hid (¬ POk b T) := fun h => hf (by have := (HIFF.out.1 h).2.1; rwa [hkd] at this)
          clear HP happ hh hkd
          go_wp2_with fail
          go_ret2
          exact .inl ⟨H.out, rfl, HBe.out⟩
end Go.Proofs.Ymbrcs
