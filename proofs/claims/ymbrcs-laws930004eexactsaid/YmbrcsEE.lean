import Derived.Test.YmbrcsE
namespace Go.Proofs.Ymbrcs
open Go.RowKit

def gB (l : List Int) (k : Nat) : Bool := decide (l.length % 2 = 0) && (List.range k).all fun i => hexOk (nth l i)
theorem gB_zero (l : List Int) : gB l 0 = decide (l.length % 2 = 0) := by simp [gB]
theorem gB_succ (l : List Int) (k : Nat) : gB l (k + 1) = (gB l k && hexOk (nth l k)) := by
  simp [gB, List.range_succ, List.all_append, Bool.and_assoc]
theorem gB_all (l : List Int) : gB l l.length = decOk l := rfl

set_option maxHeartbeats 1600000 in
theorem eexact_walk (a : Option Addr) (l : List Int) (n c : Nat) (w : World) (hv : Vw w a l) (hb : Bts l) (hn : l.length = n) :
    Calls Ycsm.prog 3 #[.slice a n c] w fun e w' => e = .returned (.bool true) ∧ Below w.heap.size w w' := by
  have hq := eqlNil
  have HV : Hid (Vw w a l) := hv
  clear hv
  by_cases hbig : 1024 < n
  · go_enter Ycsm.func3, Ycsm.ntmps3
    go_wp2_with fail
    go_ret
    exact ⟨rfl, Below.refl _ _⟩
  have hg0 : ((n : Int) % 2 == 0) = gB l 0 := by
    rw [gB_zero, hn, Bool.eq_iff_iff]; simp; omega
  go_enter Ycsm.func3, Ycsm.ntmps3
  go_wp2_with fail
  refine (decode_any a l n c _ HV.out hb hn (by omega)).mono ?_
  rintro e w1 (⟨hno, rfl, hB1⟩ | ⟨hyes, v1, rfl, hres⟩)
  · have HB1 : Hid (Below w.heap.size w w1) := hB1
    have HN : Hid (decOk l = false) := hno
    have HV1 : Hid (Vw w1 a l) := HV.out.below hB1 (Nat.le_refl _)
    clear hno hB1
    go_wp2_with fail
    go_loopw [5, 6] (fun g i wr => ∃ k : Nat, k ≤ n ∧ i = .int .i64 k ∧ g = .bool (gB l k) ∧ wr = w1) (fun _ i _ => n - (intOf i).toNat)
    case atStart => exact ⟨0, by omega, rfl, rfl, rfl⟩
    case round =>
      clear hg0
      obtain ⟨k, hk, rfl, rfl, rfl⟩ := hrel
      by_cases hlt : k < n
      · obtain ⟨b1, o1, rfl, hc1⟩ := HV1.out k (by omega)
        have hib := iV_bd (nth l k)
        cases ho : hexOk (nth l k)
        · have hi := iV_no _ ho
          have E : Hid (gB l (k + 1) = false) := by unfold Hid; rw [gB_succ, ho]; simp
          clear ho
          go_wp2_with fail
          refine (eval_any (nth l k) _).mono ?_
          rintro e w' ⟨rfl, rfl⟩
          go_wp2_with fail
          go_roundw
          case rel => exact ⟨k + 1, by omega, by go_num, by rw [E.out], by trivial⟩
          case measure => simp [intOf]; omega
        · have hi := iV_yes _ ho
          have hvb := hexVal_bd (nth l k)
          have E : Hid (gB l (k + 1) = gB l k) := by unfold Hid; rw [gB_succ, ho]; simp
          clear ho
          go_wp2_with fail
          refine (eval_any (nth l k) _).mono ?_
          rintro e w' ⟨rfl, rfl⟩
          go_wp2_with fail
          go_roundw
          case rel => exact ⟨k + 1, by omega, by go_num, by rw [E.out], by trivial⟩
          case measure => simp [intOf]; omega
      · obtain rfl : k = n := by omega
        have e1 : gB l k = false := by have := gB_all l; rw [hn] at this; rw [this]; exact HN.out
        go_wp2_with fail
        go_ret
        exact ⟨rfl, HB1.out⟩
  · have HB1 : Hid (Below w.heap.size w w1) := hres.below
    have HN : Hid (decOk l = true) := hyes
    have HV1 : Hid (Vw w1 a l) := HV.out.below hres.below (Nat.le_refl _)
    have hev : n % 2 = 0 := by have := ((decOk_iff l).1 hyes).1; omega
    obtain ⟨g, c1, hv1, hg, hlc, hcm1, hvw⟩ := hres.reads
    rw [dec_length] at hv1 hlc
    subst hv1
    have HW : Hid (Vw w1 (some ⟨g, 0, none⟩) (dec l (n / 2))) := hvw
    have HEV : Hid (n % 2 = 0) := hev
    clear hyes hres hg hvw hev
    go_wp2_with fail
    go_loopw [5, 6] (fun g i wr => ∃ k : Nat, k ≤ n ∧ i = .int .i64 k ∧ g = .bool true ∧ wr = w1) (fun _ i _ => n - (intOf i).toNat)
    case atStart => exact ⟨0, by omega, rfl, by rw [gB_zero, hn]; simp [HEV.out], rfl⟩
    case round =>
      clear hg0
      obtain ⟨k, hk, rfl, rfl, rfl⟩ := hrel
      by_cases hlt : k < n
      · obtain ⟨b1, o1, rfl, hc1⟩ := HV1.out k (by omega)
        have hi := iV_yes _ (((decOk_iff l).1 HN.out).2 k (by omega))
        have hvb := hexVal_bd (nth l k)
        go_wp2_with fail
        refine (eval_any (nth l k) _).mono ?_
        rintro e w' ⟨rfl, rfl⟩
        go_wp2_with fail
        go_roundw
        case rel => exact ⟨k + 1, by omega, by go_num, rfl, by trivial⟩
        case measure => simp [intOf]; omega
      · have hmul : (((n / 2 : Nat) : Int) * 2 != (n : Int)) = false := by
          have := HEV.out
          simp; omega
        have hmul2 : ((n : Int) / 2 * 2 != (n : Int)) = false := by
          have := HEV.out
          simp; omega
        go_wp2_with fail
        clear hmul hmul2
        go_loopw [7] (fun i w2 => ∃ j : Nat, j ≤ n / 2 ∧ i = .int .i64 j ∧ Same wr w2) (fun i _ => n / 2 - (intOf i).toNat)
        case atStart => exact ⟨0, by omega, rfl, Same.refl _⟩
        case round =>
          obtain ⟨j, hj, rfl, hsm⟩ := hrel
          have HVr : Hid (Vw wr a l) := HV1.out.same hsm
          have HWr : Hid (Vw wr (some ⟨g, 0, none⟩) (dec l (n / 2))) := HW.out.same hsm
          have HBr : Hid (Below w.heap.size w wr) := HB1.out.trans (hsm.below _)
          have HSM : Hid _ := hsm
          clear hsm
          by_cases hlj : j < n / 2
          · obtain ⟨b1, o1, rfl, hc1⟩ := HVr.out (2 * j) (by omega)
            obtain ⟨b2, o2, e2, hc2⟩ := HVr.out (2 * j + 1) (by omega)
            simp only [Option.some.injEq, Addr.mk.injEq] at e2
            obtain ⟨rfl, rfl, _⟩ := e2
            obtain ⟨b3, o3, e3, hc3⟩ := HWr.out j (by rw [dec_length]; exact hlj)
            simp only [Option.some.injEq, Addr.mk.injEq] at e3
            obtain ⟨rfl, rfl, _⟩ := e3
            rw [nth_dec l _ j hlj] at hc3
            rw [Nat.zero_add] at hc3
            have hok := ((decOk_iff l).1 HN.out).2
            have hi1 := iV_yes _ (hok (2 * j) (by omega))
            have hi2 := iV_yes _ (hok (2 * j + 1) (by omega))
            clear hok
            have hv1 := hexVal_bd (nth l (2 * j))
            have hv2 := hexVal_bd (nth l (2 * j + 1))
            have hl1 : (2 : Int) * (j : Int) < (n : Int) := by omega
            have hl2 : (2 : Int) * (j : Int) + 1 < (n : Int) := by omega
            have hl3 : (j : Int) < (n : Int) / 2 := by omega
            have hl4 : j < n / 2 := hlj
            have ht : (hexVal (nth l (2 * j)) * 16 + hexVal (nth l (2 * j + 1)) != 16 * hexVal (nth l (2 * j)) + hexVal (nth l (2 * j + 1))) = false := by simp; omega
            have hm1 : wrap64 (16 * hexVal (nth l (2 * j))) = 16 * hexVal (nth l (2 * j)) := IntWalk.wrap64_in _ ⟨by omega, by omega⟩
            have hm2 : wrap64 (16 * hexVal (nth l (2 * j)) + hexVal (nth l (2 * j + 1))) = 16 * hexVal (nth l (2 * j)) + hexVal (nth l (2 * j + 1)) := IntWalk.wrap64_in _ ⟨by omega, by omega⟩
            have hm3 : wrap64 (hexVal (nth l (2 * j)) * 16 + hexVal (nth l (2 * j + 1))) = hexVal (nth l (2 * j)) * 16 + hexVal (nth l (2 * j + 1)) := IntWalk.wrap64_in _ ⟨by omega, by omega⟩
            go_wp2
            go_quiet ((go_at_call 16; exact Calls.quiet_of_same (eval_any _ _)))
            go_wp2
            go_roundw
            case rel => exact ⟨j + 1, by omega, by go_num, HSM.out.drewN _⟩
            case measure => simp [intOf]; omega
          · go_wp2_with fail
            go_ret
            exact ⟨rfl, HBr.out⟩
end Go.Proofs.Ymbrcs
