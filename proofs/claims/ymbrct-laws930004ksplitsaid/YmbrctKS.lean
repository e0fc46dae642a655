import Derived.Test.YmbrctKE
import Derived.Deep.RegionWith
import Derived.Deep.DeepCutAuto
namespace Go.Proofs.Ymbrct
open Go.RowKit

set_option maxHeartbeats 1600000 in
theorem ksplit_walk (a b : Option Addr) (D S : List Int) (n m c d : Nat) (z : Int) (w : World) (hD : Vw w a D) (hn : D.length = n)
    (hS : Vw w b S) (hbS : Bts S) (hm : S.length = m) (hd : m ≤ d) (_hdm : d ≤ 9223372036854775807) (hz0 : 0 ≤ z) (_hz1 : z < 65536) :
    Calls Yctm.prog 7 #[.slice a n c, .slice b m d, .int .u16 z] w fun e w' => e = .returned (.bool true) ∧ Below w.heap.size w w' := by
  have HD : Hid (Vw w a D) := hD
  have HS : Hid (Vw w b S) := hS
  clear hD hS
  by_cases hbig1 : 1024 < n
  · go_enter Yctm.func7, Yctm.ntmps7
    go_wp2_with fail
    go_ret
    exact ⟨rfl, Below.refl _ _⟩
  by_cases hbig2 : 1024 < m
  · go_enter Yctm.func7, Yctm.ntmps7
    go_wp2_with fail
    go_ret
    exact ⟨rfl, Below.refl _ _⟩
  obtain ⟨k, hk⟩ : ∃ k : Nat, z % ((m : Int) + 1) = k := ⟨(z % ((m : Int) + 1)).toNat, by have := Int.emod_nonneg z (show ((m : Int) + 1) ≠ 0 by omega); omega⟩
  have hkm : k ≤ m := by have := Int.emod_lt_of_pos z (show (0 : Int) < (m : Int) + 1 by omega); omega
  go_enter Yctm.func7, Yctm.ntmps7
  go_wp2_with fail
  refine (kcopy_any a D n c _ HD.out hn (by omega)).mono ?_
  rintro e w1 ⟨a1, rfl, hO, hnil, hB1⟩
  have HO : Hid (Org w1 a1 w.heap.size 0 n n D) := hO
  have HB1 : Hid (Below w.heap.size w w1) := hB1
  clear hO hB1 hnil
  go_wp2_with fail
  have HNE : Hid (∀ b' off, b = some ⟨b', off, none⟩ → 0 < m → 0 < n → b' ≠ w.heap.size) := fun b' off e h1 _ => vw_ne HS.out (by omega) b' off e
  refine (appendHex_any HO.out (App.start HO.out) b S m d (HS.out.below HB1.out (Nat.le_refl _)) HNE.out hbS hm (by simp; omega)).mono ?_
  rintro e w2 ⟨v2, rfl, happ⟩
  have HB2 : Hid (Below w.heap.size w1 w2) := happ.belowOf HB1.out.size (fun _ => Nat.le_refl _)
  have HB12 : Hid (Below w.heap.size w w2) := HB1.out.trans HB2.out
  have hhl : (hexL S).length = 2 * m := by rw [hexL_length, hm]
  have hrd := happ.reads HO.out
  simp only [List.nil_append, List.drop_zero, hhl] at hrd
  obtain ⟨a2, c2, hv2, hlc2, hcm2, hvw2⟩ := hrd
  subst hv2
  have htk : D.take n = D := List.take_of_length_le (by omega)
  rw [htk] at hvw2
  have HW : Hid (Vw w2 a2 (D ++ hexL S)) := hvw2
  have HD2 : Hid (Vw w2 a D) := HD.out.below HB12.out (Nat.le_refl _)
  have HS2 : Hid (Vw w2 b S) := HS.out.below HB12.out (Nat.le_refl _)
  clear happ hvw2 hhl htk hcm2 HNE HO HB1 HB2
  have hkc := kcopy_any a D n c w2.drew (HD2.out.same (Same.refl _).drew) hn (by omega)
  have HNE2 : Hid (∀ b' off, b = some ⟨b', off, none⟩ → 0 < k → 0 < n → b' ≠ w2.heap.size) := fun b' off e h1 _ => vw_ne HS2.out (by omega) b' off e
  have htl : (S.take k).length = k := by simp; omega
  have HTL : Hid ((S.take k).length = k) := htl
  clear htl
  have HR : Hid (Same w2 w2.drew) := (Same.refl _).drew
  go_upto_region 5 with fail
  go_cut [9] (fun v wx => ∃ a3 w3, Org w3 a3 w2.heap.size 0 n n D ∧ Below w2.heap.size w2 w3 ∧ App w3 a3 w2.heap.size 0 n n D wx v (hexL (S.take k)))
  case first =>
    by_cases hm0 : m = 0
    · have hk0 : k = 0 := by omega
      have hS0 : S = [] := List.eq_nil_of_length_eq_zero (by omega)
      subst hS0
      have HK0 : Hid (k = 0) := hk0
      clear hm0 hk0
      go_region_with (first | (go_at_call 14; refine hkc.mono ?_; rintro e w3 ⟨a3, rfl, hO3, hnil3, hB3⟩; have hap := fun ad cc => appendHex_any hO3 (App.start hO3) ad [] k cc (Vw.nil _ _) (fun _ _ _ h => absurd h (by rw [HK0.out]; exact Nat.lt_irrefl _)) Bts.nil HK0.out.symm (by simp; omega); clear hnil3) | (go_at_call 13; refine (hap _ _).mono ?_; rintro e w4 ⟨v4, rfl, happ4⟩))
      all_goals
        go_wp2_with fail
        go_meet
        case rel => exact ⟨_, _, hO3, (HR.out.below _).trans hB3, by simpa using happ4⟩
    · obtain ⟨b1, o1, rfl, _⟩ := HS2.out 0 (by omega)
      go_region_with (first | (go_at_call 14; refine hkc.mono ?_; rintro e w3 ⟨a3, rfl, hO3, hnil3, hB3⟩; have hap := appendHex_any hO3 (App.start hO3) (some ⟨b1, o1, none⟩) (S.take k) k d (((HS2.out.same HR.out).below hB3 (Nat.le_refl _)).take k) HNE2.out (hbS.take k) HTL.out (by simp; omega); clear hnil3) | (go_at_call 13; refine hap.mono ?_; rintro e w4 ⟨v4, rfl, happ4⟩))
      all_goals
        go_wp2_with fail
        go_meet
        case rel => exact ⟨_, _, hO3, (HR.out.below _).trans hB3, by simpa using happ4⟩
  case rest =>
    obtain ⟨a3, w3, hO3, hB3, happ3⟩ := hcut
    have hh1 : (hexL (S.take k)).length = 2 * k := by rw [hexL_length, HTL.out]
    obtain ⟨a9, c9, hv9⟩ := happ3.shape
    rw [hh1] at hv9
    subst hv9
    have HO3 : Hid (Org w3 a3 w2.heap.size 0 n n D) := hO3
    have HB3 : Hid (Below w2.heap.size w2 w3) := hB3
    have HA3 : Hid _ := happ3
    clear hO3 hB3 happ3 hkc
    have hlen1 : ((n : Int) + 2 * (k : Int) != (n : Int) + 2 * (k : Int)) = false := by simp
    have HS3 : Hid (Vw w3 b S) := HS2.out.below HB3.out (Nat.le_refl _)
    have hdl : (S.drop k).length = m - k := by simp; omega
    have HDL : Hid ((S.drop k).length = m - k) := hdl
    clear hdl
    go_upto_region 8 with fail
    go_cut [10] (fun v wx => App w3 a3 w2.heap.size 0 n n D wx v (hexL (S.take k) ++ hexL (S.drop k)))
    case first =>
      by_cases hmk : m = k
      · have HS0 : Hid (S.drop k = []) := List.drop_eq_nil_of_le (by omega)
        have HMK : Hid (m - k = 0) := by unfold Hid; omega
        have HM : Hid (m = k) := hmk
        clear hmk
        by_cases hdk : d = k
        · subst hdk
          go_wp2_with fail
          refine Calls.mono (appendHex_any HO3.out HA3.out _ [] _ _ (Vw.nil _ _) ?qa Bts.nil ?qb ?qc) ?_
          case qa => intro _ _ _ h; have := HM.out; omega
          case qb => have := HM.out; show 0 = _; omega
          case qc => rw [hh1]; omega
          rintro e w4 ⟨v4, rfl, happ4⟩
          go_wp2_with fail
          go_meet
          case rel => rw [HS0.out]; exact happ4
        · go_wp2_with fail
          refine Calls.mono (appendHex_any HO3.out HA3.out _ [] _ _ (Vw.nil _ _) ?qa Bts.nil ?qb ?qc) ?_
          case qa => intro _ _ _ h; have := HM.out; omega
          case qb => have := HM.out; show 0 = _; omega
          case qc => rw [hh1]; omega
          rintro e w4 ⟨v4, rfl, happ4⟩
          go_wp2_with fail
          go_meet
          case rel => rw [HS0.out]; exact happ4
      · obtain ⟨b1, o1, rfl, _⟩ := HS2.out 0 (by omega)
        have hdk : ¬ d = k := by omega
        have HV5 : Hid (Vw w3 (some ⟨b1, o1 + k, none⟩) (S.drop k)) := by
          unfold Hid
          have := HS3.out.sub k (m - k) (by omega)
          rwa [List.take_of_length_le (by simp; omega)] at this
        have HNE3 : Hid (∀ b' off, some (⟨b1, o1 + k, none⟩ : Addr) = some ⟨b', off, none⟩ → 0 < m - k → 0 < n → b' ≠ w2.heap.size) := fun b' off e _ _ => by
          simp only [Option.some.injEq, Addr.mk.injEq] at e
          have := HS2.out.lt (by omega)
          omega
        go_wp2_with (go_at_call 13; go_must (refine (appendHex_any HO3.out HA3.out _ (S.drop k) (m - k) (d - k) HV5.out HNE3.out (hbS.drop k) HDL.out (by rw [hh1]; omega)).mono ?_; rintro e w4 ⟨v4, rfl, happ4⟩))
        go_meet
        case rel => exact happ4
    case rest =>
      have hhx : hexL (S.take k) ++ hexL (S.drop k) = hexL S := by rw [← hexL_append, List.take_append_drop]
      rw [hhx] at hcut
      have hhl : (hexL S).length = 2 * m := by rw [hexL_length, hm]
      have hrd := hcut.reads HO3.out
      simp only [List.drop_zero, hhl] at hrd
      obtain ⟨a5, c5, hv5, hlc5, hcm5, hvw5⟩ := hrd
      have HBc : Hid (Below w2.heap.size w2 wc) := HB3.out.trans (hcut.belowOf HB3.out.size (fun _ => Nat.le_refl _))
      subst hv5
      rw [show D.take n = D from List.take_of_length_le (by omega)] at hvw5
      have HW5 : Hid (Vw wc a5 (D ++ hexL S)) := hvw5
      have HWc : Hid (Vw wc a2 (D ++ hexL S)) := HW.out.below HBc.out (Nat.le_refl _)
      have HBF : Hid (Below w.heap.size w wc) := HB12.out.trans (HBc.out.mono HB12.out.size)
      have HLL : Hid ((D ++ hexL S).length = n + 2 * m) := by unfold Hid; rw [List.length_append, hhl, hn]
      clear hcut hvw5 hhl hhx hh1 HA3 HO3 HW HNE2
      have hlen2 : ((n : Int) + 2 * (m : Int) != (n : Int) + 2 * (m : Int)) = false := by simp
      go_wp2_with fail
      go_loopw [11] (fun i wr => ∃ j : Nat, j ≤ n + 2 * m ∧ i = .int .i64 j ∧ Same wc wr) (fun i _ => n + 2 * m - (intOf i).toNat)
      case atStart => exact ⟨0, by omega, rfl, Same.refl _⟩
      case round =>
        obtain ⟨j, hj, rfl, hsm⟩ := hrel
        have HSM : Hid (Same wc wr) := hsm
        clear hsm
        by_cases hlt : j < n + 2 * m
        · obtain ⟨b1, o1, rfl, hc1⟩ := (HWc.out.same HSM.out) j (by have := HLL.out; omega)
          obtain ⟨b2, o2, rfl, hc2⟩ := (HW5.out.same HSM.out) j (by have := HLL.out; omega)
          have hlt' : (j : Int) < (n : Int) + 2 * (m : Int) := by omega
          go_wp2
          go_quiet (fail)
          go_wp2
          go_roundw
          case rel => exact ⟨j + 1, by omega, by go_num, HSM.out.drewN _⟩
          case measure => simp [intOf]; omega
        · go_wp2_with fail
          go_ret
          exact ⟨rfl, HBF.out.trans (HSM.out.below _)⟩
end Go.Proofs.Ymbrct
