import Derived.Test.YmbrctLP
import Derived.Test.YmbrctLPl
namespace Go.Proofs.Ymbrct
open Go.RowKit

theorem eqlNil (w : World) (a : Option Addr) (n c : Nat) : (binOp .eql 27 (.slice a n c) (.slice none 0 0)).run Yctm.prog w = .ok (.bool a.isNone) w := Lib.run_eql_slice_nil w 27 5 a n c 0 0 Yctm.underlying27

set_option maxRecDepth 20000 in
set_option maxHeartbeats 1600000 in
theorem lround_walk (x : Int) (near : Bool) (a : Option Addr) (l : List Int) (N c : Nat) (w : World) (h0 : 0 ≤ x) (h1 : x < 4294967296) (hv : Vw w a l) (hb : Bts l) (hn : l.length = N) (hc : N ≤ c) (hcm : c ≤ 9223372036854775807) :
    Calls Yctm.prog 8 #[.int .u32 x, .bool near, .slice a N c] w fun e w' => e = .returned (.bool true) ∧ Below w.heap.size w w' := by
  have hq := eqlNil
  obtain ⟨n, hn18⟩ : ∃ n : Nat, N % 18 = n := ⟨_, rfl⟩
  have hni : (N : Int) % 18 = (n : Int) := by omega
  have hnN : n ≤ N := by omega
  have hn17 : n ≤ 17 := by omega
  have HV : Hid (Vw w a (l.take n)) := hv.take n
  have HBt : Hid (Bts (l.take n)) := hb.take n
  have HTL : Hid ((l.take n).length = n) := by unfold Hid; simp; omega
  clear hv hn18
  generalize hrow : l.take n = row at *
  clear hrow hb
  go_enter Yctm.func8, Yctm.ntmps8
  go_wp2_with fail
  refine (lbase_any x near n _ h0 h1 (by omega)).mono ?_
  rintro e w' ⟨b, hb0, hb1, rfl, rfl⟩
  go_wp2_with fail
  refine (lprint_any b a row n _ _ hb0 hb1 HV.out HBt.out HTL.out (by omega)).mono ?_
  rintro e w1 ⟨v1, rfl, hres⟩
  have HB1 : Hid (Below w'.heap.size w' w1) := hres.below
  obtain ⟨g, c1, hv1, hg, hlc, hcm1, hvw⟩ := hres.reads
  have hll : (lineL b row).length = 10 + 3 * n := by rw [lineL_length, HTL.out]
  rw [hll] at hv1 hlc
  subst hv1
  have HW : Hid (Vw w1 (some ⟨g, 0, none⟩) (lineL b row)) := hvw
  have HLL : Hid ((lineL b row).length = 10 + 3 * n) := hll
  clear hvw hres hg hll
  go_wp2_with fail
  refine (parseLine_any _ (lineL b row) (10 + 3 * n) c1 _ HW.out (lineL_bts b row HBt.out) HLL.out hlc hcm1 (by omega)).mono ?_
  have hmm : (10 + 3 * n - 10) / 3 = n := by omega
  rw [hmm]
  have hiff := lineL_iff b row HBt.out hb0 hb1
  rw [HTL.out] at hiff
  rintro e w2 (⟨hno, rfl, hB2⟩ | ⟨hyes, v2, rfl, hres2⟩)
  · rw [hiff] at hno
    have HB2 : Hid (Below w1.heap.size w1 w2) := hB2
    clear hB2 hiff hmm
    by_cases hz : n = 0
    · have hz' : ((n : Int) == 0) = true := by simp; omega
      clear hz hno
      go_wp2_with fail
      go_ret
      exact ⟨rfl, HB1.out.trans (HB2.out.mono HB1.out.size)⟩
    · have hz' : ((n : Int) == 0) = false := by simp; omega
      by_cases hg16 : 16 < n
      · clear hz hno
        go_wp2_with fail
        go_ret
        exact ⟨rfl, HB1.out.trans (HB2.out.mono HB1.out.size)⟩
      · have hgt : 4294967296 < b + n := by omega
        clear hz hno
        go_wp2_with fail
        go_ret
        exact ⟨rfl, HB1.out.trans (HB2.out.mono HB1.out.size)⟩
  · obtain ⟨k1, k2, k3⟩ := hiff.1 hyes
    have hz' : ((n : Int) == 0) = false := by simp; omega
    rw [offV_lineL b row hb0 hb1]
    have hrl := rowL_lineL b row HBt.out
    rw [HTL.out] at hrl
    rw [hrl] at hres2
    have HB2 : Hid (Below w1.heap.size w1 w2) := hres2.below
    obtain ⟨g2, c2, hv2, hg2, hlc2, hcm2, hvw2⟩ := hres2.reads
    rw [HTL.out] at hv2
    subst hv2
    have HW2 : Hid (Vw w2 (some ⟨g2, 0, none⟩) row) := hvw2
    have HV2 : Hid (Vw w2 a row) := (HV.out.below HB1.out (Nat.le_refl _)).below HB2.out (Nat.le_refl _)
    have hbb : (b != b) = false := by simp
    have hnn : ((n : Int) != (n : Int)) = false := by simp
    clear hvw2 hres2 hg2 hyes hiff hrl hmm
    go_wp2_with fail
    go_loopw [13] (fun i wr => ∃ j : Nat, j ≤ n ∧ i = .int .i64 j ∧ Same w2 wr) (fun i _ => n - (intOf i).toNat)
    case atStart => exact ⟨0, by omega, rfl, Same.refl _⟩
    case round =>
      obtain ⟨j, hj, rfl, hsm⟩ := hrel
      have HSM : Hid (Same w2 wr) := hsm
      clear hsm
      by_cases hlt : j < n
      · obtain ⟨b1, o1, rfl, hc1⟩ := (HV2.out.same HSM.out) j (by rw [HTL.out]; exact hlt)
        obtain ⟨b2, o2, e2, hc2⟩ := (HW2.out.same HSM.out) j (by rw [HTL.out]; exact hlt)
        simp only [Option.some.injEq, Addr.mk.injEq] at e2
        obtain ⟨rfl, rfl, _⟩ := e2
        rw [Nat.zero_add] at hc2
        have hjN : j < N := by omega
        have hne : (nth row j != nth row j) = false := by simp
        go_wp2
        go_quiet (fail)
        go_wp2
        go_roundw
        case rel => exact ⟨j + 1, by omega, by go_num, HSM.out.drewN _⟩
        case measure => simp [intOf]; omega
      · go_wp2_with fail
        go_ret
        exact ⟨rfl, HB1.out.trans ((HB2.out.mono HB1.out.size).trans (HSM.out.below _))⟩
end Go.Proofs.Ymbrct
