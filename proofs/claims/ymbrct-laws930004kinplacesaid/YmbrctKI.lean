import Derived.Test.YmbrctKE
import Derived.LaidEql
namespace Go.Proofs.Ymbrct
open Go.RowKit

/-- '&r[0] != &buf[0]' where the two are one address. -/
theorem neqSelf (x : Addr) (w : World) : (binOp .neq 32 (.pointer (some x)) (.pointer (some x))).run Yctm.prog w = .ok (.bool false) w := by
  obtain ⟨i, hi, h1, h2, h3⟩ := info_parts info5
  have hu : Yctm.prog.underlying 32 = some (.pointer 5) := Yctm.underlying32
  have he : ∀ d : Nat, (Op.equalIn (d + 1) 32 (.pointer (some x)) (.pointer (some x))).run Yctm.prog w = .ok true w := fun d => by
    simp [Op.equalIn, run_underlying hu, sizeOf, typeInfo, hi, run_sameAddr_same]
  simp only [binOp]
  simp [Op.equal, Op.maxDepth, he 9999]

/-- A row of T noughts whose first k are filled. -/
def filled (T : Nat) (f : Int) (k : Nat) : List Int := List.replicate k f ++ List.replicate (T - k) 0
theorem filled_length (T : Nat) (f : Int) (k : Nat) (h : k ≤ T) : (filled T f k).length = T := by simp [filled]; omega
theorem filled_zero (T : Nat) (f : Int) : filled T f 0 = List.replicate T 0 := by simp [filled]
theorem filled_all (T : Nat) (f : Int) : filled T f T = List.replicate T f := by simp [filled]
theorem filled_step (T : Nat) (f : Int) (k : Nat) (h : k < T) : (filled T f k).set k f = filled T f (k + 1) := by
  unfold filled
  have e : List.replicate (T - k) (0 : Int) = 0 :: List.replicate (T - (k + 1)) 0 := by
    rw [show T - k = (T - (k + 1)) + 1 by omega, List.replicate_succ]
  rw [e, List.set_append_right (h := by simp), List.length_replicate, Nat.sub_self, List.set_cons_zero, List.replicate_succ' (n := k), List.append_assoc]
  rfl
theorem nth_replicate (T : Nat) (f : Int) (i : Nat) (h : i < T) : nth (List.replicate T f) i = f := by rw [nth_eq (by simpa using h)]; simp

set_option maxRecDepth 20000 in
set_option maxHeartbeats 1600000 in
theorem kinplace_walk (a b : Option Addr) (D S : List Int) (n m c d : Nat) (z f : Int) (w : World) (hD : Vw w a D) (hn : D.length = n)
    (hS : Vw w b S) (hbS : Bts S) (hm : S.length = m) (hz0 : 0 ≤ z) (_hz1 : z < 256) :
    Calls Yctm.prog 6 #[.slice a n c, .slice b m d, .int .u8 z, .int .u8 f] w fun e w' => e = .returned (.bool true) ∧ Below w.heap.size w w' := by
  have HD : Hid (Vw w a D) := hD
  have HS : Hid (Vw w b S) := hS
  clear hD hS
  by_cases hbig1 : 1024 < n
  · go_enter Yctm.func6, Yctm.ntmps6
    go_wp2_with fail
    go_ret
    exact ⟨rfl, Below.refl _ _⟩
  by_cases hbig2 : 1024 < m
  · go_enter Yctm.func6, Yctm.ntmps6
    go_wp2_with fail
    go_ret
    exact ⟨rfl, Below.refl _ _⟩
  obtain ⟨s, rfl⟩ := Int.eq_ofNat_of_zero_le hz0
  obtain ⟨T, hT⟩ : ∃ T : Nat, n + 2 * m + s = T := ⟨_, rfl⟩
  have hTi : (n : Int) + 2 * (m : Int) + (s : Int) = (T : Int) := by omega
  have HT : Hid (n + 2 * m + s = T) := hT
  have hTb : T ≤ 4000 := by omega
  have hTe : n + 2 * m ≤ T := by omega
  clear hT
  have hmk : ∀ w0 : World, (Instr.makeSlice 27 (.int .i64 ((n : Int) + 2 * (m : Int) + (s : Int))) (.int .i64 ((n : Int) + 2 * (m : Int) + (s : Int)))).run Yctm.prog w0 = .ok (.slice (some ⟨w0.heap.size, 0, none⟩) T T) (w0.alloc (.cells (zrs T) 5)) := by
    intro w0; rw [hTi]; exact run_make_bytes bprog .i64 .i64 T (by omega) w0
  clear hTi
  go_enter Yctm.func6, Yctm.ntmps6
  go_wp2_with fail
  have HO0 : Hid (OwnB (w.alloc (.cells (zrs T) 5)) w.heap.size (filled T f 0)) := by unfold Hid; rw [filled_zero]; exact OwnB.zrs w T
  have HB0 : Hid (Below w.heap.size w (w.alloc (.cells (zrs T) 5))) := (Below.refl _ _).alloc (Nat.le_refl _) _
  clear hmk
  go_loopw [12] (fun i wr => ∃ k : Nat, k ≤ T ∧ i = .int .i64 k ∧ OwnB wr w.heap.size (filled T f k) ∧ Below w.heap.size w wr) (fun i _ => T - (intOf i).toNat)
  case atStart => exact ⟨0, by omega, rfl, HO0.out, HB0.out⟩
  case round =>
    obtain ⟨k, hk, rfl, ho, hbel⟩ := hrel
    have HO : Hid (OwnB wr w.heap.size (filled T f k)) := ho
    have HB : Hid (Below w.heap.size w wr) := hbel
    clear ho hbel HO0 HB0
    by_cases hlt : k < T
    · have hc := HO.out.cell (i := k) (by rw [filled_length T f k hk]; exact hlt)
      have hf := HO.out.free k
      go_wp2_with fail
      have HO2 : Hid (OwnB (wr.setCell ⟨w.heap.size, k, none⟩ (.int .u8 f)) w.heap.size (filled T f (k + 1))) := by
        unfold Hid; rw [← filled_step T f k hlt]; exact HO.out.set k f
      have HB2 : Hid (Below w.heap.size w (wr.setCell ⟨w.heap.size, k, none⟩ (.int .u8 f))) := HB.out.setCell (Nat.le_refl _) _
      clear hc hf
      go_roundw
      case rel => exact ⟨k + 1, by omega, by go_num, HO2.out, HB2.out⟩
      case measure => simp [intOf]; omega
    · obtain rfl : k = T := by omega
      have ho := HO.out
      rw [filled_all] at ho
      have HO1 : Hid (OwnB wr w.heap.size (List.replicate k f)) := ho
      have HDr : Hid (Vw wr a D) := HD.out.below HB.out (Nat.le_refl _)
      clear ho HO
      go_wp2_with (refine wpList_copy_bytes rfl (.tmp 45) (.tmp 46) rfl bprog w.heap.size k k rfl (List.replicate k f) HO1.out a n c rfl D hn HDr.out (by omega) (by simp) ?_)
      intro w2 ho2 hbel2
      have e2 : splice (List.replicate k f) 0 D = D ++ List.replicate (k - n) f := by unfold splice; simp [hn]
      rw [e2] at ho2
      have HO2 : Hid (OwnB w2 w.heap.size (D ++ List.replicate (k - n) f)) := ho2
      have HB2 : Hid (Below w.heap.size w w2) := HB.out.trans hbel2
      have hcl : (D ++ List.replicate (k - n) f).length = k := by simp [hn]; omega
      have HOrg : Hid (Org w2 (some ⟨w.heap.size, 0, none⟩) w.heap.size 0 n k (D ++ List.replicate (k - n) f)) := ⟨by omega, by unfold maxLen; omega, fun _ => ⟨rfl, HO2.out, by omega⟩⟩
      have HNE : Hid (∀ b' off, b = some ⟨b', off, none⟩ → 0 < m → 0 < k → b' ≠ w.heap.size) := fun b' off e h1 _ => vw_ne HS.out (by omega) b' off e
      clear ho2 hbel2 e2 hcl HO1
      go_wp2_with fail
      refine (appendHex_any HOrg.out (App.start HOrg.out) b S m d (HS.out.below HB2.out (Nat.le_refl _)) HNE.out hbS hm (by simp; omega)).mono ?_
      rintro e w3 ⟨v3, rfl, happ⟩
      have hhl : (hexL S).length = 2 * m := by rw [hexL_length, hm]
      have HB3 : Hid (Below w.heap.size w w3) := HB2.out.trans (happ.belowOf HB2.out.size (fun _ => Nat.le_refl _))
      have hip := happ.inplace HO2.out (by simp [hhl]; omega)
      simp only [List.nil_append, hhl, Nat.zero_add] at hip
      obtain ⟨hv3, ho3⟩ := hip
      have e3 : splice (D ++ List.replicate (k - n) f) n (hexL S) = D ++ hexL S ++ List.replicate s f := by
        unfold splice
        rw [hhl, ← hn, List.take_left, List.append_assoc, List.append_assoc, ← List.drop_drop, List.drop_left]
        have : List.drop (2 * m) (List.replicate (k - D.length) f) = List.replicate s f := by
          rw [List.drop_replicate]; congr 1; have := HT.out; omega
        rw [this]
      rw [e3] at ho3
      subst hv3
      have HO3 : Hid (OwnB w3 w.heap.size (D ++ hexL S ++ List.replicate s f)) := ho3
      have hRl : (D ++ hexL S ++ List.replicate s f).length = k := by
        simp only [List.length_append, hhl, hn, List.length_replicate]; exact HT.out
      have HRL : Hid ((D ++ hexL S ++ List.replicate s f).length = k) := hRl
      have HV3 : Hid (Vw w3 (some ⟨w.heap.size, 0, none⟩) (D ++ hexL S ++ List.replicate s f)) := by
        unfold Hid
        have := ho3.vw (off := 0) (n := k) (by omega)
        rwa [List.drop_zero, List.take_of_length_le (by omega)] at this
      clear happ ho3 e3 hRl hhl HOrg HNE HO2
      have hlen : ((n : Int) + 2 * (m : Int) != (n : Int) + 2 * (m : Int)) = false := by simp
      have HDv : Hid (∀ q, Vw (w3.drewN q) a D) := fun q => (HD.out.below HB3.out (Nat.le_refl _)).same ((Same.refl _).drewN q)
      have HSv : Hid (∀ q, Vw (w3.drewN q) b S) := fun q => (HS.out.below HB3.out (Nat.le_refl _)).same ((Same.refl _).drewN q)
      have HRv : Hid (∀ q, Vw (w3.drewN q) (some ⟨w.heap.size, 0, none⟩) (D ++ hexL S ++ List.replicate s f)) := fun q => HV3.out.same ((Same.refl _).drewN q)
      by_cases hpos : 0 < n + 2 * m
      have hp1 : (0 : Int) < (n : Int) + 2 * (m : Int) := by omega
      have hp2 : 0 < k := by omega
      have hns := neqSelf ⟨w.heap.size, 0, none⟩
      go_wp2_with fail
      go_quiet (fail)
      clear hns
      go_wp2_with fail
      rotate_left
      have hp1 : decide ((0 : Int) < (n : Int) + 2 * (m : Int)) = false := by simp; omega
      go_wp2_with fail
      go_quiet (fail)
      go_wp2_with fail
      all_goals
        refine (kholds_yes (some ⟨w.heap.size, 0, none⟩) a b (D ++ hexL S ++ List.replicate s f) D S (List.replicate s f) k n m _ _ _ _ (HRv.out nq) (HDv.out nq) (HSv.out nq) hbS HRL.out hn hm (by omega) (by omega) (by omega) rfl).mono ?_
        rintro e w4 ⟨rfl, hs4⟩
        have HS4 : Hid (Same w3 w4) := ((Same.refl _).drewN nq).trans hs4
        clear hs4
        go_wp2_with fail
        go_loopw [14] (fun i wr => ∃ j : Nat, n + 2 * m ≤ j ∧ j ≤ k ∧ i = .int .i64 j ∧ wr = w4) (fun i _ => k - (intOf i).toNat)
        case atStart => exact ⟨n + 2 * m, Nat.le_refl _, by omega, by go_num, rfl⟩
        case round =>
          obtain ⟨j, hj1, hj2, rfl, rfl⟩ := hrel
          by_cases hlt : j < k
          · have hc := (HO3.out.same HS4.out).cell (i := j) (by rw [HRL.out]; exact hlt)
            have hnj : nth (D ++ hexL S ++ List.replicate s f) j = f := by
              have hhl : (hexL S).length = 2 * m := by rw [hexL_length, hm]
              rw [nth_right (by rw [List.length_append, hhl, hn]; exact hj1), nth_replicate _ _ _ (by rw [List.length_append, hhl, hn]; have := HT.out; omega)]
            rw [hnj] at hc
            clear hnj
            have hff : (f != f) = false := by simp
            go_wp2_with fail
            go_roundw
            case rel => exact ⟨j + 1, by omega, by omega, by go_num, by trivial⟩
            case measure => simp [intOf]; omega
          · go_wp2_with fail
            go_ret
            exact ⟨rfl, HB3.out.trans (HS4.out.below _)⟩
end Go.Proofs.Ymbrct
