import Derived.Test.YmbrcsFE
namespace Go.Proofs.Ymbrcs
open Go.RowKit

/-- The row's byte i. -/
def rv (seed step : Int) (i : Nat) : Int := (seed + (i : Int) * step) % 256
def rvL (seed step : Int) (n : Nat) : List Int := (List.range n).map (rv seed step)
theorem rvL_length (seed step : Int) (n : Nat) : (rvL seed step n).length = n := by simp [rvL]
theorem nth_rvL (seed step : Int) (n i : Nat) (h : i < n) : nth (rvL seed step n) i = rv seed step i := by
  rw [nth_eq (by rw [rvL_length]; exact h)]; simp [rvL]
theorem rvL_bts (seed step : Int) (n : Nat) : Bts (rvL seed step n) := fun i => by
  by_cases h : i < n
  · rw [nth_rvL _ _ _ _ h]; unfold rv; omega
  · rw [nth_ge (by rw [rvL_length]; omega)]; omega
theorem nth_repl (n : Nat) (f : Int) (i : Nat) (h : i < n) : nth (List.replicate n f) i = f := by
  rw [nth_eq (by simpa using h)]; simp

set_option maxRecDepth 20000 in
set_option maxHeartbeats 3200000 in
theorem finplace_walk (count start off : Int) (high : Bool) (seed step fill : Int) (w : World) (c0 : 0 ≤ count) (c1 : count < 256) (s0 : 0 ≤ start) (s1 : start < 256) (x0 : 0 ≤ off) (x1 : off < 4294967296) :
    Calls Ycsm.prog 7 #[.int .u8 count, .int .u8 start, .int .u32 off, .bool high, .int .u8 seed, .int .u8 step, .int .u8 fill] w fun e w' => e = .returned (.bool true) ∧ Below w.heap.size w w' := by
  obtain ⟨n, hn⟩ : ∃ n : Nat, (count + 16) % 19 = n := ⟨((count + 16) % 19).toNat, by omega⟩
  obtain ⟨k, hk⟩ : ∃ k : Nat, start % 65 = k := ⟨(start % 65).toNat, by omega⟩
  have hn19 : n < 19 := by omega
  have hk65 : k < 65 := by omega
  have hmk := run_make_bytes bprog .i64 .i64 n (by omega)
  have hmk2 : ∀ w0 : World, (Instr.makeSlice 22 (.int .i64 128) (.int .i64 128)).run Ycsm.prog w0 = .ok (.slice (some ⟨w0.heap.size, 0, none⟩) 128 128) (w0.alloc (.cells (zrs 128) 5)) := fun w0 => run_make_bytes bprog .i64 .i64 128 (by decide) w0
  go_enter Ycsm.func7, Ycsm.ntmps7
  go_upto_if 35 with fail
  simp only [hn, hk]
  go_cut [2] (fun v wx => wx = w ∧ ∃ x : Int, v = .int .u32 x ∧ 0 ≤ x ∧ x < 4294967296)
  case first =>
    cases high
    · go_wp2_with fail
      go_meet
      case rel => exact ⟨rfl, _, rfl, by omega, by omega⟩
    · go_wp2_with fail
      go_meet
      case rel => exact ⟨rfl, _, rfl, by omega, by omega⟩
  case rest =>
    obtain ⟨rfl, x, rfl, h0, h1⟩ := hcut
    have HO0 : Hid (OwnB (wc.alloc (.cells (zrs n) 5)) wc.heap.size (part (rvL seed step n) 0)) := by unfold Hid; rw [part_zero, rvL_length]; exact OwnB.zrs wc n
    have HB0 : Hid (Below wc.heap.size wc (wc.alloc (.cells (zrs n) 5))) := (Below.refl _ _).alloc (Nat.le_refl _) _
    go_wp2_with fail
    clear hmk
    go_loopw [18] (fun i wr => ∃ j : Nat, j ≤ n ∧ i = .int .i64 j ∧ OwnB wr wc.heap.size (part (rvL seed step n) j) ∧ Below wc.heap.size wc wr) (fun i _ => n - (intOf i).toNat)
    case atStart => exact ⟨0, by omega, rfl, HO0.out, HB0.out⟩
    case round =>
      obtain ⟨j, hj, rfl, ho, hbel⟩ := hrel
      have HO : Hid (OwnB wr wc.heap.size (part (rvL seed step n) j)) := ho
      have HB : Hid (Below wc.heap.size wc wr) := hbel
      clear ho hbel HO0 HB0
      by_cases hlt : j < n
      · have hc := HO.out.cell (i := j) (by rw [part_length _ _ (by rw [rvL_length]; exact hj), rvL_length]; exact hlt)
        have hf := HO.out.free j
        go_wp2_with fail
        have HO2 : Hid (OwnB (wr.setCell ⟨wc.heap.size, j, none⟩ (.int .u8 ((seed + (j : Int) * step) % 256))) wc.heap.size (part (rvL seed step n) (j + 1))) := by
          unfold Hid; rw [← part_step _ j (by rw [rvL_length]; exact hlt), nth_rvL _ _ _ _ hlt]; exact HO.out.set j _
        have HB2 : Hid (Below wc.heap.size wc (wr.setCell ⟨wc.heap.size, j, none⟩ (.int .u8 ((seed + (j : Int) * step) % 256)))) := HB.out.setCell (Nat.le_refl _) _
        clear hc hf
        go_roundw
        case rel => exact ⟨j + 1, by omega, by go_num, HO2.out, HB2.out⟩
        case measure => simp [intOf]; omega
      · obtain rfl : j = n := by omega
        generalize wr = wu at *
        have hjj : decide ((j : Int) < (j : Int)) = false := by simp
        have ho := HO.out
        have hpa := part_all (rvL seed step j)
        rw [rvL_length] at hpa
        rw [hpa] at ho
        have HRO : Hid (OwnB wu wc.heap.size (rvL seed step j)) := ho
        have HF0 : Hid (OwnB (wu.alloc (.cells (zrs 128) 5)) wu.heap.size (part (List.replicate 128 fill) 0)) := by unfold Hid; rw [part_zero, List.length_replicate]; exact OwnB.zrs wu 128
        have HG0 : Hid (Below wu.heap.size wu (wu.alloc (.cells (zrs 128) 5))) := (Below.refl _ _).alloc (Nat.le_refl _) _
        clear ho hpa HO
        go_wp2_with fail
        clear hmk2
        go_loopw [20] (fun i wr => ∃ p : Nat, p ≤ 128 ∧ i = .int .i64 p ∧ OwnB wr wu.heap.size (part (List.replicate 128 fill) p) ∧ Below wu.heap.size wu wr) (fun i _ => 128 - (intOf i).toNat)
        case atStart => exact ⟨0, by omega, rfl, HF0.out, HG0.out⟩
        case round =>
          obtain ⟨p, hp, rfl, ho, hbel⟩ := hrel
          have HO : Hid (OwnB wr wu.heap.size (part (List.replicate 128 fill) p)) := ho
          have HG : Hid (Below wu.heap.size wu wr) := hbel
          clear ho hbel HF0 HG0
          by_cases hlt : p < 128
          · have hc := HO.out.cell (i := p) (by rw [part_length _ _ (by rw [List.length_replicate]; exact hp), List.length_replicate]; exact hlt)
            have hf := HO.out.free p
            go_wp2_with fail
            have HO2 : Hid (OwnB (wr.setCell ⟨wu.heap.size, p, none⟩ (.int .u8 fill)) wu.heap.size (part (List.replicate 128 fill) (p + 1))) := by
              unfold Hid; rw [← part_step _ p (by rw [List.length_replicate]; exact hlt), nth_repl 128 fill p hlt]; exact HO.out.set p _
            have HG2 : Hid (Below wu.heap.size wu (wr.setCell ⟨wu.heap.size, p, none⟩ (.int .u8 fill))) := HG.out.setCell (Nat.le_refl _) _
            clear hc hf
            go_roundw
            case rel => exact ⟨p + 1, by omega, by go_num, HO2.out, HG2.out⟩
            case measure => simp [intOf]; omega
          · obtain rfl : p = 128 := by omega
            have ho := HO.out
            have hpa := part_all (List.replicate 128 fill)
            rw [List.length_replicate] at hpa
            rw [hpa] at ho
            have HFO : Hid (OwnB wr wu.heap.size (List.replicate 128 fill)) := ho
            have hg12 : wc.heap.size < wu.heap.size := HRO.out.lt
            have HRQ : Hid (OwnB wr wc.heap.size (rvL seed step j)) := HRO.out.below HG.out hg12
            have HOrg : Hid (Org wr (some ⟨wu.heap.size, 0, none⟩) wu.heap.size 0 k 128 (List.replicate 128 fill)) := ⟨by omega, by unfold maxLen; omega, fun _ => ⟨rfl, ho, by simp⟩⟩
            have HBQ : Hid (Below wc.heap.size wc wr) := HB.out.trans (HG.out.mono (by omega))
            have hvr := HRQ.out.vw (off := 0) (n := j) (by rw [rvL_length]; omega)
            rw [List.drop_zero, List.take_of_length_le (by rw [rvL_length]; exact Nat.le_refl _)] at hvr
            have HVR : Hid (Vw wr (some ⟨wc.heap.size, 0, none⟩) (rvL seed step j)) := hvr
            have HRB : Hid (Bts (rvL seed step j)) := rvL_bts _ _ _
            have HRL : Hid ((rvL seed step j).length = j) := rvL_length _ _ _
            clear ho hpa HO hvr
            go_wp2_with fail
            cases hg : goodB x j
            · refine (appendLine_no (.slice (some ⟨wu.heap.size, 0, none⟩) k 128) x _ j j _ h0 h1 (by omega) (goodB_no hg)).mono ?_
              rintro e w' ⟨rfl, rfl⟩
              go_wp2_with fail
              refine (fgood_any x j _ h0 h1 (by omega)).mono ?_
              rw [hg]
              rintro e w' ⟨rfl, rfl⟩
              have hlen : ((k : Int) != (k : Int)) = false := by simp
              have hlen2 : ((k : Int) != (k : Int) + 0) = false := by simp
              have HNB : Hid (∀ i, i < 128 → nth (List.replicate 128 fill) i = fill) := fun i hi => nth_repl 128 fill i hi
              have HBO : Hid (OwnB w' wu.heap.size (List.replicate 128 fill)) := HFO.out
              have HBl : Hid ((List.replicate 128 fill).length = 128) := by unfold Hid; simp
              clear hg HFO
              go_wp2_with fail
              go_loop [25] (fun i => ∃ p : Nat, p ≤ j ∧ i = .int .i64 p) (fun i => j - (intOf i).toNat)
              case atStart => exact ⟨0, by omega, rfl⟩
              case round =>
                obtain ⟨p, hp, rfl⟩ := hrel
                by_cases hlt : p < j
                · have hc := HRQ.out.cell (i := p) (by rw [rvL_length]; exact hlt)
                  rw [nth_rvL _ _ _ _ hlt] at hc
                  unfold rv at hc
                  have hne : ((seed + (p : Int) * step) % 256 != (seed + (p : Int) * step) % 256) = false := by simp
                  go_wp2_with fail
                  go_round
                  case rel => exact ⟨p + 1, by omega, by go_num⟩
                  case measure => simp [intOf]; omega
                · go_wp2_with fail
                  go_loop [26] (fun i => ∃ q : Nat, q ≤ 128 ∧ i = .int .i64 q) (fun i => 128 - (intOf i).toNat)
                  case atStart => exact ⟨0, by omega, rfl⟩
                  case round =>
                    obtain ⟨q, hq, rfl⟩ := hrel
                    by_cases hlt : q < 128
                    · have hc := HBO.out.cell (i := q) (by rw [HBl.out]; exact hlt)
                      rw [HNB.out q hlt] at hc
                      have hne : (fill != fill) = false := by simp
                      by_cases hqk : q < k
                      · go_wp2_with fail
                        go_round
                        case rel => exact ⟨q + 1, by omega, by go_num⟩
                        case measure => simp [intOf]; omega
                      · go_wp2_with fail
                        go_round
                        case rel => exact ⟨q + 1, by omega, by go_num⟩
                        case measure => simp [intOf]; omega
                    · go_wp2_with fail
                      go_ret
                      exact ⟨rfl, HBQ.out⟩
            · obtain ⟨hm1, hm16, hf⟩ := goodB_yes hg
              have HLL : Hid ((lineL x (rvL seed step j)).length = 10 + 3 * j) := by unfold Hid; rw [lineL_length, rvL_length]
              refine (appendLine_yes HOrg.out (App.start HOrg.out) x h0 h1 (some ⟨wc.heap.size, 0, none⟩) (rvL seed step j) j j HVR.out (fun b' off e _ => by simp only [Option.some.injEq, Addr.mk.injEq] at e; omega) HRB.out HRL.out (Nat.le_refl _) (by omega) hm1 hm16 hf (by simp; omega)).mono ?_
              rintro e w2 ⟨v2, rfl, happ⟩
              rw [List.nil_append] at happ
              obtain ⟨hv2, ho2⟩ := happ.inplace HFO.out (by rw [HLL.out]; omega)
              rw [HLL.out] at hv2
              rw [Nat.zero_add] at ho2
              subst hv2
              have hfit : k + (lineL x (rvL seed step j)).length ≤ (List.replicate 128 fill).length := by rw [HLL.out, List.length_replicate]; omega
              have HBl : Hid ((splice (List.replicate 128 fill) k (lineL x (rvL seed step j))).length = 128) := by unfold Hid; rw [splice_length hfit, List.length_replicate]
              have HN1 : Hid (∀ i, i < 128 → i < k → nth (splice (List.replicate 128 fill) k (lineL x (rvL seed step j))) i = fill) := fun i hi h => by
                rw [nth_splice hfit, if_pos h, nth_repl 128 fill i hi]
              have HN2 : Hid (∀ i, i < 128 → k + (10 + 3 * j) ≤ i → nth (splice (List.replicate 128 fill) k (lineL x (rvL seed step j))) i = fill) := fun i hi h => by
                rw [nth_splice hfit, if_neg (by omega), HLL.out, if_neg (by omega), nth_repl 128 fill i hi]
              have HN3 : Hid (∀ i, k ≤ i → i < k + (10 + 3 * j) → nth (splice (List.replicate 128 fill) k (lineL x (rvL seed step j))) i = nth (lineL x (rvL seed step j)) (i - k)) := fun i h h2 => by
                rw [nth_splice hfit, if_neg (by omega), HLL.out, if_pos h2]
              have HBO : Hid (OwnB w2 wu.heap.size (splice (List.replicate 128 fill) k (lineL x (rvL seed step j)))) := ho2
              have hB2 : Below wu.heap.size wr w2 := happ.belowOf (Nat.le_of_lt HFO.out.lt) (fun _ => Nat.le_refl _)
              have HRW : Hid (OwnB w2 wc.heap.size (rvL seed step j)) := HRQ.out.below hB2 hg12
              have HVW : Hid (Vw w2 (some ⟨wc.heap.size, 0, none⟩) (rvL seed step j)) := happ.oldVw HVR.out (fun b' off e _ => by simp only [Option.some.injEq, Addr.mk.injEq] at e; omega)
              have HBW : Hid (Below wc.heap.size wc w2) := HBQ.out.trans (hB2.mono (by omega))
              clear happ ho2 hfit hB2
              generalize splice (List.replicate 128 fill) k (lineL x (rvL seed step j)) = Bf at *
              go_wp2_with fail
              refine (fgood_any x j _ h0 h1 (by omega)).mono ?_
              rw [hg]
              rintro e w' ⟨rfl, rfl⟩
              have hlen : ((k : Int) + (10 + 3 * (j : Int)) != (k : Int) + (10 + 3 * (j : Int))) = false := by simp
              clear hg HFO hf
              go_wp2_with fail
              go_loop [25] (fun i => ∃ p : Nat, p ≤ j ∧ i = .int .i64 p) (fun i => j - (intOf i).toNat)
              case atStart => exact ⟨0, by omega, rfl⟩
              case round =>
                obtain ⟨p, hp, rfl⟩ := hrel
                by_cases hlt : p < j
                · have hc := HRW.out.cell (i := p) (by rw [rvL_length]; exact hlt)
                  rw [nth_rvL _ _ _ _ hlt] at hc
                  unfold rv at hc
                  have hne : ((seed + (p : Int) * step) % 256 != (seed + (p : Int) * step) % 256) = false := by simp
                  go_wp2_with fail
                  go_round
                  case rel => exact ⟨p + 1, by omega, by go_num⟩
                  case measure => simp [intOf]; omega
                · go_wp2_with fail
                  go_loop [26] (fun i => ∃ q : Nat, q ≤ 128 ∧ i = .int .i64 q) (fun i => 128 - (intOf i).toNat)
                  case atStart => exact ⟨0, by omega, rfl⟩
                  case round =>
                    obtain ⟨q, hq, rfl⟩ := hrel
                    by_cases hlt : q < 128
                    · have hc := HBO.out.cell (i := q) (by rw [HBl.out]; exact hlt)
                      by_cases hqk : q < k
                      · rw [HN1.out q hlt hqk] at hc
                        have hne : (fill != fill) = false := by simp
                        have hqi : (q : Int) < (k : Int) + (10 + 3 * (j : Int)) := by omega
                        go_wp2_with fail
                        go_round
                        case rel => exact ⟨q + 1, by omega, by go_num⟩
                        case measure => simp [intOf]; omega
                      · by_cases hqe : q < k + (10 + 3 * j)
                        · rw [HN3.out q (by omega) hqe] at hc
                          obtain ⟨r, hr⟩ : ∃ r : Nat, q - k = r := ⟨_, rfl⟩
                          rw [hr] at hc
                          have hri : (q : Int) - (k : Int) = (r : Int) := by omega
                          have hne : (nth (lineL x (rvL seed step j)) r != nth (lineL x (rvL seed step j)) r) = false := by simp
                          have hqi : (q : Int) < (k : Int) + (10 + 3 * (j : Int)) := by omega
                          have hrl : r < 10 + 3 * j := by omega
                          clear hr
                          go_wp2_with fail
                          refine (fat_any r x _ (rvL seed step j) j j _ h0 h1 HVW.out HRB.out HRL.out (by omega) hrl).mono ?_
                          rintro e w'' ⟨rfl, rfl⟩
                          go_wp2_with fail
                          go_round
                          case rel => exact ⟨q + 1, by omega, by go_num⟩
                          case measure => simp [intOf]; omega
                        · rw [HN2.out q hlt (by omega)] at hc
                          have hne : (fill != fill) = false := by simp
                          have hqi : ¬ (q : Int) < (k : Int) + (10 + 3 * (j : Int)) := by omega
                          go_wp2_with fail
                          go_round
                          case rel => exact ⟨q + 1, by omega, by go_num⟩
                          case measure => simp [intOf]; omega
                    · go_wp2_with fail
                      go_ret
                      exact ⟨rfl, HBW.out⟩
end Go.Proofs.Ymbrcs
