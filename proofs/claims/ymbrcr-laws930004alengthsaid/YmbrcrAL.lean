import Derived.Test.YmbrcrA
import Derived.Test.YmbrcrCpy
import Derived.Test.YmbrcrHx
namespace Go.Proofs.Ymbrcr
open Go.RowKit
attribute [local go_sem] dg_get

/-- The digit that each pick stands for. -/
def pickL (l : List Int) : List Int := l.map fun p => dg (p % 16).toNat
theorem pickL_length (l : List Int) : (pickL l).length = l.length := by simp [pickL]
theorem nth_pickL (l : List Int) (i : Nat) (h : i < l.length) : nth (pickL l) i = dg (nth l i % 16).toNat := by
  rw [nth_eq (by rw [pickL_length]; exact h), nth_eq h]; simp [pickL]
theorem pickL_bts (l : List Int) : Bts (pickL l) := fun i => by
  by_cases h : i < l.length
  · rw [nth_pickL l i h]
    have := dg_bd (nth l i % 16).toNat (by omega)
    omega
  · rw [nth_ge (by rw [pickL_length]; omega)]; omega
theorem hexVal_pickL (l : List Int) (i : Nat) (h : i < l.length) : hexVal (nth (pickL l) i) = nth l i % 16 ∧ hexOk (nth (pickL l) i) = true := by
  rw [nth_pickL l i h]
  exact ⟨by rw [hexVal_dg _ (by omega)]; omega, hexOk_dg _ (by omega)⟩

set_option maxRecDepth 20000 in
set_option maxHeartbeats 1600000 in
theorem alength_walk (a : Option Addr) (l : List Int) (n c : Nat) (w : World) (hv : Vw w a l) (hb : Bts l) (hn : l.length = n) :
    Calls Ycrm.prog 4 #[.slice a n c] w fun e w' => e = .returned (.bool true) ∧ Below w.heap.size w w' := by
  have HV : Hid (Vw w a l) := hv
  clear hv
  by_cases hbig : 1024 < n
  · go_enter Ycrm.func4, Ycrm.ntmps4
    go_wp2_with fail
    go_ret
    exact ⟨rfl, Below.refl _ _⟩
  have hmk := run_make_bytes bprog .i64 .i64 n (by omega)
  have hpl : (pickL l).length = n := by rw [pickL_length, hn]
  go_enter Ycrm.func4, Ycrm.ntmps4
  go_wp2_with fail
  have HO0 : Hid (OwnB (w.alloc (.cells (zrs n) 5)) w.heap.size (part (pickL l) 0)) := by unfold Hid; rw [part_zero, hpl]; exact OwnB.zrs w n
  have HB0 : Hid (Below w.heap.size w (w.alloc (.cells (zrs n) 5))) := (Below.refl _ _).alloc (Nat.le_refl _) _
  clear hmk
  go_loopw [4] (fun i wr => ∃ k : Nat, k ≤ n ∧ i = .int .i64 k ∧ OwnB wr w.heap.size (part (pickL l) k) ∧ Below w.heap.size w wr) (fun i _ => n - (intOf i).toNat)
  case atStart => exact ⟨0, by omega, rfl, HO0.out, HB0.out⟩
  case round =>
    obtain ⟨k, hk, rfl, ho, hbel⟩ := hrel
    have HO : Hid (OwnB wr w.heap.size (part (pickL l) k)) := ho
    have HB : Hid (Below w.heap.size w wr) := hbel
    have HVr : Hid (Vw wr a l) := HV.out.below hbel (Nat.le_refl _)
    clear ho hbel HO0 HB0
    by_cases hlt : k < n
    · obtain ⟨b1, o1, rfl, hc1⟩ := HVr.out k (by omega)
      have hbk := hb k
      have hc := HO.out.cell (i := k) (by rw [part_length _ _ (by omega)]; omega)
      have hf := HO.out.free k
      have HO2 : Hid (OwnB (wr.setCell ⟨w.heap.size, k, none⟩ (.int .u8 (dg (nth l k % 16).toNat))) w.heap.size (part (pickL l) (k + 1))) := by
        unfold Hid; rw [← part_step _ k (by omega), nth_pickL l k (by omega)]; exact HO.out.set k _
      have HB2 : Hid (Below w.heap.size w (wr.setCell ⟨w.heap.size, k, none⟩ (.int .u8 (dg (nth l k % 16).toNat)))) := HB.out.setCell (Nat.le_refl _) _
      go_wp2_with fail
      clear hc hf hc1
      go_roundw
      case rel => exact ⟨k + 1, by omega, by go_num, HO2.out, HB2.out⟩
      case measure => simp [intOf]; omega
    · obtain rfl : k = n := by omega
      have ho := HO.out
      rw [← hpl, part_all] at ho
      have HVt : Hid (Vw wr (some ⟨w.heap.size, 0, none⟩) (pickL l)) := by
        unfold Hid
        have := ho.vw (off := 0) (n := (pickL l).length) (by omega)
        rwa [List.drop_zero, List.take_length] at this
      clear ho HO
      go_wp2_with fail
      refine (parseOffset_any _ (pickL l) k k _ HVt.out (pickL_bts l) hpl).mono ?_
      rintro e w' ⟨rfl, rfl⟩
      by_cases h8 : k = 8
      · subst h8
        have e1 : pOk (pickL l) = true := by
          rw [pOk_iff]; exact ⟨hpl, fun i hi => (hexVal_pickL l i (by omega)).2⟩
        have e2 : pOff (pickL l) = offV (pickL l) 8 := by unfold pOff; rw [if_pos e1]
        go_wp2_with fail
        go_loopw [5, 7] (fun g i wr => ∃ m : Nat, m ≤ 8 ∧ i = .int .i64 ((m : Int) - 1) ∧ g = .int .u32 (offV (pickL l) m) ∧ wr = w') (fun _ i _ => (intOf i + 1).toNat)
        case atStart => exact ⟨8, by omega, rfl, rfl, rfl⟩
        case round =>
          clear e1 e2
          obtain ⟨m, hm, rfl, rfl, rfl⟩ := hrel
          by_cases hm0 : m = 0
          · subst hm0
            have e0 : offV (pickL l) 0 = 0 := rfl
            go_wp2_with fail
            go_ret
            exact ⟨rfl, HB.out⟩
          · obtain ⟨q, rfl⟩ : ∃ q : Nat, m = q + 1 := ⟨m - 1, by omega⟩
            have hs : offV (pickL l) (q + 1) = offV (pickL l) q * 16 + nth l q % 16 := by
              rw [offV, (hexVal_pickL l q (by omega)).1]
            have hq7 := offV_bd7 (pickL l) q (by omega)
            have hbq := hb q
            obtain ⟨b1, o1, rfl, hc1⟩ := HVr.out q (by omega)
            rw [show ((q + 1 : Nat) : Int) - 1 = (q : Int) by omega, hs]
            have r1 : (offV (pickL l) q * 16 + nth l q % 16) % 16 = nth l q % 16 := by omega
            have r2 : (offV (pickL l) q * 16 + nth l q % 16) / 16 = offV (pickL l) q := by omega
            have r3 : (nth l q % 16 != nth l q % 16) = false := by simp
            have R2 : Hid ((offV (pickL l) q * 16 + nth l q % 16) / 16 = offV (pickL l) q) := r2
            clear r2 hs hm0
            go_wp2_with fail
            go_roundw
            case rel => exact ⟨q, by omega, by go_num, by rw [R2.out], by trivial⟩
            case measure => simp only [intOf]; omega
      · have e1 : pOk (pickL l) = false := by rw [pOk_no]; intro h; exact h8 (by omega)
        have e2 : pOff (pickL l) = 0 := by unfold pOff; rw [if_neg (by simp [e1])]
        have h8' : ((k : Int) != 8) = true := by simp; omega
        clear h8
        go_wp2_with fail
        go_ret
        exact ⟨rfl, HB.out⟩
end Go.Proofs.Ymbrcr
