import Derived.Test.YmbrctLX
namespace Go.Proofs.Ymbrct
open Go.RowKit

theorem set_bts {l : List Int} (h : Bts l) (k : Nat) (hk : k < l.length) {x : Int} (h0 : 0 ≤ x) (h1 : x < 256) : Bts (l.set k x) := fun i => by
  rw [nth_set hk]; split
  · exact ⟨h0, h1⟩
  · exact h i
theorem zero_bts (n : Nat) : Bts (List.replicate n 0) := fun i => by
  by_cases h : i < n
  · rw [nth_eq (by simpa using h)]; simp
  · rw [nth_ge (by simp; omega)]; omega
/-- Some N bytes of the call's own lie in the block g. -/
def Lies (w0 : World) (N : Nat) (w : World) : Prop := ∃ cs, cs.length = N ∧ Bts cs ∧ OwnB w w0.heap.size cs ∧ Below w0.heap.size w0 w
theorem Lies.cell {w0 w : World} {N : Nat} (h : Lies w0 N w) {p : Nat} (hp : p < N) : ∃ y, w.cell? ⟨w0.heap.size, p, none⟩ = some (.int .u8 y) := by
  obtain ⟨cs, hl, _, ho, _⟩ := h
  exact ⟨_, ho.cell (by omega)⟩
theorem Lies.free {w0 w : World} {N : Nat} (h : Lies w0 N w) (p : Nat) : w.frozen? ⟨w0.heap.size, p, none⟩ = false := by
  obtain ⟨cs, hl, _, ho, _⟩ := h
  exact ho.free p
theorem Lies.set {w0 w : World} {N : Nat} (h : Lies w0 N w) {p : Nat} (hp : p < N) {x : Int} (h0 : 0 ≤ x) (h1 : x < 256) : Lies w0 N (w.setCell ⟨w0.heap.size, p, none⟩ (.int .u8 x)) := by
  obtain ⟨cs, hl, hb, ho, hbe⟩ := h
  exact ⟨cs.set p x, by rw [List.length_set]; exact hl, set_bts hb p (by omega) h0 h1, ho.set p x, hbe.setCell (Nat.le_refl _) _⟩

set_option maxRecDepth 20000 in
set_option maxHeartbeats 3200000 in
theorem lexact_walk (a : Option Addr) (l : List Int) (N c : Nat) (tidy : Bool) (w : World) (hv : Vw w a l) (hb : Bts l) (hn : l.length = N) (hc : N ≤ c) (hcm : c ≤ 9223372036854775807) :
    Calls Yctm.prog 10 #[.slice a N c, .bool tidy] w fun e w' => e = .returned (.bool true) ∧ Below w.heap.size w w' := by
  have HV : Hid (Vw w a l) := hv
  have HN : Hid (l.length = N) := hn
  clear hv hn
  by_cases hbig : 1024 < N
  · go_enter Yctm.func10, Yctm.ntmps10
    go_wp2_with fail
    go_ret
    exact ⟨rfl, Below.refl _ _⟩
  cases tidy
  · go_enter Yctm.func10, Yctm.ntmps10
    go_wp2_with fail
    refine (lagrees_any a l N c _ HV.out hb HN.out hc hcm (by omega)).mono ?_
    rintro e w1 ⟨rfl, hB⟩
    have HB : Hid (Below w.heap.size w w1) := hB
    clear hB
    go_wp2_with fail
    go_ret
    exact ⟨rfl, HB.out⟩
  · have hmk := run_make_bytes bprog .i64 .i64 N (by omega)
    have HL0 : Hid (Lies w N (w.alloc (.cells (zrs N) 5))) := ⟨List.replicate N 0, by simp, zero_bts N, OwnB.zrs w N, (Below.refl _ _).alloc (Nat.le_refl _) _⟩
    go_enter Yctm.func10, Yctm.ntmps10
    go_wp2_with fail
    clear hmk
    go_loopw [6] (fun i wr => ∃ p : Nat, p ≤ N ∧ i = .int .i64 p ∧ Lies w N wr) (fun i _ => N - (intOf i).toNat)
    case atStart => exact ⟨0, by omega, rfl, HL0.out⟩
    case round =>
      obtain ⟨p, hp, rfl, hl⟩ := hrel
      have HL : Hid (Lies w N wr) := hl
      clear hl HL0
      by_cases hlt : p < N
      · obtain ⟨y, hcp⟩ := HL.out.cell hlt
        have hfp := HL.out.free p
        by_cases h8 : p = 8
        · subst h8
          go_wp2_with fail
          have H2 := HL.out.set hlt (x := 58) (by omega) (by omega)
          have HL2 : Hid _ := H2
          clear hcp hfp H2
          go_roundw
          case rel => exact ⟨8 + 1, by omega, by go_num, HL2.out⟩
          case measure => simp [intOf]; omega
        have h8' : ((p : Int) == 8) = false := by simp; omega
        by_cases hl : p = N - 1
        · have hl' : ((p : Int) == (N : Int) - 1) = true := by simp; omega
          clear h8 hl
          go_wp2_with fail
          have H2 := HL.out.set hlt (x := 10) (by omega) (by omega)
          have HL2 : Hid _ := H2
          clear hcp hfp H2
          go_roundw
          case rel => exact ⟨p + 1, by omega, by go_num, HL2.out⟩
          case measure => simp [intOf]; omega
        have hl' : ((p : Int) == (N : Int) - 1) = false := by simp; omega
        by_cases h3 : 8 < p ∧ p % 3 = 0
        · obtain ⟨h3a, h3b⟩ := h3
          have h3' : ((p : Int) % 3 == 0) = true := by simp; omega
          clear h8 hl h3b
          go_wp2_with fail
          have H2 := HL.out.set hlt (x := 32) (by omega) (by omega)
          have HL2 : Hid _ := H2
          clear hcp hfp H2
          go_roundw
          case rel => exact ⟨p + 1, by omega, by go_num, HL2.out⟩
          case measure => simp [intOf]; omega
        have hB : Below w.heap.size w wr := by obtain ⟨_, _, _, _, hB⟩ := HL.out; exact hB
        obtain ⟨b1, o1, rfl, hc1⟩ := (HV.out.below hB (Nat.le_refl _)) p (by have := HN.out; omega)
        have hbp := hb p
        have hdb : 0 ≤ dg (nth l p % 16).toNat ∧ dg (nth l p % 16).toNat < 256 := by have := dg_bd (nth l p % 16).toNat (by omega); omega
        clear hB
        by_cases hlo : 8 < p
        · have h3' : ((p : Int) % 3 == 0) = false := by simp; omega
          clear h8 hl h3
          go_wp2_with fail
          refine (ldigit_any (nth l p) _ hbp.1).mono ?_
          rintro e w' ⟨rfl, rfl⟩
          go_wp2_with fail
          have H2 := HL.out.set hlt hdb.1 hdb.2
          have HL2 : Hid _ := H2
          clear hcp hfp H2
          go_roundw
          case rel => exact ⟨p + 1, by omega, by go_num, HL2.out⟩
          case measure => simp [intOf]; omega
        · clear h8 hl h3
          go_wp2_with fail
          refine (ldigit_any (nth l p) _ hbp.1).mono ?_
          rintro e w' ⟨rfl, rfl⟩
          go_wp2_with fail
          have H2 := HL.out.set hlt hdb.1 hdb.2
          have HL2 : Hid _ := H2
          clear hcp hfp H2
          go_roundw
          case rel => exact ⟨p + 1, by omega, by go_num, HL2.out⟩
          case measure => simp [intOf]; omega
      · obtain rfl : p = N := by omega
        have hpp : decide ((p : Int) < (p : Int)) = false := by simp
        obtain ⟨cs, hl, hbt, ho, hbe⟩ := HL.out
        have hvw := ho.vw (off := 0) (n := p) (by omega)
        rw [List.drop_zero, List.take_of_length_le (by omega)] at hvw
        have HW : Hid (Vw wr (some ⟨w.heap.size, 0, none⟩) cs) := hvw
        have HB : Hid (Below w.heap.size w wr) := hbe
        clear ho hbe hvw
        go_wp2_with fail
        refine (lagrees_any (some ⟨w.heap.size, 0, none⟩) cs p p _ HW.out hbt hl (Nat.le_refl _) (by omega) (by omega)).mono ?_
        rintro e w1 ⟨rfl, hB1⟩
        have HB1 : Hid (Below wr.heap.size wr w1) := hB1
        clear hB1
        go_wp2_with fail
        go_ret
        exact ⟨rfl, HB.out.trans (HB1.out.mono HB.out.size)⟩
end Go.Proofs.Ymbrct
