import Derived.Test.YmbrcsI
import Derived.Test.YmbrcsCpy
import Derived.Deep.DeepCutAuto
namespace Go.Proofs.Ymbrcs
open Go.RowKit
attribute [local go_sem] dg_get

def sgs : List Int := [48, 49, 50, 51, 52, 53, 54, 55, 56, 57, 97, 98, 99, 100, 101, 102, 65, 70, 71, 103, 47, 58, 96, 64]
def sg (i : Nat) : Int := nth sgs i
theorem sg_get (i : Nat) (h : i < ByteArray.size { data := #[48, 49, 50, 51, 52, 53, 54, 55, 56, 57, 97, 98, 99, 100, 101, 102, 65, 70, 71, 103, 47, 58, 96, 64] }) : ((({ data := #[48, 49, 50, 51, 52, 53, 54, 55, 56, 57, 97, 98, 99, 100, 101, 102, 65, 70, 71, 103, 47, 58, 96, 64] } : ByteArray)[i]'h).toNat : Int) = sg i := by
  have h' : i < 24 := h
  have : i = 0 ∨ i = 1 ∨ i = 2 ∨ i = 3 ∨ i = 4 ∨ i = 5 ∨ i = 6 ∨ i = 7 ∨ i = 8 ∨ i = 9 ∨ i = 10 ∨ i = 11 ∨ i = 12 ∨ i = 13 ∨ i = 14 ∨ i = 15 ∨ i = 16 ∨ i = 17 ∨ i = 18 ∨ i = 19 ∨ i = 20 ∨ i = 21 ∨ i = 22 ∨ i = 23 := by omega
  rcases this with rfl | rfl | rfl | rfl | rfl | rfl | rfl | rfl | rfl | rfl | rfl | rfl | rfl | rfl | rfl | rfl | rfl | rfl | rfl | rfl | rfl | rfl | rfl | rfl <;> rfl
theorem sgs_bts : Bts sgs := by
  unfold sgs
  repeat' (first | exact Bts.nil | refine Bts.cons (by omega) (by omega) ?_)
theorem sg_bd (i : Nat) : 0 ≤ sg i ∧ sg i < 256 := sgs_bts i
attribute [local go_sem] sg_get
theorem set_bts {l : List Int} (h : Bts l) (k : Nat) (hk : k < l.length) {x : Int} (h0 : 0 ≤ x) (h1 : x < 256) : Bts (l.set k x) := fun i => by
  rw [nth_set hk]; split
  · exact ⟨h0, h1⟩
  · exact h i
theorem zero_bts (n : Nat) : Bts (List.replicate n 0) := fun i => by
  by_cases h : i < n
  · rw [nth_eq (by simpa using h)]; simp
  · rw [nth_ge (by simp; omega)]; omega

/-- Some N bytes of the call's own lie in the block that w0 has not yet. -/
def Lies (w0 : World) (N : Nat) (w : World) : Prop := ∃ cs, cs.length = N ∧ Bts cs ∧ OwnB w w0.heap.size cs ∧ Below w0.heap.size w0 w
theorem Lies.cell {w0 w : World} {N : Nat} (h : Lies w0 N w) {p : Nat} (hp : p < N) : ∃ y, w.cell? ⟨w0.heap.size, p, none⟩ = some (.int .u8 y) := by
  obtain ⟨cs, hl, _, ho, _⟩ := h
  exact ⟨_, ho.cell (by omega)⟩
theorem Lies.free {w0 w : World} {N : Nat} (h : Lies w0 N w) (p : Nat) : w.frozen? ⟨w0.heap.size, p, none⟩ = false := by
  obtain ⟨cs, hl, _, ho, _⟩ := h
  exact ho.free p
theorem Lies.set {w0 w : World} {N : Nat} (h : Lies w0 N w) {p : Nat} (hp : p < N) {x : Int} (h0 : 0 ≤ x) (h1 : x < 256) : Lies w0 N (w.setCell ⟨w0.heap.size, p, none⟩ (.int .u8 x)) := by
  obtain ⟨cs, hl, hb, ho, hbe⟩ := h
  exact ⟨cs.set p x, by rw [List.length_set]; exact hl, set_bts hb p (by omega) h0 h1, ho.set p x, hbe.setCell (Nat.le_refl _) _⟩

set_option maxRecDepth 20000 in
set_option maxHeartbeats 3200000 in
theorem iplanted_walk (base row col hi lo tail : Int) (a : Option Addr) (l : List Int) (n c : Nat) (w : World) (b0 : 0 ≤ base) (b1 : base < 4294967296) (r0 : 0 ≤ row) (r1 : row < 256) (c0 : 0 ≤ col) (c1 : col < 256) (i0 : 0 ≤ hi) (i1 : hi < 256) (o0 : 0 ≤ lo) (o1 : lo < 256) (t0 : 0 ≤ tail) (t1 : tail < 256) (hv : Vw w a l) (hb : Bts l) (hn : l.length = n) (hc : n ≤ c) (_hcm : c ≤ 9223372036854775807) :
    Calls Ycsm.prog 13 #[.int .u32 base, .int .u8 row, .int .u8 col, .int .u8 hi, .int .u8 lo, .int .u8 tail, .slice a n c] w fun e w' => e = .returned (.bool true) ∧ Below w.heap.size w w' := by
  obtain ⟨R, hR⟩ : ∃ R : Nat, row % 8 = R := ⟨(row % 8).toNat, by omega⟩
  obtain ⟨C, hC⟩ : ∃ C : Nat, col % 16 = C := ⟨(col % 16).toNat, by omega⟩
  obtain ⟨H, hH⟩ : ∃ H : Nat, tail % 8 = H := ⟨(tail % 8).toNat, by omega⟩
  obtain ⟨G, hG⟩ : ∃ G : Nat, 16 * R + C = G := ⟨_, rfl⟩
  obtain ⟨P, hP⟩ : ∃ P : Nat, R * 58 + 10 + 3 * C = P := ⟨_, rfl⟩
  obtain ⟨T, hT⟩ : ∃ T : Nat, P + H = T := ⟨_, rfl⟩
  have hR8 : R < 8 := by omega
  have hC16 : C < 16 := by omega
  have hH8 : H < 8 := by omega
  have hG1 : G < 128 := by omega
  have hPP : posOf G = P := by unfold posOf; omega
  have hGi : 16 * (R : Int) + (C : Int) = (G : Int) := by omega
  have hPi : (R : Int) * 58 + 9 + 1 + 3 * (C : Int) = (P : Int) := by omega
  have hTi : (P : Int) + (H : Int) = (T : Int) := by omega
  have hmk := run_make_bytes bprog .i64 .i64 T (by omega)
  have HV : Hid (Vw w a l) := hv
  have HN : Hid (l.length = n) := hn
  have HPP : Hid (posOf G = P) := hPP
  have HT : Hid (P + H = T) := hT
  have hT1 : T ≤ 1000 := by omega
  have hP1 : P ≤ 1000 := by omega
  clear hv hn hPP hP hT hG
  have HL0 : Hid (Lies w T (w.alloc (.cells (zrs T) 5))) := ⟨List.replicate T 0, by simp, zero_bts T, OwnB.zrs w T, (Below.refl _ _).alloc (Nat.le_refl _) _⟩
  have hcase : ∃ B : Int, 0 ≤ B ∧ B + G < 4294967296 ∧ ((4294967295 - (G : Int) < base ∧ base - G = B) ∨ (¬ 4294967295 - (G : Int) < base ∧ B = base)) := by
    by_cases h : 4294967295 - (G : Int) < base
    · exact ⟨base - G, by omega, by omega, .inl ⟨h, rfl⟩⟩
    · exact ⟨base, by omega, by omega, .inr ⟨h, rfl⟩⟩
  go_enter Ycsm.func13, Ycsm.ntmps13
  obtain ⟨B, hB0, hB1, hcase⟩ := hcase
  rcases hcase with ⟨hd, hBB⟩ | ⟨hd, hBB⟩
  · go_wp2_with fail
    clear hmk
    go_loopw [21] (fun i wr => ∃ j : Nat, j ≤ T ∧ i = .int .i64 j ∧ Lies w T wr) (fun i _ => T - (intOf i).toNat)
    case atStart => exact ⟨0, by omega, rfl, HL0.out⟩
    case round =>
      obtain ⟨j, hj, rfl, hl⟩ := hrel
      have HL : Hid (Lies w T wr) := hl
      clear hl HL0
      by_cases hlt : j < T
      · obtain ⟨y, hcp⟩ := HL.out.cell hlt
        have hfp := HL.out.free j
        obtain ⟨u, hu⟩ : ∃ u : Nat, (j : Int) % 16 = u := ⟨j % 16, by omega⟩
        have hu16 : u < 16 := by omega
        by_cases hz : 0 < n
        · obtain ⟨k, hk⟩ : ∃ k : Nat, (j : Int) % (n : Int) = k := ⟨j % n, by omega⟩
          have hkn : k < n := by
            have := Int.emod_lt_of_pos (j : Int) (show (0 : Int) < (n : Int) by omega)
            omega
          have hB : Below w.heap.size w wr := by obtain ⟨_, _, _, _, hB⟩ := HL.out; exact hB
          obtain ⟨q1, q2, rfl, hc1⟩ := (HV.out.below hB (Nat.le_refl _)) k (by have := HN.out; omega)
          have hbk := hb k
          obtain ⟨z, hz16⟩ : ∃ z : Nat, ((u : Int) + nth l k) % 16 = z := ⟨(((u : Int) + nth l k) % 16).toNat, by omega⟩
          have hz1 : z < 16 := by omega
          have hdb : 0 ≤ dg z ∧ dg z < 256 := by have := dg_bd z hz1; omega
          clear hB
          go_wp2_with fail
          have H2 := HL.out.set hlt hdb.1 hdb.2
          have HL2 : Hid _ := H2
          clear hcp hfp H2
          go_roundw
          case rel => exact ⟨j + 1, by omega, by go_num, HL2.out⟩
          case measure => simp [intOf]; omega
        · have hz' : n = 0 := by omega
          have hdb : 0 ≤ dg u ∧ dg u < 256 := by have := dg_bd u hu16; omega
          have huu : (u : Int) % 16 = u := by omega
          subst hz'
          go_wp2_with fail
          have H2 := HL.out.set hlt hdb.1 hdb.2
          have HL2 : Hid _ := H2
          clear hcp hfp H2
          go_roundw
          case rel => exact ⟨j + 1, by omega, by go_num, HL2.out⟩
          case measure => simp [intOf]; omega
      · obtain rfl : j = T := by omega
        have hpp : decide ((j : Int) < (j : Int)) = false := by simp
        obtain ⟨hx, hhx⟩ : ∃ x : Int, sg (hi % 24).toNat = x := ⟨_, rfl⟩
        obtain ⟨lx, hlx⟩ : ∃ x : Int, sg (lo % 24).toNat = x := ⟨_, rfl⟩
        have hxb := sg_bd (hi % 24).toNat
        have lxb := sg_bd (lo % 24).toNat
        rw [hhx] at hxb
        rw [hlx] at lxb
        by_cases hH2 : H < 2
        · by_cases hHz : H = 0
          · subst hHz
            obtain ⟨cs, hlc, hbt, ho, hbe⟩ := HL.out
            have hvw := ho.vw (off := 0) (n := j) (by omega)
            rw [List.drop_zero, List.take_of_length_le (by omega)] at hvw
            have HW : Hid (Vw wr (some ⟨w.heap.size, 0, none⟩) cs) := hvw
            have HB : Hid (Below w.heap.size w wr) := hbe
            have hno : bOk cs (posOf G) = false := bOk_short (by have := HPP.out; have := HT.out; omega)
            have hnv := bVal_no hno
            clear ho hbe hvw HL
            go_wp2_with fail
            refine (byteAt_yes _ _ G (some ⟨w.heap.size, 0, none⟩) cs j j _ hB0 hB1 rfl HW.out hbt hlc (Nat.le_refl _) (by omega)).mono ?_
            rw [hno, hnv]
            rintro e w1 ⟨rfl, hB1'⟩
            have HB1 : Hid (Below wr.heap.size wr w1) := hB1'
            clear hB1'
            go_wp2_with fail
            go_ret
            exact ⟨rfl, HB.out.trans (HB1.out.mono HB.out.size)⟩
          · obtain rfl : H = 1 := by omega
            have hPj : P < j := by have := HT.out; omega
            obtain ⟨y, hcp⟩ := HL.out.cell hPj
            have hfp := HL.out.free P
            have HL2 : Hid (Lies w j (wr.setCell ⟨w.heap.size, P, none⟩ (.int .u8 hx))) := HL.out.set hPj hxb.1 hxb.2
            go_wp2_with fail
            clear hcp hfp HL
            generalize wr.setCell ⟨w.heap.size, P, none⟩ (.int .u8 hx) = w3 at *
            obtain ⟨cs, hlc, hbt, ho, hbe⟩ := HL2.out
            have hvw := ho.vw (off := 0) (n := j) (by omega)
            rw [List.drop_zero, List.take_of_length_le (by omega)] at hvw
            have HW : Hid (Vw w3 (some ⟨w.heap.size, 0, none⟩) cs) := hvw
            have HB : Hid (Below w.heap.size w w3) := hbe
            have hno : bOk cs (posOf G) = false := bOk_short (by have := HPP.out; have := HT.out; omega)
            have hnv := bVal_no hno
            clear ho hbe hvw HL2
            refine (byteAt_yes _ _ G (some ⟨w.heap.size, 0, none⟩) cs j j _ hB0 hB1 rfl HW.out hbt hlc (Nat.le_refl _) (by omega)).mono ?_
            rw [hno, hnv]
            rintro e w1 ⟨rfl, hB1'⟩
            have HB1 : Hid (Below w3.heap.size w3 w1) := hB1'
            clear hB1'
            go_wp2_with fail
            go_ret
            exact ⟨rfl, HB.out.trans (HB1.out.mono HB.out.size)⟩
        · have hPj : P < j := by have := HT.out; omega
          have hPj1 : P + 1 < j := by have := HT.out; omega
          obtain ⟨cs, hlc, hbt, ho, hbe⟩ := HL.out
          have hcp := ho.cell (i := P) (by omega)
          have hfp := ho.free P
          have ho2 := ho.set P hx
          have hcq := ho2.cell (i := P + 1) (by rw [List.length_set]; omega)
          have hfq := ho2.free (P + 1)
          have HO3 : Hid (OwnB ((wr.setCell ⟨w.heap.size, P, none⟩ (.int .u8 hx)).setCell ⟨w.heap.size, P + 1, none⟩ (.int .u8 lx)) w.heap.size ((cs.set P hx).set (P + 1) lx)) := ho2.set (P + 1) lx
          have HB : Hid (Below w.heap.size w ((wr.setCell ⟨w.heap.size, P, none⟩ (.int .u8 hx)).setCell ⟨w.heap.size, P + 1, none⟩ (.int .u8 lx))) := (hbe.setCell (Nat.le_refl _) _).setCell (Nat.le_refl _) _
          have HBT : Hid (Bts ((cs.set P hx).set (P + 1) lx)) := set_bts (set_bts hbt P (by omega) hxb.1 hxb.2) (P + 1) (by rw [List.length_set]; omega) lxb.1 lxb.2
          have HLL : Hid (((cs.set P hx).set (P + 1) lx).length = j) := by unfold Hid; rw [List.length_set, List.length_set]; exact hlc
          have HN1 : Hid (nth ((cs.set P hx).set (P + 1) lx) P = hx) := by
            unfold Hid; rw [nth_set (by rw [List.length_set]; omega), if_neg (by omega), nth_set (by omega), if_pos rfl]
          have HN2 : Hid (nth ((cs.set P hx).set (P + 1) lx) (P + 1) = lx) := by
            unfold Hid; rw [nth_set (by rw [List.length_set]; omega), if_pos rfl]
          have hpj' : (P : Int) < (j : Int) := by omega
          have hpj1' : (P : Int) + 1 < (j : Int) := by omega
          clear ho ho2 hbe HL
          go_wp2_with fail
          clear hcp hfp hcq hfq
          generalize (wr.setCell ⟨w.heap.size, P, none⟩ (.int .u8 hx)).setCell ⟨w.heap.size, P + 1, none⟩ (.int .u8 lx) = w3 at *
          generalize (cs.set P hx).set (P + 1) lx = ds at *
          have hll := HLL.out
          have hvw := HO3.out.vw (off := 0) (n := j) (by omega)
          rw [List.drop_zero, List.take_of_length_le (by omega)] at hvw
          have hok : bOk ds (posOf G) = pairOk hx lx := by rw [HPP.out, bOk_long (by omega), HN1.out, HN2.out]
          have hov : bVal ds (posOf G) = pairVal hx lx := by rw [HPP.out, bVal_long (by omega), HN1.out, HN2.out]
          refine (byteAt_yes _ _ G (some ⟨w.heap.size, 0, none⟩) ds j j _ hB0 hB1 rfl hvw HBT.out hll (Nat.le_refl _) (by omega)).mono ?_
          rw [hok, hov]
          clear hok hov hvw
          rintro e w1 ⟨rfl, hB1'⟩
          have HB1 : Hid (Below w3.heap.size w3 w1) := hB1'
          clear hB1'
          go_wp2_with fail
          refine (ipair_any hx lx _).mono ?_
          rintro e w' ⟨rfl, rfl⟩
          generalize pairVal hx lx = pv at *
          generalize pairOk hx lx = po at *
          have e1 : (pv == pv) = true := by simp
          have e2 : (po == po) = true := by simp
          go_wp2_with fail
          go_ret
          exact ⟨rfl, HB.out.trans (HB1.out.mono HB.out.size)⟩
  · subst hBB
    go_wp2_with fail
    clear hmk
    go_loopw [21] (fun i wr => ∃ j : Nat, j ≤ T ∧ i = .int .i64 j ∧ Lies w T wr) (fun i _ => T - (intOf i).toNat)
    case atStart => exact ⟨0, by omega, rfl, HL0.out⟩
    case round =>
      obtain ⟨j, hj, rfl, hl⟩ := hrel
      have HL : Hid (Lies w T wr) := hl
      clear hl HL0
      by_cases hlt : j < T
      · obtain ⟨y, hcp⟩ := HL.out.cell hlt
        have hfp := HL.out.free j
        obtain ⟨u, hu⟩ : ∃ u : Nat, (j : Int) % 16 = u := ⟨j % 16, by omega⟩
        have hu16 : u < 16 := by omega
        by_cases hz : 0 < n
        · obtain ⟨k, hk⟩ : ∃ k : Nat, (j : Int) % (n : Int) = k := ⟨j % n, by omega⟩
          have hkn : k < n := by
            have := Int.emod_lt_of_pos (j : Int) (show (0 : Int) < (n : Int) by omega)
            omega
          have hB : Below w.heap.size w wr := by obtain ⟨_, _, _, _, hB⟩ := HL.out; exact hB
          obtain ⟨q1, q2, rfl, hc1⟩ := (HV.out.below hB (Nat.le_refl _)) k (by have := HN.out; omega)
          have hbk := hb k
          obtain ⟨z, hz16⟩ : ∃ z : Nat, ((u : Int) + nth l k) % 16 = z := ⟨(((u : Int) + nth l k) % 16).toNat, by omega⟩
          have hz1 : z < 16 := by omega
          have hdb : 0 ≤ dg z ∧ dg z < 256 := by have := dg_bd z hz1; omega
          clear hB
          go_wp2_with fail
          have H2 := HL.out.set hlt hdb.1 hdb.2
          have HL2 : Hid _ := H2
          clear hcp hfp H2
          go_roundw
          case rel => exact ⟨j + 1, by omega, by go_num, HL2.out⟩
          case measure => simp [intOf]; omega
        · have hz' : n = 0 := by omega
          have hdb : 0 ≤ dg u ∧ dg u < 256 := by have := dg_bd u hu16; omega
          have huu : (u : Int) % 16 = u := by omega
          subst hz'
          go_wp2_with fail
          have H2 := HL.out.set hlt hdb.1 hdb.2
          have HL2 : Hid _ := H2
          clear hcp hfp H2
          go_roundw
          case rel => exact ⟨j + 1, by omega, by go_num, HL2.out⟩
          case measure => simp [intOf]; omega
      · obtain rfl : j = T := by omega
        have hpp : decide ((j : Int) < (j : Int)) = false := by simp
        obtain ⟨hx, hhx⟩ : ∃ x : Int, sg (hi % 24).toNat = x := ⟨_, rfl⟩
        obtain ⟨lx, hlx⟩ : ∃ x : Int, sg (lo % 24).toNat = x := ⟨_, rfl⟩
        have hxb := sg_bd (hi % 24).toNat
        have lxb := sg_bd (lo % 24).toNat
        rw [hhx] at hxb
        rw [hlx] at lxb
        by_cases hH2 : H < 2
        · by_cases hHz : H = 0
          · subst hHz
            obtain ⟨cs, hlc, hbt, ho, hbe⟩ := HL.out
            have hvw := ho.vw (off := 0) (n := j) (by omega)
            rw [List.drop_zero, List.take_of_length_le (by omega)] at hvw
            have HW : Hid (Vw wr (some ⟨w.heap.size, 0, none⟩) cs) := hvw
            have HB : Hid (Below w.heap.size w wr) := hbe
            have hno : bOk cs (posOf G) = false := bOk_short (by have := HPP.out; have := HT.out; omega)
            have hnv := bVal_no hno
            clear ho hbe hvw HL
            go_wp2_with fail
            refine (byteAt_yes _ _ G (some ⟨w.heap.size, 0, none⟩) cs j j _ hB0 hB1 rfl HW.out hbt hlc (Nat.le_refl _) (by omega)).mono ?_
            rw [hno, hnv]
            rintro e w1 ⟨rfl, hB1'⟩
            have HB1 : Hid (Below wr.heap.size wr w1) := hB1'
            clear hB1'
            go_wp2_with fail
            go_ret
            exact ⟨rfl, HB.out.trans (HB1.out.mono HB.out.size)⟩
          · obtain rfl : H = 1 := by omega
            have hPj : P < j := by have := HT.out; omega
            obtain ⟨y, hcp⟩ := HL.out.cell hPj
            have hfp := HL.out.free P
            have HL2 : Hid (Lies w j (wr.setCell ⟨w.heap.size, P, none⟩ (.int .u8 hx))) := HL.out.set hPj hxb.1 hxb.2
            go_wp2_with fail
            clear hcp hfp HL
            generalize wr.setCell ⟨w.heap.size, P, none⟩ (.int .u8 hx) = w3 at *
            obtain ⟨cs, hlc, hbt, ho, hbe⟩ := HL2.out
            have hvw := ho.vw (off := 0) (n := j) (by omega)
            rw [List.drop_zero, List.take_of_length_le (by omega)] at hvw
            have HW : Hid (Vw w3 (some ⟨w.heap.size, 0, none⟩) cs) := hvw
            have HB : Hid (Below w.heap.size w w3) := hbe
            have hno : bOk cs (posOf G) = false := bOk_short (by have := HPP.out; have := HT.out; omega)
            have hnv := bVal_no hno
            clear ho hbe hvw HL2
            refine (byteAt_yes _ _ G (some ⟨w.heap.size, 0, none⟩) cs j j _ hB0 hB1 rfl HW.out hbt hlc (Nat.le_refl _) (by omega)).mono ?_
            rw [hno, hnv]
            rintro e w1 ⟨rfl, hB1'⟩
            have HB1 : Hid (Below w3.heap.size w3 w1) := hB1'
            clear hB1'
            go_wp2_with fail
            go_ret
            exact ⟨rfl, HB.out.trans (HB1.out.mono HB.out.size)⟩
        · have hPj : P < j := by have := HT.out; omega
          have hPj1 : P + 1 < j := by have := HT.out; omega
          obtain ⟨cs, hlc, hbt, ho, hbe⟩ := HL.out
          have hcp := ho.cell (i := P) (by omega)
          have hfp := ho.free P
          have ho2 := ho.set P hx
          have hcq := ho2.cell (i := P + 1) (by rw [List.length_set]; omega)
          have hfq := ho2.free (P + 1)
          have HO3 : Hid (OwnB ((wr.setCell ⟨w.heap.size, P, none⟩ (.int .u8 hx)).setCell ⟨w.heap.size, P + 1, none⟩ (.int .u8 lx)) w.heap.size ((cs.set P hx).set (P + 1) lx)) := ho2.set (P + 1) lx
          have HB : Hid (Below w.heap.size w ((wr.setCell ⟨w.heap.size, P, none⟩ (.int .u8 hx)).setCell ⟨w.heap.size, P + 1, none⟩ (.int .u8 lx))) := (hbe.setCell (Nat.le_refl _) _).setCell (Nat.le_refl _) _
          have HBT : Hid (Bts ((cs.set P hx).set (P + 1) lx)) := set_bts (set_bts hbt P (by omega) hxb.1 hxb.2) (P + 1) (by rw [List.length_set]; omega) lxb.1 lxb.2
          have HLL : Hid (((cs.set P hx).set (P + 1) lx).length = j) := by unfold Hid; rw [List.length_set, List.length_set]; exact hlc
          have HN1 : Hid (nth ((cs.set P hx).set (P + 1) lx) P = hx) := by
            unfold Hid; rw [nth_set (by rw [List.length_set]; omega), if_neg (by omega), nth_set (by omega), if_pos rfl]
          have HN2 : Hid (nth ((cs.set P hx).set (P + 1) lx) (P + 1) = lx) := by
            unfold Hid; rw [nth_set (by rw [List.length_set]; omega), if_pos rfl]
          have hpj' : (P : Int) < (j : Int) := by omega
          have hpj1' : (P : Int) + 1 < (j : Int) := by omega
          clear ho ho2 hbe HL
          go_wp2_with fail
          clear hcp hfp hcq hfq
          generalize (wr.setCell ⟨w.heap.size, P, none⟩ (.int .u8 hx)).setCell ⟨w.heap.size, P + 1, none⟩ (.int .u8 lx) = w3 at *
          generalize (cs.set P hx).set (P + 1) lx = ds at *
          have hll := HLL.out
          have hvw := HO3.out.vw (off := 0) (n := j) (by omega)
          rw [List.drop_zero, List.take_of_length_le (by omega)] at hvw
          have hok : bOk ds (posOf G) = pairOk hx lx := by rw [HPP.out, bOk_long (by omega), HN1.out, HN2.out]
          have hov : bVal ds (posOf G) = pairVal hx lx := by rw [HPP.out, bVal_long (by omega), HN1.out, HN2.out]
          refine (byteAt_yes _ _ G (some ⟨w.heap.size, 0, none⟩) ds j j _ hB0 hB1 rfl hvw HBT.out hll (Nat.le_refl _) (by omega)).mono ?_
          rw [hok, hov]
          clear hok hov hvw
          rintro e w1 ⟨rfl, hB1'⟩
          have HB1 : Hid (Below w3.heap.size w3 w1) := hB1'
          clear hB1'
          go_wp2_with fail
          refine (ipair_any hx lx _).mono ?_
          rintro e w' ⟨rfl, rfl⟩
          generalize pairVal hx lx = pv at *
          generalize pairOk hx lx = po at *
          have e1 : (pv == pv) = true := by simp
          have e2 : (po == po) = true := by simp
          go_wp2_with fail
          go_ret
          exact ⟨rfl, HB.out.trans (HB1.out.mono HB.out.size)⟩
end Go.Proofs.Ymbrcs
