import Derived.Test.YmbrcsHh
import Derived.Test.YmbrcsPa
import Derived.Test.YmbrcsLPl
import Derived.Test.YmbrcsEq
namespace Go.Proofs.Ymbrcs
open Go.RowKit

theorem eqlNil (w : World) (a : Option Addr) (n c : Nat) : (binOp .eql 22 (.slice a n c) (.slice none 0 0)).run Ycsm.prog w = .ok (.bool a.isNone) w := Lib.run_eql_slice_nil w 22 5 a n c 0 0 Ycsm.underlying22
theorem neqNil (w : World) (a : Option Addr) (n c : Nat) : (binOp .neq 22 (.slice a n c) (.slice none 0 0)).run Ycsm.prog w = .ok (.bool (!a.isNone)) w := run_neq_slice_nil_any w 22 5 a n c 0 0 Ycsm.underlying22

/-! A dump, read (plain). -/
def rowAt (l : List Int) (i : Nat) : List Int := (l.drop (16 * i)).take 16
theorem rowAt_length (l : List Int) (i : Nat) : (rowAt l i).length = min 16 (l.length - 16 * i) := by simp [rowAt]
theorem nth_rowAt (l : List Int) (i j : Nat) (h : j < 16) : nth (rowAt l i) j = nth l (16 * i + j) := by unfold rowAt; rw [nth_take h, nth_drop]
theorem cw_prefix (b : Int) (l : List Int) (k : Nat) : ∀ d, ∃ X, cw b l (k + d) = cw b l k ++ X
  | 0 => ⟨[], by simp⟩
  | d + 1 => by
    obtain ⟨X, hX⟩ := cw_prefix b l k d
    exact ⟨X ++ (hdP b (k + d) ++ cell3 (nth l (k + d)) ++ tlP l.length (k + d)), by rw [← Nat.add_assoc, cw, hX, List.append_assoc]⟩
theorem cw_step16 (b : Int) (l : List Int) (i : Nat) (h : 16 * i < l.length) : cw b l (min (16 * i + 16) l.length) = cw b l (16 * i) ++ lineL ((b + ((16 * i : Nat) : Int)) % 4294967296) (rowAt l i) := by
  have := cw_line b l (16 * i) (min (16 * i + 16) l.length) (by omega) (by omega) (by omega) (by omega) (by omega)
  rw [this]
  congr 2
  unfold rowAt
  by_cases hh : 16 * i + 16 ≤ l.length
  · rw [Nat.min_eq_left hh, show 16 * i + 16 - 16 * i = 16 by omega]
  · rw [Nat.min_eq_right (by omega), List.take_of_length_le (by simp), List.take_of_length_le (by simp; omega)]
theorem cw_len16 (b : Int) (l : List Int) : ∀ i, 16 * i ≤ l.length → (cw b l (16 * i)).length = 58 * i
  | 0, _ => by simp [cw]
  | i + 1, h => by
    have := cw_step16 b l i (by omega)
    rw [show min (16 * i + 16) l.length = 16 * (i + 1) by omega] at this
    rw [this, List.length_append, cw_len16 b l i (by omega), lineL_length, rowAt_length]
    omega
/-- How long the dump of n bytes is. -/
def tLen (n : Nat) : Nat := n / 16 * 58 + if n % 16 = 0 then 0 else 10 + 3 * (n % 16)
theorem cw_len (b : Int) (l : List Int) : (cw b l l.length).length = tLen l.length := by
  unfold tLen
  by_cases h : l.length % 16 = 0
  · rw [if_pos h]
    have := cw_len16 b l (l.length / 16) (by omega)
    rw [show 16 * (l.length / 16) = l.length by omega] at this
    omega
  · rw [if_neg h]
    have := cw_step16 b l (l.length / 16) (by omega)
    rw [show min (16 * (l.length / 16) + 16) l.length = l.length by omega] at this
    rw [this, List.length_append, cw_len16 b l _ (by omega), lineL_length, rowAt_length]
    omega
theorem div58 (q r : Nat) (h1 : 1 ≤ r) (h2 : r ≤ 15) : (q * 58 + (10 + 3 * r)) / 58 = q ∧ (q * 58 + (10 + 3 * r)) % 58 = 10 + 3 * r := by omega
theorem tLen_data (n : Nat) (h : n ≤ 1000000) : DataOk (tLen n : Int) ∧ dNat (tLen n) = n := by
  obtain ⟨q, hq⟩ : ∃ q : Nat, n / 16 = q := ⟨_, rfl⟩
  obtain ⟨r, hr⟩ : ∃ r : Nat, n % 16 = r := ⟨_, rfl⟩
  have hn : n = 16 * q + r := by omega
  have hr16 : r < 16 := by omega
  unfold tLen
  rw [hq, hr]
  clear hq hr
  by_cases h0 : r = 0
  · rw [if_pos h0]
    have e : dNat (q * 58 + 0) = n := by unfold dNat; omega
    refine ⟨⟨by omega, by omega, ?_⟩, e⟩
    unfold dataN; rw [if_neg (by omega)]; omega
  · rw [if_neg h0]
    obtain ⟨d1, d2⟩ := div58 q r (by omega) (by omega)
    have e : dNat (q * 58 + (10 + 3 * r)) = n := by unfold dNat; rw [d1, d2]; omega
    generalize q * 58 + (10 + 3 * r) = N at *
    refine ⟨⟨by omega, by omega, ?_⟩, e⟩
    unfold dataN; rw [if_pos (by omega)]; omega
theorem cw_seg (b : Int) (l : List Int) (i : Nat) (h : 16 * i < l.length) : seg (cw b l l.length) i = lineL ((b + ((16 * i : Nat) : Int)) % 4294967296) (rowAt l i) := by
  have h1 := cw_step16 b l i h
  obtain ⟨X, hX⟩ := cw_prefix b l (min (16 * i + 16) l.length) (l.length - min (16 * i + 16) l.length)
  rw [show min (16 * i + 16) l.length + (l.length - min (16 * i + 16) l.length) = l.length by omega, h1] at hX
  have h16 := cw_len16 b l i (by omega)
  have hll : (lineL ((b + ((16 * i : Nat) : Int)) % 4294967296) (rowAt l i)).length = 10 + 3 * min 16 (l.length - 16 * i) := by rw [lineL_length, rowAt_length]
  unfold seg
  rw [hX, List.append_assoc, List.drop_append_of_le_length (by omega), List.drop_of_length_le (by omega), List.nil_append]
  by_cases hh : 16 * i + 16 ≤ l.length
  · rw [List.take_append_of_le_length (by omega), List.take_of_length_le (by omega)]
  · have hlen := congrArg List.length hX
    rw [cw_len, List.length_append, List.length_append, h16, hll] at hlen
    have hX0 : X = [] := by
      apply List.eq_nil_of_length_eq_zero
      unfold tLen at hlen
      rw [if_neg (by omega)] at hlen
      omega
    rw [hX0, List.append_nil, List.take_of_length_le (by omega)]
theorem cw_good (b : Int) (l : List Int) (hb : Bts l) (hn : l.length ≤ 1000000) (h0 : 0 ≤ b) (_h1 : b < 4294967296) : POk b (cw b l l.length) ↔ b + l.length ≤ 4294967296 := by
  have hd := tLen_data l.length hn
  constructor
  · intro h
    have := h.fits
    rwa [cw_len, hd.2] at this
  · intro hf
    refine ⟨by rw [cw_len]; exact hd.1, by rw [cw_len, hd.2]; exact hf, fun i hi => ?_⟩
    have hi16 : 16 * i < l.length := by
      rw [cw_len] at hi
      unfold tLen at hi
      split at hi <;> omega
    have hs := cw_seg b l i hi16
    have hx : (b + ((16 * i : Nat) : Int)) % 4294967296 = b + ((16 * i : Nat) : Int) := Int.emod_eq_of_lt (by omega) (by omega)
    have hrl := rowAt_length l i
    have hrb : Bts (rowAt l i) := (hb.drop _).take _
    have hm : segM (cw b l l.length) i = (rowAt l i).length := by unfold segM; rw [hs, lineL_length]; omega
    unfold LineGood
    rw [hm, hs, hx]
    exact ⟨(lineL_iff _ _ hrb (by omega) (by omega)).2 ⟨by omega, by omega, by omega⟩, offV_lineL _ _ (by omega) (by omega)⟩
theorem cw_out (b : Int) (l : List Int) (hb : Bts l) : outL (cw b l l.length) l.length = l := by
  apply ext_nth
  · rw [outL_length]
  · intro j hj
    rw [outL_length] at hj
    have hs := cw_seg b l (j / 16) (by omega)
    have hrl := rowAt_length l (j / 16)
    have hrb : Bts (rowAt l (j / 16)) := (hb.drop _).take _
    have hr := rowL_lineL ((b + ((16 * (j / 16) : Nat) : Int)) % 4294967296) (rowAt l (j / 16)) hrb
    have hn := nth_rowL (lineL ((b + ((16 * (j / 16) : Nat) : Int)) % 4294967296) (rowAt l (j / 16))) (rowAt l (j / 16)).length (j % 16) (by omega)
    rw [hr, nth_rowAt l _ _ (by omega), show 16 * (j / 16) + j % 16 = j by omega] at hn
    rw [nth_outL _ _ _ hj, hn, ← hs, nth_seg _ _ _ (by omega), nth_seg _ _ _ (by omega)]
    unfold pairAt
    have e1 : posP j = 58 * (j / 16) + (10 + 3 * (j % 16)) := by unfold posP; omega
    rw [e1, show 58 * (j / 16) + (10 + 3 * (j % 16)) + 1 = 58 * (j / 16) + (11 + 3 * (j % 16)) by omega]
theorem hdP_bts (b : Int) (k : Nat) : Bts (hdP b k) := by
  unfold hdP
  split
  · refine Bts.app (fun i => ?_) (Bts.nil.cons (by omega) (by omega))
    by_cases h : i < 8
    · rw [nth_offD _ i h]
      have := dg_bd ((b + k) % 4294967296 / 16 ^ (7 - i) % 16).toNat (by omega)
      omega
    · rw [nth_ge (by rw [offD_length]; omega)]; omega
  · exact Bts.nil
theorem cw_bts (b : Int) (l : List Int) (hb : Bts l) : ∀ k, Bts (cw b l k)
  | 0 => Bts.nil
  | k + 1 => by
    refine (cw_bts b l hb k).app (((hdP_bts b k).app ?_).app ?_)
    · have h1 := hb k
      have d1 := dg_bd (nth l k / 16).toNat (by omega)
      have d2 := dg_bd (nth l k % 16).toNat (by omega)
      unfold cell3 hex2
      exact Bts.cons (by omega) (by omega) (Bts.cons (by omega) (by omega) (Bts.cons (by omega) (by omega) Bts.nil))
    · unfold tlP
      split
      · exact Bts.nil.cons (by omega) (by omega)
      · exact Bts.nil

set_option maxRecDepth 20000 in
set_option maxHeartbeats 3200000 in
theorem hround_walk (base mode rows seed : Int) (a : Option Addr) (l : List Int) (n c : Nat) (w : World) (b0 : 0 ≤ base) (b1 : base < 4294967296) (m0 : 0 ≤ mode) (m1 : mode < 256) (r0 : 0 ≤ rows) (r1 : rows < 256) (hv : Vw w a l) (hb : Bts l) (hn : l.length = n) :
    Calls Ycsm.prog 10 #[.int .u32 base, .int .u8 mode, .int .u8 rows, .int .u8 seed, .slice a n c] w fun e w' => e = .returned (.bool true) ∧ Below w.heap.size w w' := by
  have hq := eqlNil
  have hq' := neqNil
  have HV : Hid (Vw w a l) := hv
  clear hv
  by_cases hbig : 1024 < n
  · go_enter Ycsm.func10, Ycsm.ntmps10
    go_wp2_with fail
    go_ret
    exact ⟨rfl, Below.refl _ _⟩
  go_enter Ycsm.func10, Ycsm.ntmps10
  go_wp2_with fail
  refine (hdata_any rows seed a l n c _ r0 r1 HV.out hb hn (by omega)).mono ?_
  rintro e w1 ⟨v1, L, rfl, hLl, hLb, hres1⟩
  have HB1 : Hid (Below w.heap.size w w1) := hres1.below
  obtain ⟨g1, c1, hv1, hg1, hlc1, hcm1, hvw1⟩ := hres1.reads
  obtain ⟨K, hK⟩ : ∃ K : Nat, L.length = K := ⟨_, rfl⟩
  rw [hK] at hv1 hlc1 hLl
  subst hv1
  have HW1 : Hid (Vw w1 (some ⟨g1, 0, none⟩) L) := hvw1
  have HK : Hid (L.length = K) := hK
  have HLb : Hid (Bts L) := hLb
  clear hres1 hvw1 hg1 hK hLb hlc1 hcm1
  go_wp2_with fail
  refine (hbase_any base mode rows K _ b0 b1 m0 m1 r0 r1 (by omega)).mono ?_
  rintro e w' ⟨b, y0, y1, rfl, rfl⟩
  go_wp2_with fail
  refine (hdump_any b (some ⟨g1, 0, none⟩) L K c1 _ HW1.out HLb.out HK.out (by omega)).mono ?_
  rintro e w2 ⟨v2, rfl, hres2⟩
  have HB2 : Hid (Below w'.heap.size w' w2) := hres2.below
  obtain ⟨g2, c2, hv2, hg2, hlc2, hcm2, hvw2⟩ := hres2.reads
  obtain ⟨N, hN⟩ : ∃ N : Nat, tLen K = N := ⟨_, rfl⟩
  have hcl : (cw b L K).length = N := by rw [← hN, ← HK.out]; exact cw_len b L
  have hN1 : N ≤ 1000000 := by rw [← hN]; unfold tLen; split <;> omega
  rw [hcl] at hv2 hlc2
  subst hv2
  have HW2 : Hid (Vw w2 (some ⟨g2, 0, none⟩) (cw b L K)) := hvw2
  have HCL : Hid ((cw b L K).length = N) := hcl
  have HCB : Hid (Bts (cw b L K)) := cw_bts b L HLb.out K
  have HGD : Hid (POk b (cw b L K) ↔ b + K ≤ 4294967296) := by
    have := cw_good b L HLb.out (by rw [HK.out]; omega) y0 y1
    rw [HK.out] at this; exact this
  have HOUT : Hid (outL (cw b L K) (dNat N) = L) := by
    have h1 := (tLen_data K (by omega)).2
    rw [hN] at h1
    have h2 := cw_out b L HLb.out
    rw [HK.out] at h2
    unfold Hid; rw [h1]; exact h2
  clear hres2 hvw2 hg2 hN hcl
  go_wp2_with fail
  refine (parse_any b (some ⟨g2, 0, none⟩) (cw b L K) N c2 _ y0 y1 HW2.out HCB.out HCL.out hlc2 hcm2 hN1).mono ?_
  rintro e w3 (⟨hno, rfl, hB3⟩ | ⟨hyes, v3, rfl, hres3⟩)
  · rw [HGD.out] at hno
    have HB3 : Hid (Below w2.heap.size w2 w3) := hB3
    have hgt : 4294967296 < b + (K : Int) := by omega
    clear hB3 hno
    go_wp2_with fail
    go_ret
    have z1 := HB1.out.size
    have z2 := HB2.out.size
    exact ⟨rfl, HB1.out.trans ((HB2.out.mono (by omega)).trans (HB3.out.mono (by omega)))⟩
  · rw [HGD.out] at hyes
    have hng : ¬ 4294967296 < b + (K : Int) := by omega
    rw [HOUT.out] at hres3
    have HB3 : Hid (Below w2.heap.size w2 w3) := hres3.below
    obtain ⟨g3, c3, hv3, hg3, hlc3, hcm3, hvw3⟩ := hres3.reads
    rw [HK.out] at hv3
    subst hv3
    have HW3 : Hid (Vw w3 (some ⟨g3, 0, none⟩) L) := hvw3
    have HL3 : Hid (Vw w3 (some ⟨g1, 0, none⟩) L) := (HW1.out.below HB2.out (Nat.le_refl _)).below HB3.out (Nat.le_refl _)
    clear hvw3 hres3 hg3 hyes
    go_wp2_with fail
    refine (heq_any _ _ L L K K c3 c1 _ HW3.out HL3.out HK.out HK.out (by omega) (by omega)).mono ?_
    rw [show decide (L = L) = true by simp]
    rintro e w4 ⟨rfl, hs⟩
    have HS : Hid (Same w3 w4) := hs
    clear hs
    go_wp2_with fail
    go_ret
    have z1 := HB1.out.size
    have z2 := HB2.out.size
    exact ⟨rfl, HB1.out.trans ((HB2.out.mono (by omega)).trans ((HB3.out.mono (by omega)).trans (HS.out.below _)))⟩
end Go.Proofs.Ymbrcs
