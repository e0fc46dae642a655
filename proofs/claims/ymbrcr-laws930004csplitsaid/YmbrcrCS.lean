import Derived.Test.YmbrcrCT
namespace Go.Proofs.Ymbrcr
open Go.RowKit

theorem cw_left (x : Int) (l1 l2 : List Int) (h16 : l1.length % 16 = 0) (k : Nat) (hk : k ≤ l1.length) : cw x (l1 ++ l2) k = cw x l1 k := by
  induction k with
  | zero => rfl
  | succ k ih =>
    have e : tlP (l1 ++ l2).length k = tlP l1.length k := by
      unfold tlP
      rw [List.length_append]
      by_cases h : k % 16 = 15 ∨ k + 1 = l1.length
      · rw [if_pos (by omega), if_pos h]
      · rw [if_neg (by omega), if_neg h]
    rw [cw, cw, ih (by omega), e, nth_left (by omega)]
theorem cw_right (x : Int) (l1 l2 : List Int) (h16 : l1.length % 16 = 0) (k : Nat) : cw x (l1 ++ l2) (l1.length + k) = cw x l1 l1.length ++ cw ((x + l1.length) % 4294967296) l2 k := by
  induction k with
  | zero => rw [Nat.add_zero, cw_left x l1 l2 h16 _ (Nat.le_refl _)]; simp [cw]
  | succ k ih =>
    have e1 : hdP x (l1.length + k) = hdP ((x + l1.length) % 4294967296) k := by
      unfold hdP
      have eo : (x + ((l1.length + k : Nat) : Int)) % 4294967296 = ((x + l1.length) % 4294967296 + k) % 4294967296 := by omega
      rw [eo]
      by_cases h : k % 16 = 0
      · rw [if_pos (by omega), if_pos h]
      · rw [if_neg (by omega), if_neg h]
    have e2 : tlP (l1 ++ l2).length (l1.length + k) = tlP l2.length k := by
      unfold tlP
      rw [List.length_append]
      by_cases h : k % 16 = 15 ∨ k + 1 = l2.length
      · rw [if_pos (by omega), if_pos h]
      · rw [if_neg (by omega), if_neg h]
    rw [← Nat.add_assoc, cw, cw, ih, e1, e2, nth_right']
    simp [List.append_assoc]

set_option maxHeartbeats 1000000 in
theorem csplit_walk (x r s t : Int) (a : Option Addr) (l : List Int) (m c : Nat) (w : World) (h0 : 0 ≤ x) (h1 : x < 4294967296) (r0 : 0 ≤ r) (_r1 : r < 256) (s0 : 0 ≤ s) (s1 : s < 256)
    (hv : Vw w a l) (hb : Bts l) (hn : l.length = m) (hc : m ≤ c) (hcm : c ≤ 9223372036854775807) :
    Calls Ycrm.prog 11 #[.int .u32 x, .int .u8 r, .int .u8 s, .int .u8 t, .slice a m c] w fun e w' => e = .returned (.bool true) ∧ Below w.heap.size w w' := by
  have hq := eqlNil
  by_cases hbig : 1024 < m
  · clear hv hb hn
    go_enter Ycrm.func11, Ycrm.ntmps11
    go_wp2_with fail
    go_ret
    exact ⟨rfl, Below.refl _ _⟩
  have HV : Hid (Vw w a l) := hv
  clear hv
  obtain ⟨N, hN⟩ : ∃ N : Nat, 16 * (r % 16 + 1) = N := ⟨(16 * (r % 16 + 1)).toNat, by omega⟩
  have hN16 : Hid (N % 16 = 0) := by unfold Hid; omega
  have hNle : N ≤ 256 := by omega
  have hNge : 16 ≤ N := by omega
  go_enter Ycrm.func11, Ycrm.ntmps11
  go_wp2_with fail
  refine (cfill_any N s t _ s0 s1 (by omega)).mono ?_
  rintro e w1 ⟨v1, rfl, hres⟩
  have HB1 : Hid (Below w.heap.size w w1) := hres.below
  obtain ⟨g1, c1, hv1, hg1, hlc1, hcm1, hvw1⟩ := hres.reads
  rw [filL_length] at hv1 hlc1
  subst hv1
  have HW1 : Hid (Vw w1 (some ⟨g1, 0, none⟩) (filL s t N)) := hvw1
  clear hvw1 hres hg1
  go_wp2_with fail
  refine (cfill_any N s t _ s0 s1 (by omega)).mono ?_
  rintro e w2 ⟨v2, rfl, hres2⟩
  have HB2 : Hid (Below w1.heap.size w1 w2) := hres2.below
  obtain ⟨g2, cs, hv2, hg2, ho2, hl2, hcm2, htk2⟩ := hres2.own
  rw [filL_length] at hv2 hl2 htk2
  subst hv2
  have hO : Org w2 (some ⟨g2, 0, none⟩) g2 0 N cs.length cs := ⟨hl2, by unfold maxLen; omega, fun _ => ⟨rfl, ho2, by omega⟩⟩
  have hA0 := App.start hO
  have HTK : Hid (cs.take N = filL s t N) := htk2
  have HO : Hid (Org w2 (some ⟨g2, 0, none⟩) g2 0 N cs.length cs) := hO
  have HG2 : Hid (w1.heap.size ≤ g2) := hg2
  clear hres2 ho2 htk2 hO hg2
  go_wp2_with fail
  go_loopw [13, 14] (fun v i wr => ∃ k : Nat, k ≤ m ∧ i = .int .i64 k ∧ App w2 (some ⟨g2, 0, none⟩) g2 0 N cs.length cs wr v (l.take k)) (fun _ i _ => m - (intOf i).toNat)
  case atStart => exact ⟨0, by omega, rfl, hA0⟩
  case round =>
    clear hA0
    obtain ⟨k, hk, rfl, happ⟩ := hrel
    have HBw : Hid (Below w1.heap.size w1 wr) := HB2.out.trans (happ.belowOf HB2.out.size (fun _ => HG2.out))
    have HVw : Hid (Vw wr a l) := (HV.out.below HB1.out (Nat.le_refl _)).below HBw.out (Nat.le_refl _)
    have HA : Hid _ := happ
    clear happ
    by_cases hlt : k < m
    · obtain ⟨b1, o1, rfl, hc1⟩ := HVw.out k (by omega)
      have HB : Hid (N + (l.take k).length + 1 ≤ 140737488355328) := by unfold Hid; simp; omega
      go_wp2_with (at_builtin; go_must (refine wpList_append_app _ rfl (.tmp 43) (.tmp 48) rfl bprog HO.out rfl (HA.out.alloc _) _ [nth l k] rfl (src_new bprog wr [nth l k] 1) HB.out ?_))
      intro v3 w3 happ3
      have HA3 : Hid (App w2 (some ⟨g2, 0, none⟩) g2 0 N cs.length cs w3 v3 (l.take (k + 1))) := by
        unfold Hid; rw [take_snoc (by omega)]; exact happ3
      clear happ3 HA hc1
      go_wp2_with fail
      go_roundw
      case rel => exact ⟨k + 1, by omega, by go_num, HA3.out⟩
      case measure => simp [intOf]; omega
    · obtain rfl : k = m := by omega
      have hr := HA.out.reads HO.out
      rw [show l.take k = l from List.take_of_length_le (by omega)] at hr
      obtain ⟨aw, cw1, hv3, hlc3, hcm3, hvw3⟩ := hr
      rw [hn] at hv3 hlc3
      subst hv3
      have hcm3' : cw1 ≤ 9223372036854775807 := by unfold maxLen at hcm3; omega
      have HW3 : Hid (Vw wr aw (filL s t N ++ l)) := by unfold Hid; rw [← HTK.out]; simpa using hvw3
      have hfl : (filL s t N ++ l).length = N + k := by rw [List.length_append, filL_length, hn]
      have HBt : Hid (Bts (filL s t N ++ l)) := (filL_bts s t N).app hb
      have HFL : Hid ((filL s t N ++ l).length = N + k) := hfl
      clear hvw3 hfl hcm3 HA
      cases hf : fitsB x ((N + k : Nat) : Int)
      · have hgt : 4294967296 < x + N + k := by unfold fitsB at hf; simp at hf; omega
        go_wp2_with fail
        refine (dump_no x _ (N + k) _ _ h0 h1 (by omega) hf).mono ?_
        rintro e w' ⟨rfl, rfl⟩
        clear hf
        go_wp2_with fail
        go_ret
        exact ⟨rfl, HB1.out.trans (HBw.out.mono HB1.out.size)⟩
      · have hle : x + N + k ≤ 4294967296 := by unfold fitsB at hf; simp at hf; omega
        go_wp2_with fail
        refine (dump_yes x _ (filL s t N ++ l) (N + k) _ _ h0 h1 HW3.out HBt.out HFL.out hlc3 hcm3' hf (by omega)).mono ?_
        rintro e w4 ⟨v4, rfl, hres4⟩
        have HB4 : Hid (Below wr.heap.size wr w4) := hres4.below
        obtain ⟨g4, c4, hv4, hg4, hlc4, hcm4, hvw4⟩ := hres4.reads
        have hcr := cw_right x (filL s t N) l (by rw [filL_length]; exact hN16.out) k
        rw [filL_length] at hcr
        rw [hcr] at hv4 hlc4 hvw4
        rw [List.length_append] at hv4 hlc4
        have HCR : Hid _ := hcr
        generalize hLA : cw x (filL s t N) N = LA at *
        generalize hLB : cw ((x + N) % 4294967296) l k = LB at *
        subst hv4
        have HW4 : Hid (Vw w4 (some ⟨g4, 0, none⟩) (LA ++ LB)) := hvw4
        have HLA : Hid (cw x (filL s t N) N = LA) := hLA
        have HLB : Hid (cw ((x + N) % 4294967296) l k = LB) := hLB
        clear hvw4 hres4 hg4 hcr hf hLA hLB
        have HV4 : Hid (Vw w4 a l) := HVw.out.below HB4.out (Nat.le_refl _)
        have HH4 : Hid (Vw w4 (some ⟨g1, 0, none⟩) (filL s t N)) := (HW1.out.below HBw.out (Nat.le_refl _)).below HB4.out (Nat.le_refl _)
        go_wp2_with fail
        refine (dump_yes x _ (filL s t N) N c1 _ h0 h1 HH4.out (filL_bts s t N) (filL_length s t N) hlc1 hcm1 ?hfA (by omega)).mono ?_
        case hfA => unfold fitsB; simp; omega
        rintro e w5 ⟨v5, rfl, hres5⟩
        rw [HLA.out] at hres5
        have HB5 : Hid (Below w4.heap.size w4 w5) := hres5.below
        obtain ⟨g5, c5, hv5, hg5, hlc5, hcm5, hvw5⟩ := hres5.reads
        subst hv5
        have HW5 : Hid (Vw w5 (some ⟨g5, 0, none⟩) LA) := hvw5
        clear hvw5 hres5 hg5
        go_wp2_with fail
        refine (dump_yes ((x + N) % 4294967296) _ l k c _ (by omega) (by omega) (HV4.out.below HB5.out (Nat.le_refl _)) hb hn hc hcm ?hfB (by omega)).mono ?_
        case hfB => unfold fitsB; simp; omega
        rintro e w6 ⟨v6, rfl, hres6⟩
        rw [HLB.out] at hres6
        have HB6 : Hid (Below w5.heap.size w5 w6) := hres6.below
        obtain ⟨g6, c6, hv6, hg6, hlc6, hcm6, hvw6⟩ := hres6.reads
        subst hv6
        have HW6 : Hid (Vw w6 (some ⟨g6, 0, none⟩) LB) := hvw6
        have HO6 : Hid (Vw w6 (some ⟨g4, 0, none⟩) (LA ++ LB)) := (HW4.out.below HB5.out (Nat.le_refl _)).below HB6.out (Nat.le_refl _)
        have HA6 : Hid (Vw w6 (some ⟨g5, 0, none⟩) LA) := HW5.out.below HB6.out (Nat.le_refl _)
        have HO6a : Hid (Vw w6 (some ⟨g4, 0, none⟩) LA) := by
          unfold Hid
          have := HO6.out.sub 0 LA.length (by simp)
          simpa using this
        have HO6b : Hid (Vw w6 (some ⟨g4, LA.length, none⟩) LB) := by
          unfold Hid
          have := HO6.out.sub LA.length LB.length (by simp)
          simpa using this
        clear hvw6 hres6 hg6
        have hlen : ((LA.length : Int) + (LB.length : Int) != (LA.length : Int) + (LB.length : Int)) = false := by simp
        have z1 := HB1.out.size
        have z2 := HBw.out.size
        have z4 := HB4.out.size
        have z5 := HB5.out.size
        have HBF : Hid (Below w.heap.size w w6) := HB1.out.trans ((HBw.out.mono (by omega)).trans ((HB4.out.mono (by omega)).trans ((HB5.out.mono (by omega)).trans (HB6.out.mono (by omega)))))
        clear z1 z2 z4 z5
        have htA : decide (LA = LA) = true := by simp
        have htB : decide (LB = LB) = true := by simp
        go_wp2_with fail
        refine (ceq_any _ _ LA LA _ _ _ _ _ HO6a.out HA6.out rfl rfl (by omega) (by omega)).mono ?_
        rintro e w7 ⟨rfl, hs7⟩
        have HS7 : Hid (Same w6 w7) := hs7
        clear hs7
        by_cases hcl : c4 = LA.length
        · have HLBn : Hid (LB = []) := List.eq_nil_of_length_eq_zero (by omega)
          go_wp2_with fail
          refine (ceq_any _ _ LB LB _ _ _ _ _ ?hvA (HW6.out.same HS7.out) (by omega) rfl (by omega) (by omega)).mono ?_
          case hvA => rw [HLBn.out]; exact Vw.nil _ _
          rintro e w8 ⟨rfl, hs8⟩
          have HS8 : Hid (Same w7 w8) := hs8
          clear hs8 hcl
          go_wp2_with fail
          go_ret
          exact ⟨rfl, HBF.out.trans ((HS7.out.below _).trans (HS8.out.below _))⟩
        · go_wp2_with fail
          refine (ceq_any _ _ LB LB _ _ _ _ _ (HO6b.out.same HS7.out) (HW6.out.same HS7.out) (by omega) rfl (by omega) (by omega)).mono ?_
          rintro e w8 ⟨rfl, hs8⟩
          have HS8 : Hid (Same w7 w8) := hs8
          clear hs8 hcl
          go_wp2_with fail
          go_ret
          exact ⟨rfl, HBF.out.trans ((HS7.out.below _).trans (HS8.out.below _))⟩
end Go.Proofs.Ymbrcr
