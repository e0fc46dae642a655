import Derived.Test.YmbrcsE
namespace Go.Proofs.Ymbrcs
open Go.RowKit

theorem hexL_dec (l : List Int) (h : decOk l = true) : hexL (dec l (l.length / 2)) = l := by
  obtain ⟨hev, hok⟩ := (decOk_iff l).1 h
  have hl : (hexL (dec l (l.length / 2))).length = l.length := by rw [hexL_length, dec_length]; omega
  apply ext_nth hl
  intro j hj
  rw [hl] at hj
  have h2 := nth_hexL (dec l (l.length / 2)) (j / 2) (by rw [dec_length]; omega)
  rw [nth_dec l _ (j / 2) (by omega)] at h2
  have v1 := hexVal_bd (nth l (2 * (j / 2)))
  have v2 := hexVal_bd (nth l (2 * (j / 2) + 1))
  have d1 := dg_hexVal _ (hok (2 * (j / 2)) (by omega))
  by_cases hi : j % 2 = 0
  · have e : j = 2 * (j / 2) := by omega
    rw [e, h2.1, show (hexVal (nth l (2 * (j / 2))) * 16 + hexVal (nth l (2 * (j / 2) + 1))) / 16 = hexVal (nth l (2 * (j / 2))) by omega, d1]
  · have e : j = 2 * (j / 2) + 1 := by omega
    have d2 := dg_hexVal _ (hok (2 * (j / 2) + 1) (by omega))
    rw [e, h2.2, show (hexVal (nth l (2 * (j / 2))) * 16 + hexVal (nth l (2 * (j / 2) + 1))) % 16 = hexVal (nth l (2 * (j / 2) + 1)) by omega, d2]
theorem take_set (cs : List Int) (T k : Nat) (x : Int) (hk : k < T) (hT : T ≤ cs.length) : (cs.set k x).take T = (cs.take T).set k x := by
  have hl : (cs.take T).length = T := by simp; omega
  apply ext_nth
  · simp
  · intro j hj
    have hj' : j < T := by simp at hj; omega
    rw [nth_take hj', nth_set (by omega), nth_set (by omega), nth_take hj']
theorem set_bts {l : List Int} (h : Bts l) (k : Nat) (hk : k < l.length) {x : Int} (h0 : 0 ≤ x) (h1 : x < 256) : Bts (l.set k x) := fun i => by
  rw [nth_set hk]; split
  · exact ⟨h0, h1⟩
  · exact h i
theorem decOk_set (l : List Int) (hb : Bts l) (k : Nat) (hk : k < 2 * l.length) (x : Int) : decOk ((hexL l).set k x) = hexOk x := by
  have hhl : (hexL l).length = 2 * l.length := hexL_length l
  have hok := ((decOk_iff _).1 (hexL_ok l hb)).2
  cases hx : hexOk x
  · rw [decOk_no]; intro h
    have := h.2 k (by rw [List.length_set]; omega)
    rw [nth_set (by omega), if_pos rfl, hx] at this
    exact absurd this (by decide)
  · rw [decOk_iff]
    refine ⟨by rw [List.length_set]; omega, fun i hi => ?_⟩
    rw [List.length_set] at hi
    rw [nth_set (by omega)]
    split
    · exact hx
    · exact hok i hi

set_option maxRecDepth 20000 in
set_option maxHeartbeats 3200000 in
theorem espoil_walk (a : Option Addr) (l : List Int) (n c : Nat) (y z x : Int) (w : World) (hv : Vw w a l) (hb : Bts l) (hn : l.length = n) (y0 : 0 ≤ y) (y1 : y < 256) (z0 : 0 ≤ z) (_z1 : z < 18446744073709551616) (x0 : 0 ≤ x) (x1 : x < 256) :
    Calls Ycsm.prog 5 #[.slice a n c, .int .u8 y, .int .u64 z, .int .u8 x] w fun e w' => e = .returned (.bool true) ∧ Below w.heap.size w w' := by
  have hq := eqlNil
  have hq' := neqNil
  have HV : Hid (Vw w a l) := hv
  clear hv
  by_cases hbig : 1024 < n
  · go_enter Ycsm.func5, Ycsm.ntmps5
    go_wp2_with fail
    go_ret
    exact ⟨rfl, Below.refl _ _⟩
  go_enter Ycsm.func5, Ycsm.ntmps5
  go_wp2_with fail
  refine (etext_any a l n c _ HV.out hb hn (by omega)).mono ?_
  rintro e w1 ⟨v1, rfl, hres⟩
  have HB1 : Hid (Below w.heap.size w w1) := hres.below
  obtain ⟨g, cs, hv1, hg, ho1, hlc, hcm1, htk⟩ := hres.own
  rw [hexL_length, hn] at hv1 hlc htk
  subst hv1
  have hO : Org w1 (some ⟨g, 0, none⟩) g 0 (2 * n) cs.length cs := ⟨hlc, by unfold maxLen; omega, fun _ => ⟨rfl, ho1, by omega⟩⟩
  have HO : Hid (Org w1 (some ⟨g, 0, none⟩) g 0 (2 * n) cs.length cs) := hO
  have HO1 : Hid (OwnB w1 g cs) := ho1
  have HG : Hid (w.heap.size ≤ g) := hg
  have HTK : Hid (cs.take (2 * n) = hexL l) := htk
  clear hres hg ho1 htk hO
  go_wp2_with fail
  have HV1 : Hid (Vw (w1.alloc (.cells #[.int .u8 y] 5)) (some ⟨w1.heap.size, 0, none⟩) [y]) := by
    have := (OwnB.new w1 [y]).vw (off := 0) (n := 1) (by simp)
    exact this
  refine (etext_any _ [y] 1 1 _ HV1.out (Bts.nil.cons y0 y1) rfl (by omega)).mono ?_
  rintro e w2 ⟨v2, rfl, hres2⟩
  have HB2 : Hid (Below w1.heap.size w1 w2) := ((Below.refl w1.heap.size w1).alloc (Nat.le_refl _) (.cells #[.int .u8 y] 5)).trans (hres2.below.mono (by simp))
  obtain ⟨g2, c2, hv2, hg2, hlc2, hcm2, hvw2⟩ := hres2.reads
  rw [hexL_length] at hv2
  subst hv2
  have HA2 : Hid (App w1 (some ⟨g, 0, none⟩) g 0 (2 * n) cs.length cs w2 (.slice (some ⟨g, 0, none⟩) (2 * n) cs.length) []) := (App.start HO.out).carry HB2.out
  have HW2 : Hid (Vw w2 (some ⟨g2, 0, none⟩) (hexL [y])) := hvw2
  have HLy : Hid ((hexL [y]).length = 2 * [y].length) := hexL_length _
  have HBd : Hid (2 * n + ([] : List Int).length + (hexL [y]).length ≤ 140737488355328) := by unfold Hid; rw [hexL_length]; simp; omega
  clear hvw2 hres2 hg2 hlc2 hcm2
  go_wp2_with (at_builtin; go_must (refine wpList_append_app _ rfl (.tmp 19) (.tmp 22) rfl bprog HO.out rfl HA2.out _ (hexL [y]) rfl (src_vw bprog _ _ (hexL [y]) _ _ HLy.out HW2.out) HBd.out ?_))
  intro v3 w3 happ3
  have HB3 : Hid (Below w.heap.size w w3) := HB1.out.trans (happ3.belowOf HB1.out.size (fun _ => HG.out))
  obtain ⟨g3, cs3, hv3, hg3, ho3, hlc3, hcm3, htk3⟩ := happ3.owned HO1.out HO.out.le HO.out.max
  rw [HLy.out] at hv3 hlc3 htk3
  have hT : 2 * n + 2 * [y].length = 2 * n + 2 := by simp
  rw [hT] at hv3 hlc3 htk3
  rw [HTK.out, ← hexL_append] at htk3
  subst hv3
  have HG3 : Hid (w.heap.size ≤ g3) := by
    unfold Hid; have := HG.out; have := HB1.out.size; omega
  have HO3 : Hid (OwnB w3 g3 cs3) := ho3
  have HTK3 : Hid (cs3.take (2 * n + 2) = hexL (l ++ [y])) := htk3
  have HLL : Hid ((l ++ [y]).length = n + 1) := by unfold Hid; simp [hn]
  have HBy : Hid (Bts (l ++ [y])) := hb.app (Bts.nil.cons y0 y1)
  clear happ3 hg3 ho3 htk3 hT HA2 HW2 HLy HBd HO HO1 HTK
  obtain ⟨k, hk⟩ : ∃ k : Nat, z % ((2 * n + 2 : Nat) : Int) = k := ⟨(z % ((2 * n + 2 : Nat) : Int)).toNat, by have := Int.emod_nonneg z (show ((2 * n + 2 : Nat) : Int) ≠ 0 by omega); omega⟩
  have hkT : k < 2 * n + 2 := by have := Int.emod_lt_of_pos z (show (0 : Int) < ((2 * n + 2 : Nat) : Int) by omega); omega
  have hk' : z % (2 * (n : Int) + 2) = k := by rw [← hk]; congr 1
  clear hk
  have hc := HO3.out.cell (i := k) (by omega)
  have hf := HO3.out.free k
  go_wp2_with fail
  have hhl : (hexL (l ++ [y])).length = 2 * n + 2 := by rw [hexL_length, HLL.out]; omega
  have HO4 : Hid (OwnB (w3.setCell ⟨g3, k, none⟩ (.int .u8 x)) g3 (cs3.set k x)) := HO3.out.set k x
  have HB4 : Hid (Below w.heap.size w (w3.setCell ⟨g3, k, none⟩ (.int .u8 x))) := HB3.out.setCell HG3.out _
  have HL4 : Hid (((hexL (l ++ [y])).set k x).length = 2 * n + 2) := by unfold Hid; rw [List.length_set]; exact hhl
  have HV4 : Hid (Vw (w3.setCell ⟨g3, k, none⟩ (.int .u8 x)) (some ⟨g3, 0, none⟩) ((hexL (l ++ [y])).set k x)) := by
    unfold Hid
    have := HO4.out.vw (off := 0) (n := 2 * n + 2) (by rw [List.length_set]; omega)
    rw [List.drop_zero, take_set cs3 (2 * n + 2) k x hkT hlc3, HTK3.out] at this
    exact this
  have HBt : Hid (Bts ((hexL (l ++ [y])).set k x)) := set_bts (hexL_bts _ HBy.out) k (by omega) x0 x1
  have HDK : Hid (decOk ((hexL (l ++ [y])).set k x) = hexOk x) := decOk_set _ HBy.out k (by rw [HLL.out]; omega) x
  clear hc hf hhl
  generalize w3.setCell ⟨g3, k, none⟩ (.int .u8 x) = w4 at *
  generalize hLs : (hexL (l ++ [y])).set k x = Ls at *
  clear hLs
  refine (decode_any _ (Ls.take (2 * n + 1)) (2 * n + 1) cs3.length _ (HV4.out.take _) (HBt.out.take _) ?hlt (by omega)).mono ?_
  case hlt => have := HL4.out; simp; omega
  rintro e w5 (⟨_, rfl, hB5⟩ | ⟨h1, _⟩)
  case inr =>
    have := ((decOk_iff _).1 h1).1
    have h3 := HL4.out
    simp at this
    omega
  have HB5 : Hid (Below w4.heap.size w4 w5) := hB5
  clear hB5
  go_wp2_with fail
  refine (decode_any _ Ls (2 * n + 2) cs3.length _ (HV4.out.below HB5.out (Nat.le_refl _)) HBt.out HL4.out (by omega)).mono ?_
  rintro e w6 (⟨h1, rfl, hB6⟩ | ⟨h1, v6, rfl, hres6⟩)
  · rw [HDK.out] at h1
    have hi := iV_no x h1
    have HB6 : Hid (Below w5.heap.size w5 w6) := hB6
    clear hB6 h1
    go_wp2_with fail
    refine (eval_any x _).mono ?_
    rintro e w' ⟨rfl, rfl⟩
    go_wp2_with fail
    go_ret
    have z4 := HB4.out.size
    have z5 := HB5.out.size
    exact ⟨rfl, HB4.out.trans ((HB5.out.mono (by omega)).trans (HB6.out.mono (by omega)))⟩
  · have h1' := h1
    rw [HDK.out] at h1
    have hi := iV_yes x h1
    have hvb := hexVal_bd x
    have HB6 : Hid (Below w5.heap.size w5 w6) := hres6.below
    obtain ⟨g6, c6, hv6, hg6, hlc6, hcm6, hvw6⟩ := hres6.reads
    have hL4 := HL4.out
    have he := hexL_dec Ls h1'
    rw [hL4] at he
    rw [dec_length] at hv6
    have e1 : (2 * n + 2) / 2 = n + 1 := by omega
    rw [e1] at hv6 hvw6 he
    subst hv6
    have HE : Hid (hexL (dec Ls (n + 1)) = Ls) := he
    have HW6 : Hid (Vw w6 (some ⟨g6, 0, none⟩) (dec Ls (n + 1))) := hvw6
    clear hvw6 hres6 hg6 he h1 h1' hL4 e1
    go_wp2_with fail
    refine (eval_any x _).mono ?_
    rintro e w' ⟨rfl, rfl⟩
    go_wp2_with fail
    refine (etext_any _ (dec Ls (n + 1)) (n + 1) c6 _ HW6.out (dec_bts _ _) (dec_length _ _) (by omega)).mono ?_
    rintro e w7 ⟨v7, rfl, hres7⟩
    rw [HE.out] at hres7
    have HB7 : Hid (Below w'.heap.size w' w7) := hres7.below
    obtain ⟨g7, c7, hv7, hg7, hlc7, hcm7, hvw7⟩ := hres7.reads
    rw [HL4.out] at hv7
    subst hv7
    have HW7 : Hid (Vw w7 (some ⟨g7, 0, none⟩) Ls) := hvw7
    have HV7 : Hid (Vw w7 (some ⟨g3, 0, none⟩) Ls) := ((HV4.out.below HB5.out (Nat.le_refl _)).below HB6.out (Nat.le_refl _)).below HB7.out (Nat.le_refl _)
    clear hvw7 hres7 hg7
    have ht : decide (Ls = Ls) = true := by simp
    go_wp2_with fail
    refine (esame_any _ _ Ls Ls (2 * n + 2) (2 * n + 2) c7 cs3.length _ HW7.out HV7.out HL4.out HL4.out (by omega) (by omega)).mono ?_
    rintro e w8 ⟨rfl, hs⟩
    have HS : Hid (Same w7 w8) := hs
    clear hs
    go_wp2_with fail
    go_ret
    have z4 := HB4.out.size
    have z5 := HB5.out.size
    have z6 := HB6.out.size
    exact ⟨rfl, HB4.out.trans ((HB5.out.mono (by omega)).trans ((HB6.out.mono (by omega)).trans ((HB7.out.mono (by omega)).trans (HS.out.below _))))⟩
end Go.Proofs.Ymbrcs
