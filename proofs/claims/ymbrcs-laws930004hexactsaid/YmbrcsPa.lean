import Derived.Test.YmbrcsPLine
import Derived.Test.YmbrcsLen
namespace Go.Proofs.Ymbrcs
open Go.RowKit

/-! The lines of a text, and the bytes that it shows (plain). -/
def seg (T : List Int) (i : Nat) : List Int := (T.drop (58 * i)).take 58
theorem seg_length (T : List Int) (i : Nat) : (seg T i).length = min 58 (T.length - 58 * i) := by simp [seg]
theorem nth_seg (T : List Int) (i j : Nat) (h : j < 58) : nth (seg T i) j = nth T (58 * i + j) := by
  unfold seg; rw [nth_take h, nth_drop]
def segM (T : List Int) (i : Nat) : Nat := ((seg T i).length - 10) / 3
def LineGood (b : Int) (T : List Int) (i : Nat) : Prop := LOk (seg T i) (segM T i) ∧ offV (seg T i) 8 = (b + ((16 * i : Nat) : Int)) % 4294967296
/-- How many bytes N signs show. -/
def dNat (N : Nat) : Nat := N / 58 * 16 + (N % 58 - 10) / 3
theorem dNat_eq (N : Nat) (h : DataOk (N : Int)) : dataN (N : Int) = (dNat N : Nat) := by
  obtain ⟨_, h1, _⟩ := h
  unfold dataN dNat
  rcases h1 with h1 | ⟨h1, h2⟩
  · rw [if_neg (by omega)]; omega
  · rw [if_pos (by omega)]; omega
structure POk (b : Int) (T : List Int) : Prop where
  len : DataOk (T.length : Int)
  fits : b + dNat T.length ≤ 4294967296
  lines : ∀ i, 58 * i < T.length → LineGood b T i
def posP (i : Nat) : Nat := i / 16 * 58 + 10 + 3 * (i % 16)
def pairAt (T : List Int) (i : Nat) : Int := hexVal (nth T (posP i)) * 16 + hexVal (nth T (posP i + 1))
def outL (T : List Int) : Nat → List Int
  | 0 => []
  | k + 1 => outL T k ++ [pairAt T k]
theorem outL_length (T : List Int) (k : Nat) : (outL T k).length = k := by
  induction k with
  | zero => rfl
  | succ k ih => simp [outL, ih]
theorem nth_outL (T : List Int) (k i : Nat) (h : i < k) : nth (outL T k) i = pairAt T i := by
  induction k with
  | zero => omega
  | succ k ih =>
    rw [outL]
    by_cases hi : i < k
    · rw [nth_left (by rw [outL_length]; exact hi)]; exact ih hi
    · obtain rfl : i = k := by omega
      rw [nth_right (by rw [outL_length]; omega), outL_length, Nat.sub_self, nth_zero]
theorem outL_line (T : List Int) (i : Nat) : ∀ m, m ≤ 16 → outL T (16 * i + m) = outL T (16 * i) ++ rowL (seg T i) m
  | 0, _ => by simp [rowL]
  | m + 1, h => by
    rw [← Nat.add_assoc, outL, outL_line T i m (by omega), rowL, List.append_assoc]
    congr 2
    unfold pairAt
    rw [nth_seg T i (10 + 3 * m) (by omega), nth_seg T i (11 + 3 * m) (by omega)]
    have e : posP (16 * i + m) = 58 * i + (10 + 3 * m) := by unfold posP; omega
    rw [e, show 58 * i + (10 + 3 * m) + 1 = 58 * i + (11 + 3 * m) by omega]

set_option maxRecDepth 20000 in
set_option maxHeartbeats 3200000 in
/-- Parse. -/
theorem parse_any (b : Int) (a : Option Addr) (T : List Int) (N c : Nat) (w : World) (h0 : 0 ≤ b) (h1 : b < 4294967296) (hv : Vw w a T) (hb : Bts T) (hn : T.length = N) (hc : N ≤ c) (hcm : c ≤ 9223372036854775807) (hbd : N ≤ 1000000) :
    Calls Ycsm.prog 27 #[.int .u32 b, .slice a N c] w fun e w' =>
      (¬ POk b T ∧ e = .returned (.tuple #[.slice none 0 0, .bool false]) ∧ Below w.heap.size w w') ∨
      (POk b T ∧ ∃ v, e = .returned (.tuple #[v, .bool true]) ∧ Res w w' v (outL T (dNat N))) := by
  have HV : Hid (Vw w a T) := hv
  have HN : Hid (T.length = N) := hn
  clear hv hn
  by_cases hd : DataOk (N : Int)
  case neg =>
    have H : Hid (¬ POk b T) := fun h => hd (by have := h.len; rwa [HN.out] at this)
    go_enter Ycsm.func27, Ycsm.ntmps27
    go_wp2_with fail
    refine (dataLen_no (N : Int) _ hd (by omega)).mono ?_
    rintro e w' ⟨rfl, rfl⟩
    go_wp2_with fail
    go_ret2
    exact .inl ⟨H.out, rfl, Below.refl _ _⟩
  obtain ⟨M, hM⟩ : ∃ M : Nat, dNat N = M := ⟨_, rfl⟩
  have hdn : dataN (N : Int) = (M : Int) := by rw [dNat_eq N hd, hM]
  have hM1 : M ≤ N := by unfold dNat at hM; omega
  have HDN : Hid (N / 58 * 16 + (N % 58 - 10) / 3 = M ∧ (N % 58 = 0 ∨ 13 ≤ N % 58)) := by
    refine ⟨hM, ?_⟩
    obtain ⟨_, h2, _⟩ := hd
    omega
  have HD : Hid (DataOk (N : Int)) := hd
  rw [hM]
  go_enter Ycsm.func27, Ycsm.ntmps27
  go_wp2_with fail
  refine (dataLen_yes (N : Int) _ hd (by omega)).mono ?_
  rw [hdn]
  rintro e w' ⟨rfl, rfl⟩
  clear hdn
  go_wp2_with fail
  refine (fits_any b M _ h0 h1).mono ?_
  rintro e w0 ⟨rfl, rfl⟩
  cases hf : fitsB b M
  · have H : Hid (¬ POk b T) := fun h => by
      have := h.fits
      rw [HN.out, hM] at this
      unfold fitsB at hf; simp at hf; omega
    clear hf hd
    go_wp2_with fail
    go_ret2
    exact .inl ⟨H.out, rfl, Below.refl _ _⟩
  have hfit : b + M ≤ 4294967296 := by unfold fitsB at hf; simp at hf; omega
  have HPO : Hid ((∀ i, 58 * i < N → LineGood b T i) → POk b T) := fun h => ⟨by rw [HN.out]; exact HD.out, by rw [HN.out, hM]; exact hfit, by rw [HN.out]; exact h⟩
  clear hf hd hM
  go_wp2_with fail
  have HVW : Hid (Vw (w0.alloc (.cells #[] 5)) a T) := HV.out.below ((Below.refl w0.heap.size _).alloc (Nat.le_refl _) _) (Nat.le_refl _)
  go_loopw [8, 9] (fun v x wr => ∃ i p k : Nat, p ≤ N ∧ x = .int .i64 p ∧ (p < N → p = 58 * i ∧ k = 16 * i) ∧ (p = N → k = M) ∧ (∀ j, 58 * j < p → LineGood b T j) ∧ App (w0.alloc (.cells #[] 5)) (some ⟨w0.heap.size, 0, none⟩) 0 0 0 0 [] wr v (outL T k)) (fun _ x _ => N - (intOf x).toNat)
  case atStart => exact ⟨0, 0, 0, by omega, rfl, fun _ => ⟨rfl, rfl⟩, fun h => by have := HDN.out; omega, fun j hj => by omega, app_fresh _⟩
  case round =>
    obtain ⟨i, p, k, hp, rfl, hpi, hpn, hall, happ⟩ := hrel
    have HAL : Hid (∀ j, 58 * j < p → LineGood b T j) := hall
    have HP : Hid (App (w0.alloc (.cells #[] 5)) (some ⟨w0.heap.size, 0, none⟩) 0 0 0 0 [] wr _ (outL T k)) := happ
    have HBe : Hid (Below w0.heap.size w0 wr) := happ.res.below
    clear hall
    by_cases hlt : p < N
    · obtain ⟨hpi, hki⟩ := hpi hlt
      have HPI : Hid (p = 58 * i) := hpi
      have HKI : Hid (k = 16 * i) := hki
      have HLI : Hid (58 * i < T.length) := by unfold Hid; rw [HN.out]; omega
      have hkM : k < M := by have := HDN.out; omega
      have hbk : b + (k : Int) < 4294967296 := by omega
      have HVr : Hid (Vw wr a T) := HP.out.oldVw HVW.out (fun b off e hc => absurd hc (Nat.lt_irrefl _))
      obtain ⟨a9, c9, hv9⟩ := happ.shape
      rw [outL_length, Nat.zero_add] at hv9
      subst hv9
      obtain ⟨b1, o1, rfl, _⟩ := HV.out p (by rw [HN.out]; exact hlt)
      have hcp : ¬ c = p := by omega
      clear happ hpi hki hpn
      by_cases hbig : 58 < N - p
      · have hs : (seg T i).length = 58 := by rw [seg_length, HN.out]; have := HPI.out; omega
        have hm : segM T i = 16 := by unfold segM; rw [hs]
        have HSG : Hid ((T.drop p).take (58) = seg T i) := by
          unfold Hid seg; rw [HPI.out]
        have HSM : Hid (segM T i = 16) := hm
        have HSL : Hid ((seg T i).length = 58) := hs
        have HSB : Hid (Bts (seg T i)) := by have := (hb.drop p).take (58); rw [HSG.out] at this; exact this
        have HSV : Hid (Vw wr (some ⟨b1, o1 + p, none⟩) (seg T i)) := by
          have := HVr.out.sub p (58) (by have := HN.out; omega)
          rw [HSG.out] at this; exact this
        have HOL : Hid (outL T k ++ rowL (seg T i) (16) = outL T (k + 16)) := by
          have hke : k + (16) = k + 16 := by have := HKI.out; have := HPI.out; have := HDN.out; omega
          unfold Hid; rw [← hke, HKI.out]; exact (outL_line T i (16) (by have := HN.out; omega)).symm
        have hLG : LineGood b T i ↔ LOk (seg T i) (16) ∧ offV (seg T i) 8 = b + k := by
          unfold LineGood; rw [hm, HKI.out, Int.emod_eq_of_lt (by have := HKI.out; omega) (by have := HKI.out; omega)]
        have HLG : Hid (LineGood b T i ↔ LOk (seg T i) (16) ∧ offV (seg T i) 8 = b + k) := hLG
        clear hs hm hLG
        go_wp2_with fail
        refine (parseLine_any _ (seg T i) (58) (c - p) _ HSV.out HSB.out HSL.out (by omega) (by omega) (by omega)).mono ?_
        rintro e w2 (⟨hno, rfl, hB2⟩ | ⟨hyes, v2, rfl, hres2⟩)
        · have H : Hid (¬ POk b T) := fun h => hno (HLG.out.1 (h.lines i HLI.out)).1
          have HB2 : Hid (Below w0.heap.size w0 w2) := HBe.out.trans (hB2.mono HBe.out.size)
          clear hno hB2
          go_wp2_with fail
          go_ret2
          exact .inl ⟨H.out, rfl, HB2.out⟩
        · have HB2 : Hid (Below w0.heap.size w0 w2) := HBe.out.trans (hres2.below.mono HBe.out.size)
          by_cases hoff : offV (seg T i) 8 = b + k
          · have hoff' : (offV (seg T i) 8 != b + (k : Int)) = false := by simp [hoff]
            have HAL2 : Hid (∀ j, 58 * j < p + 58 → LineGood b T j) := fun j hj => by
              by_cases h : j = i
              · subst h; exact HLG.out.2 ⟨hyes, hoff⟩
              · exact HAL.out j (by have := HPI.out; omega)
            have HP2 : Hid _ := HP.out.carry hres2.below
            obtain ⟨g2, c2, hv2, hg2, hlc2, hcm2, hvw2⟩ := hres2.reads
            have HLr : Hid ((rowL (seg T i) (16)).length = 16) := rowL_length _ _
            rw [rowL_length] at hv2
            subst hv2
            have HW2 : Hid (Vw w2 (some ⟨g2, 0, none⟩) (rowL (seg T i) (16))) := hvw2
            have HBd : Hid (0 + (outL T k).length + (rowL (seg T i) (16)).length ≤ 140737488355328) := by unfold Hid; rw [rowL_length, outL_length]; omega
            clear hyes hoff hres2 hvw2 hg2 HP hlc2 hcm2
            go_wp2_with (at_builtin; go_must (refine wpList_append_app _ rfl (.tmp 61) (.tmp 62) rfl bprog (org_fresh w0) rfl HP2.out _ (rowL (seg T i) (16)) rfl (src_vw bprog _ _ (rowL (seg T i) (16)) _ _ HLr.out HW2.out) HBd.out ?_))
            intro v3 w3 happ3
            rw [HOL.out] at happ3
            have HP3 : Hid (App (w0.alloc (.cells #[] 5)) (some ⟨w0.heap.size, 0, none⟩) 0 0 0 0 [] w3 v3 (outL T (k + 16))) := happ3
            clear happ3 HP2
            go_wp2_with fail
            go_roundw
            case rel => exact ⟨i + 1, p + 58, k + 16, by omega, by go_num, fun _ => by have := HPI.out; have := HKI.out; omega, fun h => by have := HPI.out; have := HKI.out; have := HDN.out; omega, HAL2.out, HP3.out⟩
            case measure => simp [intOf]; omega
          · have hoff' : (offV (seg T i) 8 != b + (k : Int)) = true := by simp [hoff]
            have H : Hid (¬ POk b T) := fun h => hoff (HLG.out.1 (h.lines i HLI.out)).2
            obtain ⟨g2, c2, hv2, hg2, hlc2, hcm2, hvw2⟩ := hres2.reads
            rw [rowL_length] at hv2
            subst hv2
            clear hoff hyes hres2 hvw2 hg2 hlc2 hcm2
            go_wp2_with fail
            go_ret2
            exact .inl ⟨H.out, rfl, HB2.out⟩
      · have hs : (seg T i).length = N - p := by rw [seg_length, HN.out]; have := HPI.out; omega
        have hm : segM T i = (N - p - 10) / 3 := by unfold segM; rw [hs]
        have HSG : Hid ((T.drop p).take (N - p) = seg T i) := by
          unfold Hid seg; rw [HPI.out]; rw [List.take_of_length_le (by rw [List.length_drop, HN.out]; have := HPI.out; omega), List.take_of_length_le (by rw [List.length_drop, HN.out]; have := HPI.out; omega)]
        have HSM : Hid (segM T i = (N - p - 10) / 3) := hm
        have HSL : Hid ((seg T i).length = N - p) := hs
        have HSB : Hid (Bts (seg T i)) := by have := (hb.drop p).take (N - p); rw [HSG.out] at this; exact this
        have HSV : Hid (Vw wr (some ⟨b1, o1 + p, none⟩) (seg T i)) := by
          have := HVr.out.sub p (N - p) (by have := HN.out; omega)
          rw [HSG.out] at this; exact this
        have HOL : Hid (outL T k ++ rowL (seg T i) ((N - p - 10) / 3) = outL T (M)) := by
          have hke : k + ((N - p - 10) / 3) = M := by have := HKI.out; have := HPI.out; have := HDN.out; omega
          unfold Hid; rw [← hke, HKI.out]; exact (outL_line T i ((N - p - 10) / 3) (by have := HN.out; omega)).symm
        have hLG : LineGood b T i ↔ LOk (seg T i) ((N - p - 10) / 3) ∧ offV (seg T i) 8 = b + k := by
          unfold LineGood; rw [hm, HKI.out, Int.emod_eq_of_lt (by have := HKI.out; omega) (by have := HKI.out; omega)]
        have HLG : Hid (LineGood b T i ↔ LOk (seg T i) ((N - p - 10) / 3) ∧ offV (seg T i) 8 = b + k) := hLG
        clear hs hm hLG
        go_wp2_with fail
        refine (parseLine_any _ (seg T i) (N - p) (c - p) _ HSV.out HSB.out HSL.out (by omega) (by omega) (by omega)).mono ?_
        rintro e w2 (⟨hno, rfl, hB2⟩ | ⟨hyes, v2, rfl, hres2⟩)
        · have H : Hid (¬ POk b T) := fun h => hno (HLG.out.1 (h.lines i HLI.out)).1
          have HB2 : Hid (Below w0.heap.size w0 w2) := HBe.out.trans (hB2.mono HBe.out.size)
          clear hno hB2
          go_wp2_with fail
          go_ret2
          exact .inl ⟨H.out, rfl, HB2.out⟩
        · have HB2 : Hid (Below w0.heap.size w0 w2) := HBe.out.trans (hres2.below.mono HBe.out.size)
          by_cases hoff : offV (seg T i) 8 = b + k
          · have hoff' : (offV (seg T i) 8 != b + (k : Int)) = false := by simp [hoff]
            have HAL2 : Hid (∀ j, 58 * j < N → LineGood b T j) := fun j hj => by
              by_cases h : j = i
              · subst h; exact HLG.out.2 ⟨hyes, hoff⟩
              · exact HAL.out j (by have := HPI.out; omega)
            have HP2 : Hid _ := HP.out.carry hres2.below
            obtain ⟨g2, c2, hv2, hg2, hlc2, hcm2, hvw2⟩ := hres2.reads
            have HLr : Hid ((rowL (seg T i) ((N - p - 10) / 3)).length = (N - p - 10) / 3) := rowL_length _ _
            rw [rowL_length] at hv2
            subst hv2
            have HW2 : Hid (Vw w2 (some ⟨g2, 0, none⟩) (rowL (seg T i) ((N - p - 10) / 3))) := hvw2
            have HBd : Hid (0 + (outL T k).length + (rowL (seg T i) ((N - p - 10) / 3)).length ≤ 140737488355328) := by unfold Hid; rw [rowL_length, outL_length]; omega
            clear hyes hoff hres2 hvw2 hg2 HP hlc2 hcm2
            go_wp2_with (at_builtin; go_must (refine wpList_append_app _ rfl (.tmp 61) (.tmp 62) rfl bprog (org_fresh w0) rfl HP2.out _ (rowL (seg T i) ((N - p - 10) / 3)) rfl (src_vw bprog _ _ (rowL (seg T i) ((N - p - 10) / 3)) _ _ HLr.out HW2.out) HBd.out ?_))
            intro v3 w3 happ3
            rw [HOL.out] at happ3
            have HP3 : Hid (App (w0.alloc (.cells #[] 5)) (some ⟨w0.heap.size, 0, none⟩) 0 0 0 0 [] w3 v3 (outL T (M))) := happ3
            clear happ3 HP2
            go_wp2_with fail
            go_roundw
            case rel => exact ⟨i, N, M, by omega, by go_num, fun h => by omega, fun _ => rfl, HAL2.out, HP3.out⟩
            case measure => simp [intOf]; omega
          · have hoff' : (offV (seg T i) 8 != b + (k : Int)) = true := by simp [hoff]
            have H : Hid (¬ POk b T) := fun h => hoff (HLG.out.1 (h.lines i HLI.out)).2
            obtain ⟨g2, c2, hv2, hg2, hlc2, hcm2, hvw2⟩ := hres2.reads
            rw [rowL_length] at hv2
            subst hv2
            clear hoff hyes hres2 hvw2 hg2 hlc2 hcm2
            go_wp2_with fail
            go_ret2
            exact .inl ⟨H.out, rfl, HB2.out⟩
    · obtain rfl : p = N := by omega
      have hpp : decide ((p : Int) < (p : Int)) = false := by simp
      obtain rfl : k = M := hpn rfl
      have H : Hid (POk b T) := HPO.out (fun i hi => HAL.out i hi)
      have HR : Hid _ := happ.res
      clear HP happ hpi hpn
      go_wp2_with fail
      go_ret2
      exact .inr ⟨H.out, _, rfl, HR.out⟩
end Go.Proofs.Ymbrcs
