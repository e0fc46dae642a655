import Derived.Test.YmbrctLS
namespace Go.Proofs.Ymbrct
open Go.RowKit

set_option maxRecDepth 20000 in
set_option maxHeartbeats 3200000 in
theorem lspec_any (a : Option Addr) (l : List Int) (N c : Nat) (w : World) (hv : Vw w a l) (hb : Bts l) (hn : l.length = N) (hbd : N ≤ 1000000) :
    Calls Yctm.prog 24 #[.slice a N c] w (LRes l ((N - 10) / 3) w) := by
  obtain ⟨m, hm⟩ : ∃ m : Nat, (N - 10) / 3 = m := ⟨_, rfl⟩
  rw [hm]
  have HV : Hid (Vw w a l) := hv
  have HM : Hid ((N - 10) / 3 = m) := hm
  have HL : Hid (l.length = N) := hn
  clear hv hm hn
  go_enter Yctm.func24, Yctm.ntmps24
  go_wp2_with fail
  go_loop [5, 6] (fun x i => ∃ k : Nat, 1 ≤ k ∧ k ≤ 17 ∧ i = .int .i64 k ∧ x = .int .i64 (nv N k : Nat)) (fun _ i => 17 - (intOf i).toNat)
  case atStart => exact ⟨1, by omega, by omega, rfl, by unfold nv; rw [if_neg (by omega)]; rfl⟩
  case round =>
    obtain ⟨k, hk1, hk, rfl, rfl⟩ := hrel
    obtain ⟨x, hx⟩ : ∃ x : Nat, nv N k = x := ⟨_, rfl⟩
    rw [hx]
    by_cases hlt : k < 17
    · by_cases hh : N = 10 + 3 * k
      · have hh' : ((N : Int) == 10 + 3 * (k : Int)) = true := by simp; omega
        have HX : Hid (nv N (k + 1) = k) := nv_hit N k hk1 hh
        clear hh hx
        go_wp2_with fail
        go_round
        case rel => exact ⟨k + 1, by omega, by omega, by go_num, by rw [HX.out]⟩
        case measure => simp [intOf]; omega
      · have hh' : ((N : Int) == 10 + 3 * (k : Int)) = false := by simp; omega
        have HX : Hid (nv N (k + 1) = x) := by unfold Hid; rw [nv_miss N k hk1 hh, hx]
        clear hh hx
        go_wp2_with fail
        go_round
        case rel => exact ⟨k + 1, by omega, by omega, by go_num, by rw [HX.out]⟩
        case measure => simp [intOf]; omega
    · obtain rfl : k = 17 := by omega
      by_cases hok : 13 ≤ N ∧ (N - 10) % 3 = 0 ∧ (N - 10) / 3 < 17
      case neg =>
        obtain rfl : 0 = x := by rw [← hx]; unfold nv; rw [if_neg hok]
        have H : Hid (¬ LOk l m) := fun h => by
          have h1 := h.len; have h2 := h.pos; have h3 := h.le; have h4 := HL.out
          exact hok ⟨by omega, by omega, by omega⟩
        clear hok hx
        go_wp2_with fail
        go_ret3
        exact .inl ⟨H.out, rfl, Below.refl _ _⟩
      obtain rfl : m = x := by rw [← hx]; unfold nv; rw [if_pos hok]; exact HM.out.symm
      have hNM : N = 10 + 3 * m := by have := HM.out; omega
      have hm1 : 1 ≤ m := by omega
      have hm16 : m ≤ 16 := by omega
      have HNM : Hid (N = 10 + 3 * m) := hNM
      have hmz : ((m : Int) == 0) = false := by simp; omega
      have hmk := run_make_bytes bprog .i64 .i64 m (by omega)
      have HO0 : Hid (OwnB (w.alloc (.cells (zrs m) 5)) w.heap.size (rsL l m 0)) := by unfold Hid; rw [rsL_zero l m 0 (by omega)]; exact OwnB.zrs w m
      have HB0 : Hid (Below w.heap.size w (w.alloc (.cells (zrs m) 5))) := (Below.refl _ _).alloc (Nat.le_refl _) _
      clear hok hx hNM
      go_wp2_with fail
      clear hmk
      go_loopw [7, 9] (fun off i wr => ∃ p : Nat, p ≤ N ∧ i = .int .i64 p ∧ off = .int .u64 (offV l (min p 8)) ∧ (∀ q, q < p → PosOk l (10 + 3 * m) q) ∧ OwnB wr w.heap.size (rsL l m p) ∧ Below w.heap.size w wr) (fun _ i _ => N - (intOf i).toNat)
      case atStart => exact ⟨0, by omega, rfl, rfl, fun q hq => by omega, HO0.out, HB0.out⟩
      case round =>
        obtain ⟨p, hp, rfl, rfl, hall, ho, hbel⟩ := hrel
        have HAL : Hid (∀ q, q < p → PosOk l (10 + 3 * m) q) := hall
        have HO : Hid (OwnB wr w.heap.size (rsL l m p)) := ho
        have HB : Hid (Below w.heap.size w wr) := hbel
        clear hall ho hbel HO0 HB0
        obtain ⟨ov, hov⟩ : ∃ ov : Int, offV l (min p 8) = ov := ⟨_, rfl⟩
        rw [hov]
        by_cases hlt : p < N
        · obtain ⟨b1, o1, rfl, hc1⟩ := (HV.out.below HB.out (Nat.le_refl _)) p (by have := HL.out; omega)
          have hbp := hb p
          have hstep : PosOk l (10 + 3 * m) p → Hid (∀ q, q < p + 1 → PosOk l (10 + 3 * m) q) := fun h q hq => by
            by_cases hqp : q = p
            · subst hqp; exact h
            · exact HAL.out q (by omega)
          have hbad : ¬ PosOk l (10 + 3 * m) p → Hid (¬ LOk l m) := fun h h2 => h (posOk_of l m h2 p (by have := HNM.out; omega))
          by_cases h8 : p = 8
          · subst h8
            have hpos : PosOk l (10 + 3 * m) 8 ↔ nth l 8 = 58 := by unfold PosOk; rw [if_pos rfl]
            have HOV : Hid (offV l (min (8 + 1) 8) = ov) := hov
            have HR : Hid (rsL l m (8 + 1) = rsL l m 8) := rsL_keep l m 8 (by omega)
            by_cases hs : nth l 8 = 58
            · have hs' : (nth l 8 != 58) = false := by simp [hs]
              have HA2 := hstep (hpos.2 hs)
              clear hs hpos hstep hbad hov
              go_wp2_with fail
              go_roundw
              case rel => exact ⟨8 + 1, by omega, by go_num, by rw [HOV.out], HA2.out, by rw [HR.out]; exact HO.out, HB.out⟩
              case measure => simp [intOf]; omega
            · have hs' : (nth l 8 != 58) = true := by simp [hs]
              have H := hbad (fun h => hs (hpos.1 h))
              clear hs hpos hstep hbad hov
              go_wp2_with fail
              go_ret3
              exact .inl ⟨H.out, rfl, HB.out⟩
          have h8' : ((p : Int) == 8) = false := by simp; omega
          by_cases hl : p = N - 1
          · have hl' : ((p : Int) == (N : Int) - 1) = true := by simp; omega
            have hpos : PosOk l (10 + 3 * m) p ↔ nth l p = 10 := by unfold PosOk; rw [if_neg h8, if_pos (by have := HNM.out; omega)]
            have HOV : Hid (offV l (min (p + 1) 8) = ov) := by
              unfold Hid; rw [← hov]; congr 1; have := HNM.out; omega
            have HR : Hid (rsL l m (p + 1) = rsL l m p) := rsL_keep l m p (by have := HNM.out; omega)
            by_cases hs : nth l p = 10
            · have hs' : (nth l p != 10) = false := by simp [hs]
              have HA2 := hstep (hpos.2 hs)
              clear hs hpos hstep hbad hov hl h8
              go_wp2_with fail
              go_roundw
              case rel => exact ⟨p + 1, by omega, by go_num, by rw [HOV.out], HA2.out, by rw [HR.out]; exact HO.out, HB.out⟩
              case measure => simp [intOf]; omega
            · have hs' : (nth l p != 10) = true := by simp [hs]
              have H := hbad (fun h => hs (hpos.1 h))
              clear hs hpos hstep hbad hov hl h8
              go_wp2_with fail
              go_ret3
              exact .inl ⟨H.out, rfl, HB.out⟩
          have hl' : ((p : Int) == (N : Int) - 1) = false := by simp; omega
          by_cases h3 : 8 < p ∧ p % 3 = 0
          · obtain ⟨h3a, h3b⟩ := h3
            have h3' : ((p : Int) % 3 == 0) = true := by simp; omega
            have hpos : PosOk l (10 + 3 * m) p ↔ nth l p = 32 := by unfold PosOk; rw [if_neg h8, if_neg (by have := HNM.out; omega), if_pos ⟨h3a, h3b⟩]
            have HOV : Hid (offV l (min (p + 1) 8) = ov) := by
              unfold Hid; rw [← hov]; congr 1; omega
            have HR : Hid (rsL l m (p + 1) = rsL l m p) := rsL_keep l m p (by omega)
            by_cases hs : nth l p = 32
            · have hs' : (nth l p != 32) = false := by simp [hs]
              have HA2 := hstep (hpos.2 hs)
              clear hs hpos hstep hbad hov hl h8 h3b
              go_wp2_with fail
              go_roundw
              case rel => exact ⟨p + 1, by omega, by go_num, by rw [HOV.out], HA2.out, by rw [HR.out]; exact HO.out, HB.out⟩
              case measure => simp [intOf]; omega
            · have hs' : (nth l p != 32) = true := by simp [hs]
              have H := hbad (fun h => hs (hpos.1 h))
              clear hs hpos hstep hbad hov hl h8 h3b
              go_wp2_with fail
              go_ret3
              exact .inl ⟨H.out, rfl, HB.out⟩
          have hpos : PosOk l (10 + 3 * m) p ↔ hexOk (nth l p) = true := by unfold PosOk; rw [if_neg h8, if_neg (by have := HNM.out; omega), if_neg h3]
          have hvb := hexVal_bd (nth l p)
          by_cases hlo : p < 8
          · cases hs : hexOk (nth l p)
            · have H := hbad (fun h => by rw [hpos.1 h] at hs; exact absurd hs (by decide))
              have hi := iV_no _ hs
              clear hs hpos hstep hbad hov hl h8 h3
              go_wp2_with fail
              refine (lvalue_any (nth l p) _).mono ?_
              rintro e w' ⟨rfl, rfl⟩
              go_wp2_with fail
              go_ret3
              exact .inl ⟨H.out, rfl, HB.out⟩
            · have HA2 := hstep (hpos.2 hs)
              have hi := iV_yes _ hs
              have hob := offV_bd7 l p (by omega)
              obtain rfl : offV l p = ov := by rw [← hov]; congr 1; omega
              have HOV : Hid (offV l (min (p + 1) 8) = offV l p * 16 + hexVal (nth l p)) := by unfold Hid; rw [Nat.min_eq_left (by omega)]; rfl
              have HR : Hid (rsL l m (p + 1) = rsL l m p) := rsL_keep l m p (by omega)
              clear hs hpos hstep hbad hov hl h8 h3
              go_wp2_with fail
              refine (lvalue_any (nth l p) _).mono ?_
              rintro e w' ⟨rfl, rfl⟩
              go_wp2_with fail
              go_roundw
              case rel => exact ⟨p + 1, by omega, by go_num, by rw [HOV.out], HA2.out, by rw [HR.out]; exact HO.out, HB.out⟩
              case measure => simp [intOf]; omega
          · have h3' : ((p : Int) % 3 == 0) = false := by simp; omega
            cases hs : hexOk (nth l p)
            · have H := hbad (fun h => by rw [hpos.1 h] at hs; exact absurd hs (by decide))
              have hi := iV_no _ hs
              have h8g : 8 < p := by omega
              clear hs hpos hstep hbad hov hl h8 h3
              go_wp2_with fail
              refine (lvalue_any (nth l p) _).mono ?_
              rintro e w' ⟨rfl, rfl⟩
              go_wp2_with fail
              go_ret3
              exact .inl ⟨H.out, rfl, HB.out⟩
            · have HA2 := hstep (hpos.2 hs)
              have hi := iV_yes _ hs
              have h8g : 8 < p := by omega
              obtain ⟨j, hj⟩ : ∃ j : Nat, (p - 9) / 3 = j := ⟨_, rfl⟩
              have hjm : j < m := by have := HNM.out; omega
              have hji : ((p : Int) - 9) / 3 = (j : Int) := by omega
              have hrb := rs_bd l p j (by omega)
              have hcj := HO.out.cell (i := j) (by rw [rsL_length]; exact hjm)
              rw [nth_rsL l m p j hjm] at hcj
              have hfj := HO.out.free j
              have HOV : Hid (offV l (min (p + 1) 8) = ov) := by
                unfold Hid; rw [← hov]; congr 1; omega
              have HST : Hid ((rsL l m p).set j (rs l p j * 16 + hexVal (nth l p)) = rsL l m (p + 1)) := rsL_step l m p j (by omega) (by omega) hj hjm
              clear hs hpos hstep hbad hov hl h8 h3 hj
              generalize rs l p j = r at *
              go_wp2_with fail
              refine (lvalue_any (nth l p) _).mono ?_
              rintro e w' ⟨rfl, rfl⟩
              go_wp2_with fail
              have HO2 : Hid (OwnB (w'.setCell ⟨w.heap.size, j, none⟩ (.int .u8 (r * 16 + hexVal (nth l p)))) w.heap.size (rsL l m (p + 1))) := by
                unfold Hid; rw [← HST.out]; exact HO.out.set j _
              have HB2 : Hid (Below w.heap.size w (w'.setCell ⟨w.heap.size, j, none⟩ (.int .u8 (r * 16 + hexVal (nth l p))))) := HB.out.setCell (Nat.le_refl _) _
              clear hcj hfj
              go_roundw
              case rel => exact ⟨p + 1, by omega, by go_num, by rw [HOV.out], HA2.out, HO2.out, HB2.out⟩
              case measure => simp [intOf]; omega
        · obtain rfl : p = N := by omega
          obtain rfl : offV l 8 = ov := by rw [← hov]; congr 1; have := HNM.out; omega
          have hpp : decide ((p : Int) < (p : Int)) = false := by simp
          have hob := offV_bd l 8
          have hob' : offV l 8 < 4294967296 := by have := hob.2; omega
          have hob0 := hob.1
          have hOr : OwnB wr w.heap.size (rowL l m) := by
            have := HO.out
            rw [HNM.out, rsL_all] at this; exact this
          have HR : Hid (Res w wr (.slice (some ⟨w.heap.size, 0, none⟩) m m) (rowL l m)) := ⟨HB.out, w.heap.size, rowL l m, by rw [rowL_length], Nat.le_refl _, hOr, Nat.le_refl _, by rw [rowL_length]; omega, by rw [List.take_length]⟩
          by_cases hf : offV l 8 + m ≤ 4294967296
          · have H : Hid (LOk l m) := lOk_of l m (by rw [HL.out]; exact HNM.out) hm1 hm16 (fun q hq => HAL.out q (by have := HNM.out; omega)) hf
            clear hov hob hOr
            go_wp2_with fail
            go_ret3
            exact .inr ⟨H.out, _, rfl, HR.out⟩
          · have H : Hid (¬ LOk l m) := fun h => hf h.fits
            clear hov hob hOr
            go_wp2_with fail
            go_ret3
            exact .inl ⟨H.out, rfl, HB.out⟩

set_option maxRecDepth 20000 in
set_option maxHeartbeats 3200000 in
theorem lagrees_any (a : Option Addr) (l : List Int) (N c : Nat) (w : World) (hv : Vw w a l) (hb : Bts l) (hn : l.length = N) (hc : N ≤ c) (hcm : c ≤ 9223372036854775807) (hbd : N ≤ 1000000) :
    Calls Yctm.prog 19 #[.slice a N c] w fun e w' => e = .returned (.bool true) ∧ Below w.heap.size w w' := by
  have HV : Hid (Vw w a l) := hv
  clear hv
  go_enter Yctm.func19, Yctm.ntmps19
  go_wp2_with fail
  refine (lspec_any a l N c _ HV.out hb hn hbd).mono ?_
  rintro e w1 (⟨h1, rfl, hB1⟩ | ⟨h1, v1, rfl, hres1⟩)
  · have HB1 : Hid (Below w.heap.size w w1) := hB1
    clear hB1
    go_wp2_with fail
    refine (parseLine_any a l N c _ (HV.out.below HB1.out (Nat.le_refl _)) hb hn hc hcm hbd).mono ?_
    rintro e w2 (⟨h2, rfl, hB2⟩ | ⟨h2, _⟩)
    case inr => exact absurd h2 h1
    have HB2 : Hid (Below w1.heap.size w1 w2) := hB2
    clear hB2 h1 h2
    go_wp2_with fail
    refine (lsame_yes none none [] 0 0 0 _ (Vw.nil _ _) (Vw.nil _ _) rfl rfl (by omega)).mono ?_
    rintro e w3 ⟨rfl, hs⟩
    have HS : Hid (Same w2 w3) := hs
    clear hs
    go_wp2_with fail
    go_ret
    exact ⟨rfl, HB1.out.trans ((HB2.out.mono HB1.out.size).trans (HS.out.below _))⟩
  · have HB1 : Hid (Below w.heap.size w w1) := hres1.below
    obtain ⟨g1, c1, hv1, hg1, hlc1, hcm1, hvw1⟩ := hres1.reads
    rw [rowL_length] at hv1
    subst hv1
    have HW1 : Hid (Vw w1 (some ⟨g1, 0, none⟩) (rowL l ((N - 10) / 3))) := hvw1
    clear hres1 hvw1 hg1
    go_wp2_with fail
    refine (parseLine_any a l N c _ (HV.out.below HB1.out (Nat.le_refl _)) hb hn hc hcm hbd).mono ?_
    rintro e w2 (⟨h2, _⟩ | ⟨h2, v2, rfl, hres2⟩)
    · exact absurd h1 h2
    have HB2 : Hid (Below w1.heap.size w1 w2) := hres2.below
    obtain ⟨g2, c2, hv2, hg2, hlc2, hcm2, hvw2⟩ := hres2.reads
    rw [rowL_length] at hv2
    subst hv2
    have HW2 : Hid (Vw w2 (some ⟨g2, 0, none⟩) (rowL l ((N - 10) / 3))) := hvw2
    have hoo : (offV l 8 == offV l 8) = true := by simp
    clear hres2 hvw2 hg2 h1 h2
    go_wp2_with fail
    refine (lsame_yes (some ⟨g2, 0, none⟩) (some ⟨g1, 0, none⟩) (rowL l ((N - 10) / 3)) ((N - 10) / 3) c2 c1 _ HW2.out (HW1.out.below HB2.out (Nat.le_refl _)) (rowL_length _ _) rfl (by omega)).mono ?_
    rintro e w3 ⟨rfl, hs⟩
    have HS : Hid (Same w2 w3) := hs
    clear hs
    go_wp2_with fail
    go_ret
    exact ⟨rfl, HB1.out.trans ((HB2.out.mono HB1.out.size).trans (HS.out.below _))⟩
end Go.Proofs.Ymbrct
