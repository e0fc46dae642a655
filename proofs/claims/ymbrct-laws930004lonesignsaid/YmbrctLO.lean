import Derived.Test.YmbrctLE
import Derived.Deep.RegionWith
import Derived.Deep.DeepCutAuto
namespace Go.Proofs.Ymbrct
open Go.RowKit

def sgs : List Int := [103, 65, 32, 58, 10, 47, 96, 70, 48, 57, 97, 102]
def sg (i : Nat) : Int := nth sgs i
theorem sg_get (i : Nat) (h : i < ByteArray.size { data := #[103, 65, 32, 58, 10, 47, 96, 70, 48, 57, 97, 102] }) : ((({ data := #[103, 65, 32, 58, 10, 47, 96, 70, 48, 57, 97, 102] } : ByteArray)[i]'h).toNat : Int) = sg i := by
  have h' : i < 12 := h
  have : i = 0 ∨ i = 1 ∨ i = 2 ∨ i = 3 ∨ i = 4 ∨ i = 5 ∨ i = 6 ∨ i = 7 ∨ i = 8 ∨ i = 9 ∨ i = 10 ∨ i = 11 := by omega
  rcases this with rfl | rfl | rfl | rfl | rfl | rfl | rfl | rfl | rfl | rfl | rfl | rfl <;> rfl
theorem sgs_bts : Bts sgs := by
  unfold sgs
  repeat' (first | exact Bts.nil | refine Bts.cons (by omega) (by omega) ?_)
theorem sg_bd (i : Nat) : 0 ≤ sg i ∧ sg i < 256 := sgs_bts i
attribute [local go_sem] sg_get
theorem take_set (cs : List Int) (T k : Nat) (x : Int) (hk : k < T) (hT : T ≤ cs.length) : (cs.set k x).take T = (cs.take T).set k x := by
  have hl : (cs.take T).length = T := by simp; omega
  apply ext_nth
  · simp
  · intro j hj
    have hj' : j < T := by simp at hj; omega
    rw [nth_take hj', nth_set (by omega), nth_set (by omega), nth_take hj']
theorem Res.ofSame {w0 w w' : World} {v : Value} {L : List Int} (h : Res w w' v L) (s : Same w0 w) : Res w0 w' v L := by
  refine ⟨(s.below _).trans (by have := h.below; rwa [s.size] at this), ?_⟩
  have := h.own
  rwa [s.size] at this

set_option maxRecDepth 20000 in
set_option maxHeartbeats 3200000 in
theorem lonesign_walk (x : Int) (near : Bool) (a : Option Addr) (l : List Int) (N c : Nat) (pos : Int) (back : Bool) (sn : Int) (raw : Bool) (w : World) (h0 : 0 ≤ x) (h1 : x < 4294967296) (hv : Vw w a l) (hb : Bts l) (hn : l.length = N) (hc : N ≤ c) (hcm : c ≤ 9223372036854775807) (p0 : 0 ≤ pos) (p1 : pos < 256) (s0 : 0 ≤ sn) (s1 : sn < 256) :
    Calls Yctm.prog 9 #[.int .u32 x, .bool near, .slice a N c, .int .u8 pos, .bool back, .int .u8 sn, .bool raw] w fun e w' => e = .returned (.bool true) ∧ Below w.heap.size w w' := by
  obtain ⟨n, hn18⟩ : ∃ n : Nat, N % 18 = n := ⟨_, rfl⟩
  have hni : (N : Int) % 18 = (n : Int) := by omega
  have hnN : n ≤ N := by omega
  have hn17 : n ≤ 17 := by omega
  have HV : Hid (Vw w a (l.take n)) := hv.take n
  have HBt : Hid (Bts (l.take n)) := hb.take n
  have HTL : Hid ((l.take n).length = n) := by unfold Hid; simp; omega
  clear hv hn18 hn
  generalize hrow : l.take n = row at *
  clear hrow hb
  have HR : Hid (Same w w.drew) := (Same.refl _).drew
  have hlb := lbase_any x near n w.drew h0 h1 (by omega)
  have hlp := fun b hb0 hb1 c' => lprint_any b a row n c' w.drew hb0 hb1 (HV.out.same HR.out) HBt.out HTL.out (by omega)
  go_enter Yctm.func9, Yctm.ntmps9
  go_upto_region 2 with fail
  simp only [hni]
  go_cut [16] (fun v wx => ∃ b, Res w wx v (lineL b row))
  case first =>
    go_region_with (first | (go_at_call 16; refine hlb.mono ?_; rintro e w' ⟨b, hb0, hb1, rfl, rfl⟩; have hlp2 := hlp b hb0 hb1) | (go_at_call 17; refine (hlp2 _).mono ?_; rintro e w1 ⟨v1, rfl, hres⟩))
    all_goals
      go_wp2_with fail
      go_meet
      case rel => exact ⟨_, hres.ofSame HR.out⟩
  case rest =>
    obtain ⟨b, hres⟩ := hcut
    clear hlb hlp
    have HB : Hid (Below w.heap.size w wc) := hres.below
    obtain ⟨g, cs, hv1, hg, ho, hlc, hcm1, htk⟩ := hres.own
    obtain ⟨L, hL⟩ : ∃ L : Nat, 10 + 3 * n = L := ⟨_, rfl⟩
    rw [lineL_length, HTL.out, hL] at hv1 hlc htk
    subst hv1
    have hL61 : L ≤ 61 := by omega
    have hL1 : 10 ≤ L := by omega
    have HO : Hid (OwnB wc g cs) := ho
    have HG : Hid (w.heap.size ≤ g) := hg
    have HCL : Hid (L ≤ cs.length) := hlc
    have HCT : Hid ((cs.take L).length = L) := by unfold Hid; simp; omega
    have HCB : Hid (Bts (cs.take L)) := by unfold Hid; rw [htk]; exact lineL_bts b row HBt.out
    clear hres hg ho htk hL
    obtain ⟨k, hk⟩ : ∃ k : Nat, pos % (L : Int) = k := ⟨(pos % (L : Int)).toNat, by have := Int.emod_nonneg pos (show (L : Int) ≠ 0 by omega); omega⟩
    have hkL : k < L := by have := Int.emod_lt_of_pos pos (show (0 : Int) < (L : Int) by omega); omega
    obtain ⟨q, hq⟩ : ∃ q : Nat, (L : Int) - 1 - (k : Int) = q := ⟨L - 1 - k, by omega⟩
    have hqL : q < L := by omega
    obtain ⟨s, hs⟩ : ∃ s : Int, sg (sn % 12).toNat = s := ⟨_, rfl⟩
    have sb := sg_bd (sn % 12).toNat
    rw [hs] at sb
    have snb : 0 ≤ sn ∧ sn < 256 := ⟨s0, s1⟩
    cases back
    · cases raw
      · have hc := HO.out.cell (i := k) (by have := HCL.out; omega)
        have hf := HO.out.free k
        go_wp2_with fail
        clear hc hf
        have HO2 : Hid (OwnB (wc.setCell ⟨g, k, none⟩ (.int .u8 s)) g (cs.set k s)) := HO.out.set k s
        have HB2 : Hid (Below w.heap.size w (wc.setCell ⟨g, k, none⟩ (.int .u8 s))) := HB.out.setCell HG.out _
        have HT2 : Hid (Bts ((cs.take L).set k s)) := set_bts HCB.out k (by rw [HCT.out]; omega) sb.1 sb.2
        have HL2 : Hid (((cs.take L).set k s).length = L) := by unfold Hid; rw [List.length_set]; exact HCT.out
        have HV2 : Hid (Vw (wc.setCell ⟨g, k, none⟩ (.int .u8 s)) (some ⟨g, 0, none⟩) ((cs.take L).set k s)) := by
          unfold Hid
          have := HO2.out.vw (off := 0) (n := L) (by rw [List.length_set]; have := HCL.out; omega)
          rw [List.drop_zero, take_set cs L k s (by omega) HCL.out] at this
          exact this
        generalize wc.setCell ⟨g, k, none⟩ (.int .u8 s) = w3 at *
        generalize (cs.take L).set k s = ds at *
        refine (lagrees_any (some ⟨g, 0, none⟩) ds L cs.length _ HV2.out HT2.out HL2.out HCL.out hcm1 (by omega)).mono ?_
        rintro e w4 ⟨rfl, hB4⟩
        have HB4 : Hid (Below w3.heap.size w3 w4) := hB4
        clear hB4
        go_wp2_with fail
        go_ret
        exact ⟨rfl, HB2.out.trans (HB4.out.mono HB2.out.size)⟩
      · have hc := HO.out.cell (i := k) (by have := HCL.out; omega)
        have hf := HO.out.free k
        go_wp2_with fail
        clear hc hf
        have HO2 : Hid (OwnB (wc.setCell ⟨g, k, none⟩ (.int .u8 sn)) g (cs.set k sn)) := HO.out.set k sn
        have HB2 : Hid (Below w.heap.size w (wc.setCell ⟨g, k, none⟩ (.int .u8 sn))) := HB.out.setCell HG.out _
        have HT2 : Hid (Bts ((cs.take L).set k sn)) := set_bts HCB.out k (by rw [HCT.out]; omega) snb.1 snb.2
        have HL2 : Hid (((cs.take L).set k sn).length = L) := by unfold Hid; rw [List.length_set]; exact HCT.out
        have HV2 : Hid (Vw (wc.setCell ⟨g, k, none⟩ (.int .u8 sn)) (some ⟨g, 0, none⟩) ((cs.take L).set k sn)) := by
          unfold Hid
          have := HO2.out.vw (off := 0) (n := L) (by rw [List.length_set]; have := HCL.out; omega)
          rw [List.drop_zero, take_set cs L k sn (by omega) HCL.out] at this
          exact this
        generalize wc.setCell ⟨g, k, none⟩ (.int .u8 sn) = w3 at *
        generalize (cs.take L).set k sn = ds at *
        refine (lagrees_any (some ⟨g, 0, none⟩) ds L cs.length _ HV2.out HT2.out HL2.out HCL.out hcm1 (by omega)).mono ?_
        rintro e w4 ⟨rfl, hB4⟩
        have HB4 : Hid (Below w3.heap.size w3 w4) := hB4
        clear hB4
        go_wp2_with fail
        go_ret
        exact ⟨rfl, HB2.out.trans (HB4.out.mono HB2.out.size)⟩
    · cases raw
      · have hc := HO.out.cell (i := q) (by have := HCL.out; omega)
        have hf := HO.out.free q
        go_wp2_with fail
        clear hc hf
        have HO2 : Hid (OwnB (wc.setCell ⟨g, q, none⟩ (.int .u8 s)) g (cs.set q s)) := HO.out.set q s
        have HB2 : Hid (Below w.heap.size w (wc.setCell ⟨g, q, none⟩ (.int .u8 s))) := HB.out.setCell HG.out _
        have HT2 : Hid (Bts ((cs.take L).set q s)) := set_bts HCB.out q (by rw [HCT.out]; omega) sb.1 sb.2
        have HL2 : Hid (((cs.take L).set q s).length = L) := by unfold Hid; rw [List.length_set]; exact HCT.out
        have HV2 : Hid (Vw (wc.setCell ⟨g, q, none⟩ (.int .u8 s)) (some ⟨g, 0, none⟩) ((cs.take L).set q s)) := by
          unfold Hid
          have := HO2.out.vw (off := 0) (n := L) (by rw [List.length_set]; have := HCL.out; omega)
          rw [List.drop_zero, take_set cs L q s (by omega) HCL.out] at this
          exact this
        generalize wc.setCell ⟨g, q, none⟩ (.int .u8 s) = w3 at *
        generalize (cs.take L).set q s = ds at *
        refine (lagrees_any (some ⟨g, 0, none⟩) ds L cs.length _ HV2.out HT2.out HL2.out HCL.out hcm1 (by omega)).mono ?_
        rintro e w4 ⟨rfl, hB4⟩
        have HB4 : Hid (Below w3.heap.size w3 w4) := hB4
        clear hB4
        go_wp2_with fail
        go_ret
        exact ⟨rfl, HB2.out.trans (HB4.out.mono HB2.out.size)⟩
      · have hc := HO.out.cell (i := q) (by have := HCL.out; omega)
        have hf := HO.out.free q
        go_wp2_with fail
        clear hc hf
        have HO2 : Hid (OwnB (wc.setCell ⟨g, q, none⟩ (.int .u8 sn)) g (cs.set q sn)) := HO.out.set q sn
        have HB2 : Hid (Below w.heap.size w (wc.setCell ⟨g, q, none⟩ (.int .u8 sn))) := HB.out.setCell HG.out _
        have HT2 : Hid (Bts ((cs.take L).set q sn)) := set_bts HCB.out q (by rw [HCT.out]; omega) snb.1 snb.2
        have HL2 : Hid (((cs.take L).set q sn).length = L) := by unfold Hid; rw [List.length_set]; exact HCT.out
        have HV2 : Hid (Vw (wc.setCell ⟨g, q, none⟩ (.int .u8 sn)) (some ⟨g, 0, none⟩) ((cs.take L).set q sn)) := by
          unfold Hid
          have := HO2.out.vw (off := 0) (n := L) (by rw [List.length_set]; have := HCL.out; omega)
          rw [List.drop_zero, take_set cs L q sn (by omega) HCL.out] at this
          exact this
        generalize wc.setCell ⟨g, q, none⟩ (.int .u8 sn) = w3 at *
        generalize (cs.take L).set q sn = ds at *
        refine (lagrees_any (some ⟨g, 0, none⟩) ds L cs.length _ HV2.out HT2.out HL2.out HCL.out hcm1 (by omega)).mono ?_
        rintro e w4 ⟨rfl, hB4⟩
        have HB4 : Hid (Below w3.heap.size w3 w4) := hB4
        clear hB4
        go_wp2_with fail
        go_ret
        exact ⟨rfl, HB2.out.trans (HB4.out.mono HB2.out.size)⟩
end Go.Proofs.Ymbrct
