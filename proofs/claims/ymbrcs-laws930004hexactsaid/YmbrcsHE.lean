import Derived.Test.YmbrcsHn
import Derived.Test.YmbrcsHR
import Derived.Deep.CutBlock
import Derived.Deep.DeepCutAuto
namespace Go.Proofs.Ymbrcs
open Go.RowKit

def sgs : List Int := [49, 102, 48, 50, 97, 57, 32, 58, 10, 65, 70, 103, 51, 52, 53, 54, 55, 56, 57, 98, 99, 100, 101, 47, 96]
def sg (i : Nat) : Int := nth sgs i
theorem sg_get (i : Nat) (h : i < ByteArray.size { data := #[49, 102, 48, 50, 97, 57, 32, 58, 10, 65, 70, 103, 51, 52, 53, 54, 55, 56, 57, 98, 99, 100, 101, 47, 96] }) : (((({ data := #[49, 102, 48, 50, 97, 57, 32, 58, 10, 65, 70, 103, 51, 52, 53, 54, 55, 56, 57, 98, 99, 100, 101, 47, 96] } : ByteArray)[i]'h).toNat : Int)) = sg i := by
  have h' : i < 25 := h
  have : i = 0 ∨ i = 1 ∨ i = 2 ∨ i = 3 ∨ i = 4 ∨ i = 5 ∨ i = 6 ∨ i = 7 ∨ i = 8 ∨ i = 9 ∨ i = 10 ∨ i = 11 ∨ i = 12 ∨ i = 13 ∨ i = 14 ∨ i = 15 ∨ i = 16 ∨ i = 17 ∨ i = 18 ∨ i = 19 ∨ i = 20 ∨ i = 21 ∨ i = 22 ∨ i = 23 ∨ i = 24 := by omega
  rcases this with rfl | rfl | rfl | rfl | rfl | rfl | rfl | rfl | rfl | rfl | rfl | rfl | rfl | rfl | rfl | rfl | rfl | rfl | rfl | rfl | rfl | rfl | rfl | rfl | rfl <;> rfl
theorem sgs_bts : Bts sgs := by
  unfold sgs
  repeat' (first | exact Bts.nil | refine Bts.cons (by omega) (by omega) ?_)
theorem sg_bd (i : Nat) : 0 ≤ sg i ∧ sg i < 256 := sgs_bts i
attribute [local go_sem] sg_get
theorem take_set (cs : List Int) (T k : Nat) (x : Int) (hk : k < T) (hT : T ≤ cs.length) : (cs.set k x).take T = (cs.take T).set k x := by
  have hl : (cs.take T).length = T := by simp; omega
  apply ext_nth
  · simp
  · intro j hj
    have hj' : j < T := by simp at hj; omega
    rw [nth_take hj', nth_set (by omega), nth_set (by omega), nth_take hj']
theorem set_bts {l : List Int} (h : Bts l) (k : Nat) (hk : k < l.length) {x : Int} (h0 : 0 ≤ x) (h1 : x < 256) : Bts (l.set k x) := fun i => by
  rw [nth_set hk]; split
  · exact ⟨h0, h1⟩
  · exact h i
/-- A text of the call's own. -/
def TOk (w : World) (v : Value) (wx : World) : Prop := ∃ (g : Nat) (T : List Int) (NT cT : Nat), v = .slice (some ⟨g, 0, none⟩) NT cT ∧ T.length = NT ∧ Bts T ∧ Vw wx (some ⟨g, 0, none⟩) T ∧ NT ≤ cT ∧ cT ≤ 9223372036854775807 ∧ NT ≤ 1000000 ∧ Below w.heap.size w wx

set_option maxRecDepth 20000 in
set_option maxHeartbeats 6400000 in
theorem hexact_walk (base mode rows seed : Int) (a : Option Addr) (l : List Int) (n c : Nat) (kind pos sn : Int) (at' : Option Addr) (tl : List Int) (m d : Nat) (w : World) (b0 : 0 ≤ base) (b1 : base < 4294967296) (m0 : 0 ≤ mode) (m1 : mode < 256) (r0 : 0 ≤ rows) (r1 : rows < 256) (hv : Vw w a l) (hb : Bts l) (hn : l.length = n)
    (k0 : 0 ≤ kind) (k1 : kind < 256) (p0 : 0 ≤ pos) (p1 : pos < 65536) (s0 : 0 ≤ sn) (s1 : sn < 256) (hvt : Vw w at' tl) (hbt : Bts tl) (hm : tl.length = m) :
    Calls Ycsm.prog 11 #[.int .u32 base, .int .u8 mode, .int .u8 rows, .int .u8 seed, .slice a n c, .int .u8 kind, .int .u16 pos, .int .u8 sn, .slice at' m d] w fun e w' => e = .returned (.bool true) ∧ Below w.heap.size w w' := by
  have hq := eqlNil
  have hq' := neqNil
  have HV : Hid (Vw w a l) := hv
  have HVT : Hid (Vw w at' tl) := hvt
  have HM : Hid (tl.length = m) := hm
  clear hv hvt hm
  by_cases hbig : 1024 < n
  · go_enter Ycsm.func11, Ycsm.ntmps11
    go_wp2_with fail
    go_ret
    exact ⟨rfl, Below.refl _ _⟩
  by_cases hbig2 : 1024 < m
  · go_enter Ycsm.func11, Ycsm.ntmps11
    go_wp2_with fail
    go_ret
    exact ⟨rfl, Below.refl _ _⟩
  have d1 : decide ((1024 : Int) < (n : Int)) = false := decide_eq_false (by omega)
  have d2 : decide ((1024 : Int) < (m : Int)) = false := decide_eq_false (by omega)
  go_enter Ycsm.func11, Ycsm.ntmps11
  go_wp2_with fail
  refine (hdata_any rows seed a l n c _ r0 r1 HV.out hb hn (by omega)).mono ?_
  rintro e w1 ⟨v1, L, rfl, hLl, hLb, hres1⟩
  have HB1 : Hid (Below w.heap.size w w1) := hres1.below
  obtain ⟨g1, c1, hv1, hg1, hlc1, hcm1, hvw1⟩ := hres1.reads
  obtain ⟨K, hK⟩ : ∃ K : Nat, L.length = K := ⟨_, rfl⟩
  rw [hK] at hv1 hlc1 hLl
  subst hv1
  have HW1 : Hid (Vw w1 (some ⟨g1, 0, none⟩) L) := hvw1
  have HK : Hid (L.length = K) := hK
  have HLb : Hid (Bts L) := hLb
  clear hres1 hvw1 hg1 hK hLb hlc1 hcm1
  go_wp2_with fail
  refine (hbase_any base mode rows K _ b0 b1 m0 m1 r0 r1 (by omega)).mono ?_
  rintro e w' ⟨b, y0, y1, rfl, rfl⟩
  go_wp2_with fail
  refine (hdump_any b (some ⟨g1, 0, none⟩) L K c1 _ HW1.out HLb.out HK.out (by omega)).mono ?_
  rintro e w2 ⟨v2, rfl, hres2⟩
  have HB2 : Hid (Below w.heap.size w w2) := HB1.out.trans (hres2.below.mono HB1.out.size)
  obtain ⟨g2, cs, hv2, hg2, ho2, hlc2, hcm2, htk2⟩ := hres2.own
  obtain ⟨N, hN⟩ : ∃ N : Nat, tLen K = N := ⟨_, rfl⟩
  have hcl : (cw b L K).length = N := by rw [← hN, ← HK.out]; exact cw_len b L
  have hN1 : N ≤ 1000000 := by rw [← hN]; unfold tLen; split <;> omega
  have hN2 : N ≤ 100000 := by rw [← hN]; unfold tLen; split <;> omega
  rw [hcl] at hv2 hlc2 htk2
  subst hv2
  have HO : Hid (OwnB w2 g2 cs) := ho2
  have HG : Hid (w.heap.size ≤ g2) := by have := HB1.out.size; unfold Hid; omega
  have HCL : Hid (N ≤ cs.length) := hlc2
  have HCT : Hid ((cs.take N).length = N) := by unfold Hid; simp; omega
  have HCB : Hid (Bts (cs.take N)) := by unfold Hid; rw [htk2]; exact cw_bts b L HLb.out K
  have HNE : Hid (∀ b' off, at' = some ⟨b', off, none⟩ → 0 < m → b' ≠ g2) := fun b' off e h => by
    subst e
    have := HVT.out.lt (by rw [HM.out]; exact h)
    have := HG.out
    omega
  have HVT2 : Hid (Vw w2 at' tl) := HVT.out.below HB2.out (Nat.le_refl _)
  clear hres2 hg2 ho2 htk2 hN hcl HW1 HB1
  obtain ⟨kd, hkd⟩ : ∃ kd : Int, kind % 5 = kd := ⟨_, rfl⟩
  have hkc : kd = 0 ∨ kd = 1 ∨ kd = 2 ∨ kd = 3 ∨ kd = 4 := by omega
  obtain ⟨s, hs⟩ : ∃ s : Int, sg (sn % 25).toNat = s := ⟨_, rfl⟩
  have sb := sg_bd (sn % 25).toNat
  rw [hs] at sb
  go_upto_block 0 with fail
  try simp only [hkd]
  clear hkd
  go_cut [21] (fun v wx => TOk w v wx)
  case first =>
    have HKeep : Hid (∀ wz, Same w2 wz → TOk w (.slice (some ⟨g2, 0, none⟩) N cs.length) wz) := fun wz hz => by
      have hvw := (HO.out.same hz).vw (off := 0) (n := N) (by have := HCL.out; omega)
      rw [List.drop_zero] at hvw
      exact ⟨g2, cs.take N, N, cs.length, rfl, HCT.out, HCB.out, hvw, HCL.out, hcm2, hN1, HB2.out.trans (hz.below _)⟩
    rcases hkc with rfl | rfl | rfl | rfl | rfl
    · by_cases hN0 : N = 0
      · have hNp : decide ((0 : Int) < (N : Int)) = false := decide_eq_false (by omega)
        go_wp2_with fail
        go_meet
        case rel => exact HKeep.out _ (Same.refl _)
      · obtain ⟨k, hk⟩ : ∃ k : Nat, pos % (N : Int) = k := ⟨(pos % (N : Int)).toNat, by have := Int.emod_nonneg pos (show (N : Int) ≠ 0 by omega); omega⟩
        have hkN : k < N := by have := Int.emod_lt_of_pos pos (show (0 : Int) < (N : Int) by omega); omega
        obtain ⟨j, hj⟩ : ∃ j : Nat, sn % 25 = j := ⟨(sn % 25).toNat, by omega⟩
        have hj25 : j < 25 := by omega
        have hsj : sg j = s := by rw [← hs, hj]; rfl
        have ht1 : pos.tmod (N : Int) = k := by rw [Int.tmod_eq_emod_of_nonneg p0]; exact hk
        have ht2 : sn.tmod 25 = j := by rw [Int.tmod_eq_emod_of_nonneg s0]; exact hj
        have ht3 : IntKind.i64.wrap (k : Int) = k := IntWalk.i64_in _ ⟨by omega, by omega⟩
        have ht4 : IntKind.i64.wrap (j : Int) = j := IntWalk.i64_in _ ⟨by omega, by omega⟩
        have ht5 : IntKind.i64.wrap pos = pos := IntWalk.i64_in _ ⟨by omega, by omega⟩
        have ht6 : IntKind.i64.wrap sn = sn := IntWalk.i64_in _ ⟨by omega, by omega⟩
        have hc := HO.out.cell (i := k) (by have := HCL.out; omega)
        have hf := HO.out.free k
        have hqi : (k : Int) < (N : Int) := by omega
        have hNp : decide ((0 : Int) < (N : Int)) = true := decide_eq_true (by omega)
        have HT : Hid (∀ wz, Same (w2.setCell ⟨g2, k, none⟩ (.int .u8 s)) wz → TOk w (.slice (some ⟨g2, 0, none⟩) N cs.length) wz) := fun wz hz => by
          have ho2 := (HO.out.set k s).same hz
          have hvw := ho2.vw (off := 0) (n := N) (by rw [List.length_set]; have := HCL.out; omega)
          rw [List.drop_zero, take_set cs N k s (by omega) HCL.out] at hvw
          exact ⟨g2, (cs.take N).set k s, N, cs.length, rfl, by rw [List.length_set]; exact HCT.out, set_bts HCB.out k (by rw [HCT.out]; omega) sb.1 sb.2, hvw, HCL.out, hcm2, hN1, (HB2.out.setCell HG.out _).trans (hz.below _)⟩
        go_wp2_with fail
        go_region
        all_goals
          go_wp2_with fail
          go_meet
          case rel => exact HT.out _ ((Same.refl _).drewN _)
    · by_cases hN0 : N = 0
      · have hNp : decide ((0 : Int) < (N : Int)) = false := decide_eq_false (by omega)
        go_wp2_with fail
        go_meet
        case rel => exact HKeep.out _ (Same.refl _)
      · obtain ⟨k, hk⟩ : ∃ k : Nat, pos % (N : Int) = k := ⟨(pos % (N : Int)).toNat, by have := Int.emod_nonneg pos (show (N : Int) ≠ 0 by omega); omega⟩
        have hkN : k < N := by have := Int.emod_lt_of_pos pos (show (0 : Int) < (N : Int) by omega); omega
        obtain ⟨j, hj⟩ : ∃ j : Nat, sn % 25 = j := ⟨(sn % 25).toNat, by omega⟩
        have hj25 : j < 25 := by omega
        have hsj : sg j = s := by rw [← hs, hj]; rfl
        have ht1 : pos.tmod (N : Int) = k := by rw [Int.tmod_eq_emod_of_nonneg p0]; exact hk
        have ht2 : sn.tmod 25 = j := by rw [Int.tmod_eq_emod_of_nonneg s0]; exact hj
        have ht3 : IntKind.i64.wrap (k : Int) = k := IntWalk.i64_in _ ⟨by omega, by omega⟩
        have ht4 : IntKind.i64.wrap (j : Int) = j := IntWalk.i64_in _ ⟨by omega, by omega⟩
        have ht5 : IntKind.i64.wrap pos = pos := IntWalk.i64_in _ ⟨by omega, by omega⟩
        have ht6 : IntKind.i64.wrap sn = sn := IntWalk.i64_in _ ⟨by omega, by omega⟩
        obtain ⟨q, hqq⟩ : ∃ q : Nat, N - 1 - k = q := ⟨_, rfl⟩
        have hqN : q < N := by omega
        have hu1 : IntKind.i64.wrap ((N : Int) - 1) = (N : Int) - 1 := IntWalk.i64_in _ ⟨by omega, by omega⟩
        have hu2 : IntKind.i64.wrap ((N : Int) - 1 - (k : Int)) = (q : Int) := by rw [IntWalk.i64_in _ ⟨by omega, by omega⟩]; omega
        have hu3 : (N : Int) - 1 - (k : Int) = (q : Int) := by omega
        have hc := HO.out.cell (i := q) (by have := HCL.out; omega)
        have hf := HO.out.free q
        have hqi : (q : Int) < (N : Int) := by omega
        have hNp : decide ((0 : Int) < (N : Int)) = true := decide_eq_true (by omega)
        have HT : Hid (∀ wz, Same (w2.setCell ⟨g2, q, none⟩ (.int .u8 s)) wz → TOk w (.slice (some ⟨g2, 0, none⟩) N cs.length) wz) := fun wz hz => by
          have ho2 := (HO.out.set q s).same hz
          have hvw := ho2.vw (off := 0) (n := N) (by rw [List.length_set]; have := HCL.out; omega)
          rw [List.drop_zero, take_set cs N q s (by omega) HCL.out] at hvw
          exact ⟨g2, (cs.take N).set q s, N, cs.length, rfl, by rw [List.length_set]; exact HCT.out, set_bts HCB.out q (by rw [HCT.out]; omega) sb.1 sb.2, hvw, HCL.out, hcm2, hN1, (HB2.out.setCell HG.out _).trans (hz.below _)⟩
        go_wp2_with fail
        go_region
        all_goals
          go_wp2_with fail
          go_meet
          case rel => exact HT.out _ ((Same.refl _).drewN _)
    · obtain ⟨k, hk⟩ : ∃ k : Nat, pos % ((N : Int) + 1) = k := ⟨(pos % ((N : Int) + 1)).toNat, by have := Int.emod_nonneg pos (show (N : Int) + 1 ≠ 0 by omega); omega⟩
      have hkN : k < N + 1 := by have := Int.emod_lt_of_pos pos (show (0 : Int) < (N : Int) + 1 by omega); omega
      obtain ⟨q, hqq⟩ : ∃ q : Nat, (N : Int) - (k : Int) = q := ⟨N - k, by omega⟩
      have hqN : q ≤ N := by omega
      have hqc : q ≤ cs.length := by have := HCL.out; omega
      have HT : Hid (TOk w (.slice (some ⟨g2, 0, none⟩) q cs.length) w2) := by
        have hvw := HO.out.vw (off := 0) (n := q) (by omega)
        rw [List.drop_zero] at hvw
        have hb2 := HCB.out.take q
        rw [List.take_take, Nat.min_eq_left hqN] at hb2
        exact ⟨g2, cs.take q, q, cs.length, rfl, by simp; omega, hb2, hvw, hqc, hcm2, by omega, HB2.out⟩
      go_wp2_with fail
      go_meet
      case rel => exact HT.out
    · have HOrg : Hid (Org w2 (some ⟨g2, 0, none⟩) g2 0 N cs.length cs) := ⟨HCL.out, by unfold maxLen; omega, fun _ => ⟨rfl, HO.out, by omega⟩⟩
      go_wp2_with fail
      go_loopg [21, 22] m (fun g v i wr => ∃ j : Nat, j ≤ m ∧ g = m - j ∧ i = .int .i64 j ∧ App w2 (some ⟨g2, 0, none⟩) g2 0 N cs.length cs wr v (tl.take j))
      case atStart => exact ⟨0, by omega, rfl, rfl, by simpa using App.start HOrg.out⟩
      case round =>
        obtain ⟨j, hj, rfl, rfl, happ⟩ := hrel
        have HP : Hid (App w2 (some ⟨g2, 0, none⟩) g2 0 N cs.length cs wr _ (tl.take j)) := happ
        have hjl : (tl.take j).length = j := by simp; have := HM.out; omega
        by_cases hlt : j < m
        · obtain ⟨b1, o1, rfl, hc1⟩ := (HP.out.oldVw HVT2.out (fun b' off e _ => HNE.out b' off e (by omega))) j (by rw [HM.out]; exact hlt)
          have HBd : Hid (N + (tl.take j).length + 1 ≤ 140737488355328) := by unfold Hid; rw [hjl]; omega
          clear happ hjl
          go_wp2_with (at_builtin; go_must (refine wpList_append_app _ rfl (.tmp 122) (.tmp 127) rfl bprog HOrg.out rfl (HP.out.alloc _) _ [nth tl j] rfl (src_new bprog wr [nth tl j] 1) HBd.out ?_))
          intro v3 w3 happ3
          have HP3 : Hid (App w2 (some ⟨g2, 0, none⟩) g2 0 N cs.length cs w3 v3 (tl.take (j + 1))) := by
            unfold Hid; rw [take_snoc (by rw [HM.out]; exact hlt)]; exact happ3
          clear happ3 HP hc1
          go_wp2_with fail
          go_roundg (m - (j + 1))
          case measure => omega
          case rel => exact ⟨j + 1, by omega, rfl, by go_num, HP3.out⟩
        · obtain rfl : j = m := by omega
          have hjj : decide ((j : Int) < (j : Int)) = false := by simp
          rw [List.take_of_length_le (by rw [HM.out]; exact Nat.le_refl _)] at happ hjl
          have hmk : ∀ v, App w2 (some ⟨g2, 0, none⟩) g2 0 N cs.length cs wr v tl → TOk w v wr := fun v happ => by
            have hbl := happ.belowOf HB2.out.size (fun _ => HG.out)
            obtain ⟨g3, cs3, e3, hg3, ho3, hlc3, hcm3, htk3⟩ := happ.owned HO.out HCL.out HOrg.out.max
            rw [hjl] at e3 hlc3 htk3
            have hvw := ho3.vw (off := 0) (n := N + j) (by omega)
            rw [List.drop_zero, htk3] at hvw
            exact ⟨g3, _, N + j, cs3.length, e3, by rw [List.length_append, HCT.out, hjl], HCB.out.app hbt, hvw, hlc3, hcm3, by omega, HB2.out.trans hbl⟩
          have HT : Hid _ := hmk _ happ
          clear happ HP hjl hmk
          go_wp2_with fail
          go_meet
          case rel => exact HT.out
    · have HVT3 : Hid (Vw (w2.alloc (.cells #[] 5)) at' tl) := HVT2.out.below ((Below.refl w2.heap.size _).alloc (Nat.le_refl _) _) (Nat.le_refl _)
      go_wp2_with fail
      go_loopg [21, 23] m (fun g v i wr => ∃ j : Nat, j ≤ m ∧ g = m - j ∧ i = .int .i64 j ∧ App (w2.alloc (.cells #[] 5)) (some ⟨w2.heap.size, 0, none⟩) 0 0 0 0 [] wr v (tl.take j))
      case atStart => exact ⟨0, by omega, rfl, rfl, by simpa using app_fresh w2⟩
      case round =>
        obtain ⟨j, hj, rfl, rfl, happ⟩ := hrel
        have HP : Hid (App (w2.alloc (.cells #[] 5)) (some ⟨w2.heap.size, 0, none⟩) 0 0 0 0 [] wr _ (tl.take j)) := happ
        have hjl : (tl.take j).length = j := by simp; have := HM.out; omega
        by_cases hlt : j < m
        · obtain ⟨b1, o1, rfl, hc1⟩ := (HP.out.oldVw HVT3.out (fun b off e hc => absurd hc (Nat.lt_irrefl _))) j (by rw [HM.out]; exact hlt)
          have HBd : Hid (0 + (tl.take j).length + 1 ≤ 140737488355328) := by unfold Hid; rw [hjl]; omega
          clear happ hjl
          go_wp2_with (at_builtin; go_must (refine wpList_append_app _ rfl (.tmp 58) (.tmp 63) rfl bprog (org_fresh w2) rfl (HP.out.alloc _) _ [nth tl j] rfl (src_new bprog wr [nth tl j] 1) HBd.out ?_))
          intro v3 w3 happ3
          have HP3 : Hid (App (w2.alloc (.cells #[] 5)) (some ⟨w2.heap.size, 0, none⟩) 0 0 0 0 [] w3 v3 (tl.take (j + 1))) := by
            unfold Hid; rw [take_snoc (by rw [HM.out]; exact hlt)]; exact happ3
          clear happ3 HP hc1
          go_wp2_with fail
          go_roundg (m - (j + 1))
          case measure => omega
          case rel => exact ⟨j + 1, by omega, rfl, by go_num, HP3.out⟩
        · obtain rfl : j = m := by omega
          have hjj : decide ((j : Int) < (j : Int)) = false := by simp
          rw [List.take_of_length_le (by rw [HM.out]; exact Nat.le_refl _)] at happ hjl
          have hmk : ∀ v, App (w2.alloc (.cells #[] 5)) (some ⟨w2.heap.size, 0, none⟩) 0 0 0 0 [] wr v tl → TOk w v wr := fun v happ => by
            have hr := happ.res
            obtain ⟨g3, c3, e3, hg3, hlc3, hcm3, hvw3⟩ := hr.reads
            rw [hjl] at e3 hlc3
            exact ⟨g3, tl, j, c3, e3, hjl, hbt, hvw3, hlc3, hcm3, by omega, HB2.out.trans (hr.below.mono HB2.out.size)⟩
          have HT : Hid _ := hmk _ happ
          clear happ HP hjl hmk
          go_wp2_with fail
          go_meet
          case rel => exact HT.out
  case rest =>
    obtain ⟨g, T, NT, cT, rfl, hTl, hTb, hTv, hTc, hTm, hT1, hTB⟩ := hcut
    have HTV : Hid (Vw wc (some ⟨g, 0, none⟩) T) := hTv
    have HTB : Hid (Below w.heap.size w wc) := hTB
    clear hTv hTB
    go_wp2_with fail
    refine (hwant_any b (some ⟨g, 0, none⟩) T NT cT _ y0 y1 HTV.out hTb hTl hT1).mono ?_
    rintro e w3 (⟨h3, rfl, hB3⟩ | ⟨h3, v3, rfl, hres3⟩)
    · have HB3 : Hid (Below wc.heap.size wc w3) := hB3
      clear hB3
      go_wp2_with fail
      refine (parse_any b (some ⟨g, 0, none⟩) T NT cT _ y0 y1 (HTV.out.below HB3.out (Nat.le_refl _)) hTb hTl hTc hTm hT1).mono ?_
      rintro e w4 (⟨h4, rfl, hB4⟩ | ⟨h4, _⟩)
      case inr => exact absurd h4 h3
      have HB4 : Hid (Below w3.heap.size w3 w4) := hB4
      clear hB4 h3 h4
      go_wp2_with fail
      go_ret
      have z1 := HTB.out.size
      have z2 := HB3.out.size
      exact ⟨rfl, HTB.out.trans ((HB3.out.mono (by omega)).trans (HB4.out.mono (by omega)))⟩
    · have HB3 : Hid (Below wc.heap.size wc w3) := hres3.below
      obtain ⟨g3, c3, hv3, hg3, hlc3, hcm3, hvw3⟩ := hres3.reads
      rw [outL_length] at hv3
      subst hv3
      have HW3 : Hid (Vw w3 (some ⟨g3, 0, none⟩) (outL T (dNat NT))) := hvw3
      clear hvw3 hres3 hg3 hlc3 hcm3
      go_wp2_with fail
      refine (parse_any b (some ⟨g, 0, none⟩) T NT cT _ y0 y1 (HTV.out.below HB3.out (Nat.le_refl _)) hTb hTl hTc hTm hT1).mono ?_
      rintro e w4 (⟨h4, _⟩ | ⟨h4, v4, rfl, hres4⟩)
      · exact absurd h3 h4
      have HB4 : Hid (Below w3.heap.size w3 w4) := hres4.below
      obtain ⟨g4, c4, hv4, hg4, hlc4, hcm4, hvw4⟩ := hres4.reads
      rw [outL_length] at hv4
      subst hv4
      have HW4 : Hid (Vw w4 (some ⟨g4, 0, none⟩) (outL T (dNat NT))) := hvw4
      have hdn : dNat NT ≤ 1000000 := by unfold dNat; omega
      clear hvw4 hres4 hg4 hlc4 hcm4 h3 h4
      go_wp2_with fail
      refine (heq_any _ _ (outL T (dNat NT)) (outL T (dNat NT)) (dNat NT) (dNat NT) c4 c3 _ HW4.out (HW3.out.below HB4.out (Nat.le_refl _)) (outL_length _ _) (outL_length _ _) (by omega) (by omega)).mono ?_
      rw [show decide (outL T (dNat NT) = outL T (dNat NT)) = true by simp]
      rintro e w5 ⟨rfl, hs5⟩
      have HS : Hid (Same w4 w5) := hs5
      clear hs5
      go_wp2_with fail
      go_ret
      have z1 := HTB.out.size
      have z2 := HB3.out.size
      exact ⟨rfl, HTB.out.trans ((HB3.out.mono (by omega)).trans ((HB4.out.mono (by omega)).trans (HS.out.below _)))⟩
end Go.Proofs.Ymbrcs
