import Derived.Test.YmbrcsDec
import Derived.Test.YmbrcsFind
import Derived.Test.YmbrcsEq
import Derived.Deep.RegionWith
import Derived.Deep.DeepCutAuto
namespace Go.Proofs.Ymbrcs
open Go.RowKit
attribute [local go_sem] dg_get

theorem eqlNil (w : World) (a : Option Addr) (n c : Nat) : (binOp .eql 22 (.slice a n c) (.slice none 0 0)).run Ycsm.prog w = .ok (.bool a.isNone) w := Lib.run_eql_slice_nil w 22 5 a n c 0 0 Ycsm.underlying22
theorem neqNil (w : World) (a : Option Addr) (n c : Nat) : (binOp .neq 22 (.slice a n c) (.slice none 0 0)).run Ycsm.prog w = .ok (.bool (!a.isNone)) w := run_neq_slice_nil_any w 22 5 a n c 0 0 Ycsm.underlying22

set_option maxHeartbeats 1600000 in
/-- zzs930004etext. -/
theorem etext_any (a : Option Addr) (l : List Int) (n c : Nat) (w : World) (hv : Vw w a l) (hb : Bts l) (hn : l.length = n) (hbd : n ≤ 1000000) :
    Calls Ycsm.prog 17 #[.slice a n c] w fun e w' => ∃ v, e = .returned v ∧ Res w w' v (hexL l) := by
  have HV : Hid (Vw (w.alloc (.cells #[] 5)) a l) := hv.below ((Below.refl w.heap.size _).alloc (Nat.le_refl _) _) (Nat.le_refl _)
  clear hv
  go_enter Ycsm.func17, Ycsm.ntmps17
  go_wp2_with fail
  go_loopw [3, 4] (fun v i wr => ∃ k : Nat, k ≤ n ∧ i = .int .i64 k ∧ App (w.alloc (.cells #[] 5)) (some ⟨w.heap.size, 0, none⟩) 0 0 0 0 [] wr v (hexL (l.take k))) (fun _ i _ => n - (intOf i).toNat)
  case atStart => exact ⟨0, by omega, rfl, app_fresh _⟩
  case round =>
    obtain ⟨k, hk, rfl, happ⟩ := hrel
    have HP : Hid _ := happ
    clear happ
    by_cases hlt : k < n
    · obtain ⟨b1, o1, rfl, hc1⟩ := (HP.out.oldVw HV.out (fun b off e hc => absurd hc (Nat.lt_irrefl _))) k (by omega)
      have hbk := hb k
      have hl : (hexL (l.take k)).length = 2 * k := by rw [hexL_length]; simp; omega
      have HB : Hid (0 + (hexL (l.take k)).length + 1 ≤ 140737488355328) := by unfold Hid; omega
      go_wp2_with (at_builtin; go_must (refine wpList_append_app _ rfl (.tmp 12) (.tmp 19) rfl bprog (org_fresh w) rfl (HP.out.alloc _) _ [dg (nth l k / 16).toNat] rfl (src_new bprog wr [dg (nth l k / 16).toNat] 1) HB.out ?_))
      intro v2 w2 happ2
      have hc2 := (happ2.oldVw HV.out (fun b off e hc => absurd hc (Nat.lt_irrefl _))) k (by omega)
      obtain ⟨b2, o2, e2, hc2⟩ := hc2
      simp only [Option.some.injEq, Addr.mk.injEq] at e2
      obtain ⟨rfl, rfl, _⟩ := e2
      have HB2 : Hid (0 + (hexL (l.take k) ++ [dg (nth l k / 16).toNat]).length + 1 ≤ 140737488355328) := by unfold Hid; rw [List.length_append, hl]; simp; omega
      have HP2 : Hid _ := happ2
      clear happ2 HP hc1
      go_wp2_with (at_builtin; go_must (refine wpList_append_app _ rfl (.tmp 21) (.tmp 28) rfl bprog (org_fresh w) rfl (HP2.out.alloc _) _ [dg (nth l k % 16).toNat] rfl (src_new bprog w2 [dg (nth l k % 16).toNat] 1) HB2.out ?_))
      intro v3 w3 happ3
      have HP3 : Hid (App (w.alloc (.cells #[] 5)) (some ⟨w.heap.size, 0, none⟩) 0 0 0 0 [] w3 v3 (hexL (l.take (k + 1)))) := by
        unfold Hid; rw [take_snoc (by omega), hexL_snoc]; simpa [hex2] using happ3
      clear happ3 HP2 hc2
      go_wp2_with fail
      go_roundw
      case rel => exact ⟨k + 1, by omega, by go_num, HP3.out⟩
      case measure => simp [intOf]; omega
    · have e : l.take k = l := List.take_of_length_le (by omega)
      have hr := HP.out.res
      rw [e] at hr
      have HR : Hid _ := hr
      clear hr HP e
      go_wp2_with fail
      go_ret
      exact ⟨_, rfl, HR.out⟩

theorem nth_hexL (l : List Int) (i : Nat) (h : i < l.length) : nth (hexL l) (2 * i) = dg (nth l i / 16).toNat ∧ nth (hexL l) (2 * i + 1) = dg (nth l i % 16).toNat := by
  have e : hexL l = hexL (l.take i) ++ (hex2 (nth l i) ++ hexL (l.drop (i + 1))) := by
    have : l = l.take i ++ (nth l i :: l.drop (i + 1)) := by
      rw [nth_eq h, List.getElem_cons_drop, List.take_append_drop]
    conv => lhs; rw [this]
    rw [hexL_append]
    simp [hexL]
  have hl : (hexL (l.take i)).length = 2 * i := by rw [hexL_length]; simp; omega
  rw [e]
  constructor
  · rw [nth_right (by omega), hl, Nat.sub_self]; rfl
  · rw [nth_right (by omega), hl, show 2 * i + 1 - 2 * i = 1 by omega]; rfl
theorem hexL_bts (l : List Int) (hb : Bts l) : Bts (hexL l) := fun i => by
  by_cases h : i < (hexL l).length
  · rw [hexL_length] at h
    have h2 := nth_hexL l (i / 2) (by omega)
    have hbi := hb (i / 2)
    have hd1 := dg_bd (nth l (i / 2) / 16).toNat (by omega)
    have hd2 := dg_bd (nth l (i / 2) % 16).toNat (by omega)
    by_cases hi : i % 2 = 0
    · have e : i = 2 * (i / 2) := by omega
      rw [e, h2.1]; omega
    · have e : i = 2 * (i / 2) + 1 := by omega
      rw [e, h2.2]; omega
  · rw [nth_ge (by omega)]; omega
theorem hexL_ok (l : List Int) (hb : Bts l) : decOk (hexL l) = true := by
  rw [decOk_iff]
  refine ⟨by rw [hexL_length]; omega, fun i hi => ?_⟩
  rw [hexL_length] at hi
  have h2 := nth_hexL l (i / 2) (by omega)
  have hbi := hb (i / 2)
  by_cases he : i % 2 = 0
  · have e : i = 2 * (i / 2) := by omega
    rw [e, h2.1]; exact hexOk_dg _ (by omega)
  · have e : i = 2 * (i / 2) + 1 := by omega
    rw [e, h2.2]; exact hexOk_dg _ (by omega)
theorem dec_hexL (l : List Int) (hb : Bts l) : dec (hexL l) l.length = l := by
  apply ext_nth
  · rw [dec_length]
  · intro j hj
    rw [dec_length] at hj
    rw [nth_dec _ _ _ hj]
    have h2 := nth_hexL l j hj
    have hbj := hb j
    rw [h2.1, h2.2, hexVal_dg _ (by omega), hexVal_dg _ (by omega)]
    omega

set_option maxHeartbeats 1600000 in
theorem eround_walk (a : Option Addr) (l : List Int) (n c : Nat) (w : World) (hv : Vw w a l) (hb : Bts l) (hn : l.length = n) :
    Calls Ycsm.prog 4 #[.slice a n c] w fun e w' => e = .returned (.bool true) ∧ Below w.heap.size w w' := by
  have hq' := neqNil
  have HV : Hid (Vw w a l) := hv
  clear hv
  by_cases hbig : 1024 < n
  · go_enter Ycsm.func4, Ycsm.ntmps4
    go_wp2_with fail
    go_ret
    exact ⟨rfl, Below.refl _ _⟩
  go_enter Ycsm.func4, Ycsm.ntmps4
  go_wp2_with fail
  refine (etext_any a l n c _ HV.out hb hn (by omega)).mono ?_
  rintro e w1 ⟨v1, rfl, hres⟩
  have HB1 : Hid (Below w.heap.size w w1) := hres.below
  obtain ⟨g, c1, hv1, hg, hlc, hcm1, hvw⟩ := hres.reads
  rw [hexL_length, hn] at hv1 hlc
  subst hv1
  have HW : Hid (Vw w1 (some ⟨g, 0, none⟩) (hexL l)) := hvw
  clear hvw hres hg
  have hhl : (hexL l).length = 2 * n := by rw [hexL_length, hn]
  go_wp2_with fail
  refine (decode_any _ (hexL l) (2 * n) c1 _ HW.out (hexL_bts l hb) hhl (by omega)).mono ?_
  rintro e w2 (⟨h1, _⟩ | ⟨_, v2, rfl, hres2⟩)
  · rw [hexL_ok l hb] at h1; exact absurd h1 (by decide)
  rw [show 2 * n / 2 = n by omega] at hres2
  have e2 := dec_hexL l hb
  rw [hn] at e2
  rw [e2] at hres2
  have HB2 : Hid (Below w1.heap.size w1 w2) := hres2.below
  obtain ⟨g2, c2, hv2, hg2, hlc2, hcm2, hvw2⟩ := hres2.reads
  rw [hn] at hv2
  subst hv2
  have HW2 : Hid (Vw w2 (some ⟨g2, 0, none⟩) l) := hvw2
  clear hvw2 hres2 hg2 e2 hhl
  go_wp2_with fail
  refine (esame_any _ _ l l n n c2 c _ HW2.out ((HV.out.below HB1.out (Nat.le_refl _)).below HB2.out (Nat.le_refl _)) hn hn (by omega) (by omega)).mono ?_
  rintro e w3 ⟨rfl, hs⟩
  have HS : Hid (Same w2 w3) := hs
  clear hs
  have ht : decide (l = l) = true := by simp
  go_wp2_with fail
  go_ret
  exact ⟨rfl, HB1.out.trans ((HB2.out.mono HB1.out.size).trans (HS.out.below _))⟩
end Go.Proofs.Ymbrcs
