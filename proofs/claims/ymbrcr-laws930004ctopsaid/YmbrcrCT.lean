import Derived.Test.YmbrcrC
namespace Go.Proofs.Ymbrcr
open Go.RowKit

/-- start, start + step, .. as bytes. -/
def fb (s t : Int) (k : Nat) : Int := (s + k * t) % 256
def filL (s t : Int) : Nat → List Int
  | 0 => []
  | k + 1 => filL s t k ++ [fb s t k]
theorem fb_bd (s t : Int) (k : Nat) : 0 ≤ fb s t k ∧ fb s t k < 256 := by unfold fb; omega
theorem fb_step (s t : Int) (k : Nat) : (fb s t k + t) % 256 = fb s t (k + 1) := by
  unfold fb
  have e : s + ((k + 1 : Nat) : Int) * t = s + k * t + t := by
    have : ((k + 1 : Nat) : Int) = (k : Int) + 1 := by omega
    rw [this, Int.add_mul, Int.one_mul]; omega
  rw [e]; omega
theorem filL_length (s t : Int) (k : Nat) : (filL s t k).length = k := by
  induction k with
  | zero => rfl
  | succ k ih => simp [filL, ih]
theorem filL_bts (s t : Int) (k : Nat) : Bts (filL s t k) := by
  induction k with
  | zero => exact Bts.nil
  | succ k ih => exact ih.app (Bts.nil.cons (fb_bd s t k).1 (fb_bd s t k).2)

set_option maxHeartbeats 800000 in
theorem cfill_any (n : Nat) (s t : Int) (w : World) (h0 : 0 ≤ s) (h1 : s < 256) (hn : n ≤ 1000000) :
    Calls Ycrm.prog 22 #[.int .i64 n, .int .u8 s, .int .u8 t] w fun e w' => ∃ v, e = .returned v ∧ Res w w' v (filL s t n) := by
  go_enter Ycrm.func22, Ycrm.ntmps22
  go_wp2_with fail
  go_loopw [7, 8, 9] (fun v b i wr => ∃ k : Nat, k ≤ n ∧ i = .int .i64 k ∧ b = .int .u8 (fb s t k) ∧ App (w.alloc (.cells #[] 5)) (some ⟨w.heap.size, 0, none⟩) 0 0 0 0 [] wr v (filL s t k)) (fun _ _ i _ => n - (intOf i).toNat)
  case atStart => exact ⟨0, by omega, rfl, by unfold fb; rw [show s + ((0 : Nat) : Int) * t = s by simp, Int.emod_eq_of_lt h0 h1], app_fresh _⟩
  case round =>
    obtain ⟨k, hk, rfl, rfl, happ⟩ := hrel
    by_cases hlt : k < n
    · have hl := filL_length s t k
      have HB : Hid (0 + (filL s t k).length + 1 ≤ 140737488355328) := by unfold Hid; omega
      have E : Hid ((fb s t k + t) % 256 = fb s t (k + 1)) := fb_step s t k
      have HA : Hid _ := happ
      clear happ hl
      go_wp2_with (at_builtin; go_must (refine wpList_append_app _ rfl (.tmp 17) (.tmp 19) rfl bprog (org_fresh w) rfl (HA.out.alloc _) _ [fb s t k] rfl (src_new bprog wr [fb s t k] 1) HB.out ?_))
      intro v2 w2 happ2
      have HA2 : Hid (App (w.alloc (.cells #[] 5)) (some ⟨w.heap.size, 0, none⟩) 0 0 0 0 [] w2 v2 (filL s t (k + 1))) := happ2
      clear happ2 HA
      go_wp2_with fail
      go_roundw
      case rel => exact ⟨k + 1, by omega, by go_num, by rw [E.out], HA2.out⟩
      case measure => simp [intOf]; omega
    · obtain rfl : k = n := by omega
      have H : Hid _ := happ.res
      clear happ
      go_wp2_with fail
      go_ret
      exact ⟨_, rfl, H.out⟩

set_option maxHeartbeats 1600000 in
theorem ctop_walk (a0 a1 a2 a3 : Int) (w : World) (h0 : 0 ≤ a0) (h1 : a0 < 256) (g0 : 0 ≤ a1) (_g1 : a1 < 256) (s0 : 0 ≤ a2) (s1 : a2 < 256) :
    Calls Ycrm.prog 10 #[.int .u8 a0, .int .u8 a1, .int .u8 a2, .int .u8 a3] w fun e w' => e = .returned (.bool true) ∧ Below w.heap.size w w' := by
  have hq := eqlNil
  have hq' := neqNil
  obtain ⟨n, hn⟩ : ∃ n : Nat, a0 + a1 % 3 = n := ⟨(a0 + a1 % 3).toNat, by omega⟩
  have e1 : a0 + 1 - 1 = a0 := by omega
  go_enter Ycrm.func10, Ycrm.ntmps10
  go_wp2_with fail
  refine (cfill_any n a2 a3 _ s0 s1 (by omega)).mono ?_
  rintro e w1 ⟨v1, rfl, hres⟩
  have HB1 : Hid (Below w.heap.size w w1) := hres.below
  obtain ⟨g, c1, hv1, hg, hlc, hcm1, hvw⟩ := hres.reads
  rw [filL_length] at hv1 hlc
  subst hv1
  have HW : Hid (Vw w1 (some ⟨g, 0, none⟩) (filL a2 a3 n)) := hvw
  clear hvw hres hg
  cases hf : fitsB (4294967295 - a0) n
  · have hgt : a0 + 1 < n := by unfold fitsB at hf; simp at hf; omega
    go_wp2_with fail
    refine (dump_no _ _ n c1 _ (by omega) (by omega) (by omega) hf).mono ?_
    rintro e w' ⟨rfl, rfl⟩
    clear hf
    go_wp2_with fail
    go_ret
    exact ⟨rfl, HB1.out⟩
  · have hle : n ≤ a0 + 1 := by unfold fitsB at hf; simp at hf; omega
    go_wp2_with fail
    refine (dump_yes (4294967295 - a0) _ (filL a2 a3 n) n c1 _ (by omega) (by omega) HW.out (filL_bts _ _ _) (filL_length _ _ _) hlc hcm1 hf (by omega)).mono ?_
    rintro e w2 ⟨v2, rfl, hres2⟩
    have HB2 : Hid (Below w1.heap.size w1 w2) := hres2.below
    obtain ⟨g2, c2, hv2, hg2, hlc2, hcm2, hvw2⟩ := hres2.reads
    subst hv2
    have HW2 : Hid (Vw w2 (some ⟨g2, 0, none⟩) (cw (4294967295 - a0) (filL a2 a3 n) n)) := hvw2
    clear hvw2 hres2 hg2 hf
    go_wp2_with fail
    refine (cwant_any (4294967295 - a0) _ (filL a2 a3 n) n c1 _ (by omega) (by omega) (HW.out.below HB2.out (Nat.le_refl _)) (filL_bts _ _ _) (filL_length _ _ _) (by omega) (by omega)).mono ?_
    rintro e w3 ⟨v3, rfl, hres3⟩
    have HB3 : Hid (Below w2.heap.size w2 w3) := hres3.below
    obtain ⟨g3, c3, hv3, hg3, hlc3, hcm3, hvw3⟩ := hres3.reads
    subst hv3
    have HW3 : Hid (Vw w3 (some ⟨g3, 0, none⟩) (cw (4294967295 - a0) (filL a2 a3 n) n)) := hvw3
    clear hvw3 hres3 hg3
    go_wp2_with fail
    refine (ceq_any _ _ (cw (4294967295 - a0) (filL a2 a3 n) n) (cw (4294967295 - a0) (filL a2 a3 n) n) _ _ _ _ _ (HW2.out.below HB3.out (Nat.le_refl _)) HW3.out rfl rfl (by omega) (by omega)).mono ?_
    rintro e w4 ⟨rfl, hs⟩
    have HS : Hid (Same w3 w4) := hs
    clear hs
    have ht : decide (cw (4294967295 - a0) (filL a2 a3 n) n = cw (4294967295 - a0) (filL a2 a3 n) n) = true := by simp
    go_wp2_with fail
    go_ret
    have z1 := HB1.out.size
    have z2 := HB2.out.size
    exact ⟨rfl, HB1.out.trans ((HB2.out.mono z1).trans ((HB3.out.mono (by omega)).trans (HS.out.below _)))⟩
end Go.Proofs.Ymbrcr
