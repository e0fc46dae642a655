import Derived.Test.YmbrcsF
import Derived.Deep.DeepCutAuto
namespace Go.Proofs.Ymbrcs
open Go.RowKit

theorem eqlNil (w : World) (a : Option Addr) (n c : Nat) : (binOp .eql 22 (.slice a n c) (.slice none 0 0)).run Ycsm.prog w = .ok (.bool a.isNone) w := Lib.run_eql_slice_nil w 22 5 a n c 0 0 Ycsm.underlying22
theorem neqNil (w : World) (a : Option Addr) (n c : Nat) : (binOp .neq 22 (.slice a n c) (.slice none 0 0)).run Ycsm.prog w = .ok (.bool (!a.isNone)) w := run_neq_slice_nil_any w 22 5 a n c 0 0 Ycsm.underlying22
theorem vw_ne {w : World} {a : Option Addr} {l : List Int} (h : Vw w a l) (hl : 0 < l.length) : ∀ b off, a = some ⟨b, off, none⟩ → b ≠ w.heap.size := fun b off e => by
  subst e
  have := h.lt hl
  omega
/-- A slice that was full keeps its bytes when something is appended to it. -/
theorem App.full {W : World} {a0 : Option Addr} {g0 n : Nat} {D : List Int} {w : World} {v : Value} {ks : List Int} (hO : Org W a0 g0 0 n n D) (hD : D.length = n) (h : App W a0 g0 0 n n D w v ks) (hk : 0 < ks.length) : Vw w a0 D := by
  by_cases hn : 0 < n
  · rcases h.val with ⟨h1, _⟩ | ⟨_, _, h6⟩
    · omega
    · obtain ⟨cs', k1, k2, k3⟩ := h6 hn
      have e : cs' = D := by
        apply ext_nth k2
        intro j hj
        exact k3 j (by omega)
      subst e
      have := k1.vw (off := 0) (n := n) (by omega)
      rw [List.drop_zero, List.take_of_length_le (by omega)] at this
      rw [(hO.own hn).1]; exact this
  · have : D = [] := List.eq_nil_of_length_eq_zero (by omega)
    subst this
    exact Vw.nil _ _
theorem Org.vw {W : World} {a0 : Option Addr} {g0 n : Nat} {D : List Int} (hO : Org W a0 g0 0 n n D) (hD : D.length = n) : Vw W a0 D := by
  by_cases hn : 0 < n
  · obtain ⟨e, ho, _⟩ := hO.own hn
    have := ho.vw (off := 0) (n := n) (by omega)
    rw [List.drop_zero, List.take_of_length_le (by omega)] at this
    rw [e]; exact this
  · have : D = [] := List.eq_nil_of_length_eq_zero (by omega)
    subst this
    exact Vw.nil _ _

set_option maxRecDepth 20000 in
set_option maxHeartbeats 3200000 in
theorem fexact_walk (a b : Option Addr) (D l : List Int) (n m c d : Nat) (x : Int) (w : World) (hD : Vw w a D) (hn : D.length = n) (h0 : 0 ≤ x) (h1 : x < 4294967296)
    (hv : Vw w b l) (hb : Bts l) (hm : l.length = m) (hd : m ≤ d) (hdm : d ≤ 9223372036854775807) :
    Calls Ycsm.prog 6 #[.slice a n c, .int .u32 x, .slice b m d] w fun e w' => e = .returned (.bool true) ∧ Below w.heap.size w w' := by
  have hq := eqlNil
  have hq' := neqNil
  have HD : Hid (Vw w a D) := hD
  have HV : Hid (Vw w b l) := hv
  have HN : Hid (D.length = n) := hn
  have HM : Hid (l.length = m) := hm
  clear hD hv hn hm
  by_cases hbig1 : 1024 < n
  · go_enter Ycsm.func6, Ycsm.ntmps6
    go_wp2_with fail
    go_ret
    exact ⟨rfl, Below.refl _ _⟩
  by_cases hbig2 : 1024 < m
  · go_enter Ycsm.func6, Ycsm.ntmps6
    go_wp2_with fail
    go_ret
    exact ⟨rfl, Below.refl _ _⟩
  have d1 : decide ((1024 : Int) < (n : Int)) = false := decide_eq_false (by omega)
  have d2 : decide ((1024 : Int) < (m : Int)) = false := decide_eq_false (by omega)
  go_enter Ycsm.func6, Ycsm.ntmps6
  go_upto_if 23 with fail
  go_cut [7] (fun v wx => ∃ a1, v = .slice a1 n n ∧ Org wx a1 w.heap.size 0 n n D ∧ a1.isNone = a.isNone ∧ Below w.heap.size w wx)
  case first =>
    cases a with
    | none =>
      have hl : D = [] := List.eq_nil_of_length_eq_zero (by
        apply Nat.eq_zero_of_not_pos
        intro hp
        obtain ⟨b, off, e, _⟩ := HD.out 0 hp
        simp at e)
      subst hl
      have hn0 : n = 0 := HN.out.symm
      go_wp2_with fail
      go_meet
      case rel => exact ⟨none, by rw [hn0], ⟨Nat.le_refl _, by unfold maxLen; omega, fun h => absurd h (by omega)⟩, rfl, Below.refl _ _⟩
    | some y =>
      have hmk := run_make_bytes bprog .i64 .i64 n (by omega)
      have HV2 : Hid (Vw (w.alloc (.cells (zrs n) 5)) (some y) D) := HD.out.below ((Below.refl w.heap.size w).alloc (Nat.le_refl _) _) (Nat.le_refl _)
      go_wp2_with (refine wpList_copy_bytes rfl (.tmp 27) (.tmp 28) rfl bprog w.heap.size n n rfl (List.replicate n 0) (OwnB.zrs w n) (some y) n c rfl D HN.out HV2.out (Nat.le_refl _) (by simp) ?_)
      intro w' ho hbel
      have HO : Hid (OwnB w' w.heap.size D) := by
        unfold Hid
        have e : splice (List.replicate n 0) 0 D = D := by unfold splice; simp [← HN.out]
        rw [e] at ho; exact ho
      have HB : Hid (Below w.heap.size w w') := ((Below.refl w.heap.size w).alloc (Nat.le_refl _) _).trans hbel
      clear ho hbel hmk
      go_wp2_with fail
      go_meet
      case rel => exact ⟨_, rfl, ⟨Nat.le_refl _, by unfold maxLen; omega, fun _ => ⟨rfl, HO.out, by have := HN.out; omega⟩⟩, rfl, HB.out⟩
  case rest =>
    obtain ⟨a1, rfl, hO, hnil, hB1⟩ := hcut
    have HO : Hid (Org wc a1 w.heap.size 0 n n D) := hO
    have HB1 : Hid (Below w.heap.size w wc) := hB1
    have hxx : (a.isNone != a.isNone) = false := by simp
    clear hO hB1
    have HNE : Hid (∀ b' off, b = some ⟨b', off, none⟩ → 0 < m → b' ≠ w.heap.size) := fun b' off e h1 => vw_ne HV.out (by have := HM.out; omega) b' off e
    go_wp2_with fail
    cases hg : goodB x m
    · refine (appendLine_no (.slice a1 n n) x b m d _ h0 h1 (by omega) (goodB_no hg)).mono ?_
      rintro e w' ⟨rfl, rfl⟩
      go_wp2_with fail
      refine (fgood_any x m _ h0 h1 (by omega)).mono ?_
      rw [hg]
      rintro e w' ⟨rfl, rfl⟩
      have hlen : ((n : Int) != (n : Int)) = false := by simp
      have hlen2 : ((n : Int) != (n : Int) + 0) = false := by simp
      clear hg
      go_wp2_with fail
      go_loopw [12] (fun i wr => ∃ k : Nat, k ≤ n ∧ i = .int .i64 k ∧ Same w' wr) (fun i _ => n - (intOf i).toNat)
      case atStart => exact ⟨0, by omega, rfl, Same.refl _⟩
      case round =>
        obtain ⟨k, hk, rfl, hsm⟩ := hrel
        have HSM : Hid (Same w' wr) := hsm
        clear hsm
        by_cases hlt : k < n
        · obtain ⟨b1, o1, rfl, hc1⟩ := ((Org.vw HO.out HN.out).same HSM.out) k (by have := HN.out; omega)
          obtain ⟨b2, o2, rfl, hc2⟩ := ((HD.out.below HB1.out (Nat.le_refl _)).same HSM.out) k (by have := HN.out; omega)
          have hn1 : (nth D k != nth D k) = false := by simp
          go_wp2
          go_quiet (fail)
          go_wp2
          go_roundw
          case rel => exact ⟨k + 1, by omega, by go_num, HSM.out.drewN _⟩
          case measure => simp [intOf]; omega
        · go_wp2_with fail
          go_loop [13] (fun i => i = .int .i64 0) (fun _ => 0)
          case atStart => rfl
          case round =>
            subst hrel
            go_wp2_with fail
            go_ret
            exact ⟨rfl, HB1.out.trans (HSM.out.below _)⟩
    · obtain ⟨hm1, hm16, hf⟩ := goodB_yes hg
      refine (appendLine_yes HO.out (App.start HO.out) x h0 h1 b l m d (HV.out.below HB1.out (Nat.le_refl _)) (fun b' off e _ => HNE.out b' off e (by omega)) hb HM.out hd hdm hm1 hm16 hf (by simp; omega)).mono ?_
      rintro e w2 ⟨v2, rfl, happ⟩
      have HB2 : Hid (Below w.heap.size wc w2) := happ.belowOf HB1.out.size (fun _ => Nat.le_refl _)
      have HB12 : Hid (Below w.heap.size w w2) := HB1.out.trans HB2.out
      have hll : (lineL x l).length = 10 + 3 * m := by rw [lineL_length, HM.out]
      have HDd : Hid (Vw w2 a1 D) := happ.full HO.out HN.out (by rw [List.nil_append, hll]; omega)
      have hrd := happ.reads HO.out
      simp only [List.nil_append, List.drop_zero, hll] at hrd
      obtain ⟨a2, c2, hv2, hlc2, hcm2, hvw2⟩ := hrd
      obtain ⟨nn, hnn⟩ : ∃ nn : Nat, n + (10 + 3 * m) = nn := ⟨_, rfl⟩
      rw [hnn] at hv2
      subst hv2
      have htk : D.take n = D := List.take_of_length_le (by have := HN.out; omega)
      rw [htk] at hvw2
      have HW : Hid (Vw w2 a2 (D ++ lineL x l)) := hvw2
      have HLL : Hid ((lineL x l).length = 10 + 3 * m) := hll
      have HL : Hid ((D ++ lineL x l).length = nn) := by unfold Hid; rw [List.length_append, hll, HN.out, hnn]
      have hlen : ((nn : Int) != (n : Int) + (10 + 3 * (m : Int))) = false := by simp; omega
      have HDo : Hid (Vw w2 a D) := HD.out.below HB12.out (Nat.le_refl _)
      have HR : Hid (Vw w2 b l) := HV.out.below HB12.out (Nat.le_refl _)
      clear happ hvw2 htk hcm2 hlc2 hll
      go_wp2_with fail
      refine (fgood_any x m _ h0 h1 (by omega)).mono ?_
      rw [hg]
      rintro e w' ⟨rfl, rfl⟩
      clear hg hf
      go_wp2_with fail
      go_loopw [12] (fun i wr => ∃ k : Nat, k ≤ n ∧ i = .int .i64 k ∧ Same w' wr) (fun i _ => n - (intOf i).toNat)
      case atStart => exact ⟨0, by omega, rfl, Same.refl _⟩
      case round =>
        obtain ⟨k, hk, rfl, hsm⟩ := hrel
        have HSM : Hid (Same w' wr) := hsm
        clear hsm
        by_cases hlt : k < n
        · obtain ⟨b1, o1, rfl, hc1⟩ := (HDd.out.same HSM.out) k (by have := HN.out; omega)
          obtain ⟨b2, o2, rfl, hc2⟩ := (HDo.out.same HSM.out) k (by have := HN.out; omega)
          obtain ⟨b3, o3, rfl, hc3⟩ := (HW.out.same HSM.out) k (by have := HL.out; omega)
          rw [nth_left (by have := HN.out; omega)] at hc3
          have hn1 : (nth D k != nth D k) = false := by simp
          have hknn : k < nn := by omega
          go_wp2
          go_quiet (fail)
          go_wp2
          go_roundw
          case rel => exact ⟨k + 1, by omega, by go_num, HSM.out.drewN _⟩
          case measure => simp [intOf]; omega
        · go_wp2_with fail
          go_loopw [13] (fun i wr => ∃ p : Nat, p ≤ 10 + 3 * m ∧ i = .int .i64 p ∧ Same w' wr) (fun i _ => 10 + 3 * m - (intOf i).toNat)
          case atStart => exact ⟨0, by omega, rfl, HSM.out⟩
          case round =>
            clear HSM
            obtain ⟨p, hp, rfl, hsm⟩ := hrel
            have HSM : Hid (Same w' wr) := hsm
            clear hsm
            by_cases hlt2 : p < 10 + 3 * m
            · obtain ⟨q, hqp⟩ : ∃ q : Nat, n + p = q := ⟨_, rfl⟩
              obtain ⟨b3, o3, rfl, hc3⟩ := (HW.out.same HSM.out) q (by have := HL.out; omega)
              rw [← hqp, nth_right (by have := HN.out; omega), HN.out, show n + p - n = p by omega, hqp] at hc3
              have hqn : (q : Int) < (nn : Int) := by omega
              have hm1 : IntKind.i64.wrap ((n : Int) + (p : Int)) = (q : Int) := by rw [IntWalk.i64_in _ ⟨by omega, by omega⟩]; omega
              have hn1 : (nth (lineL x l) p != nth (lineL x l) p) = false := by simp
              have HRr : Hid (Vw wr b l) := HR.out.same HSM.out
              have hlt2' : (p : Int) < 10 + 3 * (m : Int) := by omega
              clear hqp
              go_wp2
              go_quiet ((go_at_call 21; exact Calls.quiet_of_same (fat_any p x b l m d _ h0 h1 (HRr.out.same ((Same.refl _).drewN _)) hb HM.out (by omega) hlt2)))
              go_wp2
              go_roundw
              case rel => exact ⟨p + 1, by omega, by go_num, HSM.out.drewN _⟩
              case measure => simp [intOf]; omega
            · have hlt2' : ¬ (p : Int) < 10 + 3 * (m : Int) := by omega
              go_wp2_with fail
              go_ret
              exact ⟨rfl, HB12.out.trans (HSM.out.below _)⟩
end Go.Proofs.Ymbrcs
