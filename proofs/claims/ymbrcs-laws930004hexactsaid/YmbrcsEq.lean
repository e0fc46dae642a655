import Derived.Test.YmbrcsRows
import Derived.ProofKit
import Derived.OpenShut
import Derived.Test.YmbrcsView
namespace Go.Proofs.Ymbrcs
open Go.RowKit

/-- zzs930004esame: are two slices of bytes alike? -/
theorem esame_any (a b : Option Addr) (la lb : List Int) (na nb ca cb : Nat) (w : World) (ha : Vw w a la) (hb : Vw w b lb) (hna : la.length = na) (hnb : lb.length = nb) (hla : na ≤ 9223372036854775807) (_hlb : nb ≤ 9223372036854775807) :
    Calls Ycsm.prog 18 #[.slice a na ca, .slice b nb cb] w fun e w' => e = .returned (.bool (decide (la = lb))) ∧ Same w w' := by
  subst hna hnb
  by_cases hl : la.length = lb.length
  · have hl' : ((la.length : Int) != lb.length) = false := by simp [hl]
    have HL : Hid (la.length = lb.length) := hl
    clear hl
    go_enter Ycsm.func18, Ycsm.ntmps18
    go_wp2
    go_loopw [5] (fun i wr => ∃ k : Nat, k ≤ la.length ∧ i = .int .i64 k ∧ Same w wr ∧ ∀ j, j < k → nth la j = nth lb j) (fun i _ => la.length - (intOf i).toNat)
    case atStart => exact ⟨0, by omega, rfl, Same.refl _, fun j hj => by omega⟩
    case round =>
      obtain ⟨k, hk, rfl, hs, heq⟩ := hrel
      have HE : Hid (∀ j, j < k → nth la j = nth lb j) := heq
      clear heq
      by_cases hlt : k < la.length
      · obtain ⟨b1, o1, rfl, hc1⟩ := (ha.same hs) k hlt
        have hlt2 : k < lb.length := by have := HL.out; omega
        obtain ⟨b2, o2, rfl, hc2⟩ := (hb.same hs) k hlt2
        clear ha hb
        by_cases hq : nth la k = nth lb k
        · have hb' : (nth la k != nth lb k) = false := by simp [hq]
          have HQ : Hid (nth la k = nth lb k) := hq
          clear hq
          go_wp2
          go_quiet (fail)
          go_wp2
          go_roundw
          case rel => exact ⟨k + 1, by omega, by go_num, hs.drewN _, fun j hj => by
            by_cases h : j = k
            · subst h; exact HQ.out
            · exact HE.out j (by omega)⟩
          case measure => simp [intOf]; omega
        · have hb' : (nth la k != nth lb k) = true := by simp [hq]
          have HF : Hid (decide (la = lb) = false) := by
            unfold Hid; rw [decide_eq_false_iff_not]; intro e; exact hq (by rw [e])
          clear hq
          go_wp2
          go_quiet (fail)
          go_wp2
          go_ret
          exact ⟨by rw [HF.out]; rfl, hs.drewN _⟩
      · have HT : Hid (decide (la = lb) = true) := by
          unfold Hid; rw [decide_eq_true_iff]; exact ext_nth HL.out (fun j hj => HE.out j (by omega))
        clear ha hb
        go_wp2
        go_ret
        exact ⟨by rw [HT.out]; rfl, hs⟩
  · have hl' : ((la.length : Int) != lb.length) = true := by simp; omega
    have HF : Hid (decide (la = lb) = false) := by
      unfold Hid; rw [decide_eq_false_iff_not]; intro e; exact hl (by rw [e])
    clear ha hb hl
    go_enter Ycsm.func18, Ycsm.ntmps18
    go_wp2
    go_ret
    exact ⟨by rw [HF.out]; rfl, Same.refl _⟩
/-- zzs930004heq: are two slices of bytes alike? -/
theorem heq_any (a b : Option Addr) (la lb : List Int) (na nb ca cb : Nat) (w : World) (ha : Vw w a la) (hb : Vw w b lb) (hna : la.length = na) (hnb : lb.length = nb) (hla : na ≤ 9223372036854775807) (_hlb : nb ≤ 9223372036854775807) :
    Calls Ycsm.prog 28 #[.slice a na ca, .slice b nb cb] w fun e w' => e = .returned (.bool (decide (la = lb))) ∧ Same w w' := by
  subst hna hnb
  by_cases hl : la.length = lb.length
  · have hl' : ((la.length : Int) != lb.length) = false := by simp [hl]
    have HL : Hid (la.length = lb.length) := hl
    clear hl
    go_enter Ycsm.func28, Ycsm.ntmps28
    go_wp2
    go_loopw [5] (fun i wr => ∃ k : Nat, k ≤ la.length ∧ i = .int .i64 k ∧ Same w wr ∧ ∀ j, j < k → nth la j = nth lb j) (fun i _ => la.length - (intOf i).toNat)
    case atStart => exact ⟨0, by omega, rfl, Same.refl _, fun j hj => by omega⟩
    case round =>
      obtain ⟨k, hk, rfl, hs, heq⟩ := hrel
      have HE : Hid (∀ j, j < k → nth la j = nth lb j) := heq
      clear heq
      by_cases hlt : k < la.length
      · obtain ⟨b1, o1, rfl, hc1⟩ := (ha.same hs) k hlt
        have hlt2 : k < lb.length := by have := HL.out; omega
        obtain ⟨b2, o2, rfl, hc2⟩ := (hb.same hs) k hlt2
        clear ha hb
        by_cases hq : nth la k = nth lb k
        · have hb' : (nth la k != nth lb k) = false := by simp [hq]
          have HQ : Hid (nth la k = nth lb k) := hq
          clear hq
          go_wp2
          go_quiet (fail)
          go_wp2
          go_roundw
          case rel => exact ⟨k + 1, by omega, by go_num, hs.drewN _, fun j hj => by
            by_cases h : j = k
            · subst h; exact HQ.out
            · exact HE.out j (by omega)⟩
          case measure => simp [intOf]; omega
        · have hb' : (nth la k != nth lb k) = true := by simp [hq]
          have HF : Hid (decide (la = lb) = false) := by
            unfold Hid; rw [decide_eq_false_iff_not]; intro e; exact hq (by rw [e])
          clear hq
          go_wp2
          go_quiet (fail)
          go_wp2
          go_ret
          exact ⟨by rw [HF.out]; rfl, hs.drewN _⟩
      · have HT : Hid (decide (la = lb) = true) := by
          unfold Hid; rw [decide_eq_true_iff]; exact ext_nth HL.out (fun j hj => HE.out j (by omega))
        clear ha hb
        go_wp2
        go_ret
        exact ⟨by rw [HT.out]; rfl, hs⟩
  · have hl' : ((la.length : Int) != lb.length) = true := by simp; omega
    have HF : Hid (decide (la = lb) = false) := by
      unfold Hid; rw [decide_eq_false_iff_not]; intro e; exact hl (by rw [e])
    clear ha hb hl
    go_enter Ycsm.func28, Ycsm.ntmps28
    go_wp2
    go_ret
    exact ⟨by rw [HF.out]; rfl, Same.refl _⟩
end Go.Proofs.Ymbrcs
