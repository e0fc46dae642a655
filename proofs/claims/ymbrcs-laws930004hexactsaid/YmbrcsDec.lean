import Derived.Test.YmbrcsHx
namespace Go.Proofs.Ymbrcs
open Go.RowKit

/-- The bytes that the first k pairs stand for. -/
def dec (l : List Int) : Nat → List Int
  | 0 => []
  | k + 1 => dec l k ++ [hexVal (nth l (2 * k)) * 16 + hexVal (nth l (2 * k + 1))]
def decOk (l : List Int) : Bool := decide (l.length % 2 = 0) && (List.range l.length).all fun i => hexOk (nth l i)
theorem decOk_iff (l : List Int) : decOk l = true ↔ l.length % 2 = 0 ∧ ∀ i, i < l.length → hexOk (nth l i) = true := by
  unfold decOk
  simp [List.all_eq_true]
theorem decOk_no (l : List Int) : decOk l = false ↔ ¬ (l.length % 2 = 0 ∧ ∀ i, i < l.length → hexOk (nth l i) = true) := by
  rw [← decOk_iff]; simp
theorem dec_length (l : List Int) (k : Nat) : (dec l k).length = k := by
  induction k with
  | zero => rfl
  | succ k ih => simp [dec, ih]
theorem nth_dec (l : List Int) (k i : Nat) (h : i < k) : nth (dec l k) i = hexVal (nth l (2 * i)) * 16 + hexVal (nth l (2 * i + 1)) := by
  induction k with
  | zero => omega
  | succ k ih =>
    rw [dec]
    by_cases hi : i < k
    · rw [nth_left (by rw [dec_length]; exact hi)]; exact ih hi
    · obtain rfl : i = k := by omega
      rw [nth_right (by rw [dec_length]; omega), dec_length, Nat.sub_self, nth_zero]
theorem dec_bts (l : List Int) (k : Nat) : Bts (dec l k) := fun i => by
  by_cases h : i < k
  · rw [nth_dec l k i h]
    have h1 := hexVal_bd (nth l (2 * i))
    have h2 := hexVal_bd (nth l (2 * i + 1))
    omega
  · rw [nth_ge (by rw [dec_length]; omega)]; omega

set_option maxHeartbeats 1600000 in
/-- Decode. -/
theorem decode_any (a : Option Addr) (l : List Int) (n c : Nat) (w : World) (hv : Vw w a l) (hb : Bts l) (hn : l.length = n) (hbd : n ≤ 1000000) :
    Calls Ycsm.prog 15 #[.slice a n c] w fun e w' =>
      (decOk l = false ∧ e = .returned (.tuple #[.slice none 0 0, .bool false]) ∧ Below w.heap.size w w') ∨
      (decOk l = true ∧ ∃ v, e = .returned (.tuple #[v, .bool true]) ∧ Res w w' v (dec l (n / 2))) := by
  by_cases hev : n % 2 = 0
  · have hev' : ((n : Int) % 2 != 0) = false := by simp; omega
    have HE : Hid (n % 2 = 0) := hev
    clear hev
    have HV : Hid (Vw (w.alloc (.cells #[] 5)) a l) := hv.below ((Below.refl w.heap.size _).alloc (Nat.le_refl _) _) (Nat.le_refl _)
    clear hv
    go_enter Ycsm.func15, Ycsm.ntmps15
    go_wp2_with fail
    go_loopw [4, 5] (fun v i wr => ∃ k : Nat, k ≤ n / 2 ∧ i = .int .i64 k ∧ (∀ j, j < 2 * k → hexOk (nth l j) = true) ∧ App (w.alloc (.cells #[] 5)) (some ⟨w.heap.size, 0, none⟩) 0 0 0 0 [] wr v (dec l k)) (fun _ i _ => n / 2 - (intOf i).toNat)
    case atStart => exact ⟨0, by omega, rfl, fun j hj => by omega, app_fresh _⟩
    case round =>
      obtain ⟨k, hk, rfl, hall, happ⟩ := hrel
      have HA : Hid (∀ j, j < 2 * k → hexOk (nth l j) = true) := hall
      have HP : Hid _ := happ
      clear hall happ
      by_cases hlt : k < n / 2
      · obtain ⟨b1, o1, rfl, hc1⟩ := (HP.out.oldVw HV.out (fun b off e hc => absurd hc (Nat.lt_irrefl _))) (2 * k) (by omega)
        obtain ⟨b2, o2, e2, hc2⟩ := (HP.out.oldVw HV.out (fun b off e hc => absurd hc (Nat.lt_irrefl _))) (2 * k + 1) (by omega)
        simp only [Option.some.injEq, Addr.mk.injEq] at e2
        obtain ⟨rfl, rfl, _⟩ := e2
        have hb1 := hb (2 * k)
        have hb2 := hb (2 * k + 1)
        have hv1 := hexVal_bd (nth l (2 * k))
        have hv2 := hexVal_bd (nth l (2 * k + 1))
        have hl1 : (2 : Int) * (k : Int) < (n : Int) := by omega
        have hl2 : (2 : Int) * (k : Int) + 1 < (n : Int) := by omega
        have hlk : (k : Int) < (n : Int) / 2 := by omega
        go_wp2_with fail
        refine (hexValue_any (nth l (2 * k)) hb1.1 hb1.2 _).mono ?_
        rintro e w' ⟨rfl, rfl⟩
        go_wp2_with fail
        refine (hexValue_any (nth l (2 * k + 1)) hb2.1 hb2.2 _).mono ?_
        rintro e w' ⟨rfl, rfl⟩
        cases ho1 : hexOk (nth l (2 * k))
        · have H : Hid (decOk l = false) := by
            unfold Hid; rw [decOk_no]; intro h
            have := h.2 (2 * k) (by omega)
            rw [ho1] at this; exact absurd this (by decide)
          have HB : Hid (Below w.heap.size w w') := HP.out.res.below
          clear ho1
          go_wp2_with fail
          go_ret2
          exact .inl ⟨H.out, rfl, HB.out⟩
        · cases ho2 : hexOk (nth l (2 * k + 1))
          · have H : Hid (decOk l = false) := by
              unfold Hid; rw [decOk_no]; intro h
              have := h.2 (2 * k + 1) (by omega)
              rw [ho2] at this; exact absurd this (by decide)
            have HB : Hid (Below w.heap.size w w') := HP.out.res.below
            clear ho1 ho2
            go_wp2_with fail
            go_ret2
            exact .inl ⟨H.out, rfl, HB.out⟩
          · have HA2 : Hid (∀ j, j < 2 * (k + 1) → hexOk (nth l j) = true) := fun j hj => by
              by_cases h1 : j = 2 * k
              · subst h1; exact ho1
              · by_cases h2 : j = 2 * k + 1
                · subst h2; exact ho2
                · exact HA.out j (by omega)
            have hor := or4_u8 (hexVal (nth l (2 * k))) (hexVal (nth l (2 * k + 1))) hv1.1 hv1.2 hv2.1 hv2.2
            have HB : Hid (0 + (dec l k).length + 1 ≤ 140737488355328) := by unfold Hid; rw [dec_length]; omega
            clear ho1 ho2
            go_wp2_with (at_builtin; go_must (refine wpList_append_app _ rfl (.tmp 47) (.tmp 52) rfl bprog (org_fresh w) rfl (HP.out.alloc _) _ [hexVal (nth l (2 * k)) * 16 + hexVal (nth l (2 * k + 1))] rfl (src_new bprog w' [hexVal (nth l (2 * k)) * 16 + hexVal (nth l (2 * k + 1))] 1) HB.out ?_))
            intro v2 w2 happ2
            have HP2 : Hid (App (w.alloc (.cells #[] 5)) (some ⟨w.heap.size, 0, none⟩) 0 0 0 0 [] w2 v2 (dec l (k + 1))) := happ2
            clear happ2 hor
            go_wp2_with fail
            go_roundw
            case rel => exact ⟨k + 1, by omega, by go_num, HA2.out, HP2.out⟩
            case measure => simp [intOf]; omega
      · obtain rfl : k = n / 2 := by omega
        have H : Hid (decOk l = true) := by
          unfold Hid; rw [decOk_iff]; exact ⟨by rw [hn]; exact HE.out, fun i hi => HA.out i (by have := HE.out; omega)⟩
        have HR : Hid _ := HP.out.res
        clear HP
        go_wp2_with fail
        go_ret2
        exact .inr ⟨H.out, _, rfl, HR.out⟩
  · have hev' : ((n : Int) % 2 != 0) = true := by simp; omega
    have H : Hid (decOk l = false) := by unfold Hid; rw [decOk_no]; intro h; exact hev (by rw [← hn]; exact h.1)
    clear hev hv
    go_enter Ycsm.func15, Ycsm.ntmps15
    go_wp2_with fail
    go_ret2
    exact .inl ⟨H.out, rfl, Below.refl _ _⟩
end Go.Proofs.Ymbrcs
