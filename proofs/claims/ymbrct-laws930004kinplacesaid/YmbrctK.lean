import Derived.Test.YmbrctHx
import Derived.Test.YmbrctCpy
namespace Go.Proofs.Ymbrct
open Go.RowKit
attribute [local go_sem] dg_get

theorem eqlNil (w : World) (a : Option Addr) (n c : Nat) : (binOp .eql 27 (.slice a n c) (.slice none 0 0)).run Yctm.prog w = .ok (.bool a.isNone) w := Lib.run_eql_slice_nil w 27 5 a n c 0 0 Yctm.underlying27
theorem neqNil (w : World) (a : Option Addr) (n c : Nat) : (binOp .neq 27 (.slice a n c) (.slice none 0 0)).run Yctm.prog w = .ok (.bool (!a.isNone)) w := run_neq_slice_nil_any w 27 5 a n c 0 0 Yctm.underlying27

set_option maxHeartbeats 800000 in
/-- zzs930004kcopy. -/
theorem kcopy_any (a : Option Addr) (l : List Int) (n c : Nat) (w : World) (hv : Vw w a l) (hn : l.length = n) (hb : n ≤ 1000000) :
    Calls Yctm.prog 14 #[.slice a n c] w fun e w' => ∃ a', e = .returned (.slice a' n n) ∧ Org w' a' w.heap.size 0 n n l ∧ a'.isNone = a.isNone ∧ Below w.heap.size w w' := by
  have hq := eqlNil
  cases a with
  | none =>
    have hl : l = [] := List.eq_nil_of_length_eq_zero (by
      apply Nat.eq_zero_of_not_pos
      intro hp
      obtain ⟨b, off, e, _⟩ := hv 0 hp
      simp at e)
    subst hl
    obtain rfl : n = 0 := by simpa using hn.symm
    clear hv
    go_enter Yctm.func14, Yctm.ntmps14
    go_wp2_with fail
    go_ret
    exact ⟨none, rfl, ⟨Nat.le_refl _, by unfold maxLen; omega, fun h => absurd h (Nat.lt_irrefl _)⟩, rfl, Below.refl _ _⟩
  | some x =>
    have hmk := run_make_bytes bprog .i64 .i64 n (by omega)
    have HV : Hid (Vw (w.alloc (.cells (zrs n) 5)) (some x) l) := hv.below ((Below.refl w.heap.size w).alloc (Nat.le_refl _) _) (Nat.le_refl _)
    clear hv
    go_enter Yctm.func14, Yctm.ntmps14
    go_wp2_with (refine wpList_copy_bytes rfl (.tmp 9) (.tmp 10) rfl bprog w.heap.size n n rfl (List.replicate n 0) (OwnB.zrs w n) (some x) n c rfl l hn HV.out (Nat.le_refl _) (by simp) ?_)
    intro w' ho hbel
    have HO : Hid (OwnB w' w.heap.size l) := by
      unfold Hid
      have e : splice (List.replicate n 0) 0 l = l := by unfold splice; simp [← hn]
      rw [e] at ho; exact ho
    have HB : Hid (Below w.heap.size w w') := ((Below.refl w.heap.size w).alloc (Nat.le_refl _) _).trans hbel
    clear ho hbel hmk
    go_wp2_with fail
    go_ret
    exact ⟨_, rfl, ⟨Nat.le_refl _, by unfold maxLen; omega, fun _ => ⟨rfl, HO.out, by omega⟩⟩, rfl, HB.out⟩

theorem nth_hexL (l : List Int) (i : Nat) (h : i < l.length) : nth (hexL l) (2 * i) = dg (nth l i / 16).toNat ∧ nth (hexL l) (2 * i + 1) = dg (nth l i % 16).toNat := by
  have e : hexL l = hexL (l.take i) ++ (hex2 (nth l i) ++ hexL (l.drop (i + 1))) := by
    have : l = l.take i ++ (nth l i :: l.drop (i + 1)) := by
      rw [nth_eq h, List.getElem_cons_drop, List.take_append_drop]
    conv => lhs; rw [this]
    rw [hexL_append]
    simp [hexL]
  have hl : (hexL (l.take i)).length = 2 * i := by rw [hexL_length]; simp; omega
  rw [e]
  constructor
  · rw [nth_right (by omega), hl, Nat.sub_self]; rfl
  · rw [nth_right (by omega), hl, show 2 * i + 1 - 2 * i = 1 by omega]; rfl

set_option maxHeartbeats 1600000 in
/-- zzs930004kholds, where it holds. -/
theorem kholds_yes (ar ad asr : Option Addr) (R D S rest : List Int) (nr nd ns cr cd cs : Nat) (w : World) (hr : Vw w ar R) (hd : Vw w ad D) (hs : Vw w asr S) (hbS : Bts S) (hnr : R.length = nr) (hnd : D.length = nd) (hns : S.length = ns)
    (hb1 : nr ≤ 1000000) (hb2 : nd ≤ 1000000) (hb3 : ns ≤ 1000000) (h : R = D ++ hexL S ++ rest) :
    Calls Yctm.prog 15 #[.slice ar nr cr, .slice ad nd cd, .slice asr ns cs] w fun e w' => e = .returned (.bool true) ∧ Same w w' := by
  have hlen : nd + 2 * ns ≤ nr := by
    have := congrArg List.length h
    simp [hexL_length] at this; omega
  have H1 : Hid (∀ i, i < nd → nth R i = nth D i) := fun i hi => by rw [h, List.append_assoc, nth_left (by omega)]
  have H2 : Hid (∀ i, i < ns → nth R (nd + 2 * i) = dg (nth S i / 16).toNat) := fun i hi => by
    have := (nth_hexL S i (by omega)).1
    rw [h, List.append_assoc, nth_right (by omega), hnd, nth_left (by rw [hexL_length]; omega), show nd + 2 * i - nd = 2 * i by omega]; exact this
  have H3 : Hid (∀ i, i < ns → nth R (nd + 2 * i + 1) = dg (nth S i % 16).toNat) := fun i hi => by
    have := (nth_hexL S i (by omega)).2
    rw [h, List.append_assoc, nth_right (by omega), hnd, nth_left (by rw [hexL_length]; omega), show nd + 2 * i + 1 - nd = 2 * i + 1 by omega]; exact this
  clear h
  have HR : Hid (Vw w ar R) := hr
  have HD : Hid (Vw w ad D) := hd
  have HS : Hid (Vw w asr S) := hs
  clear hr hd hs
  go_enter Yctm.func15, Yctm.ntmps15
  go_wp2_with fail
  go_loopw [8] (fun i wr => ∃ k : Nat, k ≤ nd ∧ i = .int .i64 k ∧ Same w wr) (fun i _ => nd - (intOf i).toNat)
  case atStart => exact ⟨0, by omega, rfl, Same.refl _⟩
  case round =>
    obtain ⟨k, hk, rfl, hsm⟩ := hrel
    have HSM : Hid (Same w wr) := hsm
    clear hsm
    by_cases hlt : k < nd
    · obtain ⟨b1, o1, rfl, hc1⟩ := (HR.out.same HSM.out) k (by omega)
      obtain ⟨b2, o2, rfl, hc2⟩ := (HD.out.same HSM.out) k (by omega)
      rw [H1.out k hlt] at hc1
      have hkr : k < nr := by omega
      go_wp2
      go_quiet (fail)
      go_wp2
      go_roundw
      case rel => exact ⟨k + 1, by omega, by go_num, HSM.out.drewN _⟩
      case measure => simp [intOf]; omega
    · go_wp2_with fail
      go_loopw [9] (fun i wr => ∃ k : Nat, k ≤ ns ∧ i = .int .i64 k ∧ Same w wr) (fun i _ => ns - (intOf i).toNat)
      case atStart => exact ⟨0, by omega, rfl, HSM.out⟩
      case round =>
        clear HSM
        obtain ⟨j, hj, rfl, hsm⟩ := hrel
        have HSM : Hid (Same w wr) := hsm
        clear hsm
        by_cases hlt2 : j < ns
        · obtain ⟨b1, o1, rfl, hc1⟩ := (HS.out.same HSM.out) j (by omega)
          obtain ⟨b2, o2, rfl, hc2⟩ := (HR.out.same HSM.out) (nd + 2 * j) (by omega)
          obtain ⟨b3, o3, e3, hc3⟩ := (HR.out.same HSM.out) (nd + 2 * j + 1) (by omega)
          simp only [Option.some.injEq, Addr.mk.injEq] at e3
          obtain ⟨rfl, rfl, _⟩ := e3
          rw [H2.out j hlt2] at hc2
          rw [H3.out j hlt2] at hc3
          have hbj := hbS j
          have q0 : 0 ≤ nth S j := hbj.1
          have q1 : 0 ≤ nth S j / 16 := by omega
          have q2 : nth S j / 16 < 16 := by omega
          have q3 : 0 ≤ nth S j % 16 := by omega
          have q4 : nth S j % 16 < 16 := by omega
          have l1 : (nd : Int) + 2 * (j : Int) < (nr : Int) := by omega
          have l2 : (nd : Int) + 2 * (j : Int) + 1 < (nr : Int) := by omega
          go_wp2
          go_quiet (fail)
          go_wp2
          go_quiet (fail)
          go_wp2
          go_roundw
          case rel => exact ⟨j + 1, by omega, by go_num, HSM.out.drewN _⟩
          case measure => simp [intOf]; omega
        · go_wp2_with fail
          go_ret
          exact ⟨rfl, HSM.out⟩
end Go.Proofs.Ymbrct
