import Derived.Test.YmbrctK
namespace Go.Proofs.Ymbrct
open Go.RowKit

theorem vw_ne {w : World} {a : Option Addr} {l : List Int} (h : Vw w a l) (hl : 0 < l.length) : ∀ b off, a = some ⟨b, off, none⟩ → b ≠ w.heap.size := fun b off e => by
  subst e
  have := h.lt hl
  omega

/-- An append that brought nothing leaves the value as it was. -/
theorem App.none {W : World} {a0 : Option Addr} {g0 off0 len0 cap0 : Nat} {cs0 : List Int} {w : World} {v : Value} (h : App W a0 g0 off0 len0 cap0 cs0 w v []) (hle : len0 ≤ cap0) : v = .slice a0 len0 cap0 := by
  rcases h.val with ⟨_, h2, _⟩ | ⟨h1, _⟩
  · exact h2
  · simp at h1; omega

set_option maxHeartbeats 1600000 in
theorem kexact_walk (a b : Option Addr) (D S : List Int) (n m c d : Nat) (w : World) (hD : Vw w a D) (_hbD : Bts D) (hn : D.length = n) (_hc : n ≤ c) (_hcm : c ≤ 9223372036854775807)
    (hS : Vw w b S) (hbS : Bts S) (hm : S.length = m) (_hd : m ≤ d) (_hdm : d ≤ 9223372036854775807) :
    Calls Yctm.prog 5 #[.slice a n c, .slice b m d] w fun e w' => e = .returned (.bool true) ∧ Below w.heap.size w w' := by
  have hq := eqlNil
  have HD : Hid (Vw w a D) := hD
  have HS : Hid (Vw w b S) := hS
  clear hD hS
  by_cases hbig1 : 1024 < n
  · go_enter Yctm.func5, Yctm.ntmps5
    go_wp2_with fail
    go_ret
    exact ⟨rfl, Below.refl _ _⟩
  by_cases hbig2 : 1024 < m
  · go_enter Yctm.func5, Yctm.ntmps5
    go_wp2_with fail
    go_ret
    exact ⟨rfl, Below.refl _ _⟩
  go_enter Yctm.func5, Yctm.ntmps5
  go_wp2_with fail
  refine (kcopy_any a D n c _ HD.out hn (by omega)).mono ?_
  rintro e w1 ⟨a1, rfl, hO, hnil, hB1⟩
  have HO : Hid (Org w1 a1 w.heap.size 0 n n D) := hO
  have HB1 : Hid (Below w.heap.size w w1) := hB1
  have HN : Hid (a1.isNone = a.isNone) := hnil
  clear hO hB1 hnil
  go_wp2_with fail
  have HNE : Hid (∀ b' off, b = some ⟨b', off, none⟩ → 0 < m → 0 < n → b' ≠ w.heap.size) := fun b' off e h1 _ => vw_ne HS.out (by omega) b' off e
  refine (appendHex_any HO.out (App.start HO.out) b S m d (HS.out.below HB1.out (Nat.le_refl _)) HNE.out hbS hm (by simp; omega)).mono ?_
  rintro e w2 ⟨v2, rfl, happ⟩
  have HB2 : Hid (Below w.heap.size w1 w2) := happ.belowOf HB1.out.size (fun _ => Nat.le_refl _)
  have HB12 : Hid (Below w.heap.size w w2) := HB1.out.trans HB2.out
  have hhl : (hexL S).length = 2 * m := by rw [hexL_length, hm]
  have hrd := happ.reads HO.out
  simp only [List.nil_append, List.drop_zero, hhl] at hrd
  obtain ⟨a2, c2, hv2, hlc2, hcm2, hvw2⟩ := hrd
  have hnone : Hid (m = 0 → a2.isNone = a.isNone) := fun hm0 => by
    have hS0 : S = [] := List.eq_nil_of_length_eq_zero (by omega)
    subst hS0
    have := App.none (by simpa [hexL] using happ) HO.out.le
    rw [hv2] at this
    simp only [Value.slice.injEq] at this
    rw [this.1]
    exact HN.out
  subst hv2
  have htk : D.take n = D := List.take_of_length_le (by omega)
  rw [htk] at hvw2
  have HW : Hid (Vw w2 a2 (D ++ hexL S)) := hvw2
  have HL : Hid ((D ++ hexL S).length = n + 2 * m) := by unfold Hid; rw [List.length_append, hhl, hn]
  clear happ hvw2 hhl htk hcm2
  have hlen : ((n : Int) + 2 * (m : Int) != (n : Int) + 2 * (m : Int)) = false := by simp
  by_cases hm0 : m = 0
  · have hz : ((m : Int) == 0) = true := by simp; omega
    have hnn := hnone.out hm0
    have hxx : (a.isNone != a.isNone) = false := by simp
    clear hm0
    go_wp2_with fail
    refine (kholds_yes a2 a b (D ++ hexL S) D S [] (n + 2 * m) n m _ _ _ _ HW.out (HD.out.below HB12.out (Nat.le_refl _)) (HS.out.below HB12.out (Nat.le_refl _)) hbS HL.out hn hm (by omega) (by omega) (by omega) (by simp)).mono ?_
    rintro e w3 ⟨rfl, hs3⟩
    have HS3 : Hid (Same w2 w3) := hs3
    clear hs3
    go_wp2_with fail
    go_ret
    exact ⟨rfl, HB1.out.trans (HB2.out.trans (HS3.out.below _))⟩
  · have hz : ((m : Int) == 0) = false := by simp; omega
    go_wp2_with fail
    refine (kholds_yes a2 a b (D ++ hexL S) D S [] (n + 2 * m) n m _ _ _ _ HW.out (HD.out.below HB12.out (Nat.le_refl _)) (HS.out.below HB12.out (Nat.le_refl _)) hbS HL.out hn hm (by omega) (by omega) (by omega) (by simp)).mono ?_
    rintro e w3 ⟨rfl, hs3⟩
    have HS3 : Hid (Same w2 w3) := hs3
    clear hs3
    go_wp2_with fail
    go_ret
    exact ⟨rfl, HB1.out.trans (HB2.out.trans (HS3.out.below _))⟩
end Go.Proofs.Ymbrct
