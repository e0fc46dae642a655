import Derived.Test.YmbrcrDump
import Derived.Test.YmbrcrCWant
import Derived.Test.YmbrcrEq
namespace Go.Proofs.Ymbrcr
open Go.RowKit

theorem eqlNil (w : World) (a : Option Addr) (n c : Nat) : (binOp .eql 22 (.slice a n c) (.slice none 0 0)).run Ycrm.prog w = .ok (.bool a.isNone) w := Lib.run_eql_slice_nil w 22 5 a n c 0 0 Ycrm.underlying22
theorem neqNil (w : World) (a : Option Addr) (n c : Nat) : (binOp .neq 22 (.slice a n c) (.slice none 0 0)).run Ycrm.prog w = .ok (.bool (!a.isNone)) w := run_neq_slice_nil_any w 22 5 a n c 0 0 Ycrm.underlying22

set_option maxHeartbeats 1600000 in
theorem cexact_walk (x : Int) (a : Option Addr) (l : List Int) (n c : Nat) (w : World) (h0 : 0 ≤ x) (h1 : x < 4294967296) (hv : Vw w a l) (hb : Bts l) (hn : l.length = n) (hc : n ≤ c) (hcm : c ≤ 9223372036854775807) :
    Calls Ycrm.prog 9 #[.int .u32 x, .slice a n c] w fun e w' => e = .returned (.bool true) ∧ Below w.heap.size w w' := by
  have hq := eqlNil
  have hq' := neqNil
  by_cases hbig : 1024 < n
  · clear hv hb hn
    go_enter Ycrm.func9, Ycrm.ntmps9
    go_wp2_with fail
    go_ret
    exact ⟨rfl, Below.refl _ _⟩
  · cases hf : fitsB x n
    · have hgt : 4294967296 < x + n := by unfold fitsB at hf; simp at hf; omega
      go_enter Ycrm.func9, Ycrm.ntmps9
      go_wp2_with fail
      refine (dump_no x a n c _ h0 h1 (by omega) hf).mono ?_
      rintro e w' ⟨rfl, rfl⟩
      clear hv hb hn hf
      go_wp2_with fail
      go_ret
      exact ⟨rfl, Below.refl _ _⟩
    · have hle : x + n ≤ 4294967296 := by unfold fitsB at hf; simp at hf; omega
      have HV : Hid (Vw w a l) := hv
      clear hv
      go_enter Ycrm.func9, Ycrm.ntmps9
      go_wp2_with fail
      refine (dump_yes x a l n c _ h0 h1 HV.out hb hn hc hcm hf (by omega)).mono ?_
      rintro e w1 ⟨v1, rfl, hres⟩
      have B1 := hres.below
      obtain ⟨g, c1, hv1, hg, hlc, hcm1, hvw⟩ := hres.reads
      subst hv1
      have HW : Hid (Vw w1 (some ⟨g, 0, none⟩) (cw x l n)) := hvw
      have HB1 : Hid (Below w.heap.size w w1) := B1
      have HG : Hid (w.heap.size ≤ g) := hg
      clear hvw B1 hres hf hg
      go_wp2_with fail
      refine (cwant_any x a l n c _ h0 h1 (HV.out.below HB1.out (Nat.le_refl _)) hb hn (by omega) hle).mono ?_
      rintro e w2 ⟨v2, rfl, hres2⟩
      have HB2 : Hid (Below w1.heap.size w1 w2) := hres2.below
      obtain ⟨g2, c2, hv2, hg2, hlc2, hcm2, hvw2⟩ := hres2.reads
      subst hv2
      have HW2 : Hid (Vw w2 (some ⟨g2, 0, none⟩) (cw x l n)) := hvw2
      clear hvw2 hres2 hg2
      go_wp2_with fail
      refine (ceq_any _ _ (cw x l n) (cw x l n) _ _ _ _ _ (HW.out.below HB2.out (Nat.le_refl _)) HW2.out rfl rfl (by omega) (by omega)).mono ?_
      rintro e w3 ⟨rfl, hs⟩
      have HS : Hid (Same w2 w3) := hs
      clear hs
      have ht : decide (cw x l n = cw x l n) = true := by simp
      go_wp2_with fail
      go_ret
      exact ⟨rfl, HB1.out.trans ((HB2.out.mono HB1.out.size).trans (HS.out.below _))⟩
end Go.Proofs.Ymbrcr
