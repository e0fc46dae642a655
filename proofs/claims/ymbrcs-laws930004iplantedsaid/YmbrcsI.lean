import Derived.Test.YmbrcsPLine
import Derived.Test.YmbrcsFind
namespace Go.Proofs.Ymbrcs
open Go.RowKit

def pairOk (x y : Int) : Bool := hexOk x && hexOk y
def pairVal (x y : Int) : Int := if pairOk x y = true then hexVal x * 16 + hexVal y else 0
/-- A pair of digits stands at p. -/
def bOk (l : List Int) (p : Nat) : Bool := decide (p + 2 ≤ l.length) && pairOk (nth l p) (nth l (p + 1))
def bVal (l : List Int) (p : Nat) : Int := if bOk l p = true then hexVal (nth l p) * 16 + hexVal (nth l (p + 1)) else 0
theorem bOk_short {l : List Int} {p : Nat} (h : l.length < p + 2) : bOk l p = false := by
  unfold bOk; rw [decide_eq_false (by omega)]; rfl
theorem bOk_long {l : List Int} {p : Nat} (h : p + 2 ≤ l.length) : bOk l p = pairOk (nth l p) (nth l (p + 1)) := by
  unfold bOk; rw [decide_eq_true h]; rfl
theorem bVal_no {l : List Int} {p : Nat} (h : bOk l p = false) : bVal l p = 0 := by unfold bVal; rw [if_neg (by simp [h])]
theorem bVal_yes {l : List Int} {p : Nat} (h : bOk l p = true) : bVal l p = hexVal (nth l p) * 16 + hexVal (nth l (p + 1)) := by unfold bVal; rw [if_pos h]
theorem bVal_long {l : List Int} {p : Nat} (h : p + 2 ≤ l.length) : bVal l p = pairVal (nth l p) (nth l (p + 1)) := by
  unfold bVal pairVal; rw [bOk_long h]
/-- Where the pair of the byte i lies. -/
def posOf (i : Nat) : Nat := i / 16 * 58 + 10 + 3 * (i % 16)
theorem posOf_mono {i j : Nat} (h : i ≤ j) : posOf i ≤ posOf j := by unfold posOf; omega

set_option maxRecDepth 20000 in
set_option maxHeartbeats 1600000 in
/-- ByteAt, at an offset not below the base. -/
theorem byteAt_yes (base off : Int) (i : Nat) (a : Option Addr) (l : List Int) (n c : Nat) (w : World) (h0 : 0 ≤ base) (h1 : off < 4294967296) (hi : off = base + i) (hv : Vw w a l) (hb : Bts l) (hn : l.length = n) (hc : n ≤ c) (hcm : c ≤ 9223372036854775807) :
    Calls Ycsm.prog 30 #[.int .u32 base, .slice a n c, .int .u32 off] w fun e w' =>
      e = .returned (.tuple #[.int .u8 (bVal l (posOf i)), .bool (bOk l (posOf i))]) ∧ Below w.heap.size w w' := by
  obtain ⟨p, hp⟩ : ∃ p : Nat, posOf i = p := ⟨_, rfl⟩
  have hpi : (i : Int) / 16 * 58 + 9 + 3 * ((i : Int) % 16) + 1 = (p : Int) := by unfold posOf at hp; omega
  subst hi
  have hsub : base + (i : Int) - base = (i : Int) := by omega
  have hlo : decide (base + (i : Int) < base) = false := decide_eq_false (by omega)
  have hi1 : i < 4294967296 := by omega
  rw [hp]
  by_cases hs : n < p + 2
  · have H1 : Hid (bOk l p = false) := bOk_short (by omega)
    have H2 : Hid (bVal l p = 0) := bVal_no H1.out
    have hd : (decide ((n : Int) - (p : Int) < 2)) = true := by simp; omega
    clear hv hp
    go_enter Ycsm.func30, Ycsm.ntmps30
    go_wp2_with fail
    go_ret2
    exact ⟨by rw [H1.out, H2.out]; rfl, Below.refl _ _⟩
  · obtain ⟨b1, o1, rfl, _⟩ := hv p (by omega)
    have HV2 : Hid (Vw w (some ⟨b1, o1 + p, none⟩) [nth l p, nth l (p + 1)]) := two_vw hv p (by omega)
    have hd : (decide ((n : Int) - (p : Int) < 2)) = false := by simp; omega
    have hcap : ¬ c = p := by omega
    have hcl : (p : Int) + 2 ≤ (c : Int) := by omega
    have hbx := hb p
    have hby := hb (p + 1)
    have HL : Hid (bOk l p = pairOk (nth l p) (nth l (p + 1))) := bOk_long (by omega)
    clear hv hp
    go_enter Ycsm.func30, Ycsm.ntmps30
    go_wp2_with fail
    refine (decode_any _ [nth l p, nth l (p + 1)] 2 _ _ HV2.out ((Bts.nil.cons hby.1 hby.2).cons hbx.1 hbx.2) rfl (by omega)).mono ?_
    rintro e w2 (⟨hno, rfl, hB2⟩ | ⟨hyes, v2, rfl, hres2⟩)
    · have H1 : Hid (bOk l p = false) := by unfold Hid; rw [HL.out]; unfold pairOk; rw [← decOk_two]; exact hno
      have H2 : Hid (bVal l p = 0) := bVal_no H1.out
      have HB2 : Hid (Below w.heap.size w w2) := hB2
      clear hno hB2
      go_wp2_with fail
      go_ret2
      exact ⟨by rw [H1.out, H2.out]; rfl, HB2.out⟩
    · have H1 : Hid (bOk l p = true) := by unfold Hid; rw [HL.out]; unfold pairOk; rw [← decOk_two]; exact hyes
      have H2 : Hid (bVal l p = hexVal (nth l p) * 16 + hexVal (nth l (p + 1))) := bVal_yes H1.out
      rw [show 2 / 2 = 1 by rfl, dec_two] at hres2
      have HB2 : Hid (Below w.heap.size w w2) := hres2.below
      obtain ⟨g2, c2, hv2, hg2, hlc2, hcm2, hvw2⟩ := hres2.reads
      obtain ⟨b3, o3, e3, hc3⟩ := hvw2 0 (by simp)
      simp only [Option.some.injEq, Addr.mk.injEq] at e3
      obtain ⟨rfl, rfl, _⟩ := e3
      rw [nth_zero, Nat.zero_add] at hc3
      simp only [List.length_cons, List.length_nil, Nat.zero_add] at hv2
      subst hv2
      clear hyes hres2 hvw2 hg2
      go_wp2_with fail
      go_ret2
      exact ⟨by rw [H1.out, H2.out]; rfl, HB2.out⟩
theorem byteAt_no (base off : Int) (a : Option Addr) (n c : Nat) (w : World) (h : off < base) :
    Calls Ycsm.prog 30 #[.int .u32 base, .slice a n c, .int .u32 off] w fun e w' =>
      e = .returned (.tuple #[.int .u8 0, .bool false]) ∧ w' = w := by
  go_enter Ycsm.func30, Ycsm.ntmps30
  go_wp2_with fail
  go_ret2
  exact ⟨rfl, rfl⟩
theorem ipair_any (x y : Int) (w : World) :
    Calls Ycsm.prog 32 #[.int .u8 x, .int .u8 y] w fun e w' =>
      e = .returned (.tuple #[.int .u8 (pairVal x y), .bool (pairOk x y)]) ∧ w' = w := by
  go_enter Ycsm.func32, Ycsm.ntmps32
  go_wp2_with fail
  refine (idigit_any x _).mono ?_
  rintro e w' ⟨rfl, rfl⟩
  go_wp2_with fail
  refine (idigit_any y _).mono ?_
  rintro e w' ⟨rfl, rfl⟩
  have hx := hexVal_bd x
  have hy := hexVal_bd y
  cases h1 : hexOk x
  · have hi := iV_no x h1
    have H1 : Hid (pairOk x y = false) := by unfold Hid pairOk; rw [h1]; rfl
    have H2 : Hid (pairVal x y = 0) := by unfold Hid pairVal; rw [if_neg (by simp [H1.out])]
    clear h1
    go_wp2_with fail
    go_ret2
    exact ⟨by rw [H1.out, H2.out]; rfl, rfl⟩
  · have hi := iV_yes x h1
    cases h2 : hexOk y
    · have hj := iV_no y h2
      have H1 : Hid (pairOk x y = false) := by unfold Hid pairOk; rw [h1, h2]; rfl
      have H2 : Hid (pairVal x y = 0) := by unfold Hid pairVal; rw [if_neg (by simp [H1.out])]
      clear h1 h2
      go_wp2_with fail
      go_ret2
      exact ⟨by rw [H1.out, H2.out]; rfl, rfl⟩
    · have hj := iV_yes y h2
      have H1 : Hid (pairOk x y = true) := by unfold Hid pairOk; rw [h1, h2]; rfl
      have H2 : Hid (pairVal x y = 16 * hexVal x + hexVal y) := by unfold Hid pairVal; rw [if_pos H1.out]; omega
      clear h1 h2
      go_wp2_with fail
      go_ret2
      exact ⟨by rw [H1.out, H2.out]; rfl, rfl⟩

set_option maxRecDepth 20000 in
set_option maxHeartbeats 1600000 in
theorem iwalk_any (a : Option Addr) (l : List Int) (n c gap : Nat) (w : World) (hv : Vw w a l) (hn : l.length = n) (hc : n ≤ c) (hcm : c ≤ 9223372036854775807) (hg : gap < 4294967296) :
    Calls Ycsm.prog 31 #[.slice a n c, .int .u32 gap] w fun e w' =>
      e = .returned (.tuple #[.int .u8 (bVal l (posOf gap)), .bool (bOk l (posOf gap))]) ∧ Same w w' := by
  have HV : Hid (Vw w a l) := hv
  have HN : Hid (l.length = n) := hn
  clear hv hn
  go_enter Ycsm.func31, Ycsm.ntmps31
  go_wp2_with fail
  go_loop [6, 7, 8] (fun q d i => ∃ k : Nat, k ≤ gap ∧ i = .int .u32 k ∧ q = .int .i64 (posOf k : Nat) ∧ d = .int .i64 (k % 16 : Nat)) (fun _ _ i => gap - (intOf i).toNat)
  case atStart => exact ⟨0, by omega, rfl, rfl, rfl⟩
  case round =>
    obtain ⟨k, hk, rfl, rfl, rfl⟩ := hrel
    obtain ⟨p, hp⟩ : ∃ p : Nat, posOf k = p := ⟨_, rfl⟩
    obtain ⟨d, hd⟩ : ∃ d : Nat, k % 16 = d := ⟨_, rfl⟩
    have hpb : p < 100000000000 := by unfold posOf at hp; omega
    have hd16 : d < 16 := by omega
    rw [hp, hd]
    by_cases hlt : k < gap
    · by_cases hs : n < p + 2
      · have hds : (decide ((n : Int) - (p : Int) < 2)) = true := by simp; omega
        have H1 : Hid (bOk l (posOf gap) = false) := bOk_short (by have := posOf_mono (Nat.le_of_lt hlt); have := HN.out; omega)
        have H2 : Hid (bVal l (posOf gap) = 0) := bVal_no H1.out
        clear hp hd
        go_wp2_with fail
        go_ret2
        exact ⟨by rw [H1.out, H2.out]; rfl, Same.refl _⟩
      · have hds : (decide ((n : Int) - (p : Int) < 2)) = false := by simp; omega
        by_cases h15 : d = 15
        · subst h15
          have HQ : Hid (posOf (k + 1) = p + 3 + 10) := by unfold Hid; unfold posOf at hp ⊢; omega
          have HD : Hid ((k + 1) % 16 = 0) := by unfold Hid; omega
          clear hp hd
          go_wp2_with fail
          go_round
          case rel => exact ⟨k + 1, by omega, by go_num, by rw [HQ.out]; go_num, by rw [HD.out]; rfl⟩
          case measure => simp [intOf]; omega
        · have HQ : Hid (posOf (k + 1) = p + 3) := by unfold Hid; unfold posOf at hp ⊢; omega
          have HD : Hid ((k + 1) % 16 = d + 1) := by unfold Hid; omega
          have h15' : ((d : Int) + 1 == 16) = false := by simp; omega
          clear hp hd
          go_wp2_with fail
          go_round
          case rel => exact ⟨k + 1, by omega, by go_num, by rw [HQ.out]; go_num, by rw [HD.out]; go_num⟩
          case measure => simp [intOf]; omega
    · obtain rfl : k = gap := by omega
      have hkk : decide ((k : Int) < (k : Int)) = false := by simp
      by_cases hs : n < p + 2
      · have hds : (decide ((n : Int) - (p : Int) < 2)) = true := by simp; omega
        have H1 : Hid (bOk l p = false) := bOk_short (by have := HN.out; omega)
        have H2 : Hid (bVal l p = 0) := bVal_no H1.out
        have HPP : Hid (posOf k = p) := hp
        clear hp hd
        go_wp2_with fail
        go_ret2
        exact ⟨by rw [HPP.out, H1.out, H2.out]; rfl, Same.refl _⟩
      · have hds : (decide ((n : Int) - (p : Int) < 2)) = false := by simp; omega
        obtain ⟨q, hq⟩ : ∃ q : Nat, p + 1 = q := ⟨_, rfl⟩
        obtain ⟨b1, o1, rfl, hc1⟩ := HV.out p (by have := HN.out; omega)
        obtain ⟨b2, o2, e2, hc2⟩ := HV.out q (by have := HN.out; omega)
        simp only [Option.some.injEq, Addr.mk.injEq] at e2
        obtain ⟨rfl, rfl, _⟩ := e2
        have HL : Hid (bOk l p = pairOk (nth l p) (nth l q)) := by unfold Hid; rw [← hq]; exact bOk_long (by have := HN.out; omega)
        have HL2 : Hid (bVal l p = pairVal (nth l p) (nth l q)) := by unfold Hid; rw [← hq]; exact bVal_long (by have := HN.out; omega)
        have hl1 : (p : Int) < (n : Int) := by omega
        have hl2 : (q : Int) < (n : Int) := by omega
        have hm1 : IntKind.i64.wrap ((p : Int) + 1) = (q : Int) := by rw [IntWalk.i64_in _ ⟨by omega, by omega⟩]; omega
        clear hq
        have HPP : Hid (posOf k = p) := hp
        clear hp hd
        go_wp2
        go_quiet ((go_at_call 32; exact Calls.quiet_of_same (ipair_any _ _ _)))
        go_wp2
        go_ret2
        exact ⟨by rw [HPP.out, HL.out, HL2.out]; rfl, (Same.refl _).drewN _⟩

set_option maxRecDepth 20000 in
set_option maxHeartbeats 1600000 in
theorem iwalk_walk (base gap : Int) (a : Option Addr) (l : List Int) (n c : Nat) (w : World) (b0 : 0 ≤ base) (b1 : base < 4294967296) (g0 : 0 ≤ gap) (g1 : gap < 4294967296) (hv : Vw w a l) (hb : Bts l) (hn : l.length = n) (hc : n ≤ c) (hcm : c ≤ 9223372036854775807) :
    Calls Ycsm.prog 12 #[.int .u32 base, .int .u32 gap, .slice a n c] w fun e w' => e = .returned (.bool true) ∧ Below w.heap.size w w' := by
  have HV : Hid (Vw w a l) := hv
  clear hv
  by_cases hof : base + gap < 4294967296
  · obtain ⟨i, rfl⟩ : ∃ i : Nat, gap = i := ⟨gap.toNat, by omega⟩
    have hlt : decide (base + (i : Int) < base) = false := decide_eq_false (by omega)
    go_enter Ycsm.func12, Ycsm.ntmps12
    go_wp2_with fail
    refine (byteAt_yes base (base + i) i a l n c _ b0 hof rfl HV.out hb hn hc hcm).mono ?_
    rintro e w1 ⟨rfl, hB⟩
    have HB : Hid (Below w.heap.size w w1) := hB
    clear hB
    go_wp2_with fail
    refine (iwalk_any a l n c i _ (HV.out.below HB.out (Nat.le_refl _)) hn hc hcm (by omega)).mono ?_
    rintro e w2 ⟨rfl, hs⟩
    have HS : Hid (Same w1 w2) := hs
    clear hs
    generalize bVal l (posOf i) = v at *
    generalize bOk l (posOf i) = o at *
    have e1 : (v == v) = true := by simp
    have e2 : (o == o) = true := by simp
    go_wp2_with fail
    go_ret
    exact ⟨rfl, HB.out.trans (HS.out.below _)⟩
  · have hw : (base + gap) % 4294967296 = base + gap - 4294967296 := by omega
    have hlt : decide (base + gap - 4294967296 < base) = true := by simp; omega
    go_enter Ycsm.func12, Ycsm.ntmps12
    go_wp2_with fail
    refine (byteAt_no base (base + gap - 4294967296) a n c _ (by omega)).mono ?_
    rintro e w1 ⟨rfl, rfl⟩
    go_wp2_with fail
    go_ret
    exact ⟨rfl, Below.refl _ _⟩
end Go.Proofs.Ymbrcs
