import Derived.Test.YmbrcsOff
import Derived.Test.YmbrcsOfs
import Derived.Test.YmbrcsDec
namespace Go.Proofs.Ymbrcs
open Go.RowKit

/-- The bytes of a line's first k cells. -/
def rowL (l : List Int) : Nat → List Int
  | 0 => []
  | k + 1 => rowL l k ++ [hexVal (nth l (10 + 3 * k)) * 16 + hexVal (nth l (11 + 3 * k))]
theorem rowL_length (l : List Int) (k : Nat) : (rowL l k).length = k := by
  induction k with
  | zero => rfl
  | succ k ih => simp [rowL, ih]
theorem nth_rowL (l : List Int) (k i : Nat) (h : i < k) : nth (rowL l k) i = hexVal (nth l (10 + 3 * i)) * 16 + hexVal (nth l (11 + 3 * i)) := by
  induction k with
  | zero => omega
  | succ k ih =>
    rw [rowL]
    by_cases hi : i < k
    · rw [nth_left (by rw [rowL_length]; exact hi)]; exact ih hi
    · obtain rfl : i = k := by omega
      rw [nth_right (by rw [rowL_length]; omega), rowL_length, Nat.sub_self, nth_zero]
theorem rowL_bts (l : List Int) (k : Nat) : Bts (rowL l k) := fun i => by
  by_cases h : i < k
  · rw [nth_rowL l k i h]
    have h1 := hexVal_bd (nth l (10 + 3 * i))
    have h2 := hexVal_bd (nth l (11 + 3 * i))
    omega
  · rw [nth_ge (by rw [rowL_length]; omega)]; omega
def CellOk (l : List Int) (j : Nat) : Prop := nth l (9 + 3 * j) = 32 ∧ hexOk (nth l (10 + 3 * j)) = true ∧ hexOk (nth l (11 + 3 * j)) = true
/-- A line that shows m bytes. -/
structure LOk (l : List Int) (m : Nat) : Prop where
  len : l.length = 10 + 3 * m
  pos : 1 ≤ m
  le : m ≤ 16
  off : ∀ i, i < 8 → hexOk (nth l i) = true
  colon : nth l 8 = 58
  nl : nth l (9 + 3 * m) = 10
  cells : ∀ j, j < m → CellOk l j
  fits : offV l 8 + m ≤ 4294967296
theorem offV_take (l : List Int) (n k : Nat) (h : k ≤ n) : offV (l.take n) k = offV l k := by
  induction k with
  | zero => rfl
  | succ k ih => rw [offV, offV, ih (by omega), nth_take (by omega)]
theorem pOk_take (l : List Int) (h : 8 ≤ l.length) : pOk (l.take 8) = true ↔ ∀ i, i < 8 → hexOk (nth l i) = true := by
  rw [pOk_iff]
  constructor
  · rintro ⟨_, h2⟩ i hi
    have := h2 i hi
    rwa [nth_take hi] at this
  · intro h2
    exact ⟨by simp; omega, fun i hi => by rw [nth_take hi]; exact h2 i hi⟩
theorem decOk_two (x y : Int) : decOk [x, y] = (hexOk x && hexOk y) := by
  simp [decOk, List.range_succ, nth]
theorem dec_two (x y : Int) : dec [x, y] 1 = [hexVal x * 16 + hexVal y] := by simp [dec, nth]
theorem two_vw {w : World} {b off : Nat} {l : List Int} (h : Vw w (some ⟨b, off, none⟩) l) (p : Nat) (hp : p + 2 ≤ l.length) : Vw w (some ⟨b, off + p, none⟩) [nth l p, nth l (p + 1)] := by
  have := h.sub p 2 hp
  have e : (l.drop p).take 2 = [nth l p, nth l (p + 1)] := by
    rw [take_snoc (by simp; omega), take_snoc (by simp; omega), nth_drop, nth_drop]; simp
  rwa [e] at this

def LRes (l : List Int) (m : Nat) (w : World) (e : Ending) (w' : World) : Prop :=
  (¬ LOk l m ∧ e = .returned (.tuple #[.int .u32 0, .slice none 0 0, .bool false]) ∧ Below w.heap.size w w') ∨
  (LOk l m ∧ ∃ v, e = .returned (.tuple #[.int .u32 (offV l 8), v, .bool true]) ∧ Res w w' v (rowL l m))

set_option maxRecDepth 20000 in
set_option maxHeartbeats 3200000 in
/-- ParseLine. -/
theorem parseLine_any (a : Option Addr) (l : List Int) (n c : Nat) (w : World) (hv : Vw w a l) (hb : Bts l) (hn : l.length = n) (hc : n ≤ c) (hcm : c ≤ 9223372036854775807) (hbd : n ≤ 1000000) :
    Calls Ycsm.prog 40 #[.slice a n c] w (LRes l ((n - 10) / 3) w) := by
  obtain ⟨m, hm⟩ : ∃ m : Nat, (n - 10) / 3 = m := ⟨_, rfl⟩
  rw [hm]
  by_cases h1 : n < 13
  · have H : Hid (¬ LOk l m) := fun h => by have := h.len; have := h.pos; omega
    clear hv
    go_enter Ycsm.func40, Ycsm.ntmps40
    go_wp2_with fail
    go_ret3
    exact .inl ⟨H.out, rfl, Below.refl _ _⟩
  by_cases h2 : 58 < n
  · have H : Hid (¬ LOk l m) := fun h => by have := h.len; have := h.le; omega
    clear hv
    go_enter Ycsm.func40, Ycsm.ntmps40
    go_wp2_with fail
    go_ret3
    exact .inl ⟨H.out, rfl, Below.refl _ _⟩
  have hmi : ((n : Int) - 10) / 3 = (m : Int) := by omega
  by_cases h3 : (n - 10) % 3 = 0
  case neg =>
    have h3' : (((n : Int) - 10) % 3 != 0) = true := by simp; omega
    have H : Hid (¬ LOk l m) := fun h => by have := h.len; omega
    clear hv h3
    go_enter Ycsm.func40, Ycsm.ntmps40
    go_wp2_with fail
    go_ret3
    exact .inl ⟨H.out, rfl, Below.refl _ _⟩
  have h3' : (((n : Int) - 10) % 3 != 0) = false := by simp; omega
  have HNM : Hid (n = 10 + 3 * m) := by unfold Hid; omega
  have hm1 : 1 ≤ m := by omega
  have hm16 : m ≤ 16 := by omega
  obtain ⟨b1, o1, rfl, _⟩ := hv 0 (by omega)
  have HV : Hid (Vw w (some ⟨b1, o1, none⟩) l) := hv
  clear hv h3 hm
  have HT8 : Hid ((l.take 8).length = 8) := by unfold Hid; simp; omega
  have d1 : decide ((n : Int) < 13) = false := by simp; omega
  have d2 : decide ((58 : Int) < (n : Int)) = false := by simp; omega
  have hob := pOff_bd (l.take 8)
  go_enter Ycsm.func40, Ycsm.ntmps40
  go_wp2_with fail
  refine (parseOffset_any _ (l.take 8) 8 c _ (HV.out.take 8) (hb.take 8) HT8.out).mono ?_
  rintro e w' ⟨rfl, rfl⟩
  cases hp : pOk (l.take 8)
  · have H : Hid (¬ LOk l m) := fun h => by
      have := (pOk_take l (by omega)).2 h.off
      rw [hp] at this; exact absurd this (by decide)
    clear hp
    go_wp2_with fail
    go_ret3
    exact .inl ⟨H.out, rfl, Below.refl _ _⟩
  have HOF : Hid (∀ i, i < 8 → hexOk (nth l i) = true) := (pOk_take l (by omega)).1 hp
  have hpo : pOff (l.take 8) = offV l 8 := by unfold pOff; rw [if_pos hp, offV_take l 8 8 (Nat.le_refl _)]
  rw [hpo] at hob
  go_wp2_with fail
  refine (fits_any (offV l 8) m _ hob.1 hob.2).mono ?_
  rintro e w' ⟨rfl, rfl⟩
  cases hf : fitsB (offV l 8) m
  · have H : Hid (¬ LOk l m) := fun h => by
      have := h.fits
      unfold fitsB at hf; simp at hf; omega
    clear hf hp hpo
    go_wp2_with fail
    go_ret3
    exact .inl ⟨H.out, rfl, Below.refl _ _⟩
  have HFT : Hid (offV l 8 + m ≤ 4294967296) := by unfold Hid; unfold fitsB at hf; simp at hf; omega
  clear hf
  obtain ⟨b2, o2, e2, hc8⟩ := HV.out 8 (by omega)
  simp only [Option.some.injEq, Addr.mk.injEq] at e2
  obtain ⟨rfl, rfl, _⟩ := e2
  obtain ⟨b2, o2, e2, hcl⟩ := HV.out (n - 1) (by omega)
  simp only [Option.some.injEq, Addr.mk.injEq] at e2
  obtain ⟨rfl, rfl, _⟩ := e2
  by_cases hco : nth l 8 = 58
  case neg =>
    have hco' : (nth l 8 != 58) = true := by simp [hco]
    have H : Hid (¬ LOk l m) := fun h => hco h.colon
    clear hco
    go_wp2_with fail
    go_ret3
    exact .inl ⟨H.out, rfl, Below.refl _ _⟩
  have hco' : (nth l 8 != 58) = false := by simp [hco]
  by_cases hnl : nth l (n - 1) = 10
  case neg =>
    have hnl' : (nth l (n - 1) != 10) = true := by simp [hnl]
    have H : Hid (¬ LOk l m) := fun h => hnl (by have := h.nl; rw [show n - 1 = 9 + 3 * m by have := HNM.out; omega]; exact this)
    clear hco hnl
    go_wp2_with fail
    go_ret3
    exact .inl ⟨H.out, rfl, Below.refl _ _⟩
  have hnl' : (nth l (n - 1) != 10) = false := by simp [hnl]
  have HCO : Hid (nth l 8 = 58) := hco
  have HNL : Hid (nth l (n - 1) = 10) := hnl
  clear hco hnl
  go_wp2_with fail
  clear hc8 hcl
  have HVW : Hid (Vw (w'.alloc (.cells #[] 5)) (some ⟨b1, o1, none⟩) l) := HV.out.below ((Below.refl w'.heap.size _).alloc (Nat.le_refl _) _) (Nat.le_refl _)
  go_loopw [9, 10] (fun v i wr => ∃ k : Nat, k ≤ m ∧ i = .int .i64 k ∧ (∀ j, j < k → CellOk l j) ∧ App (w'.alloc (.cells #[] 5)) (some ⟨w'.heap.size, 0, none⟩) 0 0 0 0 [] wr v (rowL l k)) (fun _ i _ => m - (intOf i).toNat)
  case atStart => exact ⟨0, by omega, rfl, fun j hj => by omega, app_fresh _⟩
  case round =>
    obtain ⟨k, hk, rfl, hall, happ⟩ := hrel
    have HAL : Hid (∀ j, j < k → CellOk l j) := hall
    have HP : Hid _ := happ
    clear hall happ
    by_cases hlt : k < m
    · have HVr : Hid (Vw wr (some ⟨b1, o1, none⟩) l) := HP.out.oldVw HVW.out (fun b off e hc => absurd hc (Nat.lt_irrefl _))
      have hnm := HNM.out
      obtain ⟨b2, o2, e2, hc9⟩ := HVr.out (9 + 3 * k) (by omega)
      simp only [Option.some.injEq, Addr.mk.injEq] at e2
      obtain ⟨rfl, rfl, _⟩ := e2
      have hl9 : 9 + 3 * (k : Int) < (n : Int) := by omega
      have HV2 : Hid (Vw wr (some ⟨b1, o1 + (9 + 3 * k + 1), none⟩) [nth l (10 + 3 * k), nth l (11 + 3 * k)]) := by
        unfold Hid
        have := two_vw HVr.out (9 + 3 * k + 1) (by omega)
        have ea : nth l (9 + 3 * k + 1) = nth l (10 + 3 * k) := by rw [show 9 + 3 * k + 1 = 10 + 3 * k by omega]
        have eb : nth l (9 + 3 * k + 1 + 1) = nth l (11 + 3 * k) := by rw [show 9 + 3 * k + 1 + 1 = 11 + 3 * k by omega]
        rwa [ea, eb] at this
      have HBe : Hid (Below w'.heap.size w' wr) := HP.out.res.below
      have hcap : ¬ c = 9 + 3 * k + 1 := by omega
      have hcl1 : 9 + 3 * (k : Int) + 3 ≤ (c : Int) := by omega
      clear hnm
      by_cases hsp : nth l (9 + 3 * k) = 32
      case neg =>
        have hsp' : (nth l (9 + 3 * k) != 32) = true := by simp [hsp]
        have H : Hid (¬ LOk l m) := fun h => hsp (h.cells k hlt).1
        clear hsp
        go_wp2_with fail
        go_ret3
        exact .inl ⟨H.out, rfl, HBe.out⟩
      have hsp' : (nth l (9 + 3 * k) != 32) = false := by simp [hsp]
      have HSP : Hid (nth l (9 + 3 * k) = 32) := hsp
      clear hsp
      go_wp2_with fail
      have hbx := hb (10 + 3 * k)
      have hby := hb (11 + 3 * k)
      refine (decode_any _ [nth l (10 + 3 * k), nth l (11 + 3 * k)] 2 _ _ HV2.out ((Bts.nil.cons hby.1 hby.2).cons hbx.1 hbx.2) rfl (by omega)).mono ?_
      rintro e w2 (⟨hno, rfl, hB2⟩ | ⟨hyes, v2, rfl, hres2⟩)
      · have H : Hid (¬ LOk l m) := fun h => by
          have := h.cells k hlt
          rw [decOk_two, this.2.1, this.2.2] at hno
          exact absurd hno (by decide)
        have HB2 : Hid (Below w'.heap.size w' w2) := HBe.out.trans (hB2.mono HBe.out.size)
        clear hno hB2
        go_wp2_with fail
        go_ret3
        exact .inl ⟨H.out, rfl, HB2.out⟩
      · rw [decOk_two, Bool.and_eq_true] at hyes
        have HAL2 : Hid (∀ j, j < k + 1 → CellOk l j) := fun j hj => by
          by_cases h : j = k
          · subst h; exact ⟨HSP.out, hyes.1, hyes.2⟩
          · exact HAL.out j (by omega)
        rw [show 2 / 2 = 1 by rfl, dec_two] at hres2
        have HP2 : Hid _ := HP.out.carry hres2.below
        obtain ⟨g2, c2, hv2, hg2, hlc2, hcm2, hvw2⟩ := hres2.reads
        obtain ⟨b3, o3, e3, hc3⟩ := hvw2 0 (by simp)
        simp only [Option.some.injEq, Addr.mk.injEq] at e3
        obtain ⟨rfl, rfl, _⟩ := e3
        rw [nth_zero, Nat.zero_add] at hc3
        simp only [List.length_cons, List.length_nil, Nat.zero_add] at hv2
        subst hv2
        have HBd : Hid (0 + (rowL l k).length + 1 ≤ 140737488355328) := by unfold Hid; rw [rowL_length]; omega
        clear hyes hres2 hvw2 hg2 hc9 HP
        go_wp2_with (at_builtin; go_must (refine wpList_append_app _ rfl (.tmp 83) (.tmp 87) rfl bprog (org_fresh w') rfl (HP2.out.alloc _) _ [hexVal (nth l (10 + 3 * k)) * 16 + hexVal (nth l (11 + 3 * k))] rfl (src_new bprog w2 [hexVal (nth l (10 + 3 * k)) * 16 + hexVal (nth l (11 + 3 * k))] 1) HBd.out ?_))
        intro v3 w3 happ3
        have HP3 : Hid (App (w'.alloc (.cells #[] 5)) (some ⟨w'.heap.size, 0, none⟩) 0 0 0 0 [] w3 v3 (rowL l (k + 1))) := happ3
        clear happ3 HP2 hc3
        go_wp2_with fail
        go_roundw
        case rel => exact ⟨k + 1, by omega, by go_num, HAL2.out, HP3.out⟩
        case measure => simp [intOf]; omega
    · have H : Hid (LOk l m) := ⟨by rw [hn]; exact HNM.out, hm1, hm16, HOF.out, HCO.out, by rw [show 9 + 3 * m = n - 1 by have := HNM.out; omega]; exact HNL.out, fun j hj => HAL.out j (by omega), HFT.out⟩
      obtain rfl : k = m := by omega
      have HR : Hid _ := HP.out.res
      clear HP
      go_wp2_with fail
      go_ret3
      exact .inr ⟨H.out, _, rfl, HR.out⟩
end Go.Proofs.Ymbrcs
