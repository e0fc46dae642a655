import Derived.Test.YmbrcsOfs
namespace Go.Proofs.Ymbrcs
open Go.RowKit

/-- A cell: a space and two digits. A line. -/
def cell3 (b : Int) : List Int := 32 :: hex2 b
def cellL (l : List Int) : List Int := l.flatMap cell3
def lineL (off : Int) (row : List Int) : List Int := offD off ++ [58] ++ cellL row ++ [10]
theorem cellL_snoc (l : List Int) (x : Int) : cellL (l ++ [x]) = cellL l ++ cell3 x := by simp [cellL]
theorem cellL_length (l : List Int) : (cellL l).length = 3 * l.length := by
  induction l with
  | nil => rfl
  | cons x l ih => simp only [cellL, List.flatMap_cons, List.length_append, List.length_cons] at *; rw [ih]; simp [cell3, hex2]; omega
theorem lineL_length (off : Int) (row : List Int) : (lineL off row).length = 10 + 3 * row.length := by
  simp [lineL, offD_length, cellL_length]; omega
theorem hexL_one (x : Int) : hexL [x] = hex2 x := by simp [hexL]

theorem appendLine_no (v : Value) (x : Int) (a : Option Addr) (n c : Nat) (w : World) (h0 : 0 ≤ x) (h1 : x < 4294967296) (_hm : n ≤ 9223372036854775807) (h : n = 0 ∨ 16 < n ∨ fitsB x n = false) :
    Calls Ycsm.prog 19 #[v, .int .u32 x, .slice a n c] w fun e w' => e = .returned (.tuple #[v, .bool false]) ∧ w' = w := by
  by_cases hz : n = 0
  · subst hz
    go_enter Ycsm.func19, Ycsm.ntmps19
    go_wp2_with fail
    go_ret2
    exact ⟨rfl, rfl⟩
  · have hz' : ((n : Int) == 0) = false := by simp; omega
    by_cases hg : 16 < n
    · clear h hz
      go_enter Ycsm.func19, Ycsm.ntmps19
      go_wp2_with fail
      go_ret2
      exact ⟨rfl, rfl⟩
    · have hf : fitsB x n = false := by
        rcases h with h | h | h
        · exact absurd h hz
        · exact absurd h hg
        · exact h
      clear h hz
      go_enter Ycsm.func19, Ycsm.ntmps19
      go_wp2_with fail
      refine (fits_any x n _ h0 h1).mono ?_
      rintro e w' ⟨rfl, rfl⟩
      go_wp2_with fail
      go_ret2
      exact ⟨rfl, rfl⟩

/-- The line as far as its first k cells. -/
def lpre (x : Int) (l : List Int) (k : Nat) : List Int := offD x ++ [58] ++ cellL (l.take k)
theorem lpre_zero (x : Int) (l : List Int) : lpre x l 0 = offD x ++ [58] := by simp [lpre, cellL]
theorem lpre_succ (x : Int) (l : List Int) (k : Nat) (h : k < l.length) : lpre x l (k + 1) = lpre x l k ++ [32] ++ hexL [nth l k] := by
  unfold lpre; rw [take_snoc h, cellL_snoc, hexL_one]; simp [cell3]
theorem lpre_all (x : Int) (l : List Int) (k : Nat) (h : l.length ≤ k) : lpre x l k ++ [10] = lineL x l := by
  unfold lpre lineL; rw [List.take_of_length_le h]
theorem lpre_length (x : Int) (l : List Int) (k : Nat) (h : k ≤ l.length) : (lpre x l k).length = 9 + 3 * k := by
  simp [lpre, offD_length, cellL_length]; omega

set_option maxHeartbeats 1600000 in
theorem appendLine_yes {W : World} {a0 : Option Addr} {g0 off0 len0 cap0 : Nat} {cs0 : List Int} (hO : Org W a0 g0 off0 len0 cap0 cs0) {w : World} {v : Value} {ks : List Int}
    (h : App W a0 g0 off0 len0 cap0 cs0 w v ks) (x : Int) (h0 : 0 ≤ x) (h1 : x < 4294967296) (a : Option Addr) (l : List Int) (n c : Nat) (hv : Vw W a l) (hne : ∀ b off, a = some ⟨b, off, none⟩ → 0 < cap0 → b ≠ g0)
    (hb : Bts l) (hn : l.length = n) (hc : n ≤ c) (_hcm : c ≤ 9223372036854775807) (hn1 : 1 ≤ n) (hn2 : n ≤ 16) (hf : fitsB x n = true) (hbd : len0 + ks.length + 58 ≤ 140737488355328) :
    Calls Ycsm.prog 19 #[v, .int .u32 x, .slice a n c] w fun e w' => ∃ v', e = .returned (.tuple #[v', .bool true]) ∧ App W a0 g0 off0 len0 cap0 cs0 w' v' (ks ++ lineL x l) := by
  have hz' : ((n : Int) == 0) = false := by simp; omega
  have h16 : decide ((16 : Int) < (n : Int)) = false := by simp; omega
  go_enter Ycsm.func19, Ycsm.ntmps19
  go_wp2_with fail
  refine (fits_any x n _ h0 h1).mono ?_
  rintro e w' ⟨rfl, rfl⟩
  go_wp2_with fail
  refine (appendOffset_any hO h x h0 h1 (by omega)).mono ?_
  rintro e w1 ⟨v1, rfl, happ1⟩
  clear h
  have HB : Hid (len0 + (ks ++ offD x).length + 1 ≤ 140737488355328) := by unfold Hid; rw [List.length_append, offD_length]; omega
  go_wp2_with (at_builtin; go_must (refine wpList_append_app _ rfl (.tmp 28) (.tmp 29) rfl bprog hO rfl (happ1.alloc _) _ [58] rfl (src_new bprog w1 [58] 1) HB.out ?_))
  intro v2 w2 happ2
  have happ3 : App W a0 g0 off0 len0 cap0 cs0 w2 v2 (ks ++ lpre x l 0) := by rw [lpre_zero]; exact happ2
  clear happ1 happ2
  go_wp2_with fail
  go_loopw [0, 8] (fun v i wr => ∃ k : Nat, k ≤ n ∧ i = .int .i64 k ∧ App W a0 g0 off0 len0 cap0 cs0 wr v (ks ++ lpre x l k)) (fun _ i _ => n - (intOf i).toNat)
  case atStart => exact ⟨0, by omega, rfl, happ3⟩
  case round =>
    clear happ3
    obtain ⟨k, hk, rfl, happ⟩ := hrel
    by_cases hlt : k < n
    · have HV : Hid (Vw W a l) := hv
      have HNE : Hid (∀ b off, a = some ⟨b, off, none⟩ → 0 < cap0 → b ≠ g0) := hne
      obtain ⟨b1, o1, rfl, hc1⟩ := hv k (by omega)
      clear hv hne hc1
      have hl := lpre_length x l k (by omega)
      have HB1 : Hid (len0 + (ks ++ lpre x l k).length + 1 ≤ 140737488355328) := by unfold Hid; rw [List.length_append, hl]; omega
      clear hl
      go_wp2_with (at_builtin; go_must (refine wpList_append_app _ rfl (.tmp 37) (.tmp 38) rfl bprog hO rfl (happ.alloc _) _ [32] rfl (src_new bprog wr [32] 1) HB1.out ?_))
      intro v3 w3 happ3
      have HA3 : Hid _ := happ3
      clear happ3 happ
      have hkc : ¬ c = k := by omega
      go_wp2_with fail
      refine (appendHex_any hO HA3.out (some ⟨b1, o1 + k, none⟩) [nth l k] 1 (c - k) (HV.out.one (by omega)) (fun b off e _ hc0 => ?hne1) (hb.one k) rfl ?hbd1).mono ?_
      case hne1 =>
        simp only [Option.some.injEq, Addr.mk.injEq] at e
        have := HNE.out b1 o1 rfl hc0
        omega
      case hbd1 =>
        have := lpre_length x l k (by omega)
        simp only [List.length_append, this, List.length_cons, List.length_nil]; omega
      rintro e w4 ⟨v4, rfl, happ4⟩
      have happ5 : App W a0 g0 off0 len0 cap0 cs0 w4 v4 (ks ++ lpre x l (k + 1)) := by
        rw [lpre_succ x l k (by omega)]; simpa using happ4
      have HA5 : Hid _ := happ5
      clear happ4 happ5 HA3
      go_wp2_with fail
      go_roundw
      case rel => exact ⟨k + 1, by omega, by go_num, HA5.out⟩
      case measure => simp [intOf]; omega
    · have hl := lpre_length x l k (by omega)
      have HB1 : Hid (len0 + (ks ++ lpre x l k).length + 1 ≤ 140737488355328) := by unfold Hid; rw [List.length_append, hl]; omega
      clear hl hv hne
      go_wp2_with (at_builtin; go_must (refine wpList_append_app _ rfl (.tmp 47) (.tmp 48) rfl bprog hO rfl (happ.alloc _) _ [10] rfl (src_new bprog wr [10] 1) HB1.out ?_))
      intro v3 w3 happ3
      have happ5 : App W a0 g0 off0 len0 cap0 cs0 w3 v3 (ks ++ lineL x l) := by
        rw [← lpre_all x l k (by omega)]; exact happ3
      have HA5 : Hid _ := happ5
      clear happ3 happ5 happ
      go_wp2_with fail
      go_ret2
      exact ⟨_, rfl, HA5.out⟩
end Go.Proofs.Ymbrcs
