import Derived.Test.YmbrcsLeaf
import Derived.Test.YmbrcsMem
import Derived.Test.YmbrcsBits
namespace Go.Proofs.Ymbrcs
open Go.RowKit

theorem info5 : (Ycsm.prog.info? 5).map (fun i => (i.zero, i.size, i.bytes)) = some (some (.int .u8 0), 1, 1) := by kernel_rfl
theorem bprog : ByteProg Ycsm.prog 22 := by
  obtain ⟨i, hi, h1, h2, h3⟩ := info_parts info5
  exact ⟨Ycsm.underlying22, i, hi, h1, h2, h3⟩

/-- The two digits of a byte; of each byte of a list. -/
def hex2 (b : Int) : List Int := [dg (b / 16).toNat, dg (b % 16).toNat]
def hexL (l : List Int) : List Int := l.flatMap hex2
theorem hexL_snoc (l : List Int) (x : Int) : hexL (l ++ [x]) = hexL l ++ hex2 x := by simp [hexL]
theorem hexL_length (l : List Int) : (hexL l).length = 2 * l.length := by
  induction l with
  | nil => rfl
  | cons x l ih => simp only [hexL, List.flatMap_cons, List.length_append, List.length_cons] at *; rw [ih]; simp [hex2]; omega
theorem hexL_append (l m : List Int) : hexL (l ++ m) = hexL l ++ hexL m := by simp [hexL]

set_option maxHeartbeats 800000 in
/-- AppendHex. -/
theorem appendHex_any {W : World} {a0 : Option Addr} {g0 off0 len0 cap0 : Nat} {cs0 : List Int} (hO : Org W a0 g0 off0 len0 cap0 cs0) {w : World} {v : Value} {ks : List Int}
    (h : App W a0 g0 off0 len0 cap0 cs0 w v ks) (a : Option Addr) (l : List Int) (n c : Nat) (hv : Vw W a l) (hne : ∀ b off, a = some ⟨b, off, none⟩ → 0 < n → 0 < cap0 → b ≠ g0) (hb : Bts l) (hn : l.length = n)
    (hbd : len0 + ks.length + 2 * n ≤ 140737488355328) :
    Calls Ycsm.prog 36 #[v, .slice a n c] w fun e w' => ∃ v', e = .returned v' ∧ App W a0 g0 off0 len0 cap0 cs0 w' v' (ks ++ hexL l) := by
  have ea : ∀ x : Int, bits .and .u8 x 15 = x % 16 := and15_u8
  go_enter Ycsm.func36, Ycsm.ntmps36
  go_wp2_with fail
  go_loopw [0, 13] (fun v i wr => ∃ k : Nat, k ≤ n ∧ i = .int .i64 k ∧ App W a0 g0 off0 len0 cap0 cs0 wr v (ks ++ hexL (l.take k))) (fun _ i _ => n - (intOf i).toNat)
  case atStart => exact ⟨0, by omega, rfl, by simpa [hexL] using h⟩
  case round =>
    obtain ⟨k, hk, rfl, happ⟩ := hrel
    by_cases hlt : k < n
    · obtain ⟨b1, o1, rfl, hc1⟩ := (happ.oldVw hv (fun b off e hc => hne b off e (by omega) hc)) k (by omega)
      have hbk := hb k
      have hb2 : len0 + (ks ++ hexL (l.take k)).length + 2 ≤ 140737488355328 := by
        rw [List.length_append, hexL_length, List.length_take]; omega
      have HB : Hid (len0 + (ks ++ hexL (l.take k)).length + 2 ≤ 140737488355328) := hb2
      clear hb2
      go_wp2_with fail
      refine (hexDigit_yes (nth l k / 16) (by omega) (by omega) _).mono ?_
      rintro e w' ⟨rfl, rfl⟩
      go_wp2_with fail
      refine (hexDigit_yes (nth l k % 16) (by omega) (by omega) _).mono ?_
      rintro e w' ⟨rfl, rfl⟩
      go_wp2_with (at_builtin; go_must (refine wpList_append_app _ rfl (.tmp 29) (.tmp 32) rfl bprog hO rfl (happ.alloc _) _ [dg (nth l k / 16).toNat, dg (nth l k % 16).toNat] rfl (src_new bprog w' [dg (nth l k / 16).toNat, dg (nth l k % 16).toNat] 2) HB.out ?_))
      intro v2 w2 happ2
      have happ3 : App W a0 g0 off0 len0 cap0 cs0 w2 v2 (ks ++ hexL (l.take (k + 1))) := by
        rw [take_snoc (by omega), hexL_snoc]; exact happ2
      have HA : Hid _ := happ3
      clear happ2 happ3 happ
      go_wp2_with fail
      go_roundw
      case rel => exact ⟨k + 1, by omega, by go_num, HA.out⟩
      case measure => simp [intOf]; omega
    · have e : l.take k = l := List.take_of_length_le (by omega)
      rw [e] at happ
      go_wp2_with fail
      go_ret
      exact ⟨_, rfl, happ⟩
end Go.Proofs.Ymbrcs
