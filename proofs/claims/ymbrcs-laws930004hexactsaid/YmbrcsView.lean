import Derived.WalkKit
import Derived.WalkSpells
import Derived.Outline
import Derived.Deep.QuietTactic
import Derived.BigQuiet
namespace Go.Proofs.Ymbrcs
open Go.RowKit

/-- The same memory and streams: what reading leaves behind (the draws may have moved on). -/
structure Same (w w' : World) : Prop where
  heap : w'.heap = w.heap
  os : w'.os = w.os
  tape : w'.tape = w.tape
  output : w'.output = w.output
theorem Same.refl (w : World) : Same w w := ⟨rfl, rfl, rfl, rfl⟩
theorem Same.trans {a b c : World} (h : Same a b) (k : Same b c) : Same a c := ⟨k.heap.trans h.heap, k.os.trans h.os, k.tape.trans h.tape, k.output.trans h.output⟩
theorem Same.drew {a b : World} (h : Same a b) : Same a b.drew := ⟨h.heap, h.os, h.tape, h.output⟩
theorem Same.drewN {a b : World} (h : Same a b) (n : Nat) : Same a (b.drewN n) := ⟨h.heap, h.os, h.tape, h.output⟩
theorem Same.cell {a b : World} (h : Same a b) (p : Addr) : b.cell? p = a.cell? p := by unfold World.cell?; rw [h.heap]
theorem Same.frozen {a b : World} (h : Same a b) (p : Addr) : b.frozen? p = a.frozen? p := by unfold World.frozen?; rw [h.heap]
theorem Same.size {a b : World} (h : Same a b) : b.heap.size = a.heap.size := by rw [h.heap]
theorem Same.below {a b : World} (h : Same a b) (B : Nat) : Below B a b := ⟨h.os, h.tape, h.output, by rw [h.heap]; exact Nat.le_refl _, fun k _ => by rw [h.heap]⟩

/-- The i-th number of a list (0 beyond it): a name that no simp opens. -/
def nth (l : List Int) (i : Nat) : Int := l.getD i 0
theorem nth_eq {l : List Int} {i : Nat} (h : i < l.length) : nth l i = l[i] := by simp [nth, h]
theorem nth_ge {l : List Int} {i : Nat} (h : l.length ≤ i) : nth l i = 0 := by simp [nth, h]
theorem nth_left {l m : List Int} {i : Nat} (h : i < l.length) : nth (l ++ m) i = nth l i := by simp [nth, List.getElem?_append_left h]
theorem nth_right {l m : List Int} {i : Nat} (h : l.length ≤ i) : nth (l ++ m) i = nth m (i - l.length) := by simp [nth, List.getElem?_append_right h]
theorem nth_right' {l m : List Int} (i : Nat) : nth (l ++ m) (l.length + i) = nth m i := by rw [nth_right (by omega)]; congr 1; omega
theorem nth_take {l : List Int} {n i : Nat} (h : i < n) : nth (l.take n) i = nth l i := by simp [nth, h]
theorem nth_drop {l : List Int} {n i : Nat} : nth (l.drop n) i = nth l (n + i) := by simp [nth]
theorem nth_zero (x : Int) (l : List Int) : nth (x :: l) 0 = x := rfl
theorem nth_succ (x : Int) (l : List Int) (i : Nat) : nth (x :: l) (i + 1) = nth l i := rfl
theorem take_snoc {l : List Int} {k : Nat} (h : k < l.length) : l.take (k + 1) = l.take k ++ [nth l k] := by
  rw [nth_eq h, List.take_succ_eq_append_getElem h]
theorem ext_nth {l m : List Int} (hl : l.length = m.length) (h : ∀ j, j < l.length → nth l j = nth m j) : l = m := by
  apply List.ext_getElem hl
  intro i h1 h2
  have := h i h1
  rwa [nth_eq h1, nth_eq h2] at this

/-- A slice of bytes, at the address a (if it has any byte), reads l in the world w. -/
def Vw (w : World) (a : Option Addr) (l : List Int) : Prop :=
  ∀ i, i < l.length → ∃ b off, a = some ⟨b, off, none⟩ ∧ w.cell? ⟨b, off + i, none⟩ = some (.int .u8 (nth l i))
/-- All are bytes. -/
def Bts (l : List Int) : Prop := ∀ i, 0 ≤ nth l i ∧ nth l i < 256

theorem Vw.same {w w' : World} {a : Option Addr} {l : List Int} (h : Vw w a l) (s : Same w w') : Vw w' a l := fun i hi => by
  obtain ⟨b, off, e, hc⟩ := h i hi
  exact ⟨b, off, e, (s.cell _).trans hc⟩

theorem Vw.lt {w : World} {b off : Nat} {l : List Int} (h : Vw w (some ⟨b, off, none⟩) l) (hl : 0 < l.length) : b < w.heap.size := by
  obtain ⟨b', off', e, hc⟩ := h 0 hl
  simp at e
  obtain ⟨rfl, rfl⟩ := e
  exact World.block_lt_of_cell? _ _ hc
theorem Vw.nil (w : World) (a : Option Addr) : Vw w a [] := fun _ hi => absurd hi (Nat.not_lt_zero _)
theorem Vw.mk {w : World} {b off : Nat} {l : List Int} (h : ∀ i, i < l.length → w.cell? ⟨b, off + i, none⟩ = some (.int .u8 (nth l i))) : Vw w (some ⟨b, off, none⟩) l := fun i hi => ⟨b, off, rfl, h i hi⟩
/-- Old memory reads as it did. -/
theorem Vw.below {w w' : World} {B : Nat} {a : Option Addr} {l : List Int} (h : Vw w a l) (hb : Below B w w') (hB : w.heap.size ≤ B) : Vw w' a l := fun i hi => by
  obtain ⟨b, off, e, hc⟩ := h i hi
  have hlt := World.block_lt_of_cell? _ _ hc
  exact ⟨b, off, e, (hb.cell (p := ⟨b, off + i, none⟩) (by exact Nat.lt_of_lt_of_le hlt hB)).trans hc⟩
/-- A cut of a slice reads the cut of the list. -/
theorem Vw.cut {w : World} {b off : Nat} {l : List Int} (h : Vw w (some ⟨b, off, none⟩) l) (lo hi : Nat) (hlo : lo ≤ hi) (hhi : hi ≤ l.length) : Vw w (some ⟨b, off + lo, none⟩) ((l.take hi).drop lo) := by
  refine Vw.mk fun i hi' => ?_
  have hl : ((l.take hi).drop lo).length = hi - lo := by simp; omega
  obtain ⟨b', off', e, hc⟩ := h (lo + i) (by omega)
  simp at e
  obtain ⟨rfl, rfl⟩ := e
  rw [nth_drop, nth_take (by omega), Nat.add_assoc]
  exact hc

theorem Vw.sub {w : World} {b off : Nat} {l : List Int} (h : Vw w (some ⟨b, off, none⟩) l) (lo m : Nat) (hm : lo + m ≤ l.length) : Vw w (some ⟨b, off + lo, none⟩) ((l.drop lo).take m) := by
  have hl : ((l.drop lo).take m).length = m := by simp; omega
  refine Vw.mk fun i hi => ?_
  obtain ⟨b', off', e, hc⟩ := h (lo + i) (by omega)
  simp at e
  obtain ⟨rfl, rfl⟩ := e
  rw [nth_take (by omega), nth_drop, Nat.add_assoc]
  exact hc
theorem Vw.take {w : World} {a : Option Addr} {l : List Int} (h : Vw w a l) (k : Nat) : Vw w a (l.take k) := fun i hi => by
  have hi' : i < k ∧ i < l.length := by simp at hi; omega
  obtain ⟨b, off, e, hc⟩ := h i hi'.2
  exact ⟨b, off, e, by rw [nth_take hi'.1]; exact hc⟩
theorem Vw.one {w : World} {b off : Nat} {l : List Int} (h : Vw w (some ⟨b, off, none⟩) l) {k : Nat} (hk : k < l.length) : Vw w (some ⟨b, off + k, none⟩) [nth l k] := by
  refine Vw.mk fun i hi => ?_
  simp at hi
  subst hi
  obtain ⟨b', off', e, hc⟩ := h k hk
  simp at e
  obtain ⟨rfl, rfl⟩ := e
  rw [nth_zero]
  exact hc
theorem Bts.one {l : List Int} (h : Bts l) (k : Nat) : Bts [nth l k] := fun i => by
  by_cases hi : i = 0
  · subst hi; rw [nth_zero]; exact h k
  · rw [nth_ge (by simp; omega)]; omega
theorem Bts.take {l : List Int} (h : Bts l) (n : Nat) : Bts (l.take n) := fun i => by
  by_cases hi : i < n
  · rw [nth_take hi]; exact h i
  · rw [nth_ge (by simp; omega)]; omega
theorem Bts.drop {l : List Int} (h : Bts l) (n : Nat) : Bts (l.drop n) := fun i => by rw [nth_drop]; exact h _
theorem Bts.app {l m : List Int} (h : Bts l) (k : Bts m) : Bts (l ++ m) := fun i => by
  by_cases hi : i < l.length
  · rw [nth_left hi]; exact h i
  · rw [nth_right (by omega)]; exact k _
theorem Bts.nil : Bts [] := fun i => by simp [nth]
theorem Bts.cons {l : List Int} {x : Int} (h0 : 0 ≤ x) (h1 : x < 256) (h : Bts l) : Bts (x :: l) := fun i => by
  cases i with
  | zero => exact ⟨h0, h1⟩
  | succ i => exact h i

/-- What the shell tells of a slice that came in. -/
theorem vw_of_row {w : World} {a : Option Addr} {len cap : Nat} {zs : List Int}
    (h : (a = none ∧ len = 0 ∧ cap = 0 ∧ zs = []) ∨
      ∃ x, a = some x ∧ len ≤ cap ∧ cap ≤ maxLen ∧ zs.length = cap ∧ (∀ i, i < zs.length → w.cell? (x.add i) = some (.int .u8 (zs.getD i 0))) ∧ ∀ n ∈ zs, (Lit.int .u8 n).wf = true) :
    Vw w a (zs.take len) ∧ Bts (zs.take len) ∧ (zs.take len).length = len ∧ len ≤ cap ∧ cap ≤ 9223372036854775807 := by
  rcases h with ⟨rfl, rfl, rfl, rfl⟩ | ⟨x, rfl, hl, hm, hz, hc, hw⟩
  · exact ⟨Vw.nil _ _, fun i => by simp [nth], rfl, Nat.le_refl _, by omega⟩
  · unfold maxLen at hm
    have hlen : (zs.take len).length = len := by simp; omega
    refine ⟨fun i hi => ?_, fun i => ?_, hlen, hl, by omega⟩
    · have h1 := hc i (by omega)
      have h2 := World.cell?_spot (hc 0 (by omega))
      obtain ⟨b, off, spot⟩ := x
      simp [Addr.add] at h2
      subst h2
      refine ⟨b, off, rfl, ?_⟩
      rw [nth_take (by omega)]
      rw [Addr.add_lit] at h1
      exact h1
    · by_cases hi : i < len
      · rw [nth_take hi, nth_eq (by omega)]
        have := hw zs[i] (List.getElem_mem _)
        simp [Lit.wf, IntKind.min, IntKind.max, IntKind.signed, IntKind.bits] at this
        omega
      · rw [nth_ge (by omega)]; omega
end Go.Proofs.Ymbrcs
