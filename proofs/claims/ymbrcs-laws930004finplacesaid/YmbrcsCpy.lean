import Derived.Test.YmbrcsMem
import Derived.Laws.CopyOwn
namespace Go.Proofs.Ymbrcs
open Go.RowKit

/-- n bytes of nought, as cells: behind a name that no simp opens. -/
def zrs (n : Nat) : Array Value := ((List.replicate n (0 : Int)).map (Value.int .u8)).toArray
theorem madeBytes (n : Nat) : madeCells (Value.int .u8 0).cells n = zrs n := by
  unfold zrs
  apply Array.ext
  · simp [madeCells]
  · intro i h1 h2
    simp [madeCells, Value.cells]
    rw [Nat.mod_one]; rfl
theorem OwnB.zrs (w : World) (n : Nat) : OwnB (w.alloc (.cells (zrs n) 5)) w.heap.size (List.replicate n 0) := OwnB.new w _

/-- A row of noughts over which the first k numbers of L have been laid. -/
def part (L : List Int) (k : Nat) : List Int := L.take k ++ List.replicate (L.length - k) 0
theorem part_length (L : List Int) (k : Nat) (h : k ≤ L.length) : (part L k).length = L.length := by simp [part]; omega
theorem part_zero (L : List Int) : part L 0 = List.replicate L.length 0 := by simp [part]
theorem part_all (L : List Int) : part L L.length = L := by simp [part]
theorem part_step (L : List Int) (k : Nat) (h : k < L.length) : (part L k).set k (nth L k) = part L (k + 1) := by
  have hl := part_length L k (by omega)
  apply ext_nth
  · rw [List.length_set, hl, part_length L (k + 1) (by omega)]
  · intro j hj
    rw [List.length_set, hl] at hj
    rw [nth_set (by omega)]
    have ht : (L.take k).length = k := by simp; omega
    have ht1 : (L.take (k + 1)).length = k + 1 := by simp; omega
    unfold part
    by_cases h1 : j = k
    · subst h1
      rw [if_pos rfl, nth_left (by omega), nth_take (by omega)]
    · rw [if_neg h1]
      by_cases h2 : j < k
      · rw [nth_left (by omega), nth_left (by omega), nth_take h2, nth_take (by omega)]
      · rw [nth_right (by omega), nth_right (by omega), ht, ht1, nth_eq (by simp; omega), nth_eq (by simp; omega)]
        simp

section
variable {P : Program}
theorem run_make_bytes {t : TypeId} (hP : ByteProg P t) (kl kc : IntKind) (n : Nat) (h : n ≤ 140737488355328) (w : World) :
    (Instr.makeSlice t (.int kl (n : Int)) (.int kc (n : Int))).run P w = .ok (.slice (some ⟨w.heap.size, 0, none⟩) n n) (w.alloc (.cells (zrs n) 5)) := by
  obtain ⟨i, hi, hz, hsz, hby⟩ := hP.hi
  have := run_make (P := P) w t 5 i (.int .u8 0) hP.ht hi hz kl kc (n : Int) (n : Int) (by omega) (by omega) (by rw [hby]; omega) (by omega)
  rw [this, hsz, Int.toNat_natCast, Nat.mul_one, madeBytes]

/-- 'copy(dst, src)' onto the newest of the call's own blocks. -/
theorem wpList_copy_bytes {t : TypeId} {w : World} {ops : Array Oper} {rest : List Oper} {o : Oper} {a : Act} {Q : Exit → Act → World → Prop} (hgd : o.guard = none) (d s : Operand)
    (ho : o.op = .call { callee := .builtin .copy, args := #[d, s], argTypes := #[t, t] }) (hP : ByteProg P t)
    (g dLen dCap : Nat) (hd : a.eval d = .slice (some ⟨g, 0, none⟩) dLen dCap) (cs : List Int) (hg : OwnB w g cs)
    (sp : Option Addr) (n sCap : Nat) (hs : a.eval s = .slice sp n sCap) (l : List Int) (hl : l.length = n) (hv : Vw w sp l) (hfit : n ≤ dLen) (hfit2 : dLen ≤ cs.length)
    (hK : ∀ w', OwnB w' g (splice cs 0 l) → Below g w w' → wpList P ops Q rest (a.put o.dst (goInt n)) w') : wpList P ops Q (o :: rest) a w := by
  obtain ⟨i, hi, hz, hsz, hby⟩ := hP.hi
  have hlm : (l.map (Value.int .u8)).length = n := by rw [List.length_map, hl]
  refine wpList_copy_splice hgd d s t t ho 5 hP.ht (by rw [hi]; simp [hsz]) (some ⟨g, 0, none⟩) sp dLen dCap n sCap hd hs g 0 (cs.map (Value.int .u8)) 5 hg (l.map (Value.int .u8))
    (by rw [hlm]; exact (Nat.min_eq_left hfit).symm) (fun hpos => ⟨rfl, ?_⟩) (by rw [hlm, List.length_map]; omega) (fun v hv' => ?_) g w (Below.refl _ _) (Nat.le_refl _) (fun w' h1 h2 => ?_)
  · rw [hlm] at hpos
    obtain ⟨b, off, e, _⟩ := hv 0 (by omega)
    refine ⟨_, e, fun j v hj => ?_⟩
    rw [List.getElem?_map] at hj
    have hjl : j < l.length := by
      apply Nat.lt_of_not_le
      intro hge
      rw [List.getElem?_eq_none hge] at hj
      simp at hj
    rw [List.getElem?_eq_getElem hjl] at hj
    simp only [Option.map_some, Option.some.injEq] at hj
    obtain ⟨b', off', e', hc'⟩ := hv j hjl
    rw [e] at e'
    simp only [Option.some.injEq, Addr.mk.injEq] at e'
    obtain ⟨rfl, rfl, _⟩ := e'
    rw [Addr.add_lit, ← hj, ← nth_eq hjl]
    exact hc'
  · obtain ⟨_, _, rfl⟩ := List.mem_map.1 hv'
    rfl
  · rw [hlm]
    refine hK w' ?_ h2
    have := h1.out
    unfold OwnB
    rw [this]
    simp [splice, Go.splice]
end
end Go.Proofs.Ymbrcs
