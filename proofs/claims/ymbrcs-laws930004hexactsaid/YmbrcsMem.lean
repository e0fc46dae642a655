import Derived.Test.YmbrcsView
import Derived.Deep.Upon
import Derived.Deep.RegionLaw
namespace Go.Proofs.Ymbrcs
open Go.RowKit

/-! Blocks of bytes that the call itself has made, told whole; and a slice that is appended to again and again. -/

/-- ks laid over cs from p on. -/
def splice (cs : List Int) (p : Nat) (ks : List Int) : List Int := cs.take p ++ ks ++ cs.drop (p + ks.length)
theorem splice_length {cs ks : List Int} {p : Nat} (h : p + ks.length ≤ cs.length) : (splice cs p ks).length = cs.length := by
  unfold splice; simp; omega
theorem nth_splice {cs ks : List Int} {p : Nat} (h : p + ks.length ≤ cs.length) (i : Nat) :
    nth (splice cs p ks) i = if i < p then nth cs i else if i < p + ks.length then nth ks (i - p) else nth cs i := by
  have hp : (cs.take p).length = p := by simp; omega
  unfold splice
  split
  · rw [List.append_assoc, nth_left (by omega), nth_take (by assumption)]
  · split
    · rw [nth_left (by simp; omega), nth_right (by omega), hp]
    · have h2 : (cs.take p ++ ks).length = p + ks.length := by simp; omega
      rw [nth_right (by omega), h2, nth_drop]
      congr 1; omega
theorem nth_set {cs : List Int} {p : Nat} {x : Int} (h : p < cs.length) (i : Nat) : nth (cs.set p x) i = if i = p then x else nth cs i := by
  unfold nth
  simp only [List.getD_eq_getElem?_getD, List.getElem?_set]
  split
  · rename_i hh; subst hh; simp
  · rw [if_neg (by omega)]
theorem splice_nil (cs : List Int) (p : Nat) : splice cs p [] = cs := by unfold splice; simp
theorem splice_cons {cs ks : List Int} {p : Nat} {x : Int} (h : p + (x :: ks).length ≤ cs.length) : splice (cs.set p x) (p + 1) ks = splice cs p (x :: ks) := by
  simp at h
  apply ext_nth
  · rw [splice_length (by simp; omega), splice_length (by simp; omega)]; simp
  · intro j _
    rw [nth_splice (by simp; omega), nth_splice (by simp; omega), nth_set (by omega)]
    simp only [List.length_cons]
    by_cases h1 : j < p
    · rw [if_pos (by omega), if_neg (by omega), if_pos h1]
    · by_cases h2 : j = p
      · subst h2
        rw [if_pos (by omega), if_pos rfl, if_neg (by omega), if_pos (by omega), Nat.sub_self, nth_zero]
      · rw [if_neg (by omega), if_neg h2, if_neg h1]
        by_cases h3 : j < p + 1 + ks.length
        · rw [if_pos h3, if_pos (by omega), show j - p = (j - (p + 1)) + 1 by omega, nth_succ]
        · rw [if_neg h3, if_neg (by omega)]
theorem splice_app {cs ks ms : List Int} {p : Nat} (h : p + ks.length + ms.length ≤ cs.length) : splice (splice cs p ks) (p + ks.length) ms = splice cs p (ks ++ ms) := by
  have h0 : (splice cs p ks).length = cs.length := splice_length (by omega)
  apply ext_nth
  · rw [splice_length (by rw [h0]; exact h), h0, splice_length (by simp; omega)]
  · intro j _
    rw [nth_splice (by omega), nth_splice (by omega), nth_splice (by simp; omega)]
    simp only [List.length_append]
    by_cases h1 : j < p
    · rw [if_pos (by omega), if_pos h1, if_pos h1]
    · by_cases h2 : j < p + ks.length
      · rw [if_pos h2, if_neg h1, if_pos h2, if_neg h1, if_pos (by omega), nth_left (by omega)]
      · rw [if_neg h2]
        by_cases h3 : j < p + ks.length + ms.length
        · rw [if_pos h3, if_neg h1, if_pos (by omega), nth_right (by omega)]; congr 1; omega
        · rw [if_neg h3, if_neg h1, if_neg h2, if_neg h1, if_neg (by omega)]

/-- Block g holds just the bytes cs, none of them frozen. -/
def OwnB (w : World) (g : Nat) (cs : List Int) : Prop := w.heap[g]? = some (.cells (cs.map (Value.int .u8)).toArray 5 (0, 0))

theorem OwnB.lt {w : World} {g : Nat} {cs : List Int} (h : OwnB w g cs) : g < w.heap.size := by
  unfold OwnB at h
  exact (Array.getElem?_eq_some_iff.1 h).1
theorem OwnB.cell {w : World} {g : Nat} {cs : List Int} (h : OwnB w g cs) {i : Nat} (hi : i < cs.length) : w.cell? ⟨g, i, none⟩ = some (.int .u8 (nth cs i)) := by
  unfold OwnB at h
  simp [World.cell?, h, hi, nth_eq hi]
theorem OwnB.free {w : World} {g : Nat} {cs : List Int} (h : OwnB w g cs) (i : Nat) : w.frozen? ⟨g, i, none⟩ = false := by
  unfold OwnB at h
  simp [World.frozen?, h]
theorem OwnB.vw {w : World} {g : Nat} {cs : List Int} (h : OwnB w g cs) {off n : Nat} (hn : off + n ≤ cs.length) : Vw w (some ⟨g, off, none⟩) ((cs.drop off).take n) := by
  have hl : ((cs.drop off).take n).length = n := by simp; omega
  refine Vw.mk fun i hi => ?_
  rw [nth_take (by omega), nth_drop]
  exact h.cell (by omega)
theorem OwnB.of_block {w w' : World} {g : Nat} {cs : List Int} (h : OwnB w g cs) (hb : w'.heap[g]? = w.heap[g]?) : OwnB w' g cs := hb.trans h
theorem OwnB.same {w w' : World} {g : Nat} {cs : List Int} (h : OwnB w g cs) (s : Same w w') : OwnB w' g cs := h.of_block (by rw [s.heap])
theorem OwnB.alloc {w : World} {g : Nat} {cs : List Int} (h : OwnB w g cs) (o : Obj) : OwnB (w.alloc o) g cs := h.of_block (Below.heap_alloc w o g h.lt)
theorem OwnB.below {w w' : World} {B g : Nat} {cs : List Int} (h : OwnB w g cs) (hb : Below B w w') (hg : g < B) : OwnB w' g cs := h.of_block (hb.block g hg)
theorem OwnB.new (w : World) (cs : List Int) : OwnB (w.alloc (.cells (cs.map (Value.int .u8)).toArray 5)) w.heap.size cs := by
  show (w.heap.push _)[w.heap.size]? = _
  simp
theorem OwnB.inj {w : World} {g : Nat} {cs ds : List Int} (h : OwnB w g cs) (k : OwnB w g ds) : cs = ds := by
  unfold OwnB at h k
  rw [h] at k
  simp at k
  exact (List.map_inj_right (fun _ _ e => by injection e)).1 k
theorem OwnB.set {w : World} {g : Nat} {cs : List Int} (h : OwnB w g cs) (i : Nat) (x : Int) : OwnB (w.setCell ⟨g, i, none⟩ (.int .u8 x)) g (cs.set i x) := by
  unfold OwnB at h ⊢
  simp [World.setCell, Array.getElem?_modify, h, List.map_set]
theorem OwnB.set_ne {w : World} {g : Nat} {cs : List Int} (h : OwnB w g cs) {a : Addr} (ha : g ≠ a.block) (v : Value) : OwnB (w.setCell a v) g cs := h.of_block (Below.heap_setCell _ _ _ _ ha)
theorem OwnB.sets {g : Nat} : ∀ (ks cs : List Int) (p : Nat) (w : World), OwnB w g cs → p + ks.length ≤ cs.length → OwnB (w.setCells g p (ks.map (Value.int .u8))) g (splice cs p ks)
  | [], cs, p, w, h, _ => by rw [splice_nil]; exact h
  | x :: ks, cs, p, w, h, hl => by
    have := OwnB.sets ks (cs.set p x) (p + 1) (w.setCell ⟨g, p, none⟩ (.int .u8 x)) (h.set p x) (by simp at hl ⊢; omega)
    rw [splice_cons hl] at this
    exact this
theorem tape_setCells (g : Nat) : ∀ (vs : List Value) (p : Nat) (w : World), (w.setCells g p vs).tape = w.tape
  | [], _, _ => rfl
  | _ :: vs, p, _ => tape_setCells g vs (p + 1) _
theorem size_setCells (g : Nat) : ∀ (vs : List Value) (p : Nat) (w : World), (w.setCells g p vs).heap.size = w.heap.size
  | [], _, _ => rfl
  | _ :: vs, p, _ => (size_setCells g vs (p + 1) _).trans (by simp [World.setCell])

/-- What the program's tables say of bytes. -/
structure ByteProg (P : Program) (t : TypeId) : Prop where
  ht : P.underlying t = some (.slice 5)
  hi : ∃ i, P.info? 5 = some i ∧ i.zero = some (.int .u8 0) ∧ i.size = 1 ∧ i.bytes = 1

/-- A slice that is to be appended to: nil or empty without capacity; or over a block of the call's own. -/
structure Org (W : World) (a0 : Option Addr) (g0 off0 len0 cap0 : Nat) (cs0 : List Int) : Prop where
  le : len0 ≤ cap0
  max : cap0 ≤ maxLen
  own : 0 < cap0 → a0 = some ⟨g0, off0, none⟩ ∧ OwnB W g0 cs0 ∧ off0 + cap0 ≤ cs0.length

/-- The numbers ks have been appended to it since W. -/
structure App (W : World) (a0 : Option Addr) (g0 off0 len0 cap0 : Nat) (cs0 : List Int) (w : World) (v : Value) (ks : List Int) : Prop where
  os : w.os = W.os
  tape : w.tape = W.tape
  output : w.output = W.output
  size : W.heap.size ≤ w.heap.size
  block : ∀ k, k < W.heap.size → (0 < cap0 → k ≠ g0) → w.heap[k]? = W.heap[k]?
  val : (len0 + ks.length ≤ cap0 ∧ v = .slice a0 (len0 + ks.length) cap0 ∧ (0 < cap0 → OwnB w g0 (splice cs0 (off0 + len0) ks))) ∨
    (cap0 < len0 + ks.length ∧ (∃ g cs, v = .slice (some ⟨g, 0, none⟩) (len0 + ks.length) cs.length ∧ W.heap.size ≤ g ∧ OwnB w g cs ∧ cs.length ≤ maxLen ∧ len0 + ks.length ≤ cs.length ∧ cs.take (len0 + ks.length) = (cs0.drop off0).take len0 ++ ks) ∧
      (0 < cap0 → ∃ cs', OwnB w g0 cs' ∧ cs'.length = cs0.length ∧ ∀ i, (i < off0 + len0 ∨ off0 + cap0 ≤ i) → nth cs' i = nth cs0 i))

section
variable {W : World} {a0 : Option Addr} {g0 off0 len0 cap0 : Nat} {cs0 : List Int} {w : World} {v : Value} {ks : List Int}

theorem App.start (h : Org W a0 g0 off0 len0 cap0 cs0) : App W a0 g0 off0 len0 cap0 cs0 W (.slice a0 len0 cap0) [] :=
  ⟨rfl, rfl, rfl, Nat.le_refl _, fun _ _ _ => rfl, .inl ⟨h.le, rfl, fun hc => by rw [splice_nil]; exact (h.own hc).2.1⟩⟩

/-- What lays new blocks and draws alone keeps the relation. -/
theorem App.carry {w' : World} (h : App W a0 g0 off0 len0 cap0 cs0 w v ks) (hb : Below w.heap.size w w') : App W a0 g0 off0 len0 cap0 cs0 w' v ks := by
  refine ⟨hb.os.trans h.os, hb.tape.trans h.tape, hb.output.trans h.output, Nat.le_trans h.size hb.size, fun k hk hc => (hb.block k (Nat.lt_of_lt_of_le hk h.size)).trans (h.block k hk hc), ?_⟩
  rcases h.val with ⟨h1, h2, h3⟩ | ⟨h1, ⟨g, cs, h2, h3, h4, h5⟩, h6⟩
  · exact .inl ⟨h1, h2, fun hc => (h3 hc).below hb (h3 hc).lt⟩
  · exact .inr ⟨h1, ⟨g, cs, h2, h3, h4.below hb h4.lt, h5⟩, fun hc => by
      obtain ⟨cs', k1, k2⟩ := h6 hc
      exact ⟨cs', k1.below hb k1.lt, k2⟩⟩
theorem App.alloc (h : App W a0 g0 off0 len0 cap0 cs0 w v ks) (o : Obj) : App W a0 g0 off0 len0 cap0 cs0 (w.alloc o) v ks := h.carry ((Below.refl _ _).alloc (Nat.le_refl _) o)
theorem App.drew (h : App W a0 g0 off0 len0 cap0 cs0 w v ks) : App W a0 g0 off0 len0 cap0 cs0 w.drew v ks := h.carry ((Below.refl _ _).drew)
theorem App.same {w' : World} (h : App W a0 g0 off0 len0 cap0 cs0 w v ks) (s : Same w w') : App W a0 g0 off0 len0 cap0 cs0 w' v ks := h.carry (s.below _)

/-- Below a number that is no greater than the written block's, all is as it was. -/
theorem App.belowOf (h : App W a0 g0 off0 len0 cap0 cs0 w v ks) {B : Nat} (hB : B ≤ W.heap.size) (hg : 0 < cap0 → B ≤ g0) : Below B W w :=
  ⟨h.os, h.tape, h.output, h.size, fun k hk => h.block k (by omega) (fun hc e => by have := hg hc; omega)⟩
theorem App.oldVw (h : App W a0 g0 off0 len0 cap0 cs0 w v ks) {a : Option Addr} {l : List Int} (hv : Vw W a l) (hg : ∀ b off, a = some ⟨b, off, none⟩ → 0 < cap0 → b ≠ g0) : Vw w a l := fun i hi => by
  obtain ⟨b, off, e, hc⟩ := hv i hi
  have hlt := World.block_lt_of_cell? _ _ hc
  exact ⟨b, off, e, (World.cell?_of_block (w := W) (a := ⟨b, off + i, none⟩) (h.block b hlt (hg b off e))).trans hc⟩
theorem App.shape (h : App W a0 g0 off0 len0 cap0 cs0 w v ks) : ∃ a c, v = .slice a (len0 + ks.length) c := by
  rcases h.val with ⟨_, h2, _⟩ | ⟨_, ⟨g, cs, h2, _⟩, _⟩
  · exact ⟨_, _, h2⟩
  · exact ⟨_, _, h2⟩

/-- What the slice reads now. -/
theorem App.reads (hO : Org W a0 g0 off0 len0 cap0 cs0) (h : App W a0 g0 off0 len0 cap0 cs0 w v ks) : ∃ a c, v = .slice a (len0 + ks.length) c ∧ len0 + ks.length ≤ c ∧ c ≤ maxLen ∧ Vw w a ((cs0.drop off0).take len0 ++ ks) := by
  rcases h.val with ⟨h1, h2, h3⟩ | ⟨h1, ⟨g, cs, h2, h3, h4, h5, h6, h7⟩, _⟩
  · refine ⟨_, _, h2, h1, hO.max, ?_⟩
    by_cases hc : 0 < cap0
    · obtain ⟨k1, k2, k3⟩ := hO.own hc
      have hl : (splice cs0 (off0 + len0) ks).length = cs0.length := splice_length (by omega)
      have := (h3 hc).vw (off := off0) (n := len0 + ks.length) (by omega)
      rw [k1]
      have e : ((splice cs0 (off0 + len0) ks).drop off0).take (len0 + ks.length) = (cs0.drop off0).take len0 ++ ks := by
        apply ext_nth
        · simp [splice_length (show off0 + len0 + ks.length ≤ cs0.length by omega)]; omega
        · intro j hj
          have hj' : j < len0 + ks.length := by simp at hj; omega
          have hl2 : ((cs0.drop off0).take len0).length = len0 := by simp; omega
          rw [nth_take hj', nth_drop, nth_splice (by omega)]
          by_cases hjl : j < len0
          · rw [if_pos (by omega), nth_left (by omega), nth_take hjl, nth_drop]
          · rw [if_neg (by omega), if_pos (by omega), nth_right (by omega), hl2]; congr 1; omega
      rw [e] at this
      exact this
    · have e1 : len0 = 0 := by omega
      have e2 : ks = [] := List.eq_nil_of_length_eq_zero (by omega)
      subst e1 e2
      simp only [List.take_zero, List.append_nil]
      exact Vw.nil _ _
  · refine ⟨_, _, h2, h6, h5, ?_⟩
    have := h4.vw (off := 0) (n := len0 + ks.length) (by omega)
    rw [List.drop_zero, h7] at this
    exact this
end

/-- There was room for all: it stays where it was, and the rest of the block is as it was. -/
theorem App.inplace {W : World} {a0 : Option Addr} {g0 off0 len0 cap0 : Nat} {cs0 : List Int} {w : World} {v : Value} {ks : List Int} (h : App W a0 g0 off0 len0 cap0 cs0 w v ks) (ho : OwnB W g0 cs0) (hfit : len0 + ks.length ≤ cap0) :
    v = .slice a0 (len0 + ks.length) cap0 ∧ OwnB w g0 (splice cs0 (off0 + len0) ks) := by
  rcases h.val with ⟨_, h2, h3⟩ | ⟨h1, _⟩
  · refine ⟨h2, ?_⟩
    by_cases hc : 0 < cap0
    · exact h3 hc
    · have e : ks = [] := List.eq_nil_of_length_eq_zero (by omega)
      subst e
      rw [splice_nil]
      exact ho.of_block (h.block _ ho.lt (fun hc' => absurd hc' hc))
  · omega

/-- A slice of the call's own, appended to: told whole again. -/
theorem App.owned {W : World} {g0 len0 : Nat} {cs0 : List Int} {w : World} {v : Value} {ks : List Int} (h : App W (some ⟨g0, 0, none⟩) g0 0 len0 cs0.length cs0 w v ks) (ho : OwnB W g0 cs0) (hle : len0 ≤ cs0.length) (hm : cs0.length ≤ maxLen) :
    ∃ g cs, v = .slice (some ⟨g, 0, none⟩) (len0 + ks.length) cs.length ∧ (g = g0 ∨ W.heap.size ≤ g) ∧ OwnB w g cs ∧ len0 + ks.length ≤ cs.length ∧ cs.length ≤ 9223372036854775807 ∧ cs.take (len0 + ks.length) = cs0.take len0 ++ ks := by
  have hm' : cs0.length ≤ 9223372036854775807 := by unfold maxLen at hm; omega
  by_cases hfit : len0 + ks.length ≤ cs0.length
  · obtain ⟨h1, h2⟩ := h.inplace ho hfit
    rw [Nat.zero_add] at h2
    have hl : (splice cs0 len0 ks).length = cs0.length := splice_length hfit
    refine ⟨g0, _, by rw [hl]; exact h1, .inl rfl, h2, by rw [hl]; exact hfit, by rw [hl]; exact hm', ?_⟩
    unfold splice
    have e : (cs0.take len0 ++ ks).length = len0 + ks.length := by simp; omega
    rw [← e, List.take_left]
  · rcases h.val with ⟨h1, _⟩ | ⟨_, ⟨g, cs, h2, h3, h4, h5, h6, h7⟩, _⟩
    · exact absurd h1 hfit
    · exact ⟨g, cs, h2, .inr h3, h4, h6, by unfold maxLen at h5; omega, by rw [h7, List.drop_zero]⟩

/-- A slice of bytes that the call has made since w: it holds L. -/
structure Res (w w' : World) (v : Value) (L : List Int) : Prop where
  below : Below w.heap.size w w'
  own : ∃ g cs, v = .slice (some ⟨g, 0, none⟩) L.length cs.length ∧ w.heap.size ≤ g ∧ OwnB w' g cs ∧ L.length ≤ cs.length ∧ cs.length ≤ 9223372036854775807 ∧ cs.take L.length = L
theorem Res.reads {w w' : World} {v : Value} {L : List Int} (h : Res w w' v L) : ∃ g c, v = .slice (some ⟨g, 0, none⟩) L.length c ∧ w.heap.size ≤ g ∧ L.length ≤ c ∧ c ≤ 9223372036854775807 ∧ Vw w' (some ⟨g, 0, none⟩) L := by
  obtain ⟨g, cs, e, hg, ho, h1, h2, h3⟩ := h.own
  refine ⟨g, cs.length, e, hg, h1, h2, ?_⟩
  have := ho.vw (off := 0) (n := L.length) (by omega)
  rw [List.drop_zero, h3] at this
  exact this
theorem org_fresh (w : World) : Org (w.alloc (.cells #[] 5)) (some ⟨w.heap.size, 0, none⟩) 0 0 0 0 [] := ⟨Nat.le_refl _, by unfold maxLen; omega, fun h => absurd h (Nat.lt_irrefl _)⟩
theorem app_fresh (w : World) : App (w.alloc (.cells #[] 5)) (some ⟨w.heap.size, 0, none⟩) 0 0 0 0 [] (w.alloc (.cells #[] 5)) (.slice (some ⟨w.heap.size, 0, none⟩) 0 0) [] := App.start (org_fresh w)
theorem App.res {w0 w : World} {v : Value} {ks : List Int} (h : App (w0.alloc (.cells #[] 5)) (some ⟨w0.heap.size, 0, none⟩) 0 0 0 0 [] w v ks) : Res w0 w v ks := by
  have hsz : (w0.alloc (.cells #[] 5)).heap.size = w0.heap.size + 1 := by simp
  have hb : Below w0.heap.size w0 (w0.alloc (.cells #[] 5)) := (Below.refl _ _).alloc (Nat.le_refl _) _
  refine ⟨hb.trans (h.belowOf (by omega) (fun hc => absurd hc (Nat.lt_irrefl _))), ?_⟩
  rcases h.val with ⟨h1, h2, _⟩ | ⟨_, ⟨g, cs, h2, h3, h4, h5, h6, h7⟩, _⟩
  · have e : ks = [] := List.eq_nil_of_length_eq_zero (by omega)
    subst e
    refine ⟨w0.heap.size, [], h2, Nat.le_refl _, (OwnB.new w0 []).of_block (h.block _ (by omega) (fun hc => absurd hc (Nat.lt_irrefl _))), Nat.le_refl _, by simp, rfl⟩
  · refine ⟨g, cs, by rw [h2, Nat.zero_add], by omega, h4, by omega, by unfold maxLen at h5; omega, ?_⟩
    rw [Nat.zero_add] at h7
    simpa using h7

section
variable {P : Program}
theorem zeroBytes (n : Nat) : Builtin.zeroCells (Value.int .u8 0).cells n = ((List.replicate n (0 : Int)).map (Value.int .u8)).toArray := by
  apply Array.ext
  · simp [Builtin.zeroCells, Value.cells]
  · intro i h1 h2
    simp [Builtin.zeroCells, Value.cells]
    rw [Nat.mod_one]; rfl

theorem run_append_app {t : TypeId} (hP : ByteProg P t) {W : World} {a0 : Option Addr} {g0 off0 len0 cap0 : Nat} {cs0 : List Int} (hO : Org W a0 g0 off0 len0 cap0 cs0) {w : World} {v : Value} {ks : List Int}
    (h : App W a0 g0 off0 len0 cap0 cs0 w v ks) (ty : TypeId) (xv : Value) (news : List Int) (hs : Src P 1 t xv news.length (news.map (Value.int .u8)) w) (hbd : len0 + ks.length + news.length ≤ 140737488355328) :
    ∃ v' w', (Builtin.append_ #[t, t] ty #[v, xv]).run P w = .ok v' w' ∧ App W a0 g0 off0 len0 cap0 cs0 w' v' (ks ++ news) := by
  obtain ⟨i, hi, hz, hsz, hby⟩ := hP.hi
  have hreads := h.reads hO
  have hs' : Src P i.size t xv news.length (news.map (Value.int .u8)) w := by rw [hsz]; exact hs
  have hmaxL : len0 + ks.length + news.length ≤ maxLen := by unfold maxLen; omega
  -- a new row
  have grow : ∀ (bs : Option Addr) (sc : Nat), v = .slice bs (len0 + ks.length) sc → sc < len0 + ks.length + news.length → cap0 < len0 + ks.length + news.length →
      (bs = none → len0 + ks.length = 0) →
      ∃ v' w', (Builtin.append_ #[t, t] ty #[v, xv]).run P w = .ok v' w' ∧ App W a0 g0 off0 len0 cap0 cs0 w' v' (ks ++ news) := by
    rintro bs sc rfl hg hcl hnone
    obtain ⟨a, c, hva, _, _, hvw⟩ := hreads
    simp only [Value.slice.injEq] at hva
    obtain ⟨rfl, _, rfl⟩ := hva
    have hol : ((cs0.drop off0).take len0 ++ ks).length = len0 + ks.length := by
      rcases h.val with ⟨h1, h2, h3⟩ | ⟨h1, ⟨g, cs, h2, h3, h4, h5, h6, h7⟩, _⟩
      · by_cases hc : 0 < cap0
        · obtain ⟨k1, k2, k3⟩ := hO.own hc
          have := hO.le
          simp; omega
        · have := hO.le
          have e1 : len0 = 0 := by omega
          subst e1; simp
      · rw [← h7]; simp; omega
    have hold : (Builtin.firstCells i.size (len0 + ks.length) (.slice bs (len0 + ks.length) sc)).run P w.drew = .ok ((((cs0.drop off0).take len0 ++ ks).map (Value.int .u8)).toArray) w.drew := by
      cases bs with
      | none =>
        have e0 := hnone rfl
        rw [e0] at hol
        rw [List.eq_nil_of_length_eq_zero hol]
        exact run_firstCells_none w.drew i.size _ _ _
      | some x =>
        refine run_firstCells_some w.drew i.size (len0 + ks.length) x _ _ _ (by rw [List.length_map, hol, hsz, Nat.mul_one]) (fun j u hu => ?_)
        rw [List.getElem?_map] at hu
        have hj : j < ((cs0.drop off0).take len0 ++ ks).length := by
          apply Nat.lt_of_not_le
          intro hge
          rw [List.getElem?_eq_none hge] at hu
          simp at hu
        obtain ⟨b, off, e, hc⟩ := hvw j hj
        simp only [Option.some.injEq] at e
        subst e
        rw [List.getElem?_eq_getElem hj] at hu
        simp only [Option.map_some, Option.some.injEq] at hu
        rw [Addr.add_lit, ← hu, ← nth_eq hj]
        exact hc
    have hrun := run_append_grow_src (P := P) w t t ty 5 i (.int .u8 0) hP.ht hi hz bs (len0 + ks.length) sc _ hold xv news.length _ hs' hg (by omega) (growslice_fits hg (by rw [hby]; omega))
    have hge := grownCap_ge w (len0 + ks.length + news.length) sc 5
    have hcm := grownCap_le_maxLen w (len0 + ks.length + news.length) sc 5 hmaxL
    generalize grownCap w (len0 + ks.length + news.length) sc 5 = C at *
    have ecells : ((((cs0.drop off0).take len0 ++ ks).map (Value.int .u8) ++ news.map (Value.int .u8)).toArray ++ Builtin.zeroCells (Value.int .u8 0).cells (C - (len0 + ks.length + news.length))) =
        (((cs0.drop off0).take len0 ++ ks ++ news ++ List.replicate (C - (len0 + ks.length + news.length)) 0).map (Value.int .u8)).toArray := by
      rw [zeroBytes]
      simp
    rw [ecells] at hrun
    have hcsl : ((cs0.drop off0).take len0 ++ ks ++ news ++ List.replicate (C - (len0 + ks.length + news.length)) 0).length = C := by
      rw [List.length_append, List.length_append, hol, List.length_replicate]; omega
    have hbel : Below w.heap.size w (w.drew.alloc (.cells (((cs0.drop off0).take len0 ++ ks ++ news ++ List.replicate (C - (len0 + ks.length + news.length)) 0).map (Value.int .u8)).toArray 5)) :=
      ((Below.refl w.heap.size w).drew).alloc (Nat.le_refl _) _
    have hnew := OwnB.new w.drew ((cs0.drop off0).take len0 ++ ks ++ news ++ List.replicate (C - (len0 + ks.length + news.length)) 0)
    have h' := h.carry hbel
    refine ⟨_, _, hrun, h'.os, h'.tape, h'.output, h'.size, h'.block, .inr ⟨by rw [List.length_append]; omega, ⟨w.heap.size, _, ?_, h.size, hnew, by rw [hcsl]; exact hcm, by rw [hcsl, List.length_append]; omega, ?_⟩, ?_⟩⟩
    · rw [hcsl, List.length_append, Nat.add_assoc]
    · have e2 : ((cs0.drop off0).take len0 ++ ks ++ news).length = len0 + (ks ++ news).length := by
        rw [List.length_append, hol, List.length_append]; omega
      rw [← e2, List.take_left, List.append_assoc]
    · intro hc
      rcases h'.val with ⟨_, _, h3⟩ | ⟨_, _, h6⟩
      · refine ⟨_, h3 hc, splice_length (by have := (hO.own hc).2.2; omega), fun i hi => ?_⟩
        have hle : len0 + ks.length ≤ cap0 := by assumption
        rw [nth_splice (by have := (hO.own hc).2.2; omega)]
        rcases hi with hi | hi
        · rw [if_pos hi]
        · rw [if_neg (by omega), if_neg (by omega)]
      · exact h6 hc
  have hlk : (ks ++ news).length = ks.length + news.length := List.length_append
  rcases h.val with ⟨h1, h2, h3⟩ | ⟨h1, ⟨g, cs, h2, h3, h4, h5, h6, h7⟩, h8⟩
  · by_cases hfit : len0 + ks.length + news.length ≤ cap0
    · by_cases hc : 0 < cap0
      · obtain ⟨k1, k2, k3⟩ := hO.own hc
        subst h2 k1
        have ho := h3 hc
        have hol : (splice cs0 (off0 + len0) ks).length = cs0.length := splice_length (by omega)
        have hrun := run_append_room_src (P := P) w t t ty 5 i hP.ht hi g0 off0 (len0 + ks.length) cap0 xv news.length _ hs' hfit
          (fun j hj => by rw [hsz, Nat.mul_one, List.length_map] at *; rw [ho.cell (by omega)]; rfl) (fun j _ => ho.free _)
        have hset := OwnB.sets news (splice cs0 (off0 + len0) ks) (off0 + (len0 + ks.length) * i.size) w ho (by rw [hsz]; omega)
        refine ⟨_, _, hrun, (World.os_setCells _ _ _ _).trans h.os, (tape_setCells _ _ _ _).trans h.tape, (World.output_setCells _ _ _ _).trans h.output, by rw [size_setCells]; exact h.size,
          fun k hk hkg => (World.heap_setCells_other w g0 _ _ (Nat.lt_of_lt_of_le hk h.size) (hkg hc)).trans (h.block k hk hkg), .inl ⟨by omega, by rw [hlk, Nat.add_assoc], fun _ => ?_⟩⟩
        have e := splice_app (cs := cs0) (ks := ks) (ms := news) (p := off0 + len0) (by omega)
        rw [← e]
        rw [show off0 + (len0 + ks.length) * i.size = off0 + len0 + ks.length by rw [hsz]; omega] at hset ⊢
        exact hset
      · have e1 : news = [] := List.eq_nil_of_length_eq_zero (by omega)
        subst e1 h2
        refine ⟨_, _, run_append_nothing (P := P) w t t ty 5 i hP.ht hi a0 _ cap0 h1 xv (by simpa using hs'), ?_⟩
        rw [List.append_nil]; exact h
    · refine grow a0 cap0 h2 (by omega) (by omega) (fun hn => ?_)
      by_cases hc : 0 < cap0
      · have := (hO.own hc).1; rw [hn] at this; simp at this
      · omega
  · by_cases hfit : len0 + ks.length + news.length ≤ cs.length
    · subst h2
      have hrun := run_append_room_src (P := P) w t t ty 5 i hP.ht hi g 0 (len0 + ks.length) cs.length xv news.length _ hs' hfit
        (fun j hj => by rw [hsz, Nat.mul_one, List.length_map] at *; rw [h4.cell (by omega)]; rfl) (fun j _ => h4.free _)
      have hset := OwnB.sets news cs (0 + (len0 + ks.length) * i.size) w h4 (by rw [hsz]; omega)
      rw [show 0 + (len0 + ks.length) * i.size = len0 + ks.length by rw [hsz]; omega] at hset hrun
      have hsl : (splice cs (len0 + ks.length) news).length = cs.length := splice_length (by omega)
      refine ⟨_, _, hrun, (World.os_setCells _ _ _ _).trans h.os, (tape_setCells _ _ _ _).trans h.tape, (World.output_setCells _ _ _ _).trans h.output, by rw [size_setCells]; exact h.size,
        fun k hk hkg => (World.heap_setCells_other w g _ _ (Nat.lt_of_lt_of_le hk h.size) (by omega)).trans (h.block k hk hkg),
        .inr ⟨by omega, ⟨g, _, by rw [hsl, hlk, Nat.add_assoc], h3, hset, by rw [hsl]; exact h5, by rw [hsl]; omega, ?_⟩, fun hc => ?_⟩⟩
      · have e3 : (splice cs (len0 + ks.length) news).take (len0 + (ks ++ news).length) = cs.take (len0 + ks.length) ++ news := by
          unfold splice
          have e4 : (cs.take (len0 + ks.length) ++ news).length = len0 + (ks ++ news).length := by simp; omega
          rw [← e4, List.take_left]
        rw [e3, h7, List.append_assoc]
      · obtain ⟨cs', k1, k2⟩ := h8 hc
        have hne : g0 ≠ g := by have := (hO.own hc).2.1.lt; omega
        exact ⟨cs', k1.of_block (World.heap_setCells_other w g _ _ k1.lt hne), k2⟩
    · refine grow _ _ h2 (by omega) (by omega) (fun hn => by simp at hn)

/-- .. for the walk: 'intro v2 w2 happ'. -/
theorem wpList_append_app {t : TypeId} (w : World) {ops : Array Oper} {rest : List Oper} {o : Oper} {a : Act} {Q : Exit → Act → World → Prop} (hgd : o.guard = none) (s x : Operand)
    (ho : o.op = .call { callee := .builtin .append, args := #[s, x], argTypes := #[t, t] }) (hP : ByteProg P t)
    {W : World} {a0 : Option Addr} {g0 off0 len0 cap0 : Nat} {cs0 : List Int} (hO : Org W a0 g0 off0 len0 cap0 cs0) {v : Value} {ks : List Int} (hv : a.eval s = v)
    (h : App W a0 g0 off0 len0 cap0 cs0 w v ks) (xv : Value) (news : List Int) (hx : a.eval x = xv) (hs : Src P 1 t xv news.length (news.map (Value.int .u8)) w) (hbd : len0 + ks.length + news.length ≤ 140737488355328)
    (hK : ∀ v' w', App W a0 g0 off0 len0 cap0 cs0 w' v' (ks ++ news) → wpList P ops Q rest (a.put o.dst v') w') : wpList P ops Q (o :: rest) a w := by
  refine wpList_plain hgd fun K hK' => ?_
  obtain ⟨v', w', hrun, r'⟩ := run_append_app (P := P) hP hO h o.type xv news hs hbd
  unfold Oper.wp
  simp [execOp, ho, resolve, invoke, builtin, hv, hx, hrun, Result.andThen]
  exact hK' _ _ (hK v' w' r')

/-- .. as one step of a region that draws its order. -/
theorem step_append_app {t : TypeId} {ops : Array Oper} {o : Oper} {a : Act} {w : World} {K : Act → World → Prop} {Q : Exit → Act → World → Prop} {E : Prop} (hgd : o.guard = none) (s x : Operand)
    (ho : o.op = .call { callee := .builtin .append, args := #[s, x], argTypes := #[t, t] }) (hP : ByteProg P t)
    {W : World} {a0 : Option Addr} {g0 off0 len0 cap0 : Nat} {cs0 : List Int} (hO : Org W a0 g0 off0 len0 cap0 cs0) {v : Value} {ks : List Int} (hv : a.eval s = v)
    (h : App W a0 g0 off0 len0 cap0 cs0 w v ks) (xv : Value) (news : List Int) (hx : a.eval x = xv) (hs : Src P 1 t xv news.length (news.map (Value.int .u8)) w) (hbd : len0 + ks.length + news.length ≤ 140737488355328)
    (hK : ∀ v' w', App W a0 g0 off0 len0 cap0 cs0 w' v' (ks ++ news) → K (a.put o.dst v') w') : if Region.wanted o (yielded ops a.tmps) = true then Oper.wp P o a w K Q else E := by
  have hw : Region.wanted o (yielded ops a.tmps) = true := by simp [Region.wanted, hgd]
  rw [if_pos hw]
  obtain ⟨v', w', hrun, r'⟩ := run_append_app (P := P) hP hO h o.type xv news hs hbd
  unfold Oper.wp
  simp [execOp, ho, resolve, invoke, builtin, hv, hx, hrun, Result.andThen]
  exact hK v' w' r'

/-- What a literal list of bytes, just laid in a new block, yields. -/
theorem src_new {t : TypeId} (hP : ByteProg P t) (w : World) (news : List Int) (c : Nat) : Src P 1 t (.slice (some ⟨w.heap.size, 0, none⟩) news.length c) news.length (news.map (Value.int .u8)) (w.alloc (.cells (news.map (Value.int .u8)).toArray 5)) := by
  refine Src.ofSlice _ hP.ht ⟨w.heap.size, 0, none⟩ news.length c _ (by simp) (fun j u hu => ?_) (fun u hu => ?_)
  · rw [List.getElem?_map] at hu
    have hj : j < news.length := by
      apply Nat.lt_of_not_le
      intro hge
      rw [List.getElem?_eq_none hge] at hu
      simp at hu
    rw [List.getElem?_eq_getElem hj] at hu
    simp only [Option.map_some, Option.some.injEq] at hu
    rw [Addr.add_lit, (OwnB.new w news).cell (by omega), Nat.zero_add, nth_eq hj, hu]
  · obtain ⟨_, _, rfl⟩ := List.mem_map.1 hu
    rfl
theorem src_own {t : TypeId} (hP : ByteProg P t) (w : World) (g : Nat) (news : List Int) (c : Nat) (ho : OwnB w g news) : Src P 1 t (.slice (some ⟨g, 0, none⟩) news.length c) news.length (news.map (Value.int .u8)) w := by
  refine Src.ofSlice _ hP.ht ⟨g, 0, none⟩ news.length c _ (by simp) (fun j u hu => ?_) (fun u hu => ?_)
  · rw [List.getElem?_map] at hu
    have hj : j < news.length := by
      apply Nat.lt_of_not_le
      intro hge
      rw [List.getElem?_eq_none hge] at hu
      simp at hu
    rw [List.getElem?_eq_getElem hj] at hu
    simp only [Option.map_some, Option.some.injEq] at hu
    rw [Addr.add_lit, ho.cell (by omega), Nat.zero_add, nth_eq hj, hu]
  · obtain ⟨_, _, rfl⟩ := List.mem_map.1 hu
    rfl
/-- What a slice of bytes yields. -/
theorem src_vw {t : TypeId} (hP : ByteProg P t) (w : World) (a : Option Addr) (news : List Int) (n c : Nat) (hn : news.length = n) (hv : Vw w a news) : Src P 1 t (.slice a n c) news.length (news.map (Value.int .u8)) w := by
  subst hn
  cases a with
  | none =>
    have e : news = [] := List.eq_nil_of_length_eq_zero (by
      apply Nat.eq_zero_of_not_pos
      intro hp
      obtain ⟨b, off, e, _⟩ := hv 0 hp
      simp at e)
    subst e
    exact Src.ofNil w hP.ht c
  | some x =>
    refine Src.ofSlice _ hP.ht x news.length c _ (by simp) (fun j u hu => ?_) (fun u hu => ?_)
    · rw [List.getElem?_map] at hu
      have hj : j < news.length := by
        apply Nat.lt_of_not_le
        intro hge
        rw [List.getElem?_eq_none hge] at hu
        simp at hu
      rw [List.getElem?_eq_getElem hj] at hu
      simp only [Option.map_some, Option.some.injEq] at hu
      obtain ⟨b, off, e, hc⟩ := hv j hj
      simp only [Option.some.injEq] at e
      subst e
      rw [Addr.add_lit, ← hu, ← nth_eq hj]
      exact hc
    · obtain ⟨_, _, rfl⟩ := List.mem_map.1 hu
      rfl
end
end Go.Proofs.Ymbrcs
