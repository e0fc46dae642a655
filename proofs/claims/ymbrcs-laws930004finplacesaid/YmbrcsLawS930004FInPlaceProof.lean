import Derived.Test.YmbrcsRows
import Derived.Test.YmbrcsHex
import Derived.Test.YmbrcsLeaf
import Derived.Test.YmbrcsView
import Derived.Test.YmbrcsBits
import Derived.Test.YmbrcsOff
import Derived.Test.YmbrcsMem
import Derived.Test.YmbrcsHx
import Derived.Test.YmbrcsOfs
import Derived.Test.YmbrcsDec
import Derived.Test.YmbrcsPLine
import Derived.Test.YmbrcsLine
import Derived.Test.YmbrcsLPl
import Derived.Test.YmbrcsCpy
import Derived.Test.YmbrcsF
import Derived.Test.YmbrcsFE
import Derived.Test.YmbrcsFI
import Derived.WalkKit
import Derived.ProofKit
import Derived.OpenShut
import Derived.ShutString
import Derived.ChangeOld
import Derived.Below
namespace Go.Proofs.Ymbrcs.lawS930004FInPlace
open Go.ChangeShapes Go.WideShapes Go.ChangeAt Go.RowKit
open Go.ChangeMaps (open_string shut_string)
set_option linter.unusedVariables false      -- a walk need not use every 'w<i>' (that an integer argument fits its kind)

theorem own : ownKnob Ycsm.prog.godebug = none := by kernel_rfl

/-! ### The walk: the law answers true. -/
theorem walk (a0 : Int) (a1 : Int) (a2 : Int) (a3 : Bool) (a4 : Int) (a5 : Int) (a6 : Int) (w0 : (Lit.int .u8 a0).wf = true) (w1 : (Lit.int .u8 a1).wf = true) (w2 : (Lit.int .u32 a2).wf = true) (w4 : (Lit.int .u8 a4).wf = true) (w5 : (Lit.int .u8 a5).wf = true) (w6 : (Lit.int .u8 a6).wf = true) (w : World) :
    Calls Ycsm.prog 7 #[.int .u8 a0, .int .u8 a1, .int .u32 a2, .bool a3, .int .u8 a4, .int .u8 a5, .int .u8 a6] w fun e w' => e = .returned (.bool true) ∧ Below w.heap.size w w' := by
  have b0 := bounds_u8 w0
  have b1 := bounds_u8 w1
  have b2 := bounds_u32 w2
  exact finplace_walk a0 a1 a2 a3 a4 a5 a6 w (by omega) (by omega) (by omega) (by omega) (by omega) (by omega)

/-! ### THE ROW's STEP: WRITTEN OUT: LEAVE IT -/
set_option maxRecDepth 100000 in
theorem lifted (os : Os) (started : os.Started) (H : Type) (enc : TypeId × Value → H) :
    ReturnsInHanded {} Ycsm.checked os 7 .any (Rows.lawS930004FInPlaceSpec.pre6 enc Ycsm.prog Ycsm.f7 Rows.lawS930004FInPlaceRow.domain false) (Rows.lawS930004FInPlaceSpec.post enc Ycsm.prog Ycsm.f7 false true false false) := by
  refine returnsInHanded_of_change (C := Ycsm.checked) own started (by kernel_rfl) Ycsm.func7
    (ChangeSpec.witness6 (enc := enc) (C := Ycsm.checked) false ⟨#[], #[.int .u8 0, .int .u8 0, .int .u32 0, .bool false, .int .u8 0, .int .u8 0, .int .u8 0], []⟩ 8 (by kernel_rfl) (by kernel_rfl) (by kernel_rfl) (by kernel_rfl)) ?_
  intro W base args ds gs before hval0 hW hcnd _
  have hval : ∀ (j : Nat) t v, Ycsm.f7.params[j]? = some t → args[j]? = some v → Value.okWide Ycsm.prog W .any base t v := hval0
  have hW' := hW
  obtain ⟨p, q, hA0, hV, rfl, hfz, hnd⟩ := hW
  have hA : DataW.TrodAll enc Ycsm.prog W 0 (fun _ => true) true Ycsm.f7.params.toList args.toList ds p := hA0
  rw [Ycsm.params7] at hA hval
  obtain ⟨v0, vs0, d0, ds0, p0, q0, hargs, rfl, rfl, h0, r0⟩ := trodAll_cons hA
  obtain ⟨v1, vs1, d1, ds1, p1, q1, rfl, rfl, rfl, h1, r1⟩ := trodAll_cons r0
  obtain ⟨v2, vs2, d2, ds2, p2, q2, rfl, rfl, rfl, h2, r2⟩ := trodAll_cons r1
  obtain ⟨v3, vs3, d3, ds3, p3, q3, rfl, rfl, rfl, h3, r3⟩ := trodAll_cons r2
  obtain ⟨v4, vs4, d4, ds4, p4, q4, rfl, rfl, rfl, h4, r4⟩ := trodAll_cons r3
  obtain ⟨v5, vs5, d5, ds5, p5, q5, rfl, rfl, rfl, h5, r5⟩ := trodAll_cons r4
  obtain ⟨v6, vs6, d6, ds6, p6, q6, rfl, rfl, rfl, h6, r6⟩ := trodAll_cons r5
  obtain ⟨rfl, rfl, rfl⟩ := trodAll_nil r6
  obtain rfl : args = #[v0, v1, v2, v3, v4, v5, v6] := by cases args; simp_all
  obtain ⟨rfl, rfl⟩ := trodVars_none hV
  obtain ⟨a0, rfl, rfl, rfl, w0⟩ := open_int Ycsm.underlying5 (hval 0 5 v0 rfl rfl) h0
  obtain ⟨a1, rfl, rfl, rfl, w1⟩ := open_int Ycsm.underlying5 (hval 1 5 v1 rfl rfl) h1
  obtain ⟨a2, rfl, rfl, rfl, w2⟩ := open_int Ycsm.underlying31 (hval 2 31 v2 rfl rfl) h2
  obtain ⟨a3, rfl, rfl, rfl⟩ := open_bool Ycsm.underlying4 (hval 3 4 v3 rfl rfl) h3
  obtain ⟨a4, rfl, rfl, rfl, w4⟩ := open_int Ycsm.underlying5 (hval 4 5 v4 rfl rfl) h4
  obtain ⟨a5, rfl, rfl, rfl, w5⟩ := open_int Ycsm.underlying5 (hval 5 5 v5 rfl rfl) h5
  obtain ⟨a6, rfl, rfl, rfl, w6⟩ := open_int Ycsm.underlying5 (hval 6 5 v6 rfl rfl) h6
  clear hA0 hval0
  simp only [List.append_nil] at hW'
  refine (walk a0 a1 a2 a3 a4 a5 a6 w0 w1 w2 w4 w5 w6 W).mono fun e W' ⟨he, hg⟩ => ?_
  subst he
  exact ⟨_, rfl, _, _, _, [], _, [], hW', trodAll_mk1 (shut_bool Ycsm.underlying4 _), (trodAll_cons_mk (shut_int Ycsm.underlying5 w0) (trodAll_cons_mk (shut_int Ycsm.underlying5 w1) (trodAll_cons_mk (shut_int Ycsm.underlying31 w2) (trodAll_cons_mk (shut_bool Ycsm.underlying4 _) (trodAll_cons_mk (shut_int Ycsm.underlying5 w4) (trodAll_cons_mk (shut_int Ycsm.underlying5 w5) (trodAll_cons_mk (shut_int Ycsm.underlying5 w6) trodAll_mk0))))))), rfl, hg.frame _, fun h => by cases h⟩

theorem over : Rows.lawS930004FInPlaceRow.holds Ycsm.pinned (OpenSpec.ofChange Rows.lawS930004FInPlaceSpec) :=
  OpenClaim.holds_of_wide 7 Ycsm.f7 rfl rfl rfl rfl rfl rfl rfl ⟨rfl, rfl, rfl, rfl, rfl⟩ rfl rfl rfl rfl rfl (by kernel_rfl) Ycsm.func7 (by kernel_rfl)
    (of_decide_eq_true (by kernel_rfl)) (by unfold Func.isWrapper; first | (rw [if_pos (by decide +kernel)]; kernel_rfl) | (rw [if_neg (by decide +kernel)]; exact ⟨rfl, rfl⟩))
    (fun os started H enc _ => lifted os started H enc)

/-- ████ THE STATEMENT ████ -/
theorem proved : Rows.LawS930004FInPlaceSaid :=
  over
#print axioms proved
end Go.Proofs.Ymbrcs.lawS930004FInPlace
