import Derived.Test.YmbrcrRows
import Derived.Test.YmbrcrHex
import Derived.Test.YmbrcrLeaf
import Derived.Test.YmbrcrView
import Derived.Test.YmbrcrBits
import Derived.Test.YmbrcrOff
import Derived.Test.YmbrcrA
import Derived.Test.YmbrcrMem
import Derived.Test.YmbrcrHx
import Derived.Test.YmbrcrCpy
import Derived.Test.YmbrcrOfs
import Derived.Test.YmbrcrAS
import Derived.WalkKit
import Derived.ProofKit
import Derived.OpenShut
import Derived.ShutString
import Derived.ChangeOld
import Derived.Below
namespace Go.Proofs.Ymbrcr.lawS930004ASwap
open Go.ChangeShapes Go.WideShapes Go.ChangeAt Go.RowKit
open Go.ChangeMaps (open_string shut_string)
set_option linter.unusedVariables false      -- a walk need not use every 'w<i>' (that an integer argument fits its kind)

theorem own : ownKnob Ycrm.prog.godebug = none := by kernel_rfl

/-! ### The walk: the law answers true. -/
theorem walk (a0 : Int) (a1 : Int) (a2 : Int) (a3 : Bool) (w0 : (Lit.int .u32 a0).wf = true) (w1 : (Lit.int .u8 a1).wf = true) (w2 : (Lit.int .u8 a2).wf = true) (w : World) :
    Calls Ycrm.prog 5 #[.int .u32 a0, .int .u8 a1, .int .u8 a2, .bool a3] w fun e w' => e = .returned (.bool true) ∧ Below w.heap.size w w' := by
  have b0 := bounds_u32 w0
  have b1 := bounds_u8 w1
  have b2 := bounds_u8 w2
  exact aswap_walk a0 a1 a2 a3 w (by omega) (by omega) (by omega) (by omega) (by omega) (by omega)

/-! ### THE ROW's STEP: WRITTEN OUT: LEAVE IT -/
set_option maxRecDepth 100000 in
theorem lifted (os : Os) (started : os.Started) (H : Type) (enc : TypeId × Value → H) :
    ReturnsInHanded {} Ycrm.checked os 5 .any (Rows.lawS930004ASwapSpec.pre6 enc Ycrm.prog Ycrm.f5 Rows.lawS930004ASwapRow.domain false) (Rows.lawS930004ASwapSpec.post enc Ycrm.prog Ycrm.f5 false true false false) := by
  refine returnsInHanded_of_change (C := Ycrm.checked) own started (by kernel_rfl) Ycrm.func5
    (ChangeSpec.witness6 (enc := enc) (C := Ycrm.checked) false ⟨#[], #[.int .u32 0, .int .u8 0, .int .u8 0, .bool false], []⟩ 8 (by kernel_rfl) (by kernel_rfl) (by kernel_rfl) (by kernel_rfl)) ?_
  intro W base args ds gs before hval0 hW hcnd _
  have hval : ∀ (j : Nat) t v, Ycrm.f5.params[j]? = some t → args[j]? = some v → Value.okWide Ycrm.prog W .any base t v := hval0
  have hW' := hW
  obtain ⟨p, q, hA0, hV, rfl, hfz, hnd⟩ := hW
  have hA : DataW.TrodAll enc Ycrm.prog W 0 (fun _ => true) true Ycrm.f5.params.toList args.toList ds p := hA0
  rw [Ycrm.params5] at hA hval
  obtain ⟨v0, vs0, d0, ds0, p0, q0, hargs, rfl, rfl, h0, r0⟩ := trodAll_cons hA
  obtain ⟨v1, vs1, d1, ds1, p1, q1, rfl, rfl, rfl, h1, r1⟩ := trodAll_cons r0
  obtain ⟨v2, vs2, d2, ds2, p2, q2, rfl, rfl, rfl, h2, r2⟩ := trodAll_cons r1
  obtain ⟨v3, vs3, d3, ds3, p3, q3, rfl, rfl, rfl, h3, r3⟩ := trodAll_cons r2
  obtain ⟨rfl, rfl, rfl⟩ := trodAll_nil r3
  obtain rfl : args = #[v0, v1, v2, v3] := by cases args; simp_all
  obtain ⟨rfl, rfl⟩ := trodVars_none hV
  obtain ⟨a0, rfl, rfl, rfl, w0⟩ := open_int Ycrm.underlying23 (hval 0 23 v0 rfl rfl) h0
  obtain ⟨a1, rfl, rfl, rfl, w1⟩ := open_int Ycrm.underlying5 (hval 1 5 v1 rfl rfl) h1
  obtain ⟨a2, rfl, rfl, rfl, w2⟩ := open_int Ycrm.underlying5 (hval 2 5 v2 rfl rfl) h2
  obtain ⟨a3, rfl, rfl, rfl⟩ := open_bool Ycrm.underlying4 (hval 3 4 v3 rfl rfl) h3
  clear hA0 hval0
  simp only [List.append_nil] at hW'
  refine (walk a0 a1 a2 a3 w0 w1 w2 W).mono fun e W' ⟨he, hg⟩ => ?_
  subst he
  exact ⟨_, rfl, _, _, _, [], _, [], hW', trodAll_mk1 (shut_bool Ycrm.underlying4 _), (trodAll_cons_mk (shut_int Ycrm.underlying23 w0) (trodAll_cons_mk (shut_int Ycrm.underlying5 w1) (trodAll_cons_mk (shut_int Ycrm.underlying5 w2) (trodAll_cons_mk (shut_bool Ycrm.underlying4 _) trodAll_mk0)))), rfl, hg.frame _, fun h => by cases h⟩

theorem over : Rows.lawS930004ASwapRow.holds Ycrm.pinned (OpenSpec.ofChange Rows.lawS930004ASwapSpec) :=
  OpenClaim.holds_of_wide 5 Ycrm.f5 rfl rfl rfl rfl rfl rfl rfl ⟨rfl, rfl, rfl, rfl, rfl⟩ rfl rfl rfl rfl rfl (by kernel_rfl) Ycrm.func5 (by kernel_rfl)
    (of_decide_eq_true (by kernel_rfl)) (by unfold Func.isWrapper; first | (rw [if_pos (by decide +kernel)]; kernel_rfl) | (rw [if_neg (by decide +kernel)]; exact ⟨rfl, rfl⟩))
    (fun os started H enc _ => lifted os started H enc)

/-- ████ THE STATEMENT ████ -/
theorem proved : Rows.LawS930004ASwapSaid :=
  over
#print axioms proved
end Go.Proofs.Ymbrcr.lawS930004ASwap
