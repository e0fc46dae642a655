import Derived.Test.YmbrcrRows
import Derived.Test.YmbrcrBits
import Derived.Test.YmbrcrD
import Derived.Test.YmbrcrLen
import Derived.Test.YmbrcrB
import Derived.WalkKit
import Derived.ProofKit
import Derived.OpenShut
import Derived.ShutString
namespace Go.Proofs.Ymbrcr.lawS930004BRound
open Go.ChangeShapes Go.WideShapes Go.ChangeAt Go.RowKit
open Go.ChangeMaps (open_string shut_string)
set_option linter.unusedVariables false      -- a walk need not use every 'w<i>' (that an integer argument fits its kind)

theorem own : ownKnob Ycrm.prog.godebug = none := by kernel_rfl

/-! ### The walk: the law answers true. -/
theorem walk (a0 : Int) (a1 : Bool) (w0 : (Lit.int .u64 a0).wf = true) (w : World) :
    Calls Ycrm.prog 6 #[.int .u64 a0, .bool a1] w fun e w' => e = .returned (.bool true) ∧ Grown w w' := by
  have b0 := bounds_u64 w0
  exact (bround_walk a0 a1 (by omega) w).mono fun e w2 ⟨h, h2⟩ => ⟨h, h2 ▸ Grown.refl _⟩

/-! ### THE ROW's STEP: WRITTEN OUT: LEAVE IT -/
set_option maxRecDepth 100000 in
theorem lifted (os : Os) (started : os.Started) (H : Type) (enc : TypeId × Value → H) :
    ReturnsInHanded {} Ycrm.checked os 6 .any (Rows.lawS930004BRoundSpec.pre6 enc Ycrm.prog Ycrm.f6 Rows.lawS930004BRoundRow.domain false) (Rows.lawS930004BRoundSpec.post enc Ycrm.prog Ycrm.f6 false true false false) := by
  refine returnsInHanded_of_change (C := Ycrm.checked) own started (by kernel_rfl) Ycrm.func6
    (ChangeSpec.witness6 (enc := enc) (C := Ycrm.checked) false ⟨#[], #[.int .u64 0, .bool false], []⟩ 8 (by kernel_rfl) (by kernel_rfl) (by kernel_rfl) (by kernel_rfl)) ?_
  intro W base args ds gs before hval0 hW hcnd _
  have hval : ∀ (j : Nat) t v, Ycrm.f6.params[j]? = some t → args[j]? = some v → Value.okWide Ycrm.prog W .any base t v := hval0
  have hW' := hW
  obtain ⟨p, q, hA0, hV, rfl, hfz, hnd⟩ := hW
  have hA : DataW.TrodAll enc Ycrm.prog W 0 (fun _ => true) true Ycrm.f6.params.toList args.toList ds p := hA0
  rw [Ycrm.params6] at hA hval
  obtain ⟨v0, vs0, d0, ds0, p0, q0, hargs, rfl, rfl, h0, r0⟩ := trodAll_cons hA
  obtain ⟨v1, vs1, d1, ds1, p1, q1, rfl, rfl, rfl, h1, r1⟩ := trodAll_cons r0
  obtain ⟨rfl, rfl, rfl⟩ := trodAll_nil r1
  obtain rfl : args = #[v0, v1] := by cases args; simp_all
  obtain ⟨rfl, rfl⟩ := trodVars_none hV
  obtain ⟨a0, rfl, rfl, rfl, w0⟩ := open_int Ycrm.underlying30 (hval 0 30 v0 rfl rfl) h0
  obtain ⟨a1, rfl, rfl, rfl⟩ := open_bool Ycrm.underlying4 (hval 1 4 v1 rfl rfl) h1
  clear hA0 hval0
  simp only [List.append_nil] at hW'
  refine (walk a0 a1 w0 W).mono fun e W' ⟨he, hg⟩ => ?_
  subst he
  exact ⟨_, rfl, post_of_same (pa := []) (pv := []) hW' (fun _ _ _ => (trodAll_cons_mk (shut_bool Ycrm.underlying4 _) trodAll_mk0)) (fun sp _ => (trodAll_cons_mk (shut_int Ycrm.underlying30 w0) (trodAll_cons_mk (shut_bool Ycrm.underlying4 _) trodAll_mk0))) (fun _ _ => rfl) rfl
    (hg.frame _) hg.2.1 (ok_one (by kernel_rfl) rfl (okWide_bool_mk Ycrm.underlying4 _))⟩

theorem over : Rows.lawS930004BRoundRow.holds Ycrm.pinned (OpenSpec.ofChange Rows.lawS930004BRoundSpec) :=
  OpenClaim.holds_of_wide 6 Ycrm.f6 rfl rfl rfl rfl rfl rfl rfl ⟨rfl, rfl, rfl, rfl, rfl⟩ rfl rfl rfl rfl rfl (by kernel_rfl) Ycrm.func6 (by kernel_rfl)
    (of_decide_eq_true (by kernel_rfl)) (by unfold Func.isWrapper; first | (rw [if_pos (by decide +kernel)]; kernel_rfl) | (rw [if_neg (by decide +kernel)]; exact ⟨rfl, rfl⟩))
    (fun os started H enc _ => lifted os started H enc)

/-- ████ THE STATEMENT ████ -/
theorem proved : Rows.LawS930004BRoundSaid :=
  over
#print axioms proved
end Go.Proofs.Ymbrcr.lawS930004BRound
