/- The law FnExactConfigFault returns true for every argument, and the arguments read as before. No condition beyond the given statement's. -/
import Derived.Test.YtmobkpfalcfepaaWConfigFault
import Derived.WalkKit
import Derived.ProofKit
import Derived.ShutString
import Derived.ChangeOld
namespace Go.Proofs.Ytmobkpfalcfepaa.fnExactConfigFault
open Go Go.ChangeShapes Go.WideShapes Go.ChangeAt Go.RowKit Go.Proofs.Ytmobkpfalcfepaa.Eng
set_option linter.unusedVariables false
theorem own : ownKnob Try.prog.godebug = none := by kernel_rfl
theorem laidOut : laidOutB Try.prog = true := by kernel_rfl
set_option maxRecDepth 100000 in
theorem lifted (os : Os) (started : os.Started) (H : Type) (enc : TypeId × Value → H) :
    ReturnsInHanded {} Try.checked os 3 .any (Rows.fnExactConfigFaultSpec.pre6 enc Try.prog Try.f3 Rows.fnExactConfigFaultRow.domain false) (Rows.fnExactConfigFaultSpec.post enc Try.prog Try.f3 false true false false) := by
  refine returnsInHanded_of_change_sized (C := Try.checked) own started (by kernel_rfl) Try.func3
    (ChangeSpec.witness6 (enc := enc) (C := Try.checked) false ⟨#[], #[.agg #[.int .i64 0, .slice none 0 0, .slice none 0 0]], []⟩ 8 (by kernel_rfl) (by kernel_rfl) (by kernel_rfl) (by kernel_rfl)) ?_
  intro W base args ds gs before hval hW hcnd hsz _
  have hW' := hW
  obtain ⟨p, q, hA, hV, rfl, hfz, hnd⟩ := hW
  obtain ⟨rfl, rfl⟩ := trodVars_none hV
  have hA2 : DataW.TrodAll enc Try.prog W 0 (fun _ => true) true [27] args.toList ds p := hA
  have hval2 : ∀ (j : Nat) t v, ([27] : List TypeId)[j]? = some t → args[j]? = some v → Value.okWide Try.prog W .any base t v := fun j t v ht hv => hval j t v (by rw [Try.params3, ← Array.getElem?_toList]; exact ht) hv
  refine (law_call (us := Rows.fnExactConfigFaultSpec.plain.varTypes Try.prog) prim0 (n := 4) (by kernel_rfl) (fun xs hx => law_of Try.func3 rfl ok_law rfl (by omega) law xs hx) hA2 hval2 hsz).mono fun e W' ⟨he, bel⟩ => ?_
  subst he
  have hB := trodAll_below laidOut bel _ _ _ _ (by kernel_rfl) hA2
  obtain ⟨v0, vs0, d0, ds0, p0, q0, hargs0, rfl, rfl, h0, r0⟩ := trodAll_cons hA2
  obtain ⟨rfl, rfl, rfl⟩ := trodAll_nil r0
  exact ⟨_, rfl, _, _, _, [], _, [], hW', trodAll_mk1 (shut_bool u4 _), hB, rfl, bel.frame _, fun h => by cases h⟩
theorem over : Rows.fnExactConfigFaultRow.holds Try.pinned (OpenSpec.ofChange Rows.fnExactConfigFaultSpec) :=
  OpenClaim.holds_of_wide 3 Try.f3 rfl rfl rfl rfl rfl rfl rfl ⟨rfl, rfl, rfl, rfl, rfl⟩ rfl rfl rfl rfl rfl (by kernel_rfl) Try.func3 (by kernel_rfl)
    (of_decide_eq_true (by kernel_rfl)) (by unfold Func.isWrapper; first | (rw [if_pos (by decide +kernel)]; kernel_rfl) | (rw [if_neg (by decide +kernel)]; exact ⟨rfl, rfl⟩))
    (fun os started H enc _ => lifted os started H enc)
end Go.Proofs.Ytmobkpfalcfepaa.fnExactConfigFault
namespace Go.Proofs.Ytmobkpfalcfepaa
/-- The row. -/
theorem fnExactConfigFault_holds : Rows.FnExactConfigFaultSaid := fnExactConfigFault.over
end Go.Proofs.Ytmobkpfalcfepaa
