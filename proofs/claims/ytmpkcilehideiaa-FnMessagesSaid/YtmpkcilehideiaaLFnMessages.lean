/- The law FnMessages returns true for every argument, and the arguments read as before. No condition beyond the given statement's. -/
import Derived.Test.YtmpkcilehideiaaWFnMessages
import Derived.WalkKit
import Derived.ProofKit
import Derived.ShutString
import Derived.ChangeOld
namespace Go.Proofs.Ytmpkcilehideiaa.fnMessages
open Go Go.ChangeShapes Go.WideShapes Go.ChangeAt Go.RowKit Go.Proofs.Ytmpkcilehideiaa.Eng
set_option linter.unusedVariables false
theorem own : ownKnob Try.prog.godebug = none := by kernel_rfl
theorem laidOut : laidOutB Try.prog = true := by kernel_rfl
theorem and_tt {a b : Bool} (ha : a = true) (hb : b = true) : (a && b) = true := by rw [ha, hb]; rfl
set_option maxRecDepth 100000 in
theorem lifted (os : Os) (started : os.Started) (H : Type) (enc : TypeId × Value → H) :
    ReturnsInHanded {} Try.checked os 4 .any (Rows.fnMessagesSpec.pre6 enc Try.prog Try.f4 Rows.fnMessagesRow.domain false) (Rows.fnMessagesSpec.post enc Try.prog Try.f4 false true false false) := by
  refine returnsInHanded_of_change_sized (C := Try.checked) own started (by kernel_rfl) Try.func4
    (ChangeSpec.witness6 (enc := enc) (C := Try.checked) false ⟨#[], #[.slice none 0 0], []⟩ 8 (by kernel_rfl) (by kernel_rfl) (by kernel_rfl) (by kernel_rfl)) ?_
  intro W base args ds gs before hval hW hcnd hsz _
  have hW' := hW
  obtain ⟨p, q, hA, hV, rfl, hfz, hnd⟩ := hW
  obtain ⟨rfl, rfl⟩ := trodVars_none hV
  have hA2 : DataW.TrodAll enc Try.prog W 0 (fun _ => true) true [22] args.toList ds p := hA
  have hval2 : ∀ (j : Nat) t v, ([22] : List TypeId)[j]? = some t → args[j]? = some v → Value.okWide Try.prog W .any base t v := fun j t v ht hv => hval j t v (by rw [Try.params4, ← Array.getElem?_toList]; exact ht) hv
  refine (law_call (us := Rows.fnMessagesSpec.plain.varTypes Try.prog) prim0 (fun t ht => by simp [tabs] at ht) (n := 2) (by kernel_rfl) (fun xs hx => law_of Try.func4 rfl ok_law rfl (by omega) law xs hx) hA2 hval2 hsz).mono fun e W' ⟨he, bel⟩ => ?_
  subst he
  have hB := trodAll_below laidOut bel _ _ _ _ (by kernel_rfl) hA2
  obtain ⟨v0, vs0, d0, ds0, p0, q0, hargs0, rfl, rfl, h0, r0⟩ := trodAll_cons hA2
  obtain ⟨rfl, rfl, rfl⟩ := trodAll_nil r0
  exact ⟨_, rfl, _, _, _, [], _, [], hW', trodAll_mk1 (shut_bool u4 _), hB, rfl, bel.frame _, fun h => by cases h⟩
theorem j0 : (Rows.fnMessagesRow.wf (OpenSpec.ofChange Rows.fnMessagesSpec)) = true := by kernel_rfl
theorem j1 : (laidOutB Try.checked.prog) = true := by kernel_rfl
theorem j2 : (mapsRowed Try.checked.prog) = true := by kernel_rfl
theorem j3 : (Try.f4.params.all (Try.checked.prog.readableRec ·)) = true := by kernel_rfl
theorem j4 : (namedTie Try.checked.prog Rows.fnMessagesRow.named Rows.fnMessagesSpec.vars) = true := by kernel_rfl
theorem j5 : ((Rows.fnMessagesRow.stops == [])) = true := by kernel_rfl
theorem j6 : ((Try.checked.prog.stops == [])) = true := by kernel_rfl
theorem j7 : ((Rows.fnMessagesRow.knobs == [])) = true := by kernel_rfl
theorem j8 : ((Try.checked.prog.stopKnobs == [])) = true := by kernel_rfl
theorem j9 : ((Rows.fnMessagesRow.inPlace == Try.checked.prog.inPlace 4)) = true := by kernel_rfl
theorem j10 : ((Rows.fnMessagesRow.unfollowed == Try.checked.prog.unfollowed 4)) = true := by kernel_rfl
theorem j11 : ((Rows.fnMessagesRow.recurses == Try.checked.prog.recurses 4)) = true := by kernel_rfl
theorem j12 : ((Rows.fnMessagesRow.named == Try.checked.prog.varsNamed 4)) = true := by kernel_rfl
theorem j13 : ((Rows.fnMessagesRow.maps == (Try.f4.params.toList ++ Rows.fnMessagesSpec.plain.varTypes Try.checked.prog).any (Try.checked.prog.mapsRec ·))) = true := by kernel_rfl
theorem j14 : ((Rows.fnMessagesRow.ifaces == (Try.f4.params.toList ++ Rows.fnMessagesSpec.plain.varTypes Try.checked.prog).any (Try.checked.prog.ifacesRec ·))) = true := by kernel_rfl
theorem j15 : ((Rows.fnMessagesRow.mapsOut == Try.checked.prog.mapsAmong Try.f4.resultTypes.toList)) = true := by kernel_rfl
theorem j16 : ((Rows.fnMessagesRow.loops == (Try.f4.params.toList ++ Rows.fnMessagesSpec.plain.varTypes Try.checked.prog).any (Try.checked.prog.loopsFrom ·))) = true := by kernel_rfl
theorem j17 : ((Rows.fnMessagesRow.wideKeys == (Try.f4.params.toList ++ Rows.fnMessagesSpec.plain.varTypes Try.checked.prog ++ Try.f4.resultTypes.toList).any (Try.checked.prog.wideKeysFrom ·))) = true := by kernel_rfl
theorem j18 : (Rows.fnMessagesSpec.vars.all (Try.checked.prog.varReadable ·)) = true := by kernel_rfl
theorem j19 : (Try.f4.resultTypes.all (fun t => Try.checked.prog.readableRec t && decide (t < Try.checked.prog.types.size))) = true := by kernel_rfl
theorem j20 : ((Rows.fnMessagesRow.ifacesOut == Try.f4.resultTypes.toList.any (Try.checked.prog.ifacesRec ·))) = true := by kernel_rfl
theorem j21 : ((Rows.fnMessagesRow.loopsOut == Try.f4.resultTypes.toList.any (Try.checked.prog.loopsFrom ·))) = true := by kernel_rfl
theorem j22 : ((Rows.fnMessagesRow.plainKeys == Try.checked.prog.plainKeys)) = true := by kernel_rfl
theorem j23 : (Rows.fnMessagesRow.shortTexts.isNone) = true := by kernel_rfl
theorem j24 : (Try.checked.prog.stopsHeard) = true := by kernel_rfl
theorem j25 : (Try.checked.prog.mayEnter) = true := by kernel_rfl
theorem j26 : ((Rows.fnMessagesRow.lifted == Try.checked.prog.liftsFinal)) = true := by kernel_rfl
theorem j27 : ((Try.checked.prog.make == some Rows.fnMessagesRow.make)) = true := by kernel_rfl
theorem j28 : ((Rows.fnMessagesRow.kinds == (if Rows.fnMessagesRow.domain.isEmpty then [] else Try.f4.params.toList.map fun t => match Try.checked.prog.underlying t with | some (.int k) => some k | _ => none))) = true := by kernel_rfl
theorem j29 : ((Rows.fnMessagesRow.pinned == Rows.fnMessagesRow.pinnedBy)) = true := by kernel_rfl
theorem j30 : ((Rows.fnMessagesRow.veiled == (Try.f4.params.toList ++ Rows.fnMessagesSpec.plain.varTypes Try.checked.prog ++ Try.f4.resultTypes.toList).any (Try.checked.prog.veiledRec ·))) = true := by kernel_rfl
theorem j31 : (Rows.fnMessagesRow.veiledFits Try.checked.prog Try.f4.params.toList (Try.f4.params.toList ++ Rows.fnMessagesSpec.plain.varTypes Try.checked.prog ++ Try.f4.resultTypes.toList)) = true := by kernel_rfl
set_option maxRecDepth 100000 in
theorem closed : joinedFacts Try.checked.prog 4 Try.f4 Rows.fnMessagesSpec Rows.fnMessagesRow = true := (and_tt (and_tt (and_tt (and_tt (and_tt (and_tt (and_tt (and_tt (and_tt (and_tt (and_tt (and_tt (and_tt (and_tt (and_tt (and_tt (and_tt (and_tt (and_tt (and_tt (and_tt (and_tt (and_tt (and_tt (and_tt (and_tt (and_tt (and_tt (and_tt (and_tt (and_tt j0 j1) j2) j3) j4) j5) j6) j7) j8) j9) j10) j11) j12) j13) j14) j15) j16) j17) j18) j19) j20) j21) j22) j23) j24) j25) j26) j27) j28) j29) j30) j31)
theorem over : Rows.fnMessagesRow.holds Try.pinned (OpenSpec.ofChange Rows.fnMessagesSpec) :=
  OpenClaim.holds_of_wide 4 Try.f4 rfl rfl rfl rfl rfl rfl rfl ⟨rfl, rfl, rfl, rfl, rfl⟩ rfl rfl rfl rfl rfl (by kernel_rfl) Try.func4 closed
    (of_decide_eq_true (by kernel_rfl)) (by unfold Func.isWrapper; first | (rw [if_pos (by decide +kernel)]; kernel_rfl) | (rw [if_neg (by decide +kernel)]; exact ⟨rfl, rfl⟩))
    (fun os started H enc _ => lifted os started H enc)
end Go.Proofs.Ytmpkcilehideiaa.fnMessages
namespace Go.Proofs.Ytmpkcilehideiaa
/-- The row. -/
theorem fnMessages_holds : Rows.FnMessagesSaid := fnMessages.over
end Go.Proofs.Ytmpkcilehideiaa
