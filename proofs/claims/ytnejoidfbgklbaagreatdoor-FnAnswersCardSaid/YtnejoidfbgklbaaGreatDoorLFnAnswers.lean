/- The law FnAnswers returns true for every argument, and the arguments read as before; the tables are laid as the program's text lays them. No condition beyond the given statement's. -/
import Derived.Test.YtnejoidfbgklbaaGreatDoorWFnAnswers
import Derived.Test.YtnejoidfbgklbaaGreatDoorTie
import Derived.Test.YtnejoidfbgklbaaGreatDoorCards
import Derived.WalkKit
import Derived.ProofKit
import Derived.ShutString
import Derived.ChangeOld
import Derived.ChangeVars
import Derived.LaidLaws
import Derived.Stop.LaidErr
import Derived.Deep.DeepLaidRun
import Derived.SevenTiedAt
namespace Go.Proofs.YtnejoidfbgklbaaGreatDoor.fnAnswers
open Go Go.ChangeShapes Go.WideShapes Go.ChangeAt Go.RowKit Go.Proofs.YtnejoidfbgklbaaGreatDoor.Eng
set_option linter.unusedVariables false
theorem own : ownKnob Tryz.prog.godebug = none := by kernel_rfl
theorem laidOut : laidOutB Tryz.prog = true := by kernel_rfl
theorem and_tt {a b : Bool} (ha : a = true) (hb : b = true) : (a && b) = true := by rw [ha, hb]; rfl
def layC (cs : Array Value) : Obj → Obj
  | .cells _ t fz => .cells cs t fz
  | o => o
/-- So many blocks has the settled world. -/
noncomputable def low : Nat := (World.holding Tryz.prog default ⟨#[], #[], []⟩).heap.size
/-- The settled world, the tables laid as the program's text lays them. -/
noncomputable def laidWorld (os : Os) : World :=
  let w0 := World.holding Tryz.prog os ⟨#[.cells #[.string ⟨#[118, 97, 108, 117, 101, 32, 111, 117, 116, 32, 111, 102, 32, 114, 97, 110, 103, 101]⟩] 155, .cells #[.string ⟨#[105, 110, 118, 97, 108, 105, 100, 32, 115, 121, 110, 116, 97, 120]⟩] 155], #[], []⟩
  { w0 with heap := (((((w0.heap).modify 3 (layC #[.int .u8 0, .int .u8 1, .int .u8 28, .int .u8 2, .int .u8 29, .int .u8 14, .int .u8 24, .int .u8 3, .int .u8 30, .int .u8 22, .int .u8 20, .int .u8 15, .int .u8 25, .int .u8 17, .int .u8 4, .int .u8 8, .int .u8 31, .int .u8 27, .int .u8 13, .int .u8 23, .int .u8 21, .int .u8 19, .int .u8 16, .int .u8 7, .int .u8 26, .int .u8 12, .int .u8 18, .int .u8 6, .int .u8 11, .int .u8 5, .int .u8 10, .int .u8 9])).modify 4 (layC #[.int .u8 0, .int .u8 1, .int .u8 56, .int .u8 2, .int .u8 57, .int .u8 49, .int .u8 28, .int .u8 3, .int .u8 61, .int .u8 58, .int .u8 42, .int .u8 50, .int .u8 38, .int .u8 29, .int .u8 17, .int .u8 4, .int .u8 62, .int .u8 47, .int .u8 59, .int .u8 36, .int .u8 45, .int .u8 43, .int .u8 51, .int .u8 22, .int .u8 53, .int .u8 39, .int .u8 33, .int .u8 30, .int .u8 24, .int .u8 18, .int .u8 12, .int .u8 5, .int .u8 63, .int .u8 55, .int .u8 48, .int .u8 27, .int .u8 60, .int .u8 41, .int .u8 37, .int .u8 16, .int .u8 46, .int .u8 35, .int .u8 44, .int .u8 21, .int .u8 52, .int .u8 32, .int .u8 23, .int .u8 11, .int .u8 54, .int .u8 26, .int .u8 40, .int .u8 15, .int .u8 34, .int .u8 20, .int .u8 31, .int .u8 10, .int .u8 25, .int .u8 14, .int .u8 19, .int .u8 9, .int .u8 13, .int .u8 8, .int .u8 7, .int .u8 6])).modify 2 (layC #[.int .u64 1, .int .u64 10, .int .u64 100, .int .u64 1000, .int .u64 10000, .int .u64 100000, .int .u64 1000000, .int .u64 10000000, .int .u64 100000000, .int .u64 1000000000, .int .u64 10000000000, .int .u64 100000000000, .int .u64 1000000000000, .int .u64 10000000000000, .int .u64 100000000000000, .int .u64 1000000000000000, .int .u64 10000000000000000, .int .u64 100000000000000000, .int .u64 1000000000000000000, .int .u64 10000000000000000000])).modify 1 (layC #[.iface 153 (.pointer (some ⟨low + 0, 0, none⟩))])).modify 0 (layC #[.iface 153 (.pointer (some ⟨low + 1, 0, none⟩))]) }
theorem laid_met (os : Os) (args : Array Value) : laidMet Tryz.prog Rows.fnAnswersRow.laid ((laidWorld os).forCall (fun _ _ => 0) ⟨#[], args, []⟩).memory :=
  laidMet_of_run3 12 (by kernel_rfl) (by kernel_rfl) (by kernel_rfl)
theorem heap_of_var {n : String} {g : Nat} {cs : Array Value} {w : World} (hg : Tryz.prog.globalNamed n = some g) (h : w.var? Tryz.prog n = some cs) : ∃ t z, w.heap[g]? = some (.cells cs t z) := by
  simp only [World.var?, hg, Option.bind_some] at h
  split at h
  · rename_i c t z e; obtain rfl := Option.some.inj h; exact ⟨t, z, e⟩
  · simp at h
def eName : String := match (Rows.laid_strconv_ErrSyntax : DataW Unit) with
  | .iface n _ => n
  | _ => ""
theorem star : String.append "*" "errors.errorString" = eName := by decide +kernel
theorem rowE (u : TypeId) (h : Tryz.prog.typeName? 3 u = some eName) : u = 153 :=
  typeName_ptr_named (nm := "errors.errorString") (by rw [show ("*" ++ "errors.errorString" : String) = eName from star]; kernel_rfl) (by kernel_rfl) (by decide) u (by rw [show ("*" ++ "errors.errorString" : String) = eName from star]; exact h)
set_option maxRecDepth 100000 in
theorem lifted (os : Os) (started : os.Started) (H : Type) (enc : TypeId × Value → H) :
    ReturnsInHanded {} Tryz.checked os 3 .any (fun w args => (Rows.fnAnswersSpec.pre enc Tryz.prog Tryz.f3 Rows.fnAnswersRow.domain false w args ∧ laidMet Tryz.prog Rows.fnAnswersRow.laid w) ∧ sizedMet enc Tryz.prog Tryz.f3 (OpenSpec.ofChange Rows.fnAnswersSpec) false w args) (Rows.fnAnswersSpec.post enc Tryz.prog Tryz.f3 false true false false) := by
  refine returnsInHanded_of_change_and (C := Tryz.checked) (X := fun w _ => laidMet Tryz.prog Rows.fnAnswersRow.laid w) (fun _ _ _ hh h => h.of_heap hh) own started (by kernel_rfl) Tryz.func3
    (ChangeSpec.witness_at (enc := enc) (C := Tryz.checked) (os := os) (X := fun w _ => laidMet Tryz.prog Rows.fnAnswersRow.laid w) false (laidWorld os) #[.slice none 0 0] 8 rfl (by kernel_rfl) (by kernel_rfl) (by kernel_rfl) (by kernel_rfl) (by kernel_rfl) (laid_met os _)) ?_
  intro W base args ds gs before hval hW hcnd hsz hL _
  have hW' := hW
  obtain ⟨p, q, hA, hV, rfl, hfz, hnd⟩ := hW
  obtain ⟨rfl, rfl⟩ := trodVars_none hV
  have hA2 : DataW.TrodAll enc Tryz.prog W 0 (fun _ => true) true [22] args.toList ds p := hA
  have hval2 : ∀ (j : Nat) t v, ([22] : List TypeId)[j]? = some t → args[j]? = some v → Value.okWide Tryz.prog W .any base t v := fun j t v ht hv => hval j t v (by rw [Tryz.params3, ← Array.getElem?_toList]; exact ht) hv
  have ePow : (Rows.laid_internal_strconv_uint64pow10 : DataW Unit) = Lib.tabData .u64 Lib.pow10Tab := by kernel_rfl
  have hPow : laidMet Tryz.prog ((powN, Lib.tabData .u64 Lib.pow10Tab) :: _) W := ePow ▸ hL.tail.tail
  obtain ⟨t2, z2, k2⟩ := heap_of_var gPow (Lib.tabIs_of_head gPow (by kernel_rfl) (show Tryz.prog.underlying 146 = some (.array 20 124) by kernel_rfl) (show Tryz.prog.underlying 124 = some (.int .u64) by kernel_rfl) (by kernel_rfl) (by kernel_rfl) hPow)
  obtain ⟨a1, s1, hv1, -, -, -⟩ := Go.laid_sentinel (g := 1) hL.tail.tail.tail (by kernel_rfl) (by kernel_rfl) (show Tryz.prog.underlying 98 = some (.interface _) from rfl) rowE (show Tryz.prog.underlying 153 = some (.pointer 155) by kernel_rfl) (show Tryz.prog.underlying 155 = some (.struct _) from rfl) rfl rfl (show Tryz.prog.underlying 9 = some .string by kernel_rfl) (by kernel_rfl) (by kernel_rfl)
  obtain ⟨u1, y1, k1⟩ := heap_of_var (show Tryz.prog.globalNamed "strconv.ErrRange" = some 1 by kernel_rfl) hv1
  obtain ⟨a0, s0, hv0, -, -, -⟩ := Go.laid_sentinel (g := 0) hL.tail.tail.tail.tail (by kernel_rfl) (by kernel_rfl) (show Tryz.prog.underlying 98 = some (.interface _) from rfl) rowE (show Tryz.prog.underlying 153 = some (.pointer 155) by kernel_rfl) (show Tryz.prog.underlying 155 = some (.struct _) from rfl) rfl rfl (show Tryz.prog.underlying 9 = some .string by kernel_rfl) (by kernel_rfl) (by kernel_rfl)
  obtain ⟨u0, y0, k0⟩ := heap_of_var (show Tryz.prog.globalNamed "strconv.ErrSyntax" = some 0 by kernel_rfl) hv0
  have hTab : ∀ t ∈ tabs, ∃ o, W.heap[t.1]? = some o ∧ t.2 o := by
    intro t ht
    simp only [tabs, List.mem_cons, List.not_mem_nil, or_false] at ht
    rcases ht with rfl | rfl | rfl
    · exact ⟨_, k0, _, _, _, _, rfl⟩
    · exact ⟨_, k1, _, _, _, _, rfl⟩
    · exact ⟨_, k2, _, _, rfl⟩
  refine (law_call (us := Rows.fnAnswersSpec.plain.varTypes Tryz.prog) prim0 hTab (n := 2) (by kernel_rfl) (fun xs hx => law_of Tryz.func3 rfl ok_law rfl (by omega) law xs hx) hA2 hval2 hsz).mono fun e W' ⟨he, bel⟩ => ?_
  subst he
  have hB := trodAll_below laidOut bel _ _ _ _ (by kernel_rfl) hA2
  obtain ⟨v0, vs0, d0, ds0, p0, q0, hargs0, rfl, rfl, h0, r0⟩ := trodAll_cons hA2
  obtain ⟨rfl, rfl, rfl⟩ := trodAll_nil r0
  exact ⟨_, rfl, _, _, _, [], _, [], hW', trodAll_mk1 (shut_bool u4 _), hB, rfl, bel.frame _, fun h => by cases h⟩
theorem j0 : (Rows.fnAnswersRow.wf (OpenSpec.ofChange Rows.fnAnswersSpec)) = true := by kernel_rfl
theorem j1 : (laidOutB Tryz.checked.prog) = true := by kernel_rfl
theorem j2 : (mapsRowed Tryz.checked.prog) = true := by kernel_rfl
theorem j3 : (Tryz.f3.params.all (Tryz.checked.prog.readableRec ·)) = true := by kernel_rfl
theorem j4 : (namedTie Tryz.checked.prog Rows.fnAnswersRow.named Rows.fnAnswersSpec.vars) = true := by kernel_rfl
theorem j5 : ((Rows.fnAnswersRow.stops == [])) = true := by kernel_rfl
theorem j6 : ((Tryz.checked.prog.stops == [])) = true := by kernel_rfl
theorem j7 : ((Rows.fnAnswersRow.knobs == [])) = true := by kernel_rfl
theorem j8 : ((Tryz.checked.prog.stopKnobs == [])) = true := by kernel_rfl
theorem j9 : ((Rows.fnAnswersRow.inPlace == Tryz.checked.prog.inPlace 3)) = true := by kernel_rfl
theorem j10 : ((Rows.fnAnswersRow.unfollowed == Tryz.checked.prog.unfollowed 3)) = true := by kernel_rfl
theorem j11 : ((Rows.fnAnswersRow.recurses == Tryz.checked.prog.recurses 3)) = true := by kernel_rfl
theorem j12 : ((Rows.fnAnswersRow.named == Tryz.checked.prog.varsNamed 3)) = true := by kernel_rfl
theorem j13 : ((Rows.fnAnswersRow.maps == (Tryz.f3.params.toList ++ Rows.fnAnswersSpec.plain.varTypes Tryz.checked.prog).any (Tryz.checked.prog.mapsRec ·))) = true := by kernel_rfl
theorem j14 : ((Rows.fnAnswersRow.ifaces == (Tryz.f3.params.toList ++ Rows.fnAnswersSpec.plain.varTypes Tryz.checked.prog).any (Tryz.checked.prog.ifacesRec ·))) = true := by kernel_rfl
theorem j15 : ((Rows.fnAnswersRow.mapsOut == Tryz.checked.prog.mapsAmong Tryz.f3.resultTypes.toList)) = true := by kernel_rfl
theorem j16 : ((Rows.fnAnswersRow.loops == (Tryz.f3.params.toList ++ Rows.fnAnswersSpec.plain.varTypes Tryz.checked.prog).any (Tryz.checked.prog.loopsFrom ·))) = true := by kernel_rfl
theorem j17 : ((Rows.fnAnswersRow.wideKeys == (Tryz.f3.params.toList ++ Rows.fnAnswersSpec.plain.varTypes Tryz.checked.prog ++ Tryz.f3.resultTypes.toList).any (Tryz.checked.prog.wideKeysFrom ·))) = true := by kernel_rfl
theorem j18 : (Rows.fnAnswersSpec.vars.all (Tryz.checked.prog.varReadable ·)) = true := by kernel_rfl
theorem j19 : (Tryz.f3.resultTypes.all (fun t => Tryz.checked.prog.readableRec t && decide (t < Tryz.checked.prog.types.size))) = true := by kernel_rfl
theorem j20 : ((Rows.fnAnswersRow.ifacesOut == Tryz.f3.resultTypes.toList.any (Tryz.checked.prog.ifacesRec ·))) = true := by kernel_rfl
theorem j21 : ((Rows.fnAnswersRow.loopsOut == Tryz.f3.resultTypes.toList.any (Tryz.checked.prog.loopsFrom ·))) = true := by kernel_rfl
theorem j22 : ((Rows.fnAnswersRow.plainKeys == Tryz.checked.prog.plainKeys)) = true := by kernel_rfl
theorem j23 : (Rows.fnAnswersRow.shortTexts.isNone) = true := by kernel_rfl
theorem j24 : (Tryz.checked.prog.stopsHeard) = true := by kernel_rfl
theorem j25 : (Tryz.checked.prog.mayEnter) = true := by kernel_rfl
theorem j26 : ((Rows.fnAnswersRow.lifted == Tryz.checked.prog.liftsFinal)) = true := by kernel_rfl
theorem j27 : ((Tryz.checked.prog.make == some Rows.fnAnswersRow.make)) = true := by kernel_rfl
theorem j28 : ((Rows.fnAnswersRow.kinds == (if Rows.fnAnswersRow.domain.isEmpty then [] else Tryz.f3.params.toList.map fun t => match Tryz.checked.prog.underlying t with | some (.int k) => some k | _ => none))) = true := by kernel_rfl
theorem j29 : ((Rows.fnAnswersRow.pinned == Rows.fnAnswersRow.pinnedBy)) = true := by kernel_rfl
theorem j30 : ((Rows.fnAnswersRow.veiled == (Tryz.f3.params.toList ++ Rows.fnAnswersSpec.plain.varTypes Tryz.checked.prog ++ Tryz.f3.resultTypes.toList).any (Tryz.checked.prog.veiledRec ·))) = true := by kernel_rfl
theorem j31 : (Rows.fnAnswersRow.veiledFits Tryz.checked.prog Tryz.f3.params.toList (Tryz.f3.params.toList ++ Rows.fnAnswersSpec.plain.varTypes Tryz.checked.prog ++ Tryz.f3.resultTypes.toList)) = true := by kernel_rfl
set_option maxRecDepth 100000 in
theorem closed : joinedFacts Tryz.checked.prog 3 Tryz.f3 Rows.fnAnswersSpec Rows.fnAnswersRow = true := (and_tt (and_tt (and_tt (and_tt (and_tt (and_tt (and_tt (and_tt (and_tt (and_tt (and_tt (and_tt (and_tt (and_tt (and_tt (and_tt (and_tt (and_tt (and_tt (and_tt (and_tt (and_tt (and_tt (and_tt (and_tt (and_tt (and_tt (and_tt (and_tt (and_tt (and_tt j0 j1) j2) j3) j4) j5) j6) j7) j8) j9) j10) j11) j12) j13) j14) j15) j16) j17) j18) j19) j20) j21) j22) j23) j24) j25) j26) j27) j28) j29) j30) j31)
theorem over : Rows.fnAnswersRow.holds Tryz.pinned (OpenSpec.ofChange Rows.fnAnswersSpec) :=
  OpenClaim.holds_of_wide 3 Tryz.f3 rfl rfl rfl rfl rfl rfl rfl ⟨rfl, rfl, rfl, rfl, rfl⟩ rfl rfl rfl rfl rfl (by kernel_rfl) Tryz.func3 closed
    (of_decide_eq_true (by kernel_rfl)) (by unfold Func.isWrapper; first | (rw [if_pos (by decide +kernel)]; kernel_rfl) | (rw [if_neg (by decide +kernel)]; exact ⟨rfl, rfl⟩))
    (fun os started H enc _ => lifted os started H enc)
end Go.Proofs.YtnejoidfbgklbaaGreatDoor.fnAnswers
namespace Go.Proofs.YtnejoidfbgklbaaGreatDoor
/-- The card. -/
theorem fnAnswers_holds : Rows.FnAnswersCardSaid :=
  Claim7.holds_tied_plain_at .later [] Rows.fnAnswersCard.laidKinds true Rows.fnAnswersCard.stood.harness Rows.fnAnswersCard.stood.looks
    fnAnswers.over (fun _ h => by cases h) (by kernel_rfl) (fun _ h => by cases h) fnAnswers_row_tie rfl ⟨rfl, rfl⟩ (by kernel_rfl) rfl
    (fun f fn hf hfn => by
      obtain rfl : f = 3 := Option.some.inj ((show Tryz.prog.funcNamed Rows.fnAnswersRow.func = some 3 by kernel_rfl).symm.trans hf) |>.symm
      obtain rfl : fn = Tryz.f3 := (Option.some.inj (Tryz.func3.symm.trans hfn)).symm
      exact ⟨by kernel_rfl, fun j t ht => by
        rw [Tryz.params3] at ht
        have h3 : ([22] : List TypeId).all (fun t => Tryz.prog.wantsStandIn t == false) = true := by kernel_rfl
        rw [List.all_eq_true] at h3
        rw [← Array.getElem?_toList] at ht
        exact (show Tryz.prog.wantsStandIn t = false by simpa using h3 t (List.mem_of_getElem? ht))⟩)
    (by kernel_rfl)
end Go.Proofs.YtnejoidfbgklbaaGreatDoor
