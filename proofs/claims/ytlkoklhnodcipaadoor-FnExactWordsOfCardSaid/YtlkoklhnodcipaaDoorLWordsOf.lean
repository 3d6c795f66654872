/- The law FnExactWordsOf returns true for every argument, and the arguments read as before; the tables are laid as the program's text lays them. No condition beyond the given statement's. -/
import Derived.Test.YtlkoklhnodcipaaDoorWWordsOf
import Derived.Test.YtlkoklhnodcipaaDoorE38
import Derived.Test.YtlkoklhnodcipaaDoorTie
import Derived.Test.YtlkoklhnodcipaaDoorCards
import Derived.WalkKit
import Derived.ProofKit
import Derived.ShutString
import Derived.ChangeOld
import Derived.ChangeVars
import Derived.LaidLaws
import Derived.Stop.LaidErr
import Derived.Deep.DeepLaidRun
import Derived.SevenTiedAt
namespace Go.Proofs.YtlkoklhnodcipaaDoor.fnExactWordsOf
open Go Go.ChangeShapes Go.WideShapes Go.ChangeAt Go.RowKit Go.Proofs.YtlkoklhnodcipaaDoor.Eng
set_option linter.unusedVariables false
theorem own : ownKnob Tryd.prog.godebug = none := by kernel_rfl
theorem laidOut : laidOutB Tryd.prog = true := by kernel_rfl
theorem and_tt {a b : Bool} (ha : a = true) (hb : b = true) : (a && b) = true := by rw [ha, hb]; rfl
def layC (cs : Array Value) : Obj → Obj
  | .cells _ t fz => .cells cs t fz
  | o => o
/-- So many blocks has the settled world. -/
noncomputable def low : Nat := (World.holding Tryd.prog default ⟨#[], #[], []⟩).heap.size
/-- The settled world, the tables laid as the program's text lays them. -/
noncomputable def laidWorld (os : Os) : World :=
  let w0 := World.holding Tryd.prog os ⟨#[], #[], []⟩
  { w0 with heap := ((w0.heap).modify 2 (layC #[.int .u8 128, .int .u8 191, .int .u8 160, .int .u8 191, .int .u8 128, .int .u8 159, .int .u8 144, .int .u8 191, .int .u8 128, .int .u8 143, .int .u8 0, .int .u8 0, .int .u8 0, .int .u8 0, .int .u8 0, .int .u8 0, .int .u8 0, .int .u8 0, .int .u8 0, .int .u8 0, .int .u8 0, .int .u8 0, .int .u8 0, .int .u8 0, .int .u8 0, .int .u8 0, .int .u8 0, .int .u8 0, .int .u8 0, .int .u8 0, .int .u8 0, .int .u8 0])).modify 1 (layC (litsOf Rows.laid_unicode_utf8_first)) }
theorem laid_met (os : Os) (args : Array Value) : laidMet Tryd.prog Rows.fnExactWordsOfRow.laid ((laidWorld os).forCall (fun _ _ => 0) ⟨#[], args, []⟩).memory :=
  laidMet_of_run3 12 (by kernel_rfl) (by kernel_rfl) (by kernel_rfl)
theorem heap_of_var {n : String} {g : Nat} {cs : Array Value} {w : World} (hg : Tryd.prog.globalNamed n = some g) (h : w.var? Tryd.prog n = some cs) : ∃ t z, w.heap[g]? = some (.cells cs t z) := by
  simp only [World.var?, hg, Option.bind_some] at h
  split at h
  · rename_i c t z e; obtain rfl := Option.some.inj h; exact ⟨t, z, e⟩
  · simp at h
set_option maxRecDepth 100000 in
theorem lifted (os : Os) (started : os.Started) (H : Type) (enc : TypeId × Value → H) :
    ReturnsInHanded {} Tryd.checked os 3 .any (fun w args => (Rows.fnExactWordsOfSpec.pre enc Tryd.prog Tryd.f3 Rows.fnExactWordsOfRow.domain false w args ∧ laidMet Tryd.prog Rows.fnExactWordsOfRow.laid w) ∧ sizedMet enc Tryd.prog Tryd.f3 (OpenSpec.ofChange Rows.fnExactWordsOfSpec) false w args) (Rows.fnExactWordsOfSpec.post enc Tryd.prog Tryd.f3 false true false false) := by
  refine andShaped (C := Tryd.checked) (X := fun w _ => laidMet Tryd.prog Rows.fnExactWordsOfRow.laid w) (fun _ _ _ hh h => h.of_heap hh) own started (by kernel_rfl) Tryd.func3
    (ChangeSpec.witness_at (enc := enc) (C := Tryd.checked) (os := os) (X := fun w _ => laidMet Tryd.prog Rows.fnExactWordsOfRow.laid w) false (laidWorld os) #[.string ⟨#[]⟩] 8 rfl (by kernel_rfl) (by kernel_rfl) (by kernel_rfl) (by kernel_rfl) (by kernel_rfl) (laid_met os _)) ?_
  intro W base args ds gs before hval hW hcnd hsz hL hSh
  have hW' := hW
  obtain ⟨p, q, hA, hV, rfl, hfz, hnd⟩ := hW
  obtain ⟨rfl, rfl⟩ := trodVars_none hV
  have hA2 : DataW.TrodAll enc Tryd.prog W 0 (fun _ => true) true [9] args.toList ds p := hA
  have hval2 : ∀ (j : Nat) t v, ([9] : List TypeId)[j]? = some t → args[j]? = some v → Value.okWide Tryd.prog W .any base t v := fun j t v ht hv => hval j t v (by rw [Tryd.params3, ← Array.getElem?_toList]; exact ht) hv
  have hTab : ∀ t ∈ tabs, ∃ o, W.heap[t.1]? = some o ∧ t.2 o := by
    intro t ht
    simp only [tabs, List.mem_cons, List.not_mem_nil, or_false] at ht
    subst ht
    exact (int_at (Go.Proofs.cell_of_shapedOpen_int (k := .i64) (t := 3) (zero := #[.int .i64 0]) hSh (show 0 < Tryd.prog.globals.size by decide +kernel) (by kernel_rfl) rfl (by kernel_rfl) (by kernel_rfl) (by kernel_rfl)))
  refine (law_call (us := Rows.fnExactWordsOfSpec.plain.varTypes Tryd.prog) prim0 hTab (n := 1) (by kernel_rfl) (fun xs hx => law_of Tryd.func3 rfl ok_law rfl (by omega) law xs hx) hA2 hval2 hsz).mono fun e W' ⟨he, bel⟩ => ?_
  subst he
  have hB := trodAll_below laidOut bel _ _ _ _ (by kernel_rfl) hA2
  obtain ⟨v0, vs0, d0, ds0, p0, q0, hargs0, rfl, rfl, h0, r0⟩ := trodAll_cons hA2
  obtain ⟨rfl, rfl, rfl⟩ := trodAll_nil r0
  exact ⟨_, rfl, _, _, _, [], _, [], hW', trodAll_mk1 (shut_bool u4 _), hB, rfl, bel.frame _, fun h => by cases h⟩
theorem j0 : (Rows.fnExactWordsOfRow.wf (OpenSpec.ofChange Rows.fnExactWordsOfSpec)) = true := by kernel_rfl
theorem j1 : (laidOutB Tryd.checked.prog) = true := by kernel_rfl
theorem j2 : (mapsRowed Tryd.checked.prog) = true := by kernel_rfl
theorem j3 : (Tryd.f3.params.all (Tryd.checked.prog.readableRec ·)) = true := by kernel_rfl
theorem j4 : (namedTie Tryd.checked.prog Rows.fnExactWordsOfRow.named Rows.fnExactWordsOfSpec.vars) = true := by kernel_rfl
theorem j5 : ((Rows.fnExactWordsOfRow.stops == [])) = true := by kernel_rfl
theorem j6 : ((Tryd.checked.prog.stops == [])) = true := by kernel_rfl
theorem j7 : ((Rows.fnExactWordsOfRow.knobs == [])) = true := by kernel_rfl
theorem j8 : ((Tryd.checked.prog.stopKnobs == [])) = true := by kernel_rfl
theorem j9 : ((Rows.fnExactWordsOfRow.inPlace == Tryd.checked.prog.inPlace 3)) = true := by kernel_rfl
theorem j10 : ((Rows.fnExactWordsOfRow.unfollowed == Tryd.checked.prog.unfollowed 3)) = true := by kernel_rfl
theorem j11 : ((Rows.fnExactWordsOfRow.recurses == Tryd.checked.prog.recurses 3)) = true := by kernel_rfl
theorem j12 : ((Rows.fnExactWordsOfRow.named == Tryd.checked.prog.varsNamed 3)) = true := by kernel_rfl
theorem j13 : ((Rows.fnExactWordsOfRow.maps == (Tryd.f3.params.toList ++ Rows.fnExactWordsOfSpec.plain.varTypes Tryd.checked.prog).any (Tryd.checked.prog.mapsRec ·))) = true := by kernel_rfl
theorem j14 : ((Rows.fnExactWordsOfRow.ifaces == (Tryd.f3.params.toList ++ Rows.fnExactWordsOfSpec.plain.varTypes Tryd.checked.prog).any (Tryd.checked.prog.ifacesRec ·))) = true := by kernel_rfl
theorem j15 : ((Rows.fnExactWordsOfRow.mapsOut == Tryd.checked.prog.mapsAmong Tryd.f3.resultTypes.toList)) = true := by kernel_rfl
theorem j16 : ((Rows.fnExactWordsOfRow.loops == (Tryd.f3.params.toList ++ Rows.fnExactWordsOfSpec.plain.varTypes Tryd.checked.prog).any (Tryd.checked.prog.loopsFrom ·))) = true := by kernel_rfl
theorem j17 : ((Rows.fnExactWordsOfRow.wideKeys == (Tryd.f3.params.toList ++ Rows.fnExactWordsOfSpec.plain.varTypes Tryd.checked.prog ++ Tryd.f3.resultTypes.toList).any (Tryd.checked.prog.wideKeysFrom ·))) = true := by kernel_rfl
theorem j18 : (Rows.fnExactWordsOfSpec.vars.all (Tryd.checked.prog.varReadable ·)) = true := by kernel_rfl
theorem j19 : (Tryd.f3.resultTypes.all (fun t => Tryd.checked.prog.readableRec t && decide (t < Tryd.checked.prog.types.size))) = true := by kernel_rfl
theorem j20 : ((Rows.fnExactWordsOfRow.ifacesOut == Tryd.f3.resultTypes.toList.any (Tryd.checked.prog.ifacesRec ·))) = true := by kernel_rfl
theorem j21 : ((Rows.fnExactWordsOfRow.loopsOut == Tryd.f3.resultTypes.toList.any (Tryd.checked.prog.loopsFrom ·))) = true := by kernel_rfl
theorem j22 : ((Rows.fnExactWordsOfRow.plainKeys == Tryd.checked.prog.plainKeys)) = true := by kernel_rfl
theorem j23 : (Rows.fnExactWordsOfRow.shortTexts.isNone) = true := by kernel_rfl
theorem j24 : (Tryd.checked.prog.stopsHeard) = true := by kernel_rfl
theorem j25 : (Tryd.checked.prog.mayEnter) = true := by kernel_rfl
theorem j26 : ((Rows.fnExactWordsOfRow.lifted == Tryd.checked.prog.liftsFinal)) = true := by kernel_rfl
theorem j27 : ((Tryd.checked.prog.make == some Rows.fnExactWordsOfRow.make)) = true := by kernel_rfl
theorem j28 : ((Rows.fnExactWordsOfRow.kinds == (if Rows.fnExactWordsOfRow.domain.isEmpty then [] else Tryd.f3.params.toList.map fun t => match Tryd.checked.prog.underlying t with | some (.int k) => some k | _ => none))) = true := by kernel_rfl
theorem j29 : ((Rows.fnExactWordsOfRow.pinned == Rows.fnExactWordsOfRow.pinnedBy)) = true := by kernel_rfl
theorem j30 : ((Rows.fnExactWordsOfRow.veiled == (Tryd.f3.params.toList ++ Rows.fnExactWordsOfSpec.plain.varTypes Tryd.checked.prog ++ Tryd.f3.resultTypes.toList).any (Tryd.checked.prog.veiledRec ·))) = true := by kernel_rfl
theorem j31 : (Rows.fnExactWordsOfRow.veiledFits Tryd.checked.prog Tryd.f3.params.toList (Tryd.f3.params.toList ++ Rows.fnExactWordsOfSpec.plain.varTypes Tryd.checked.prog ++ Tryd.f3.resultTypes.toList)) = true := by kernel_rfl
set_option maxRecDepth 100000 in
theorem closed : joinedFacts Tryd.checked.prog 3 Tryd.f3 Rows.fnExactWordsOfSpec Rows.fnExactWordsOfRow = true := (and_tt (and_tt (and_tt (and_tt (and_tt (and_tt (and_tt (and_tt (and_tt (and_tt (and_tt (and_tt (and_tt (and_tt (and_tt (and_tt (and_tt (and_tt (and_tt (and_tt (and_tt (and_tt (and_tt (and_tt (and_tt (and_tt (and_tt (and_tt (and_tt (and_tt (and_tt j0 j1) j2) j3) j4) j5) j6) j7) j8) j9) j10) j11) j12) j13) j14) j15) j16) j17) j18) j19) j20) j21) j22) j23) j24) j25) j26) j27) j28) j29) j30) j31)
theorem over : Rows.fnExactWordsOfRow.holds Tryd.pinned (OpenSpec.ofChange Rows.fnExactWordsOfSpec) :=
  OpenClaim.holds_of_wide 3 Tryd.f3 rfl rfl rfl rfl rfl rfl rfl ⟨rfl, rfl, rfl, rfl, rfl⟩ rfl rfl rfl rfl rfl (by kernel_rfl) Tryd.func3 closed
    (of_decide_eq_true (by kernel_rfl)) (by unfold Func.isWrapper; first | (rw [if_pos (by decide +kernel)]; kernel_rfl) | (rw [if_neg (by decide +kernel)]; exact ⟨rfl, rfl⟩))
    (fun os started H enc _ => lifted os started H enc)
end Go.Proofs.YtlkoklhnodcipaaDoor.fnExactWordsOf
namespace Go.Proofs.YtlkoklhnodcipaaDoor
/-- The card. -/
theorem fnExactWordsOf_holds : Rows.FnExactWordsOfCardSaid :=
  Claim7.holds_tied_plain_at .later [] Rows.fnExactWordsOfCard.laidKinds true Rows.fnExactWordsOfCard.stood.harness Rows.fnExactWordsOfCard.stood.looks
    fnExactWordsOf.over (fun _ h => by cases h) (by kernel_rfl) (fun _ h => by cases h) fnExactWordsOf_row_tie rfl ⟨rfl, rfl⟩ (by kernel_rfl) rfl
    (fun f fn hf hfn => by
      obtain rfl : f = 3 := Option.some.inj ((show Tryd.prog.funcNamed Rows.fnExactWordsOfRow.func = some 3 by kernel_rfl).symm.trans hf) |>.symm
      obtain rfl : fn = Tryd.f3 := (Option.some.inj (Tryd.func3.symm.trans hfn)).symm
      exact ⟨by kernel_rfl, fun j t ht => by
        rw [Tryd.params3] at ht
        have h3 : ([9] : List TypeId).all (fun t => Tryd.prog.wantsStandIn t == false) = true := by kernel_rfl
        rw [List.all_eq_true] at h3
        rw [← Array.getElem?_toList] at ht
        exact (show Tryd.prog.wantsStandIn t = false by simpa using h3 t (List.mem_of_getElem? ht))⟩)
    (by kernel_rfl)
end Go.Proofs.YtlkoklhnodcipaaDoor
