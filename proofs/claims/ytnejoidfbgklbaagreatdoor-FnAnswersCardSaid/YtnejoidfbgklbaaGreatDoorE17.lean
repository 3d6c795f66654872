/- The engine, part 17: calls do what the evaluator says. -/
import Derived.Test.YtnejoidfbgklbaaGreatDoorE16
import Derived.Test.YtnejoidfbgklbaaGreatDoorEA
namespace Go.Proofs.YtnejoidfbgklbaaGreatDoor.Eng
open Go Go.RowKit
set_option linter.unusedSimpArgs false
set_option linter.unusedVariables false

section
variable {P : Program} {base : Nat} {H : Hp} {ρ : Nat → Loc} {F : Nat → Nat → Prop} {w : World}

/-- What a call gives whose result lies in own blocks, each once. -/
def OwnPost (P : Program) (f : Nat) (vals : Array Value) (ρ : Nat → Loc) (F : Nat → Nat → Prop) (w : World) (v : AV) : Prop :=
  Calls P f vals w fun e w' => ∃ u H1 ρ1 F1 r fp, e = .returned u ∧ After w.heap.size Hp.nil ρ F w H1 ρ1 F1 w' ∧ VR H1 ρ1 F1 w' r u ∧ fpt H1 depthD r = some fp ∧ fp.Nodup ∧ deep H1 depthD r = some v
/-- What is asked of a function whose law comes from elsewhere. -/
def PrimOk (P : Program) (cfg : Cfg) : Prop := ∀ f g, cfg.prim f = some g → ∀ ts v cl, g ts = some (v, cl) →
  ∀ ρ F w (vals : Array Value), Inv w.heap.size Hp.nil ρ F w → ts.length = vals.size → (∀ (i : Nat) x y, ts[i]? = some x → vals[i]? = some y → VR Hp.nil ρ F w x y) →
    (Calls P f vals w fun e w' => ∃ u F', e = .returned u ∧ After w.heap.size Hp.nil ρ F w Hp.nil ρ F' w' ∧ VR Hp.nil ρ F' w' v u ∧ (cl = true → VR Hp.nil ρ (fun k o => F' k o ∧ w.heap.size ≤ k) w' v u)) ∧
    (cfg.own f = true → OwnPost P f vals ρ F w v)

theorem cfPure (cfg : Cfg) : ∀ n, CfPure cfg (callN P cfg n) := by
  intro n p f as H v H' hr hp h
  cases n with
  | zero => simp [callN] at h
  | succ n =>
    simp only [callN] at h
    obtain ⟨fn, hf, h⟩ := Option.bind_eq_some_iff.1 h
    have hpa : ∀ b (r : AV × Bool), pureAt H b r = some (v, H') → H' = H := by
      intro b r h
      unfold pureAt at h
      split at h
      · simp only [Option.some.injEq, Prod.mk.injEq] at h; exact h.2.symm
      · simp at h
    split at h
    · split at h
      · obtain ⟨ts, -, h⟩ := Option.bind_eq_some_iff.1 h
        obtain ⟨r, -, h⟩ := Option.bind_eq_some_iff.1 h
        exact hpa _ _ h
      · simp at h
    · split at h
      · simp only [hr, Bool.false_eq_true, if_false, if_neg hp] at h
        obtain ⟨ts, -, h⟩ := Option.bind_eq_some_iff.1 h
        obtain ⟨r, -, h⟩ := Option.bind_eq_some_iff.1 h
        exact hpa _ _ h
      · simp at h

theorem WfH.new {H : Hp} (h : WfH H) (cs : List AV) : WfH (H.new cs) := fun b c hb => by
  rw [Hp.new_h] at hb
  split at hb
  · subst_vars; simp
  · have := h b c hb; simp; omega
theorem mat_hext : ∀ (d : Nat) (t : AV) (H : Hp) (z : AV) (H' : Hp), WfH H → mat d t H = some (z, H') → HExt H H' ∧ WfH H' := by
  have hL : ∀ (m : AV → Hp → Option (AV × Hp)), (∀ t H z H', WfH H → m t H = some (z, H') → HExt H H' ∧ WfH H') → ∀ (ts : List AV) (H : Hp) (zs : List AV) (H' : Hp), WfH H → matL m ts H = some (zs, H') → HExt H H' ∧ WfH H' := by
    intro m hm ts
    induction ts with
    | nil => intro H zs H' hw h; simp only [matL, Option.some.injEq, Prod.mk.injEq] at h; obtain ⟨-, rfl⟩ := h; exact ⟨HExt.refl _, hw⟩
    | cons t ts ih =>
      intro H zs H' hw h
      simp only [matL] at h
      obtain ⟨⟨z, H1⟩, h1, h⟩ := Option.bind_eq_some_iff.1 h
      obtain ⟨⟨zs', H2⟩, h2, h3⟩ := Option.map_eq_some_iff.1 h
      simp only [Prod.mk.injEq] at h3
      obtain ⟨-, rfl⟩ := h3
      obtain ⟨a1, a2⟩ := hm t H z H1 hw h1
      obtain ⟨b1, b2⟩ := ih H1 zs' H2 a2 h2
      exact ⟨a1.trans b1, b2⟩
  intro d
  induction d with
  | zero => intro t H z H' _ h; simp [mat] at h
  | succ d ih =>
    intro t H z H' hw h
    unfold mat at h
    split at h
    · simp only [Option.some.injEq, Prod.mk.injEq] at h; obtain ⟨-, rfl⟩ := h; exact ⟨HExt.refl _, hw⟩
    · simp only [Option.some.injEq, Prod.mk.injEq] at h; obtain ⟨-, rfl⟩ := h; exact ⟨HExt.refl _, hw⟩
    · split at h
      · obtain ⟨⟨zs, H1⟩, h1, h2⟩ := Option.map_eq_some_iff.1 h
        simp only [Prod.mk.injEq] at h2
        obtain ⟨-, rfl⟩ := h2
        obtain ⟨a1, a2⟩ := hL (mat d) ih _ H zs H1 hw h1
        exact ⟨a1.trans (HExt.new a2 _), a2.new _⟩
      · simp at h
    · obtain ⟨⟨zs, H1⟩, h1, h2⟩ := Option.map_eq_some_iff.1 h
      simp only [Prod.mk.injEq] at h2
      obtain ⟨-, rfl⟩ := h2
      exact hL (mat d) ih _ H zs H1 hw h1
    · obtain ⟨⟨zs, H1⟩, h1, h2⟩ := Option.map_eq_some_iff.1 h
      simp only [Prod.mk.injEq] at h2
      obtain ⟨-, rfl⟩ := h2
      exact hL (mat d) ih _ H zs H1 hw h1
    · simp at h
theorem cfExt_own (cfg : Cfg) (n f : Nat) (as : List AV) (H : Hp) (v : AV) (H' : Hp) (hr : cfg.raw f = false) (hw : WfH H) (h : callN P cfg n 1 f as H = some (v, H')) : HExt H H' := by
  cases n with
  | zero => simp [callN] at h
  | succ n =>
    simp only [callN] at h
    obtain ⟨fn, hf, h⟩ := Option.bind_eq_some_iff.1 h
    split at h
    · split at h
      · obtain ⟨ts, h1, h⟩ := Option.bind_eq_some_iff.1 h
        obtain ⟨r, h2, h⟩ := Option.bind_eq_some_iff.1 h
        simp only [if_true] at h
        split at h
        · exact (mat_hext _ _ _ _ _ hw h).1
        · simp at h
      · simp at h
    · split at h
      · simp only [hr, Bool.false_eq_true, if_false, if_true] at h
        obtain ⟨ts, h1, h⟩ := Option.bind_eq_some_iff.1 h
        obtain ⟨t, h2, h⟩ := Option.bind_eq_some_iff.1 h
        exact (mat_hext _ _ _ _ _ hw h).1
      · simp at h
theorem cfExt (cfg : Cfg) : ∀ n, CfExt cfg (callN P cfg n) := by
  intro n
  refine ⟨?_, fun f as H v H' hr hw h => cfExt_own cfg n f as H v H' hr hw h⟩
  intro p f as H v H' H2 hr hp h he
  cases n with
  | zero => simp [callN] at h
  | succ n =>
    simp only [callN] at h ⊢
    obtain ⟨fn, hf, h⟩ := Option.bind_eq_some_iff.1 h
    rw [hf]
    simp only [Option.bind_some]
    have hpa : ∀ b (r : AV × Bool), pureAt H b r = some (v, H') → pureAt H2 b r = some (v, H2) := by
      intro b r h
      unfold pureAt at h ⊢
      split at h
      · rename_i hc
        simp only [Option.some.injEq, Prod.mk.injEq] at h
        rw [if_pos hc, h.1]
      · simp at h
    split at h
    · split at h
      · rename_i hc
        rw [if_pos hc]
        obtain ⟨ts, h1, h⟩ := Option.bind_eq_some_iff.1 h
        obtain ⟨r, h2, h⟩ := Option.bind_eq_some_iff.1 h
        rw [mapM_ext (deep_ext he depthD) as ts h1]
        simp only [Option.bind_some, h2]
        simp only [if_neg hp] at h ⊢
        exact hpa _ _ h
      · simp at h
    · split at h
      · rename_i hc
        rw [if_pos hc]
        simp only [hr, Bool.false_eq_true, if_false, if_neg hp] at h ⊢
        obtain ⟨ts, h1, h⟩ := Option.bind_eq_some_iff.1 h
        obtain ⟨r, h2, h⟩ := Option.bind_eq_some_iff.1 h
        rw [mapM_ext (deep_ext he depthD) as ts h1]
        simp only [Option.bind_some, h2]
        exact hpa _ _ h
      · simp at h
theorem fnOk_spec {cfg : Cfg} {f : Nat} {fn : Func} (h : fnOk P cfg f fn = true) : ∃ c, fn.body = some c ∧ codeOf fn = c ∧ Code.dstsOk fn.ntmps c = true ∧ Code.drawsOk P cfg f c = true ∧ fn.name ≠ "runtime.NumGoroutine" := by
  unfold fnOk at h
  split at h
  · rename_i c hc
    simp only [Bool.and_eq_true, decide_eq_true_eq] at h
    exact ⟨c, hc, by simp [codeOf, hc], h.1.1, h.1.2, h.2⟩
  · simp at h

theorem envOf_ok {as : List AV} {vals : Array Value} (hl : as.length = vals.size) (hv : ∀ (i : Nat) x y, as[i]? = some x → vals[i]? = some y → VR H ρ F w x y) (n : Nat) :
    EnvR H ρ F w (envOf as) { tmps := vals ++ Array.replicate (n - vals.size) undef, defers := [] } := by
  refine ⟨rfl, fun t => ?_⟩
  simp only [envOf]
  by_cases ht : t < as.length
  · have h1 : as[t]? = some as[t] := by simp [ht]
    have h2 : vals[t]? = some (vals[t]'(by omega)) := by simp [show t < vals.size by omega]
    rw [h1]
    simp only [Option.getD_some]
    have : (vals ++ Array.replicate (n - vals.size) undef).getD t undef = vals[t]'(by omega) := by
      simp [Array.getD_eq_getD_getElem?, Array.getElem?_append, show t < vals.size by omega]
    show VR H ρ F w _ ((vals ++ Array.replicate (n - vals.size) undef).getD t undef)
    rw [this]
    exact hv t _ _ h1 h2
  · rw [List.getElem?_eq_none (by omega)]; exact .any

/-- A body with its arguments, in the real world. -/
theorem brun_ok {cfg : Cfg} {cf : CallF} (hcf : CallOk P cf) (hcp : CfPure cfg cf) (hce : CfExt cfg cf) {n f : Nat} {fn : Func} (hf : P.funcs[f]? = some fn) (ho : fnOk P cfg f fn = true) {as : List AV} {v : AV} {H' : Hp}
    (h : brun P (cfg.pol f) cf n fn as H = some (v, H')) {vals : Array Value} (I : Inv base H ρ F w) (hl : as.length = vals.size) (hv : ∀ (i : Nat) x y, as[i]? = some x → vals[i]? = some y → VR H ρ F w x y) :
    CallDone P base H ρ F w f vals v H' := by
  obtain ⟨c, hb, hc, hd, hdr, -⟩ := fnOk_spec ho
  unfold brun at h
  rw [hc] at h
  obtain ⟨⟨x, e', H1⟩, h1, h2⟩ := Option.bind_eq_some_iff.1 h
  refine calls_of_wp hf hb ?_
  refine code_ok hcf hcp hce n fn.ntmps c (envOf as) H x e' H1 hd hdr h1 base ρ F w _ _ I (envOf_ok hl hv fn.ntmps) (by simp; omega) fun a' w' ρ' F' haf he' hs => ?_
  have key : ∀ vs, aresults P H1 e' fn.results.toList = some vs → (tupOf vs, H1) = (v, H') → a'.defers = [] ∧ ∃ u, (results fn a'.tmps).run P w' = .ok u w' ∧
      (fun e w' => ∃ u ρ' F', e = Ending.returned u ∧ After base H ρ F w H' ρ' F' w' ∧ VR H' ρ' F' w' v u) (.returned u) w' := by
    intro vs hvs heq
    simp only [Prod.mk.injEq] at heq
    obtain ⟨rfl, rfl⟩ := heq
    obtain ⟨u, hu, hr⟩ := results_ok haf.inv he' fn hvs
    exact ⟨he'.df, u, hu, u, ρ', F', rfl, haf, hr⟩
  cases x with
  | exit id => simp [finish] at h2
  | normal =>
    simp only [finish] at h2
    obtain ⟨vs, hvs, heq⟩ := Option.map_eq_some_iff.1 h2
    exact key vs hvs heq
  | ret =>
    simp only [finish] at h2
    obtain ⟨vs, hvs, heq⟩ := Option.map_eq_some_iff.1 h2
    exact key vs hvs heq

/-- The caller's cells that a callee may read. -/
def readable (H : Hp) (ρ : Nat → Loc) (F : Nat → Nat → Prop) (b : Bool) (k o : Nat) : Prop :=
  F k o ∨ (b = true ∧ ∃ i cs j, H.h i = some cs ∧ j < cs.length ∧ k = (ρ i).blk ∧ o = (ρ i).off + j)

theorem args_deep (I : Inv base H ρ F w) {as ts : List AV} (h : as.mapM (deep H depthD) = some ts) {vals : Array Value} (hl : as.length = vals.size) (hv : ∀ (i : Nat) x y, as[i]? = some x → vals[i]? = some y → VR H ρ F w x y) (ρ' : Nat → Loc) :
    Inv w.heap.size Hp.nil ρ' (readable H ρ F (as.any (hasRefs depthD))) w ∧ ts.length = vals.size ∧ ∀ (i : Nat) x y, ts[i]? = some x → vals[i]? = some y → VR Hp.nil ρ' (readable H ρ F (as.any (hasRefs depthD))) w x y := by
  obtain ⟨l1, l2⟩ := mapM_get _ _ h
  refine ⟨Inv.nil ρ' (fun k o hk => ?_) (I.tab.up I.base), by omega, fun i t y ht hy => ?_⟩
  · rcases hk with hk | ⟨-, j, cs, q, h1, h2, rfl, rfl⟩
    · exact I.fin k o hk
    · exact (I.blk j cs h1).2.1
  · obtain ⟨x, hx, hd⟩ := l2 i t ht
    refine deep_ok I depthD x y t hd (hv i x y hx hy) (.inl fun k o h => .inl h) ?_
    cases hb : as.any (hasRefs depthD) with
    | false => exact .inr (any_get hb hx)
    | true => exact .inl fun b cs i h hi => .inr ⟨rfl, b, cs, i, h, hi, rfl, rfl⟩

theorem back_ok (I : Inv base H ρ F w) {w' : World} (hb : Below w.heap.size w w') : After base H ρ F w H ρ (fun k o => F k o ∨ (w.heap.size ≤ k ∧ k < w'.heap.size)) w' := by
  obtain ⟨i1, i2⟩ := I.allocF (w' := w') hb.size (fun k o hk => hb.cell hk) (fun k o hk => hb.frozen hk) (I.tab.below (hb.mono I.base)) (F' := fun k o => F k o ∨ (w.heap.size ≤ k ∧ k < w'.heap.size)) (fun k o h => .inl h) (fun k o h => h)
  exact ⟨i1, i2, hb.mono I.base, fun k o h => h.imp id fun h => Nat.le_trans I.base h.1⟩

theorem VR.sub {F' : Nat → Nat → Prop} (hF : ∀ k o, F k o → F' k o) {x : AV} {y : Value} (h : VR H ρ F w x y) : VR H ρ F' w x y :=
  h.mono ⟨Nat.le_refl _, fun _ cs _ h => ⟨cs, h, rfl, rfl⟩, fun k o h => ⟨hF k o h, rfl⟩⟩
/-- A value of no own blocks, under any heap. -/
theorem VR.ofNil {H2 : Hp} {ρ2 : Nat → Loc} {x : AV} {y : Value} {ρ' : Nat → Loc} (h : VR Hp.nil ρ' F w x y) : VR H2 ρ2 F w x y := by
  induction h with
  | any => exact .any
  | v => exact .v
  | lst0 h => exact .lst0 h
  | lst rd hne hs hf hc ho hm hv ih => exact .lst rd hne hs hf hc ho hm ih
  | fp rd hm hv ih => exact .fp rd hm ih
  | sl hb h hnn => simp [Hp.nil] at hb
  | ptr hb h => simp [Hp.nil] at hb
  | agg hl hv ih => exact .agg hl ih
  | tup hl hv ih => exact .tup hl ih
  | fn hl hv ih => exact .fn hl ih
  | ifc0 => exact .ifc0
  | ifc1 => exact .ifc1

/-- A value of own blocks goes over into the caller's heap. -/
theorem own_in (I : Inv base H ρ F w) {w' : World} {H1 : Hp} {ρ1 : Nat → Loc} {F1 F0 : Nat → Nat → Prop} {r t z : AV} {u : Value} {fp : List Nat} {K : Hp} (haf : After w.heap.size Hp.nil ρ F0 w H1 ρ1 F1 w')
    (hvr : VR H1 ρ1 F1 w' r u) (hf : fpt H1 depthD r = some fp) (hn : fp.Nodup) (hd : deep H1 depthD r = some t) (hm : mat depthD t H = some (z, K)) : ∃ ρ', After base H ρ F w K ρ' F w' ∧ VR K ρ' F w' z u := by
  obtain ⟨J, S⟩ := I.allocF (w' := w') haf.below.size (fun k o hk => haf.below.cell hk) (fun k o hk => haf.below.frozen hk) (I.tab.below (haf.below.mono I.base)) (F' := F) (fun _ _ h => h) (fun _ _ h => .inl h)
  obtain ⟨ρ', M, v', -⟩ := mat_ok haf.inv I.base I.fin depthD r u t fp H ρ z K hf hn hd hvr J (fun b c hb b1 hb1 ⟨c1, hc1⟩ i j hi hj => by
    rintro ⟨e, -⟩
    have h1 := (I.blk b c hb).2.1
    have h2 := (haf.inv.blk b1 c1 hc1).1
    omega) hm
  exact ⟨ρ', ⟨M.inv, S.trans M.step, haf.below.mono I.base, fun k o h => .inl h⟩, v'⟩

theorem callOk {cfg : Cfg} (hprim : PrimOk P cfg) : ∀ n, CallOk P (callN P cfg n) := by
  intro n
  induction n with
  | zero => intro p f as H v H' h; simp [callN] at h
  | succ n ihn =>
    intro p f as H v H' h
    simp only [callN] at h
    obtain ⟨fn, hf, h⟩ := Option.bind_eq_some_iff.1 h
    split at h
    · -- a law from elsewhere
      rename_i g hg
      split at h
      rotate_left
      · simp at h
      rename_i hc
      obtain ⟨ho, hraw⟩ := hc
      simp only [fnHas, Bool.and_eq_true, decide_eq_true_eq] at ho
      refine ⟨⟨fn, hf, ho.2, ho.1⟩, fun base ρ F w vals I hl hv => ?_⟩
      obtain ⟨ts, hts, h⟩ := Option.bind_eq_some_iff.1 h
      obtain ⟨⟨r, cl⟩, hr, h⟩ := Option.bind_eq_some_iff.1 h
      obtain ⟨I1, l1, v1⟩ := args_deep I hts hl hv ρ
      split at h
      · split at h
        rotate_left
        · simp at h
        rename_i hown
        refine ((hprim f g hg ts r cl hr ρ _ w vals I1 l1 v1).2 hown).mono fun e w' hR => ?_
        obtain ⟨u, H1, ρ1, F1, r0, fp, rfl, haf, hvr, hf', hn', hd'⟩ := hR
        obtain ⟨ρ', q1, q2⟩ := own_in I haf hvr hf' hn' hd' h
        exact ⟨u, ρ', F, rfl, q1, q2⟩
      unfold pureAt at h
      split at h
      rotate_left
      · simp at h
      rename_i hcl
      simp only [Option.some.injEq, Prod.mk.injEq] at h
      obtain ⟨rfl, rfl⟩ := h
      refine (hprim f g hg ts r cl hr ρ _ w vals I1 l1 v1).1.mono fun e w' hR => ?_
      obtain ⟨u, F', rfl, haf, hvr, hclean⟩ := hR
      have hb := back_ok I haf.below
      refine ⟨u, ρ, _, rfl, hb, ?_⟩
      cases cl with
      | true =>
        refine VR.ofNil ((hclean rfl).sub fun k o hk => .inr ⟨hk.2, haf.inv.fin k o hk.1⟩)
      | false =>
        simp only [Bool.false_or, Bool.not_eq_true'] at hcl
        refine VR.ofNil (hvr.sub fun k o hk => ?_)
        rcases haf.fnew k o hk with hk' | hk'
        · rcases hk' with hk' | ⟨hk', -⟩
          · exact .inl hk'
          · rw [hcl] at hk'; simp at hk'
        · exact .inr ⟨hk', haf.inv.fin k o hk⟩
    · split at h
      rotate_left
      · simp at h
      rename_i ho
      obtain ⟨c, hb, -, -, -, hname⟩ := fnOk_spec ho
      refine ⟨⟨fn, hf, hname, by simp [hb]⟩, fun base ρ F w vals I hl hv => ?_⟩
      split at h
      · obtain ⟨⟨r0, H1⟩, hbr, h⟩ := Option.bind_eq_some_iff.1 h
        refine (brun_ok ihn (cfPure cfg n) (cfExt cfg n) hf ho hbr I hl hv).mono fun e w' hR => ?_
        obtain ⟨u, ρ', F', rfl, haf, hvr⟩ := hR
        unfold frzN at h
        split at h
        rotate_left
        · simp only [Option.some.injEq, Prod.mk.injEq] at h
          obtain ⟨rfl, rfl⟩ := h
          exact ⟨u, ρ', F', rfl, haf, hvr⟩
        split at h
        rotate_left
        · simp at h
        rename_i hkeep
        obtain ⟨t, hdeep, heq⟩ := Option.map_eq_some_iff.1 h
        simp only [Prod.mk.injEq] at heq
        obtain ⟨rfl, rfl⟩ := heq
        have hg1 : H.g ≤ H1.g := haf.step.g
        -- the new blocks alone
        have sN : Step H1 ρ' F' w' (newOf H H1) ρ' F' w' := ⟨Nat.le_refl _, fun b cs' _ hc => by
          simp only [newOf] at hc
          split at hc
          · simp at hc
          · exact ⟨cs', hc, rfl, rfl⟩, fun k o h => ⟨h, rfl⟩⟩
        have nH : ∀ b cs, (newOf H H1).h b = some cs → H.g ≤ b ∧ H1.h b = some cs := by
          intro b cs hc
          simp only [newOf] at hc
          split at hc
          · simp at hc
          · exact ⟨by omega, hc⟩
        have iN : Inv base (newOf H H1) ρ' F' w' := by
          refine ⟨fun b cs hc => haf.inv.lt b cs (nH b cs hc).2, fun b cs hc => haf.inv.blk b cs (nH b cs hc).2, fun b cs hc => haf.inv.mem b cs (nH b cs hc).2, fun b cs i x hc hx => ?_, fun b b' cs cs' hne hc hc' => haf.inv.dis b b' cs cs' hne (nH b cs hc).2 (nH b' cs' hc').2,
            fun b cs hc => haf.inv.sep b cs (nH b cs hc).2, haf.inv.fin, fun b cs x hc hx => haf.inv.one b cs x (nH b cs hc).2 hx, haf.inv.base, haf.inv.tab⟩
          obtain ⟨y, hy, hr⟩ := haf.inv.val b cs i x (nH b cs hc).2 hx
          exact ⟨y, hy, hr.mono sN⟩
        have oH : ∀ b cs, H.h b = some cs → b < H.g ∧ H1.h b = some cs := by
          intro b cs hc
          have hb := I.lt b cs hc
          exact ⟨hb, by rw [hkeep b hb]; exact hc⟩
        -- what is only read from now on
        let F2 : Nat → Nat → Prop := fun k o => F' k o ∨ ∃ b cs i, (newOf H H1).h b = some cs ∧ i < cs.length ∧ k = (ρ' b).blk ∧ o = (ρ' b).off + i
        have sO : Step H1 ρ' F' w' ⟨H.h, H1.g⟩ ρ' F2 w' := ⟨Nat.le_refl _, fun b cs' _ hc => ⟨cs', (oH b cs' hc).2, rfl, rfl⟩, fun k o h => ⟨.inl h, rfl⟩⟩
        have iO : Inv base ⟨H.h, H1.g⟩ ρ' F2 w' := by
          refine ⟨fun b cs hc => haf.inv.lt b cs (oH b cs hc).2, fun b cs hc => haf.inv.blk b cs (oH b cs hc).2, fun b cs hc => haf.inv.mem b cs (oH b cs hc).2, fun b cs i x hc hx => ?_, fun b b' cs cs' hne hc hc' => haf.inv.dis b b' cs cs' hne (oH b cs hc).2 (oH b' cs' hc').2,
            fun b cs hc i hi hF => ?_, fun k o hk => ?_, fun b cs x hc hx => haf.inv.one b cs x (oH b cs hc).2 hx, haf.inv.base, haf.inv.tab⟩
          · obtain ⟨y, hy, hr⟩ := haf.inv.val b cs i x (oH b cs hc).2 hx
            exact ⟨y, hy, hr.mono sO⟩
          · rcases hF with hF | ⟨b', cs', j, hc', hj, e1, e2⟩
            · exact haf.inv.sep b cs (oH b cs hc).2 i hi hF
            · obtain ⟨n1, n2⟩ := nH b' cs' hc'
              obtain ⟨o1, o2⟩ := oH b cs hc
              have hjl := (haf.inv.blk b' cs' n2).2.2
              exact haf.inv.dis b b' cs cs' (by omega) o2 n2 i j hi (by omega) ⟨e1, e2⟩
          · rcases hk with hk | ⟨b', cs', j, hc', hj, rfl, rfl⟩
            · exact haf.inv.fin k o hk
            · exact (haf.inv.blk b' cs' (nH b' cs' hc').2).2.1
        refine ⟨u, ρ', F2, rfl, ⟨iO, ⟨hg1, fun b cs' hb hc => ?_, fun k o hk => ⟨.inl (haf.step.fr k o hk).1, (haf.step.fr k o hk).2⟩⟩, haf.below, fun k o hk => ?_⟩, ?_⟩
        · obtain ⟨cs, h1, h2, h3⟩ := haf.step.live b cs' hb (oH b cs' hc).2
          exact ⟨cs, h1, h2, h3⟩
        · rcases hk with hk | ⟨b', cs', j, hc', hj, rfl, rfl⟩
          · exact haf.fnew k o hk
          · exact .inr (haf.inv.blk b' cs' (nH b' cs' hc').2).1
        · exact deep_ok iN depthD _ u _ hdeep (hvr.mono sN) (.inl fun k o hk => .inl hk) (.inl fun b cs i hc hi => .inr ⟨b, cs, i, hc, hi, rfl, rfl⟩)
      · obtain ⟨ts, hts, h⟩ := Option.bind_eq_some_iff.1 h
        split at h
        · obtain ⟨t, ht, h⟩ := Option.bind_eq_some_iff.1 h
          obtain ⟨⟨r0, H1⟩, hbr, ht⟩ := Option.bind_eq_some_iff.1 ht
          obtain ⟨fp, hfp, ht⟩ := Option.bind_eq_some_iff.1 ht
          split at ht
          rotate_left
          · simp at ht
          rename_i hnd
          obtain ⟨I1, l1, v1⟩ := args_deep I hts hl hv ρ
          refine (brun_ok ihn (cfPure cfg n) (cfExt cfg n) hf ho hbr I1 l1 v1).mono fun e w' hR => ?_
          obtain ⟨u, ρ', F', rfl, haf, hvr⟩ := hR
          obtain ⟨ρ2, q1, q2⟩ := own_in I haf hvr hfp hnd ht h
          exact ⟨u, ρ2, F, rfl, q1, q2⟩
        obtain ⟨⟨r, cl⟩, hr, h⟩ := Option.bind_eq_some_iff.1 h
        obtain ⟨⟨r0, H1⟩, hbr, hr⟩ := Option.bind_eq_some_iff.1 hr
        obtain ⟨r', hdeep, heq⟩ := Option.map_eq_some_iff.1 hr
        simp only [Prod.mk.injEq] at heq
        obtain ⟨rfl, rfl⟩ := heq
        obtain ⟨I1, l1, v1⟩ := args_deep I hts hl hv ρ
        unfold pureAt at h
        split at h
        rotate_left
        · simp at h
        rename_i hcl
        simp only [Option.some.injEq, Prod.mk.injEq] at h
        obtain ⟨rfl, rfl⟩ := h
        refine (brun_ok ihn (cfPure cfg n) (cfExt cfg n) hf ho hbr I1 l1 v1).mono fun e w' hR => ?_
        obtain ⟨u, ρ', F', rfl, haf, hvr⟩ := hR
        have hb := back_ok I haf.below
        refine ⟨u, ρ, _, rfl, hb, ?_⟩
        refine deep_ok haf.inv depthD _ u _ hdeep hvr ?_ (.inl fun b cs i hc hi => .inr ?_)
        · simp only [Bool.or_eq_true, Bool.not_eq_true'] at hcl
          rcases hcl with hcl | hcl
          · exact .inr hcl
          · refine .inl fun k o hk => ?_
            rcases haf.fnew k o hk with hk' | hk'
            · rcases hk' with hk' | ⟨hk', -⟩
              · exact .inl hk'
              · rw [hcl] at hk'; simp at hk'
            · exact .inr ⟨hk', haf.inv.fin k o hk⟩
        · obtain ⟨b1, b2, b3⟩ := haf.inv.blk b cs hc
          exact ⟨b1, b2⟩

/-- A call on values that are only read, in the real world. -/
theorem real_call {cfg : Cfg} (hprim : PrimOk P cfg) {p f : Nat} {as : List AV} {v : AV} {H' : Hp} (h : call P cfg p f as Hp.nil = some (v, H')) {vals : Array Value} (hF : ∀ k o, F k o → k < w.heap.size) (hT : Tab w.heap.size w) (hl : as.length = vals.size)
    (hv : ∀ (i : Nat) x y, as[i]? = some x → vals[i]? = some y → VR Hp.nil ρ F w x y) :
    Calls P f vals w fun e w' => ∃ u ρ' F', e = .returned u ∧ Below w.heap.size w w' ∧ VR H' ρ' F' w' v u := by
  obtain ⟨n, hn⟩ := (call_some P cfg).1 h
  refine ((callOk hprim n p f as Hp.nil v H' hn).2 w.heap.size ρ F w vals (Inv.nil ρ hF hT) hl hv).mono fun e w' hR => ?_
  obtain ⟨u, ρ', F', rfl, haf, hvr⟩ := hR
  exact ⟨u, ρ', F', rfl, haf.below, hvr⟩

theorem real_law {cfg : Cfg} (hprim : PrimOk P cfg) {p f : Nat} {as : List AV} {b : Bool} {H' : Hp} (h : call P cfg p f as Hp.nil = some (.v (.bool b), H')) {vals : Array Value} (hF : ∀ k o, F k o → k < w.heap.size) (hT : Tab w.heap.size w) (hl : as.length = vals.size)
    (hv : ∀ (i : Nat) x y, as[i]? = some x → vals[i]? = some y → VR Hp.nil ρ F w x y) :
    Calls P f vals w fun e w' => e = .returned (.bool b) ∧ Below w.heap.size w w' := by
  refine (real_call hprim h hF hT hl hv).mono fun e w' hR => ?_
  obtain ⟨u, ρ', F', rfl, hb, hvr⟩ := hR
  cases hvr
  exact ⟨rfl, hb⟩
end
end Go.Proofs.YtnejoidfbgklbaaGreatDoor.Eng
