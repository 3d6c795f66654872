/- The engine, part 12: one operation of a region, calls among them; a region in the order of its text. -/
import Derived.Test.YtnejoidfbgklbaaGreatDoorE11
namespace Go.Proofs.YtnejoidfbgklbaaGreatDoor.Eng
open Go Go.RowKit
set_option linter.unusedSimpArgs false
set_option linter.unusedVariables false

section
variable {P : Program} {base : Nat} {H : Hp} {ρ : Nat → Loc} {F : Nat → Nat → Prop} {w : World}

/-- What a call leaves, in the real world. -/
def CallDone (P : Program) (base : Nat) (H : Hp) (ρ : Nat → Loc) (F : Nat → Nat → Prop) (w : World) (f : Nat) (vals : Array Value) (v : AV) (H' : Hp) : Prop :=
  Calls P f vals w fun e w' => ∃ u ρ' F', e = .returned u ∧ After base H ρ F w H' ρ' F' w' ∧ VR H' ρ' F' w' v u

/-- Calls do what the evaluator says. -/
def CallOk (P : Program) (cf : CallF) : Prop := ∀ p f as H v H', cf p f as H = some (v, H') → (∃ fn, P.funcs[f]? = some fn ∧ fn.name ≠ "runtime.NumGoroutine" ∧ fn.body.isSome = true) ∧
  ∀ base ρ F w (vals : Array Value), Inv base H ρ F w → as.length = vals.size → (∀ (i : Nat) x y, as[i]? = some x → vals[i]? = some y → VR H ρ F w x y) → CallDone P base H ρ F w f vals v H'

theorem wanted_ok {e : Env} {a : Act} (he : EnvR H ρ F w e a) {ops : Array Oper} {o : Oper} {b : Bool} (h : awanted ops o e = some b) : Region.wanted o (yielded ops a.tmps) = b := by
  unfold awanted at h
  unfold Region.wanted
  split at h
  · rename_i hg; rw [hg]; simpa using h
  · rename_i j want hg
    rw [hg]
    split at h
    · rename_i t ht
      split at h
      · rename_i b' hb
        simp only [Option.some.injEq] at h; subst h
        have hv := he.tm t
        rw [hb] at hv
        have := hv.eqv
        have hy : yielded ops a.tmps j = some b' := by
          unfold yielded
          rw [ht]
          simp only [Option.bind_some]
          cases hq : a.tmps[t]? with
          | none => simp [undef, hq] at this
          | some x =>
            have hx : x = .bool b' := by simpa [hq] using this
            rw [hx]
        simp [hy]
      · rename_i cs hb
        simp only [Option.some.injEq] at h; subst h
        have hv := he.tm t
        rw [hb] at hv
        have := hv.eqv
        have hy : yielded ops a.tmps j = none := by
          unfold yielded
          rw [ht]
          simp only [Option.bind_some]
          cases hq : a.tmps[t]? with
          | none => rfl
          | some x =>
            have hx : x = .tuple cs := by simpa [hq] using this
            rw [hx]
        simp [hy]
      · simp at h
    · simp at h

theorem isCall_spec {op : Op} (h : isCall op = true) : ∃ c f, op = .call c ∧ c.callee = .value f := by
  unfold isCall at h
  split at h
  · split at h
    · exact ⟨_, _, rfl, by assumption⟩
    · simp at h
  · simp at h

theorem wpOp_ok {pol : Nat → Nat} {cf : CallF} (hcf : CallOk P cf) {ops : Array Oper} {i : Nat} {o : Oper} (hi : ops[i]? = some o) {e e' : Env} {H' : Hp} (h : astep P pol cf ops o e H = some (e', H'))
    (I : Inv base H ρ F w) {a : Act} (he : EnvR H ρ F w e a) (hd : ∀ t, o.dst = some t → t < a.tmps.size) {Q : Exit → Act → World → Prop} {K : Act → World → Prop}
    (hK : ∀ a' w' ρ' F', After base H ρ F w H' ρ' F' w' → EnvR H' ρ' F' w' e' a' → a'.tmps.size = a.tmps.size → K a' w') : wpOp P ops Q i K a w := by
  unfold astep at h
  obtain ⟨b, hb, h⟩ := Option.bind_eq_some_iff.1 h
  have hw := wanted_ok he hb
  unfold wpOp
  rw [hi]
  simp only [hw]
  have hsize : ∀ d v, (a.put d v).tmps.size = a.tmps.size := by intro d v; cases d <;> simp [Act.put]
  cases b with
  | false =>
    simp only [Bool.false_eq_true, if_false, Option.some.injEq, Prod.mk.injEq] at h ⊢
    obtain ⟨rfl, rfl⟩ := h
    exact hK _ w ρ F (.refl I) (he.put .v o.dst hd) (hsize _ _)
  | true =>
    simp only [if_true] at h ⊢
    obtain ⟨⟨v, H1⟩, hop, heq⟩ := Option.map_eq_some_iff.1 h
    simp only [Prod.mk.injEq] at heq; obtain ⟨rfl, rfl⟩ := heq
    refine .inl ?_
    by_cases hc : isCall o.op = true
    · -- a call
      obtain ⟨dst, op, ty, pos, aft, guard⟩ := o
      simp only at hc hop hd hw
      obtain ⟨c, f, rfl, hf⟩ := isCall_spec hc
      simp only [aop, hf] at hop
      split at hop
      case h_2 => simp at hop
      rename_i g caps hg
      obtain ⟨⟨fn, hfn, hname, hbody⟩, hcall⟩ := hcf _ _ _ _ _ _ hop
      have hfv := he.opd f
      rw [hg] at hfv
      generalize hy : a.eval f = y at hfv
      cases hfv with
      | fn hl hv =>
        rename_i ys
        have hcd := hcall base ρ F w (c.args.map a.eval ++ ys) I (by simp [hl]) (fun j x z hx hz => by
          rw [List.getElem?_append, List.length_map, Array.length_toList] at hx
          rw [Array.getElem?_append, Array.size_map] at hz
          by_cases hj : j < c.args.size
          · rw [if_pos hj] at hz hx
            rw [List.getElem?_map] at hx
            obtain ⟨q, hq, rfl⟩ := Option.map_eq_some_iff.1 hx
            rw [Array.getElem?_map, ← toList_get, hq] at hz
            simp at hz; subst hz
            exact he.opd q
          · rw [if_neg hj] at hz hx
            exact hv _ x z hx hz)
        have hrun : (execOp a.eval { dst := dst, op := .call c, type := ty, pos := pos, after := aft, guard := guard }).run P w = .ok (.enter g (c.args.map a.eval ++ ys)) w := by
          have hb' : fn.body.isNone = false := by cases hq : fn.body <;> simp [hq] at hbody ⊢
          simp only [execOp, resolve, hf, hy, Deferred.ofValue, Sem.run_bind, Sem.run_pure, Result.andThen_ok, invoke, callFunc, run_program, hfn]
          rw [if_neg (by simpa using hname), if_neg (by simp [hb'])]
          simp
        unfold Oper.wp
        rw [hrun, Oper.upon_enter]
        refine hcd.mono fun e w' hR => ?_
        obtain ⟨u, ρ', F', rfl, haf, hv'⟩ := hR
        exact hK _ w' ρ' F' haf ((he.mono haf.step).put hv' dst hd) (hsize _ _)
    · have hdone := aop_ok I he hop (by simpa using hc)
      obtain ⟨w', ρ', F', haf, hres⟩ := hdone
      unfold Oper.wp
      rcases hres with ⟨u, hr, hv⟩ | ⟨hr, rfl⟩
      · rw [hr, Oper.upon_value]
        exact hK _ w' ρ' F' haf ((he.mono haf.step).put hv o.dst hd) (hsize _ _)
      · rw [hr, Oper.upon_skip]
        exact hK _ w' ρ' F' haf ((he.mono haf.step).put .any o.dst hd) (hsize _ _)

/-- A region in the order of its text. -/
theorem region_seq {pol : Nat → Nat} {cf : CallF} (hcf : CallOk P cf) {ops : Array Oper} {N : Nat} (hd : ∀ o ∈ ops.toList, ∀ t, o.dst = some t → t < N) {Q : Exit → Act → World → Prop} :
    ∀ (n k : Nat) (e : Env) (H : Hp) (ρ : Nat → Loc) (F : Nat → Nat → Prop) (w : World) (a : Act) (e' : Env) (H' : Hp), ops.size - k = n → asteps P pol cf ops (ops.toList.drop k) e H = some (e', H') → Inv base H ρ F w → EnvR H ρ F w e a → N ≤ a.tmps.size →
      (∀ a' w' ρ' F', After base H ρ F w H' ρ' F' w' → EnvR H' ρ' F' w' e' a' → a'.tmps.size = a.tmps.size → Q .normal a' w') → wpOps P ops Q (List.range' k (ops.size - k)) a w := by
  intro n
  induction n with
  | zero =>
    intro k e H ρ F w a e' H' hk h I he hN hQ
    rw [hk]
    rw [List.drop_eq_nil_of_le (by simp; omega)] at h
    simp only [asteps, Option.some.injEq, Prod.mk.injEq] at h
    obtain ⟨rfl, rfl⟩ := h
    exact hQ a w ρ F (.refl I) he rfl
  | succ n ih =>
    intro k e H ρ F w a e' H' hk h I he hN hQ
    have hlt : k < ops.toList.length := by simp; omega
    rw [List.drop_eq_getElem_cons hlt] at h
    obtain ⟨⟨e1, H1⟩, h1, h2⟩ := Option.bind_eq_some_iff.1 h
    rw [show ops.size - k = (ops.size - (k + 1)) + 1 by omega, List.range'_succ, wpOps_cons]
    have hi : ops[k]? = some ops.toList[k] := by rw [← toList_get]; simp [hlt]
    refine wpOp_ok hcf hi h1 I he (fun t ht => Nat.lt_of_lt_of_le (hd _ (List.getElem_mem hlt) t ht) hN) fun a' w' ρ' F' haf he' hs => ?_
    exact ih (k + 1) e1 H1 ρ' F' w' a' e' H' (by omega) h2 haf.inv he' (by omega) fun a2 w2 ρ2 F2 haf2 he2 hs2 => hQ a2 w2 ρ2 F2 (haf.trans haf2) he2 (by omega)
end
end Go.Proofs.YtnejoidfbgklbaaGreatDoor.Eng
