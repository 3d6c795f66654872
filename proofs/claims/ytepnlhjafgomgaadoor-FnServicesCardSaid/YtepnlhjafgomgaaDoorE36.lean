/- The engine, part 36: late reads on a kept heap. -/
import Derived.Test.YtepnlhjafgomgaaDoorE35
namespace Go.Proofs.YtepnlhjafgomgaaDoor.Eng
open Go
set_option linter.unusedSimpArgs false
set_option linter.unusedVariables false

section
variable {P : Program} {cfg : Cfg} {fid : Nat}
/-- A late read of a kind that looks at blocks. -/
def ltQ (pol : Nat → Nat) (d : Option Nat) (op : Op) : Bool := pol (d.getD 0) == 2 && frK op
theorem bF_realQ {pol : Nat → Nat} {cf : CallF} {o : Oper} {e : Env} {K H : Hp} {r : AV × Hp} {q : Bool} (hq1 : q = true → frK o.op = true) (hK : HExt K H) (h : bF H q (aop P pol cf o e (hF K H q)) = some r) :
    aop P pol cf o e H = some r ∧ (q = true → ∀ H2, HExt K H2 → aop P pol cf o e H2 = some (r.1, H2)) := by
  cases hq : q with
  | false => rw [hq] at h; exact ⟨h, fun h => by simp at h⟩
  | true =>
    have hk : frK o.op = true := hq1 hq
    rw [hq] at h
    simp only [hF] at h
    cases ha : aop P pol cf o e K with
    | none => rw [ha] at h; simp [bF] at h
    | some q =>
      obtain ⟨v, H'⟩ := q
      rw [ha] at h
      simp only [bF, Option.some.injEq] at h
      subst h
      have hr := frK_read hk
      let cfg1 : Cfg := { pol := fun _ => pol, raw := fun _ => false }
      let cf0 : CallF := fun _ _ _ _ => none
      have hce : CfExt cfg1 cf0 := ⟨fun p f as H v H' H2 _ _ h _ => by simp [cf0] at h, fun f as H v H' _ _ h => by simp [cf0] at h⟩
      have hk1 : opKind cfg1 0 o = 1 := by
        obtain ⟨dst, op, ty, pos, after, guard⟩ := o
        unfold opKind
        cases op <;> first | (simp [frK] at hk; done) | rfl
      have all : ∀ H2, HExt K H2 → aop P pol cf o e H2 = some (v, H2) := fun H2 he => by
        rw [aop_read (cf' := cf0) hr] at ha ⊢
        exact aop_ext (cfg := cfg1) (fid := 0) hce hk1 ha he
      exact ⟨all H hK, fun _ => all⟩
/-- The first operations with late reads on K, and then the rest. -/
noncomputable def astepsL (P : Program) (pol : Nat → Nat) (cf : CallF) (ops : Array Oper) (K : Hp) (t : List Oper) : List Oper → Env → Hp → Option (Env × Hp)
  | [], e, H => asteps P pol cf ops t e H
  | o :: r, e, H => (awanted ops o e).bind fun w => if w then thenF P pol cf ops K (astepsL P pol cf ops K t r) e o.dst (bF H (ltQ pol o.dst o.op) (aop P pol cf o e (hF K H (ltQ pol o.dst o.op)))) else astepsL P pol cf ops K t r (put e o.dst (.v undef)) H
theorem stepsL_ok {pol : Nat → Nat} {cf : CallF} (ops : Array Oper) {K : Hp} (t : List Oper) (ht : (t.all fun o => !lateO pol o) = true) (ht2 : ∀ o, t[0]? = some o → blkO pol o = true) : ∀ (l : List Oper) (e : Env) (H : Hp) (x : Env × Hp), (l.all fun o => !lateO pol o || frK o.op) = true → HExt K H → astepsL P pol cf ops K t l e H = some x → asteps P pol cf ops (l ++ t) e H = some x ∧
    (∀ i si, i ≤ l.length → asteps P pol cf ops ((l ++ t).take i) e H = some si → HExt K si.2) ∧
    ∀ i o, (l ++ t)[i]? = some o → lateO pol o = true → ∀ k si sk, i ≤ k → k ≤ (l ++ t).length → (∀ j y, i < j → j < k → (l ++ t)[j]? = some y → blkO pol y = false) →
      asteps P pol cf ops ((l ++ t).take i) e H = some si → asteps P pol cf ops ((l ++ t).take k) e H = some sk → ∃ v, stepV P pol cf ops o si.1 si.2 = some (v, si.2) ∧ stepV P pol cf ops o si.1 sk.2 = some (v, sk.2) := by
  have hnl : ∀ (i : Nat) o, t[i]? = some o → lateO pol o = true → False := fun i o ho hl => by
    have := List.all_eq_true.1 ht o (List.mem_of_getElem? ho)
    rw [hl] at this; simp at this
  intro l
  induction l with
  | nil =>
    intro e H x _ hK h
    refine ⟨h, fun i si hi hs => ?_, fun i o ho hl => (hnl i o (by simpa using ho) hl).elim⟩
    have : i = 0 := by simpa using hi
    subst this
    simp only [List.take_zero, asteps, Option.some.injEq] at hs
    subst hs; exact hK
  | cons o r ih =>
    intro e H x hfr hK h
    simp only [List.all_cons, Bool.and_eq_true] at hfr
    obtain ⟨w, hw, h3⟩ := Option.bind_eq_some_iff.1 h
    have h4 : ∃ s1, astep P pol cf ops o e H = some s1 ∧ HExt K s1.2 ∧ astepsL P pol cf ops K t r s1.1 s1.2 = some x ∧ (lateO pol o = true → ∃ v, ∀ H2, HExt K H2 → stepV P pol cf ops o e H2 = some (v, H2)) := by
      unfold astep stepV
      rw [hw]
      simp only [Option.bind_some]
      cases w with
      | false => simp only [Bool.false_eq_true, if_false] at h3 ⊢; exact ⟨_, rfl, hK, h3, fun _ => ⟨_, fun _ _ => rfl⟩⟩
      | true =>
        simp only [if_true] at h3 ⊢
        cases h5 : bF H (ltQ pol o.dst o.op) (aop P pol cf o e (hF K H (ltQ pol o.dst o.op))) with
        | none => rw [h5] at h3; simp [thenF] at h3
        | some q =>
          obtain ⟨v, H'⟩ := q
          obtain ⟨b1, b2⟩ := bF_realQ (fun hq => by unfold ltQ at hq; rw [Bool.and_eq_true] at hq; exact hq.2) hK h5
          rw [h5] at h3
          simp only [thenF, kF] at h3
          split at h3
          · rename_i hk
            rw [b1]
            refine ⟨_, rfl, hk, h3, fun hl => ⟨_, b2 ?_⟩⟩
            have h6 := hfr.1
            rw [hl] at h6
            simp only [lateO, Bool.and_eq_true] at hl
            unfold ltQ
            rw [hl.1.2]
            simpa using h6
          · simp at h3
    obtain ⟨s1, g1, g2, g3, g4⟩ := h4
    obtain ⟨i1, i2, i3⟩ := ih _ _ _ hfr.2 g2 g3
    have hpre : ∀ i si, i ≤ (o :: r).length → asteps P pol cf ops (((o :: r) ++ t).take i) e H = some si → HExt K si.2 := fun i si hi hs => by
      cases i with
      | zero =>
        simp only [List.take_zero, asteps, Option.some.injEq] at hs
        subst hs; exact hK
      | succ i =>
        rw [List.cons_append, List.take_succ_cons, asteps, g1] at hs
        exact i2 i si (by simpa using hi) hs
    refine ⟨by rw [List.cons_append, asteps, g1]; exact i1, hpre, fun i o' ho hl k si sk hik hk hb hs hs' => ?_⟩
    cases i with
    | zero =>
      simp only [List.cons_append, List.getElem?_cons_zero, Option.some.injEq] at ho
      subst ho
      simp only [List.take_zero, asteps, Option.some.injEq] at hs
      subst hs
      obtain ⟨v, hv⟩ := g4 hl
      have hkl : k ≤ (o :: r).length := by
        rcases Nat.lt_or_ge (o :: r).length k with hlt | hge
        · exfalso
          have hkt : 0 < t.length := by rw [List.length_append] at hk; omega
          have h0 : ((o :: r) ++ t)[(o :: r).length]? = some t[0] := by rw [List.getElem?_append_right (Nat.le_refl _)]; simp
          have h1 := hb (o :: r).length t[0] (by simp) hlt h0
          rw [ht2 t[0] (by simp)] at h1
          simp at h1
        · exact hge
      exact ⟨v, hv H hK, hv _ (hpre k sk hkl hs')⟩
    | succ i =>
      obtain ⟨k, rfl⟩ : ∃ k', k = k' + 1 := ⟨k - 1, by omega⟩
      simp only [List.cons_append, List.getElem?_cons_succ] at ho
      rw [List.cons_append, List.take_succ_cons, asteps, g1] at hs hs'
      exact i3 i o' ho hl k si sk (by omega) (by simpa using hk) (fun j y h1 h2 h3 => hb (j + 1) y (by omega) (by omega) (by simpa using h3)) hs hs'
variable {s : St} {Q : AX → St → Prop}
/-- A region whose first n operations leave K's blocks and have all late reads; then comes a write, or nothing. -/
theorem wRegN (n : Nat) (K : Hp) {id : Nat} {ops : Array Oper} {d : Bool} (hK : HExt K s.2) (h : ∀ x, astepsL P (cfg.pol fid) (call P cfg) ops K (ops.toList.drop n) (ops.toList.take n) s.1 s.2 = x → ∃ s', x = some s' ∧ Q .normal s')
    (h1 : ((ops.toList.drop n).all fun o => !lateO (cfg.pol fid) o) = true := by rfl) (h2 : ((ops.toList.take n).all fun o => !lateO (cfg.pol fid) o || frK o.op) = true := by rfl)
    (h3 : (((ops.toList.drop n)[0]?).all fun o => blkO (cfg.pol fid) o) = true := by rfl) (h4 : (ops.toList.all fun o => !freeO (cfg.pol fid) o) = true := by rfl) : Wp P cfg fid (.region id ops d) s Q := by
  obtain ⟨s', e1, e2⟩ := h _ rfl
  obtain ⟨g1, g2, g3⟩ := stepsL_ok ops (ops.toList.drop n) h1 (fun o ho => by rw [ho] at h3; simpa using h3) (ops.toList.take n) _ _ _ h2 hK e1
  rw [List.take_append_drop] at g1 g3
  refine wRegL fun x hx => ⟨s', by rw [← hx]; exact g1, ⟨fun i o ho hl k si sk hik hk hb hs hs' => g3 i o (by rw [toList_get]; exact ho) hl k si sk hik (by simpa using hk) (fun j y a1 a2 a3 => hb j y a1 a2 (by rw [← toList_get]; exact a3)) hs hs', fun i o ho hf => ?_⟩, e2⟩
  have := List.all_eq_true.1 h4 o (by rw [← toList_get] at ho; exact List.mem_of_getElem? ho)
  rw [hf] at this; simp at this
theorem wSeqrN (n : Nat) (K : Hp) {id : Nat} {ops : Array Oper} {d : Bool} {b : Code} (hK : HExt K s.2) (h : ∀ x, astepsL P (cfg.pol fid) (call P cfg) ops K (ops.toList.drop n) (ops.toList.take n) s.1 s.2 = x → ∃ s', x = some s' ∧ Wp P cfg fid b s' Q)
    (h1 : ((ops.toList.drop n).all fun o => !lateO (cfg.pol fid) o) = true := by rfl) (h2 : ((ops.toList.take n).all fun o => !lateO (cfg.pol fid) o || frK o.op) = true := by rfl)
    (h3 : (((ops.toList.drop n)[0]?).all fun o => blkO (cfg.pol fid) o) = true := by rfl) (h4 : (ops.toList.all fun o => !freeO (cfg.pol fid) o) = true := by rfl) : Wp P cfg fid (.seq (.region id ops d) b) s Q :=
  wSeq (wRegN n K hK h h1 h2 h3 h4)
theorem astepsL_nil {pol : Nat → Nat} {cf : CallF} (ops : Array Oper) (K : Hp) (t : List Oper) (e : Env) (H : Hp) : astepsL P pol cf ops K t [] e H = asteps P pol cf ops t e H := rfl
theorem astepsL_one {pol : Nat → Nat} {cf : CallF} (ops : Array Oper) (K : Hp) (t : List Oper) (d : Option Nat) (op : Op) (ty : TypeId) (pos : String) (aft : Array Edge) (r : List Oper) (e : Env) (H : Hp) :
    astepsL P pol cf ops K t (⟨d, op, ty, pos, aft, none⟩ :: r) e H = thenF P pol cf ops K (astepsL P pol cf ops K t r) e d (bF H (ltQ pol d op) (aop P pol cf ⟨d, op, 0, "", #[], none⟩ e (hF K H (ltQ pol d op)))) := rfl
end
attribute [go_sem] astepsL_nil astepsL_one ltQ List.take_succ_cons List.drop_succ_cons List.take_zero List.drop_zero Option.getD_none Option.getD_some
end Go.Proofs.YtepnlhjafgomgaaDoor.Eng
