/- The engine, part 15: a function's code does what the evaluator says; calls among them. -/
import Derived.Test.YtnejoidfbgklbaaGreatDoorE14
import Derived.LoopN
namespace Go.Proofs.YtnejoidfbgklbaaGreatDoor.Eng
open Go Go.RowKit
set_option linter.unusedSimpArgs false
set_option linter.unusedVariables false

section
variable {P : Program}

def AX.real : AX → Exit
  | .normal => .normal
  | .exit id => .exit id
  | .ret => .ret

theorem dst_ok {N : Nat} {ops : Array Oper} (h : (ops.toList.all fun o => match o.dst with | some d => decide (d < N) | none => true) = true) : ∀ o ∈ ops.toList, ∀ t, o.dst = some t → t < N := by
  intro o ho t ht
  have := List.all_eq_true.1 h o ho
  rw [ht] at this; simpa using this

theorem canon_take {pol : Nat → Nat} {cf : CallF} {ops : Array Oper} {E : Nat → Env} {Hs : Nat → Hp} {vs : Nat → AV} (C : Canon P pol cf ops E Hs vs) : ∀ k, k ≤ ops.size → asteps P pol cf ops (ops.toList.take k) (E 0) (Hs 0) = some (E k, Hs k) := by
  intro k
  induction k with
  | zero => intro _; rfl
  | succ k ih =>
    intro hk
    have hlt : k < ops.toList.length := by simp; omega
    have ho : ops[k]? = some ops.toList[k] := by rw [← toList_get]; simp
    obtain ⟨h1, h2⟩ := C.step k _ ho
    rw [List.take_succ_eq_append_getElem hlt, asteps_app, ih (by omega)]
    simp only [Option.bind_some, asteps, astep_eq, h1, Option.map_some, h2]
theorem late_of {pol : Nat → Nat} {cf : CallF} {ops : Array Oper} {E : Nat → Env} {Hs : Nat → Hp} {vs : Nat → AV} (C : Canon P pol cf ops E Hs vs) {e : Env} {H : Hp} (c1 : E 0 = e) (c2 : Hs 0 = H) (hl : ¬ (latF pol = true ∧ ¬ LateOk P pol cf ops (e, H))) :
    ∀ i o, ops[i]? = some o → lateO pol o = true → ∀ k, i ≤ k → k ≤ ops.size → (∀ j y, i < j → j < k → ops[j]? = some y → blkO pol y = false) → stepV P pol cf ops o (E i) (Hs k) = some (vs i, Hs k) := by
  intro i o ho hlo k hik hk hb
  subst c1 c2
  have hlf : latF pol = true := by simp only [lateO, Bool.and_eq_true] at hlo; exact hlo.1.1
  have hL : LateOk P pol cf ops (E 0, Hs 0) := Classical.not_not.1 fun h => hl ⟨hlf, h⟩
  obtain ⟨v, v1, v2⟩ := hL.1 i o ho hlo k _ _ hik hk hb (canon_take C i (by omega)) (canon_take C k hk)
  have := (C.step i o ho).1
  simp only at v1 v2
  rw [this] at v1
  simp only [Option.some.injEq, Prod.mk.injEq] at v1
  rw [v2, v1.1]
theorem free_of {pol : Nat → Nat} {cf : CallF} {ops : Array Oper} {E : Nat → Env} {Hs : Nat → Hp} {vs : Nat → AV} (C : Canon P pol cf ops E Hs vs) {e : Env} {H : Hp} (c1 : E 0 = e) (c2 : Hs 0 = H) (hl : ¬ (latF pol = true ∧ ¬ LateOk P pol cf ops (e, H))) :
    ∀ i o, ops[i]? = some o → freeO pol o = true → ∀ k, k ≤ ops.size → stepV P pol cf ops o (E i) (Hs k) = some (vs i, Hs k) := by
  intro i o ho hfo k hk
  subst c1 c2
  have hlf : latF pol = true := by simp only [freeO, Bool.and_eq_true] at hfo; exact hfo.1.1
  have hL : LateOk P pol cf ops (E 0, Hs 0) := Classical.not_not.1 fun h => hl ⟨hlf, h⟩
  have hi := (Array.getElem?_eq_some_iff.1 ho).1
  obtain ⟨v, hv⟩ := hL.2 i o ho hfo _ (canon_take C i (by omega))
  have h1 := (C.step i o ho).1
  have h2 := hv i _ (by omega) (canon_take C i (by omega))
  simp only at h2
  rw [h1] at h2
  simp only [Option.some.injEq, Prod.mk.injEq] at h2
  rw [h2.1]; exact hv k _ hk (canon_take C k hk)
theorem code_ok {cfg : Cfg} {fid : Nat} {cf : CallF} (hcf : CallOk P cf) (hcp : CfPure cfg cf) (hce : CfExt cfg cf) (n N : Nat) (c : Code) : ∀ (e : Env) (H : Hp) (x : AX) (e' : Env) (H' : Hp), Code.dstsOk N c = true → Code.drawsOk P cfg fid c = true →
    crun P (cfg.pol fid) cf n c (e, H) = some (x, (e', H')) → ∀ (base : Nat) (ρ : Nat → Loc) (F : Nat → Nat → Prop) (w : World) (a : Act) (Q : Exit → Act → World → Prop), Inv base H ρ F w → EnvR H ρ F w e a → N ≤ a.tmps.size →
      (∀ a' w' ρ' F', After base H ρ F w H' ρ' F' w' → EnvR H' ρ' F' w' e' a' → a'.tmps.size = a.tmps.size → Q x.real a' w') → c.wp P Q a w := by
  induction c with
  | skip =>
    intro e H x e' H' _ _ h base ρ F w a Q I he hN hQ
    simp only [crun, Option.some.injEq, Prod.mk.injEq] at h; obtain ⟨rfl, rfl, rfl⟩ := h
    exact wp_skip (hQ a w ρ F (.refl I) he rfl)
  | exit id =>
    intro e H x e' H' _ _ h base ρ F w a Q I he hN hQ
    simp only [crun, Option.some.injEq, Prod.mk.injEq] at h; obtain ⟨rfl, rfl, rfl⟩ := h
    exact wp_exit (hQ a w ρ F (.refl I) he rfl)
  | ret =>
    intro e H x e' H' _ _ h base ρ F w a Q I he hN hQ
    simp only [crun, Option.some.injEq, Prod.mk.injEq] at h; obtain ⟨rfl, rfl, rfl⟩ := h
    exact wp_ret (hQ a w ρ F (.refl I) he rfl)
  | region id ops d =>
    intro e H x e' H' hd hdr h base ρ F w a Q I he hN hQ
    simp only [crun] at h
    split at h
    · simp at h
    rename_i hlat
    obtain ⟨⟨e1, H1⟩, h1, heq⟩ := Option.map_eq_some_iff.1 h
    simp only [Prod.mk.injEq] at heq; obtain ⟨rfl, rfl, rfl⟩ := heq
    have hdst := dst_ok hd
    cases d with
    | false =>
      refine wp_region ?_
      have := region_seq hcf hdst ops.size 0 e H ρ F w a e1 H1 (by omega) (by simpa using h1) I he hN hQ
      rw [List.range_eq_range']; simpa using this
    | true =>
      simp only [Code.drawsOk, Bool.not_true, Bool.false_or, List.all_eq_true] at hdr
      obtain ⟨E, Hs, vs, c1, c2, c3, c4, c5⟩ := canon_of (ops := ops) ops.size 0 e H e1 H1 (by omega) (by omega) (by simpa using h1)
      have C : Canon P (cfg.pol fid) cf ops E Hs vs := ⟨fun k o ho => c5 k o (Nat.zero_le _) ho⟩
      obtain ⟨i1, i2⟩ := I.drew
      refine wp_region_draw fun t => ?_
      have key : ∀ md ∈ modesOf P ops, ∀ t, wpOps P ops Q (Region.linearise md ops t) a { w with drawn := w.drawn + 1 } := by
        intro md hmd t
        refine wpAny_sound ops.size t _ a _ ?_
        refine wpAny_ok hcf hcp hce (hdr md hmd) C hdst (base := base) (ρ0 := ρ) (F0 := F) (w0 := w) (asz := a.tmps.size) hN (late_of C c1 c2 hlat) (free_of C c1 c2 hlat) ?_ ops.size _ a _ 0 ρ F (by simp) ?_ (Nat.zero_le _) ?_ ?_ (fun r hr => by have h0 : r = 0 := Nat.le_zero.1 hr; subst h0; rw [c2]; exact I.lt) ?_ ?_ rfl
        · intro a' w' ρ' F' haf he' hs
          rw [c2, c4] at haf; rw [c3, c4] at he'
          exact hQ a' w' ρ' F' haf he' hs
        · have := List.length_filter_le (fun i => !(Array.replicate ops.size false).getD i true) (List.range ops.size)
          simpa using this
        · intro j o ho hs
          simp only [Array.getD_eq_getD_getElem?, Array.getElem?_replicate] at hs
          split at hs <;> simp at hs
        · intro j o ho hk
          simp only [Array.getD_eq_getD_getElem?, Array.getElem?_replicate]
          split <;> simp
        · rw [c2]; exact ⟨i1, i2, (Below.refl _ _).drew, fun _ _ h => .inl h⟩
        · rw [c2, c1]
          have hz : ∀ n, envS ops e vs (fun j => (Array.replicate ops.size false).getD j false) n = e := by
            intro n
            induction n with
            | zero => rfl
            | succ n ih =>
              simp only [envS]
              rw [if_neg]
              · exact ih
              · simp only [Array.getD_eq_getD_getElem?, Array.getElem?_replicate]; split <;> simp
          rw [hz]; exact he.mono i2
      unfold Region.schedule
      unfold modesOf at key
      split
      · rename_i hc
        rw [if_pos hc] at key
        exact key .any (by simp) t
      · rename_i hc
        rw [if_neg hc] at key
        split
        · exact key .text (by simp) _
        · exact key .gc (by simp) _
  | seq c1 c2 ih1 ih2 =>
    intro e H x e' H' hd hdr h base ρ F w a Q I he hN hQ
    simp only [Code.dstsOk, Code.drawsOk, Bool.and_eq_true] at hd hdr
    simp only [crun] at h
    obtain ⟨⟨x1, e1, H1⟩, h1, h2⟩ := Option.bind_eq_some_iff.1 h
    refine wp_seq (ih1 e H x1 e1 H1 hd.1 hdr.1 h1 base ρ F w a _ I he hN fun a1 w1 ρ1 F1 haf he1 hs1 => ?_)
    cases x1 with
    | normal =>
      simp only [thenN] at h2
      exact ih2 e1 H1 x e' H' hd.2 hdr.2 h2 base ρ1 F1 w1 a1 Q haf.inv he1 (by omega) fun a2 w2 ρ2 F2 haf2 he2 hs2 => hQ a2 w2 ρ2 F2 (haf.trans haf2) he2 (by omega)
    | exit id =>
      simp only [thenN, Option.some.injEq, Prod.mk.injEq] at h2; obtain ⟨rfl, rfl, rfl⟩ := h2
      exact hQ a1 w1 ρ1 F1 haf he1 hs1
    | ret =>
      simp only [thenN, Option.some.injEq, Prod.mk.injEq] at h2; obtain ⟨rfl, rfl, rfl⟩ := h2
      exact hQ a1 w1 ρ1 F1 haf he1 hs1
  | cond c c1 c2 ih1 ih2 =>
    intro e H x e' H' hd hdr h base ρ F w a Q I he hN hQ
    simp only [Code.dstsOk, Code.drawsOk, Bool.and_eq_true] at hd hdr
    simp only [crun] at h
    split at h
    · rename_i hc
      have hb : a.eval c = .bool true := by have := he.opd c; rw [hc] at this; exact this.eqv
      exact wp_cond_true hb (ih1 e H x e' H' hd.1 hdr.1 h base ρ F w a Q I he hN hQ)
    · rename_i hc
      have hb : a.eval c = .bool false := by have := he.opd c; rw [hc] at this; exact this.eqv
      exact wp_cond_false hb (ih2 e H x e' H' hd.2 hdr.2 h base ρ F w a Q I he hN hQ)
    · simp at h
  | block id c ih =>
    intro e H x e' H' hd hdr h base ρ F w a Q I he hN hQ
    simp only [crun] at h
    obtain ⟨⟨x1, e1, H1⟩, h1, heq⟩ := Option.map_eq_some_iff.1 h
    refine wp_block (ih e H x1 e1 H1 hd hdr h1 base ρ F w a _ I he hN fun a1 w1 ρ1 F1 haf he1 hs1 => ?_)
    cases x1 with
    | normal =>
      simp only [outOf, Prod.mk.injEq] at heq; obtain ⟨rfl, rfl, rfl⟩ := heq
      exact hQ a1 w1 ρ1 F1 haf he1 hs1
    | ret =>
      simp only [outOf, Prod.mk.injEq] at heq; obtain ⟨rfl, rfl, rfl⟩ := heq
      exact hQ a1 w1 ρ1 F1 haf he1 hs1
    | exit id' =>
      simp only [outOf] at heq
      simp only [AX.real, Exit.inBlock]
      split at heq
      · rename_i hid
        simp only [Prod.mk.injEq] at heq; obtain ⟨rfl, rfl, rfl⟩ := heq
        rw [if_pos hid]; exact hQ a1 w1 ρ1 F1 haf he1 hs1
      · rename_i hid
        simp only [Prod.mk.injEq] at heq; obtain ⟨rfl, rfl, rfl⟩ := heq
        rw [if_neg hid]; exact hQ a1 w1 ρ1 F1 haf he1 hs1
  | loop c ih =>
    intro e H x e' H' hd hdr h base ρ F w a Q I he hN hQ
    simp only [crun] at h
    have key : ∀ (m : Nat) (e : Env) (H : Hp) (ρ : Nat → Loc) (F : Nat → Nat → Prop) (w : World) (a : Act), iter (crun P (cfg.pol fid) cf n c) m (e, H) = some (x, (e', H')) → Inv base H ρ F w → EnvR H ρ F w e a → N ≤ a.tmps.size →
        (∀ a' w' ρ' F', After base H ρ F w H' ρ' F' w' → EnvR H' ρ' F' w' e' a' → a'.tmps.size = a.tmps.size → Q x.real a' w') → Code.rounds P c Q m a w := by
      intro m
      induction m with
      | zero => intro e H ρ F w a h; simp [iter] at h
      | succ m ihm =>
        intro e H ρ F w a h I he hN hQ
        simp only [iter] at h
        obtain ⟨⟨x1, e1, H1⟩, h1, h2⟩ := Option.bind_eq_some_iff.1 h
        rw [rounds_succ]
        refine ih e H x1 e1 H1 hd hdr h1 base ρ F w a _ I he hN fun a1 w1 ρ1 F1 haf he1 hs1 => ?_
        cases x1 with
        | normal =>
          simp only [thenN] at h2
          exact ihm e1 H1 ρ1 F1 w1 a1 h2 haf.inv he1 (by omega) fun a2 w2 ρ2 F2 haf2 he2 hs2 => hQ a2 w2 ρ2 F2 (haf.trans haf2) he2 (by omega)
        | exit id =>
          simp only [thenN, Option.some.injEq, Prod.mk.injEq] at h2; obtain ⟨rfl, rfl, rfl⟩ := h2
          exact hQ a1 w1 ρ1 F1 haf he1 hs1
        | ret =>
          simp only [thenN, Option.some.injEq, Prod.mk.injEq] at h2; obtain ⟨rfl, rfl, rfl⟩ := h2
          exact hQ a1 w1 ρ1 F1 haf he1 hs1
    exact wp_loop_rounds n (key n e H ρ F w a h I he hN hQ)
  | _ => intro e H x e' H' hd; simp [Code.dstsOk] at hd
end
end Go.Proofs.YtnejoidfbgklbaaGreatDoor.Eng
