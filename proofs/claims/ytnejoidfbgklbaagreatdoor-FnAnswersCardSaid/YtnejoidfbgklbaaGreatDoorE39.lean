/- The engine, part 39: short rules for walks: what a step wants is shown by a script of the rule's own, out of the facts hF (and hc, the last guard's value). -/
import Derived.Test.YtnejoidfbgklbaaGreatDoorE38
import Derived.Test.YtnejoidfbgklbaaGreatDoorER
namespace Go.Proofs.YtnejoidfbgklbaaGreatDoor.Eng
open Go
set_option linter.unusedVariables false
set_option linter.unusedSimpArgs false
theorem an {a b : Prop} (h : a) (k : b) : a ∧ b := ⟨h, k⟩
/-- What a region leaves; what a branch goes by. -/
structure RG (x : Option (Env × Hp)) (K : St → Prop) : Prop where
  ex : ∃ s, x = some s ∧ K s
structure RC (y : AV) (A B : Prop) : Prop where
  ex : ∃ t, y = .v (.bool t) ∧ (t = true → A) ∧ (t = false → B)
section
variable {P : Program} {cfg : Cfg} {fid : Nat} {s : St} {Q : AX → St → Prop}
@[reducible] def stepX (P : Program) (cfg : Cfg) (fid : Nat) (s : St) (Q : AX → St → Prop) : Code → Prop
  | .seq (.region _ ops _) b => RG (asteps P (cfg.pol fid) (call P cfg) ops ops.toList s.1 s.2) fun s' => Wp P cfg fid b s' Q
  | .region _ ops _ => RG (asteps P (cfg.pol fid) (call P cfg) ops ops.toList s.1 s.2) (Q .normal)
  | .cond c a b => RC (opd s.1 c) (Wp P cfg fid a s Q) (Wp P cfg fid b s Q)
  | _ => False
@[reducible] def isX : Code → Bool
  | .seq (.region _ _ _) _ => true
  | .region _ _ _ => true
  | .cond _ _ _ => true
  | _ => false
@[reducible] def stepK (P : Program) (cfg : Cfg) (fid : Nat) (s : St) (Q : AX → St → Prop) : Code → Prop
  | .seq a b => Wp P cfg fid a s (thenQ (fun s => Wp P cfg fid b s Q) Q)
  | .skip => Q .normal s
  | .exit id => Q (.exit id) s
  | .block id c => Wp P cfg fid c s (blockQ id Q)
  | _ => False
@[reducible] def isK : Code → Bool
  | .seq (.region _ _ _) _ => false
  | .seq _ _ => true
  | .skip => true
  | .exit _ => true
  | .block _ _ => true
  | _ => false
theorem wX {c : Code} (h : stepX P cfg fid s Q c) (hr : isX c = true := by rfl) (hl : latF (cfg.pol fid) = false := by rfl) : Wp P cfg fid c s Q := by
  unfold stepX at h
  split at h
  · exact wSeqr (fun x hx => by subst hx; exact h.ex) hl
  · exact wReg (fun x hx => by subst hx; exact h.ex) hl
  · exact wIf fun y hy => by subst hy; exact h.ex
  · exact h.elim
theorem wK {c : Code} (h : stepK P cfg fid s Q c) (hr : isK c = true := by rfl) : Wp P cfg fid c s Q := by
  unfold stepK at h
  split at h
  · exact wSeq h
  · exact wSkip h
  · exact wExit h
  · exact wBlock h
  · exact h.elim
theorem rR {x : Option (Env × Hp)} {s : St} {K : St → Prop} (k : K s) (h : x = some s := by (simp only [hc, hF, Nat.reduceBEq, go_sem, Nat.reduceAdd, Nat.reduceMul, Nat.reduceSub, Nat.reduceEqDiff, Nat.reduceLT, Nat.reduceLeDiff, Int.reduceEq, Int.reduceLT, Int.reduceLE, reduceIte, aresults, aresult]) <;> with_reducible rfl) : RG x K := ⟨s, h, k⟩
theorem rZ {x : Option (Env × Hp)} {s : St} {K : St → Prop} (k : K s) (h : x = some s := by (simp only [hc, hF, Nat.reduceBEq, go_sem, Nat.reduceAdd, Nat.reduceMul, Nat.reduceSub, Nat.reduceEqDiff, Nat.reduceLT, Nat.reduceLeDiff, Int.reduceEq, Int.reduceLT, Int.reduceLE, reduceIte, aresults, aresult]) <;> rfl) : RG x K := ⟨s, h, k⟩
theorem rB {y : AV} {t : Bool} {A B : Prop} (k1 : t = true → A) (k2 : t = false → B) (h : y = .v (.bool t) := by (simp only [hc, hF, Nat.reduceBEq, go_sem, Nat.reduceAdd, Nat.reduceMul, Nat.reduceSub, Nat.reduceEqDiff, Nat.reduceLT, Nat.reduceLeDiff, Int.reduceEq, Int.reduceLT, Int.reduceLE, reduceIte, aresults, aresult]) <;> with_reducible rfl) : RC y A B := ⟨t, h, k1, k2⟩
theorem rG {x : Option (Env × Hp)} {K : St → Prop} {P' : Program} {pol : Nat → Nat} {cf : CallF} {ops : Array Oper} {d : Option Nat} {op : Op} {r : List Oper} {e : Env} {H : Hp} {w b : Bool} (k1 : b = true → RG (guardL P' pol cf ops d op r e H w (.v (.bool true))) K) (k2 : ¬ b = true → RG (guardL P' pol cf ops d op r e H w (.v (.bool false))) K)
    (h : x = guardL P' pol cf ops d op r e H w (.v (.bool b)) := by (simp only [hc, hF, Nat.reduceBEq, go_sem, Nat.reduceAdd, Nat.reduceMul, Nat.reduceSub, Nat.reduceEqDiff, Nat.reduceLT, Nat.reduceLeDiff, Int.reduceEq, Int.reduceLT, Int.reduceLE, reduceIte, aresults, aresult]) <;> with_reducible rfl) : RG x K := by
  subst h
  cases b with
  | true => exact k1 rfl
  | false => exact k2 (by simp)
/-- A region as far as it goes: what is left is told by hx. -/
theorem rN {x y : Option (Env × Hp)} {K : St → Prop} (k : ∀ q, y = q → RG q K) (h : x = y := by (simp only [hc, hF, Nat.reduceBEq, go_sem, Nat.reduceAdd, Nat.reduceMul, Nat.reduceSub, Nat.reduceEqDiff, Nat.reduceLT, Nat.reduceLeDiff, Int.reduceEq, Int.reduceLT, Int.reduceLE, reduceIte, aresults, aresult]) <;> with_reducible rfl) : RG x K := by
  subst h; exact k _ rfl
/-- A function's end. -/
theorem wQ {rs : List ResultVar} {R : AV → Hp → Prop} {vs : List AV} {T : Prop} (k : T) (hq : Q .ret s = Ends P rs R .ret s := by (try simp only [thenQ, blockQ]) <;> rfl) (h : aresults P s.2 s.1 rs = some vs := by (simp only [hc, hF, Nat.reduceBEq, go_sem, Nat.reduceAdd, Nat.reduceMul, Nat.reduceSub, Nat.reduceEqDiff, Nat.reduceLT, Nat.reduceLeDiff, Int.reduceEq, Int.reduceLT, Int.reduceLE, reduceIte, aresults, aresult]) <;> with_reducible rfl)
    (ht : R (tupOf vs) s.2 = T := by (try simp only [tupOf]) <;> rfl) : Wp P cfg fid .ret s Q := wRet (by rw [hq]; exact ⟨vs, h, ht.symm ▸ k⟩)
/-- The last region of a part of the code. -/
theorem wAtL (n : Nat) {ops : Array Oper} {d : Bool} (h : Wp P cfg fid (.region n ops d) s Q) : Wp P cfg fid (.region n ops d) s Q := h
end
/-- A slot's value, out of the facts hS. -/
theorem sl {a b : AV} (h : a = b := by first | rfl | simp only [hS, upd_eq, Nat.reduceEqDiff, if_false, if_true]) : a = b := h
theorem kk (h : False := by (try simp only [bbs] at *); first | omega | exact absurd trivial (by assumption)) : False := h
end Go.Proofs.YtnejoidfbgklbaaGreatDoor.Eng
