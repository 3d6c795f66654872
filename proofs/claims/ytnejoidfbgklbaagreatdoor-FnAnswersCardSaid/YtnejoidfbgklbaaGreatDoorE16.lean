/- The engine, part 16: values read deep; calls do what the evaluator says. -/
import Derived.Test.YtnejoidfbgklbaaGreatDoorE15
namespace Go.Proofs.YtnejoidfbgklbaaGreatDoor.Eng
open Go Go.RowKit
set_option linter.unusedSimpArgs false
set_option linter.unusedVariables false

section
variable {P : Program} {base : Nat} {H : Hp} {ρ : Nat → Loc} {F : Nat → Nat → Prop} {w : World}

theorem mapM_get {α β : Type} {f : α → Option β} : ∀ (l : List α) (r : List β), l.mapM f = some r → r.length = l.length ∧ ∀ (i : Nat) (y : β), r[i]? = some y → ∃ x, l[i]? = some x ∧ f x = some y := by
  intro l
  induction l with
  | nil => intro r h; simp at h; subst h; simp
  | cons a l ih =>
    intro r h
    simp only [List.mapM_cons, Option.bind_eq_bind, Option.bind_eq_some_iff, Option.pure_def, Option.some.injEq] at h
    obtain ⟨b, hb, bs, hbs, rfl⟩ := h
    obtain ⟨h1, h2⟩ := ih bs hbs
    refine ⟨by simp [h1], fun i y hy => ?_⟩
    cases i with
    | zero => simp at hy; subst hy; exact ⟨a, rfl, hb⟩
    | succ i => exact h2 i y (by simpa using hy)

theorem deep_v {d : Nat} {y : Value} {t : AV} (h : deep H (d + 1) (.v y) = some t) : (y = .slice none 0 0 ∧ t = .lst false []) ∨ t = .v y := by
  by_cases hy : y = .slice none 0 0
  · subst hy
    simp only [deep, Option.some.injEq] at h
    exact .inl ⟨rfl, h.symm⟩
  · right
    unfold deep at h
    split at h
    · rename_i hz; simp only [AV.v.injEq] at hz; exact absurd hz hy
    · rename_i hz; simp only [AV.v.injEq] at hz; subst hz; simpa using h.symm
    all_goals (rename_i hz; simp at hz)

theorem deep_okc : ∀ {d : Nat} {x t : AV}, deep H d x = some t → okc x = true → okc t = true := by
  intro d x t h ho
  cases d with
  | zero => simp [deep] at h
  | succ d =>
    cases x
    case' v => skip
    all_goals try simp only [deep] at h
    case any => simp at h
    case ifc => simp [okc] at ho
    case v y =>
      rcases deep_v (d := d) h with ⟨-, rfl⟩ | rfl
      · rfl
      · exact ho
    case lst => obtain ⟨z, -, rfl⟩ := Option.map_eq_some_iff.1 h; rfl
    case fp => obtain ⟨z, -, rfl⟩ := Option.map_eq_some_iff.1 h; rfl
    case sl =>
      obtain ⟨cs, -, h⟩ := Option.bind_eq_some_iff.1 h
      split at h
      · obtain ⟨z, -, rfl⟩ := Option.map_eq_some_iff.1 h; rfl
      · simp at h
    case ptr =>
      obtain ⟨cs, -, h⟩ := Option.bind_eq_some_iff.1 h
      obtain ⟨z, -, rfl⟩ := Option.map_eq_some_iff.1 h; rfl
    case agg => simp [okc] at ho
    case tup => simp [okc] at ho
    case fn => obtain ⟨z, -, rfl⟩ := Option.map_eq_some_iff.1 h; rfl

theorem all_get {α : Type} {p : α → Bool} {l : List α} (h : l.all p = true) {i : Nat} {x : α} (hx : l[i]? = some x) : p x = true :=
  List.all_eq_true.1 h x (List.mem_of_getElem? hx)
theorem any_get {α : Type} {p : α → Bool} {l : List α} (h : l.any p = false) {i : Nat} {x : α} (hx : l[i]? = some x) : p x = false := by
  have := List.any_eq_false.1 h x (List.mem_of_getElem? hx)
  simpa using this

/-- What is read deep stands for the same value, wherever what it reads is only read. -/
theorem deep_ok (I : Inv base H ρ F w) {G : Nat → Nat → Prop} {H2 : Hp} {ρ2 : Nat → Loc} : ∀ (d : Nat) (x : AV) (y : Value) (t : AV), deep H d x = some t → VR H ρ F w x y →
    ((∀ k o, F k o → G k o) ∨ clean H d x = true) → ((∀ b cs (i : Nat), H.h b = some cs → i < cs.length → G (ρ b).blk ((ρ b).off + i)) ∨ hasRefs d x = false) → VR H2 ρ2 G w t y := by
  intro d
  induction d with
  | zero => intro x y t h; simp [deep] at h
  | succ d ih =>
    intro x y t h hv hA hB
    cases hv with
    | any => simp [deep] at h
    | ifc0 => simp [deep] at h; subst h; exact .ifc0
    | ifc1 => simp [deep] at h; subst h; exact .ifc1
    | v =>
      rcases deep_v h with ⟨rfl, rfl⟩ | rfl
      · exact .lst0 (fun h => by simp at h)
      · exact .v
    | lst0 hc =>
      simp only [deep, List.mapM_nil] at h
      simp at h; subst h
      exact .lst0 (fun h => by simp at h)
    | lst rd hne hs hf hc ho hm hv =>
      rename_i fu xs blk off c sz
      simp only [deep] at h
      obtain ⟨ys, hys, rfl⟩ := Option.map_eq_some_iff.1 h
      obtain ⟨l1, l2⟩ := mapM_get _ _ hys
      have hFG : ∀ k o, F k o → G k o := by
        rcases hA with hA | hA
        · exact hA
        · simp only [clean, List.isEmpty_iff] at hA; exact absurd hA hne
      have g2 : ∀ i j t, get2 ys i j = some t → ∃ x, get2 xs i j = some x ∧ deep H d x = some t ∧ ((∀ b cs (i : Nat), H.h b = some cs → i < cs.length → G (ρ b).blk ((ρ b).off + i)) ∨ hasRefs d x = false) := by
        intro i j t ht
        obtain ⟨c, hc, ht⟩ := Option.bind_eq_some_iff.1 ht
        obtain ⟨x, hx, hxc⟩ := l2 i c hc
        obtain ⟨m1, m2⟩ := mapM_get _ _ hxc
        obtain ⟨z, hz, hzt⟩ := m2 j t ht
        refine ⟨z, Option.bind_eq_some_iff.2 ⟨x, hx, hz⟩, hzt, ?_⟩
        rcases hB with hB | hB
        · exact .inl hB
        · right
          simp only [hasRefs] at hB
          exact any_get (any_get hB hx) hz
      rw [← l1]
      refine .lst (sz := sz) rd (fun e => hne ?_) (fun c hc => ?_) (fun h => by simp at h) (by omega) (fun i j t ht => ?_) (fun i j t ht => ?_) (fun i j t ht => ?_)
      · subst e; simpa using l1.symm
      · obtain ⟨i, hi, rfl⟩ := List.getElem_of_mem hc
        obtain ⟨x, hx, hxc⟩ := l2 i ys[i] (by simp [hi])
        rw [(mapM_get _ _ hxc).1]
        exact hs x (List.mem_of_getElem? hx)
      · obtain ⟨x, hx, hd, -⟩ := g2 i j t ht
        exact deep_okc hd (ho i j x hx)
      · obtain ⟨x, hx, hd, -⟩ := g2 i j t ht
        exact ⟨(hm i j x hx).1, hFG _ _ (hm i j x hx).2⟩
      · obtain ⟨x, hx, hd, hb⟩ := g2 i j t ht
        exact ih x _ t hd (hv i j x hx) (.inl hFG) hb
    | fp rd hm hv =>
      rename_i cs o blk off
      simp only [deep] at h
      obtain ⟨ds, hds, rfl⟩ := Option.map_eq_some_iff.1 h
      obtain ⟨l1, l2⟩ := mapM_get _ _ hds
      have hFG : ∀ k o, F k o → G k o := by
        rcases hA with hA | hA
        · exact hA
        · simp [clean] at hA
      refine .fp rd (fun j t ht => ?_) (fun j t ht => ?_)
      · obtain ⟨x, hx, hd⟩ := l2 j t ht
        exact ⟨(hm j x hx).1, hFG _ _ (hm j x hx).2⟩
      · obtain ⟨x, hx, hd⟩ := l2 j t ht
        refine ih x _ t hd (hv j x hx) (.inl hFG) (hB.imp id fun hB => ?_)
        simp only [hasRefs] at hB
        exact any_get hB hx
    | sl hb hs hnn =>
      rename_i b sz o n a c
      simp only [deep] at h
      obtain ⟨cs, hcs, h⟩ := Option.bind_eq_some_iff.1 h
      split at h
      rotate_left
      · simp at h
      rename_i hle
      obtain ⟨hle, hsz⟩ := hle
      obtain ⟨ds, hds, rfl⟩ := Option.map_eq_some_iff.1 h
      obtain ⟨l1, l2⟩ := mapM_get _ _ hds
      have hBG : ∀ b cs (i : Nat), H.h b = some cs → i < cs.length → G (ρ b).blk ((ρ b).off + i) := by
        rcases hB with hB | hB
        · exact hB
        · simp [hasRefs] at hB
      have hlen : ds.length = n * sz := by rw [l1]; simp; omega
      rcases hs cs hcs with ⟨rfl, rfl, -⟩ | ⟨rfl, h1, h2, h3⟩
      · exact .lst0 (fun h => by simp at h)
      · have hnc : n ≤ c := by
          have : n * sz ≤ c * sz := by omega
          exact Nat.le_of_mul_le_mul_right this hsz
        refine VR.lstOf hlen hnc (fun h => by simp at h) (fun t ht => ?_) (fun i t hi => ?_)
        · obtain ⟨i, hi, rfl⟩ := List.getElem_of_mem ht
          obtain ⟨x, hx, hd⟩ := l2 i ds[i] (by simp [hi])
          refine deep_okc hd (I.one b cs x hcs ?_)
          exact List.mem_of_mem_drop (List.mem_of_mem_take (List.mem_of_getElem? hx))
        · obtain ⟨x, hx, hd⟩ := l2 i t hi
          have hin : i < n * sz := by have := lt_of_get hi; omega
          have hxin := List.mem_of_getElem? hx
          have hx0 := hx
          rw [List.getElem?_take_of_lt hin, List.getElem?_drop] at hx
          obtain ⟨y, hy, hr⟩ := I.val b cs (o + i) x hcs hx
          refine ⟨y, by rw [Nat.add_assoc]; exact hy, by rw [Nat.add_assoc]; exact hBG b cs (o + i) hcs (lt_of_get hx), ih x y t hd hr (hA.imp id fun hA => ?_) (.inl hBG)⟩
          simp only [clean, hcs, Option.getD_some] at hA
          exact all_get hA hx0
    | ptr hb hs =>
      rename_i b o a
      simp only [deep] at h
      obtain ⟨cs, hcs, h⟩ := Option.bind_eq_some_iff.1 h
      obtain ⟨ds, hds, rfl⟩ := Option.map_eq_some_iff.1 h
      obtain ⟨l1, l2⟩ := mapM_get _ _ hds
      have hBG : ∀ b cs (i : Nat), H.h b = some cs → i < cs.length → G (ρ b).blk ((ρ b).off + i) := by
        rcases hB with hB | hB
        · exact hB
        · simp [hasRefs] at hB
      have hFG : ∀ k o, F k o → G k o := by
        rcases hA with hA | hA
        · exact hA
        · simp [clean] at hA
      rw [hs cs hcs]
      have hch : ∀ j : Nat, ∃ y, ∀ x, cs[j]? = some x → w.cell? (at_ (ρ b).blk ((ρ b).off + j)) = some y ∧ VR H ρ F w x y := by
        intro j
        cases hx : cs[j]? with
        | none => exact ⟨.nilFunc, fun x h => by simp at h⟩
        | some x =>
          obtain ⟨y, hy, hr⟩ := I.val b cs j x hcs hx
          exact ⟨y, fun x' hx' => by simp only [Option.some.injEq] at hx'; subst hx'; exact ⟨hy, hr⟩⟩
      obtain ⟨rd, hrd⟩ := Classical.axiomOfChoice hch
      refine .fp rd (fun j t ht => ?_) (fun j t ht => ?_)
      · obtain ⟨x, hx, hd⟩ := l2 j t ht
        exact ⟨(hrd j x hx).1, hBG b cs j hcs (lt_of_get hx)⟩
      · obtain ⟨x, hx, hd⟩ := l2 j t ht
        exact ih x _ t hd (hrd j x hx).2 (.inl hFG) (.inl hBG)
    | agg hl hv =>
      simp only [deep] at h
      obtain ⟨ds, hds, rfl⟩ := Option.map_eq_some_iff.1 h
      obtain ⟨l1, l2⟩ := mapM_get _ _ hds
      refine .agg (by omega) fun i t y ht hy => ?_
      obtain ⟨x, hx, hd⟩ := l2 i t ht
      exact ih x y t hd (hv i x y hx hy) (hA.imp id fun hA => all_get (by simpa only [clean] using hA) hx) (hB.imp id fun hB => any_get (by simpa only [hasRefs] using hB) hx)
    | tup hl hv =>
      simp only [deep] at h
      obtain ⟨ds, hds, rfl⟩ := Option.map_eq_some_iff.1 h
      obtain ⟨l1, l2⟩ := mapM_get _ _ hds
      refine .tup (by omega) fun i t y ht hy => ?_
      obtain ⟨x, hx, hd⟩ := l2 i t ht
      exact ih x y t hd (hv i x y hx hy) (hA.imp id fun hA => all_get (by simpa only [clean] using hA) hx) (hB.imp id fun hB => any_get (by simpa only [hasRefs] using hB) hx)
    | fn hl hv =>
      simp only [deep] at h
      obtain ⟨ds, hds, rfl⟩ := Option.map_eq_some_iff.1 h
      obtain ⟨l1, l2⟩ := mapM_get _ _ hds
      refine .fn (by omega) fun i t y ht hy => ?_
      obtain ⟨x, hx, hd⟩ := l2 i t ht
      refine ih x y t hd (hv i x y hx hy) (.inl ?_) (hB.imp id fun hB => any_get (by simpa only [hasRefs] using hB) hx)
      rcases hA with hA | hA
      · exact hA
      · simp [clean] at hA

/-! Results. -/
theorem result_ok (I : Inv base H ρ F w) {e : Env} {a : Act} (he : EnvR H ρ F w e a) : ∀ (rs : List ResultVar) (vs : List AV), aresults P H e rs = some vs →
    ∃ us : List Value, (rs.mapM fun (r : ResultVar) => (match r with
      | .tmp t => Pure.pure (a.tmps.getD t undef)
      | .cell c t => do loadVar t (← asAddr (a.tmps.getD c undef)) : Sem Value)).run P w = .ok us w ∧ us.length = vs.length ∧ ∀ (i : Nat) x y, vs[i]? = some x → us[i]? = some y → VR H ρ F w x y := by
  intro rs
  induction rs with
  | nil => intro vs h; simp [aresults] at h; subst h; exact ⟨[], by simp, rfl, fun i x y h => by simp at h⟩
  | cons r rs ih =>
    intro vs h
    simp only [aresults] at h
    obtain ⟨v, hv, h⟩ := Option.bind_eq_some_iff.1 h
    obtain ⟨vs, hvs, rfl⟩ := Option.map_eq_some_iff.1 h
    obtain ⟨us, h1, h2, h3⟩ := ih vs hvs
    have key : ∃ u, (match r with
      | .tmp t => Pure.pure (a.tmps.getD t undef)
      | .cell c t => do loadVar t (← asAddr (a.tmps.getD c undef)) : Sem Value).run P w = .ok u w ∧ VR H ρ F w v u := by
      cases r with
      | tmp t =>
        simp only [aresult, Option.some.injEq] at hv; subst hv
        exact ⟨_, rfl, he.tm t⟩
      | cell c t =>
        simp only [aresult] at hv
        have hx := he.tm c
        show ∃ u, ((do loadVar t (← asAddr (a.tmps.getD c undef))) : Sem Value).run P w = .ok u w ∧ _
        generalize a.tmps.getD c undef = y at hx ⊢
        obtain ⟨u, hu, hr⟩ := load_ok (P := P) I hx hv
        refine ⟨u, ?_, hr⟩
        generalize e c = x at hx hv
        cases hx <;> simp only [aload] at hv <;> first | (simp at hv; done) | skip
        · simpa [Instr.loadAt, Instr.sureAddr, asAddr] using hu
        · simpa [Instr.loadAt, Instr.sureAddr, asAddr] using hu
    obtain ⟨u, hu, hr⟩ := key
    refine ⟨u :: us, ?_, by simp [h2], fun i x y hx hy => ?_⟩
    · simp only [List.mapM_cons, Sem.run_bind, hu, Result.andThen_ok, h1, Sem.run_pure]
    · cases i with
      | zero => simp at hx hy; subst hx hy; exact hr
      | succ i => exact h3 i x y (by simpa using hx) (by simpa using hy)

theorem results_ok (I : Inv base H ρ F w) {e : Env} {a : Act} (he : EnvR H ρ F w e a) (fn : Func) {vs : List AV} (h : aresults P H e fn.results.toList = some vs) :
    ∃ u, (results fn a.tmps).run P w = .ok u w ∧ VR H ρ F w (tupOf vs) u := by
  obtain ⟨us, h1, h2, h3⟩ := result_ok I he _ _ h
  have hm : (fn.results.mapM fun (r : ResultVar) => (match r with
      | .tmp t => Pure.pure (a.tmps.getD t undef)
      | .cell c t => do loadVar t (← asAddr (a.tmps.getD c undef)) : Sem Value)).run P w = .ok us.toArray w := by
    rw [Array.mapM_eq_mapM_toList]
    simp only [Sem.run_map, h1]
    rfl
  refine ⟨if h : us.toArray.size = 1 then us.toArray[0] else .tuple us.toArray, ?_, ?_⟩
  · simp only [results, Sem.run_bind]
    erw [hm]
    rfl
  · match vs, us, h2 with
    | [x], [u], _ => exact h3 0 x u rfl rfl
    | [], [], _ => exact .tup rfl fun i x y h => by simp at h
    | x :: x' :: xs, u :: u' :: us, hl =>
      simp only [tupOf]
      rw [dif_neg (by simp)]
      exact .tup (by simpa using hl.symm) fun i a b ha hb => h3 i a b ha (by simpa using hb)
end
end Go.Proofs.YtnejoidfbgklbaaGreatDoor.Eng
