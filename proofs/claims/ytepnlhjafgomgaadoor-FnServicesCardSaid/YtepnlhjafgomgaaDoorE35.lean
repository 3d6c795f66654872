/- The engine, part 35: lists of laid rows that are being gathered. -/
import Derived.Test.YtepnlhjafgomgaaDoorE34
namespace Go.Proofs.YtepnlhjafgomgaaDoor.Eng
open Go
set_option linter.unusedSimpArgs false
set_option linter.unusedVariables false

/-- A list that is being gathered: n rows of sz cells each that stand for ts; their lists lie in the blocks from lo on, below hi, and the list itself, if it has any row, in a block between hi and g. -/
def LAcc (H : Hp) (x : AV) (sz lo hi g : Nat) (ts : List AV) (n : Nat) : Prop :=
  ∃ zs, Laid H lo hi ts zs ∧ zs.length = n * sz ∧ hi ≤ g ∧ g ≤ H.g ∧ ((n = 0 ∧ (x = .lst true [] ∨ x = .v (.slice none 0 0))) ∨ ∃ b, hi ≤ b ∧ b < g ∧ x = .sl b sz 0 n ∧ H.h b = some zs)
variable {H K : Hp} {x : AV} {sz lo hi g n : Nat} {ts : List AV}
theorem LAcc.nil (hg : lo ≤ H.g) : LAcc H (.v (.slice none 0 0)) sz lo lo lo [] 0 := ⟨[], .nil (Nat.le_refl _), by simp, Nat.le_refl _, hg, .inl ⟨rfl, .inr rfl⟩⟩
theorem LAcc.lst (hg : lo ≤ H.g) : LAcc H (.lst true []) sz lo lo lo [] 0 := ⟨[], .nil (Nat.le_refl _), by simp, Nat.le_refl _, hg, .inl ⟨rfl, .inl rfl⟩⟩
theorem LAcc.keep (h : LAcc H x sz lo hi g ts n) (hg : H.g ≤ K.g) (hk : ∀ b, lo ≤ b → b < g → K.h b = H.h b) : LAcc K x sz lo hi g ts n := by
  obtain ⟨zs, h1, h2, h3, h4, h5⟩ := h
  refine ⟨zs, h1.keep fun b hb1 hb2 => hk b hb1 (by omega), h2, h3, by omega, ?_⟩
  rcases h5 with h5 | ⟨b, hb1, hb2, rfl, hb3⟩
  · exact .inl h5
  · exact .inr ⟨b, hb1, hb2, rfl, (hk b (by have := h1.le; omega) hb2).trans hb3⟩
theorem LAcc.ext (h : LAcc H x sz lo hi g ts n) (he : Ext H K) : LAcc K x sz lo hi g ts n := h.keep he.1 fun b _ hb => he.2 b (by obtain ⟨zs, h1, h2, h3, h4, h5⟩ := h; omega)
theorem LAcc.one (h : LAcc H x sz lo hi g ts n) : okc x = true ∧ asCells x = some [x] := by
  obtain ⟨zs, h1, h2, h3, h4, h5⟩ := h
  rcases h5 with ⟨-, rfl | rfl⟩ | ⟨b, hb1, hb2, rfl, hb3⟩ <;> exact ⟨rfl, rfl⟩
theorem LAcc.len (h : LAcc H x sz lo hi g ts n) (e : TypeId) : lenD (some (.slice e)) x = some (.v (.int .i64 n)) := by
  obtain ⟨zs, h1, h2, h3, h4, h5⟩ := h
  rcases h5 with ⟨rfl, rfl | rfl⟩ | ⟨b, hb1, hb2, rfl, hb3⟩ <;> rfl
theorem LAcc.gle (h : LAcc H x sz lo hi g ts n) : lo ≤ g ∧ g ≤ H.g := by
  obtain ⟨zs, h1, h2, h3, h4, h5⟩ := h
  have := h1.le
  omega
/-- One more row. -/
theorem LAcc.row {P : Program} {t xt el by_ m mid : Nat} {z : List AV} (h1 : elemOf? P t = some el) (h2 : zeroOf P el = some z) (h3 : bytesOf P el = some by_) (h4 : intT P xt = some false) (hz : z.length = sz) (hsz : 0 < sz)
    (h : LAcc K x sz lo hi g ts n) {tm zm : List AV} (hr : Laid K m mid tm zm) (hl : zm.length = sz) (hm1 : g ≤ m) (hm2 : mid ≤ K.g) (hro : (n + 1) * by_ ≤ 70368744177664) (hro2 : n + 1 ≤ 70368744177664) (fu : Bool) :
    ∃ K', aappend P K [t, xt] x (.lst fu [zm]) = some (.sl K.g sz 0 (n + 1), K') ∧ K'.g = K.g + 1 ∧ LAcc K' (.sl K.g sz 0 (n + 1)) sz lo mid (K.g + 1) (ts ++ tm) (n + 1) ∧ (∀ b, b < lo → K'.h b = K.h b) ∧ (∀ b, g ≤ b → b < K.g → K'.h b = K.h b) := by
  obtain ⟨zs, a1, a2, a3, a4, a5⟩ := h
  subst hz
  have l1 := a1.le
  have l2 := hr.le
  have happ : aappended P K el z xt (.lst fu [zm]) = some (1, zm) := by
    have e := afirst_one K fu zm
    rw [hl] at e
    simp only [aappended, h4, Option.bind_some, Bool.false_eq_true, if_false, alen_lst, List.length_cons, List.length_nil, Nat.zero_add, e, Option.map_some]
  have hlen : (zs ++ zm).length = (n + 1) * z.length := by rw [List.length_append, a2, hl, Nat.add_mul, Nat.one_mul]
  have hro3 : roomy (n + 1) by_ = true := roomy_of hro2 hro
  have hlaid : ∀ K' : Hp, (∀ b, lo ≤ b → b < hi → K'.h b = K.h b) → (∀ b, m ≤ b → b < mid → K'.h b = K.h b) → Laid K' lo mid (ts ++ tm) (zs ++ zm) := fun K' q1 q2 =>
    Laid.app ((a1.keep q1).high (by omega)) (hr.keep q2)
  simp only [aappend, h1, h2, h3, Option.bind_some, happ]
  rw [if_neg (by omega), if_neg (by omega)]
  rcases a5 with ⟨rfl, e⟩ | ⟨b, b1, b2, rfl, b3⟩
  · have e0 : zs = [] := List.length_eq_zero_iff.1 (by simpa using a2)
    subst e0
    have hfin : ∀ K' : Hp, K' = K.new zm → K'.g = K.g + 1 ∧ LAcc K' (.sl K.g z.length 0 (0 + 1)) z.length lo mid (K.g + 1) (ts ++ tm) (0 + 1) ∧ (∀ b, b < lo → K'.h b = K.h b) ∧ (∀ b, g ≤ b → b < K.g → K'.h b = K.h b) := by
      rintro K' rfl
      refine ⟨rfl, ⟨zm, ?_, by simpa using hlen, by omega, Nat.le_refl _, .inr ⟨K.g, hm2, by omega, rfl, by simp [Hp.new_h]⟩⟩, fun b hb => by rw [Hp.new_h, if_neg (by omega)], fun b _ hb => by rw [Hp.new_h, if_neg (by omega)]⟩
      exact hlaid (K.new zm) (fun b _ hb => by rw [Hp.new_h, if_neg (by omega)]) (fun b _ hb => by rw [Hp.new_h, if_neg (by omega)])
    rcases e with rfl | rfl
    · refine ⟨K.new zm, ?_, hfin _ rfl⟩
      (try dsimp only)
      rw [if_pos ⟨by simp, by simpa using hro3⟩]
      rfl
    · refine ⟨K.new zm, ?_, hfin _ rfl⟩
      (try dsimp only)
      rw [if_pos (by simpa using hro3)]
      rfl
  · (try dsimp only)
    rw [if_pos ⟨rfl, hro3⟩, b3]
    simp only [Option.bind_some, Nat.zero_add]
    have h5 : n * z.length ≤ zs.length := by omega
    have h6 : ¬ (n + 1) * z.length ≤ zs.length := by rw [a2, Nat.add_mul, Nat.one_mul]; omega
    rw [if_pos h5, if_neg h6]
    simp only [List.drop_zero, ← a2, List.take_length]
    refine ⟨_, rfl, rfl, ⟨zs ++ zm, ?_, hlen, by omega, Nat.le_refl _, .inr ⟨K.g, hm2, by omega, rfl, by simp [Hp.new_h]⟩⟩, fun b' hb => ?_, fun b' hb hb' => ?_⟩
    · exact hlaid _ (fun b' _ hb => by rw [Hp.new_h, Hp.del_g, if_neg (by omega), Hp.del_h, if_neg (by omega)]) (fun b' hb hb' => by rw [Hp.new_h, Hp.del_g, if_neg (by omega), Hp.del_h, if_neg (by omega)])
    · rw [Hp.new_h, Hp.del_g, if_neg (by omega), Hp.del_h, if_neg (by omega)]
    · rw [Hp.new_h, Hp.del_g, if_neg (by omega), Hp.del_h, if_neg (by omega)]
/-- What such a list reads as. -/
theorem LAcc.gives {d k : Nat} {rows : List (List AV)} (h : LAcc H x sz lo hi g ts n) (ht : ts = rows.flatten) (hk : k ≤ d) (hn : n = rows.length) (hsz : 0 < sz) (hs : ∀ c ∈ rows, c.length = sz) (hg : ∀ c ∈ rows, ∀ t ∈ c, MatG k t) : GivesF (d + 1) (.lst false rows) x H := by
  subst ht
  obtain ⟨zs, a1, a2, a3, a4, a5⟩ := h
  rcases a5 with ⟨h0, e⟩ | ⟨b, b1, b2, rfl, b3⟩
  · have e0 : rows = [] := List.length_eq_zero_iff.1 (by omega)
    subst e0
    rcases e with rfl | rfl
    · exact gF_lstT _ _
    · exact gF_nil _ _
  · exact gF_rows a1 b3 (.inr b1) hk hn hsz hs hg
/-- At a region: a walk can stop here. -/
theorem wAt {P : Program} {cfg : Cfg} {fid : Nat} (n : Nat) {ops : Array Oper} {d : Bool} {b : Code} {s : St} {Q : AX → St → Prop} (h : Wp P cfg fid (.seq (.region n ops d) b) s Q) : Wp P cfg fid (.seq (.region n ops d) b) s Q := h
/-- Only what R tells of the slots is wanted from here on. -/
theorem wEnv {P : Program} {cfg : Cfg} {fid : Nat} {c : Code} {e : Env} {H : Hp} {Q : AX → St → Prop} (R : Env → Prop) (hR : R e) (h : ∀ e2, R e2 → Wp P cfg fid c (e2, H) Q) : Wp P cfg fid c (e, H) Q := h e hR
/-- What comes behind, as a name: goals stay small. -/
theorem wGen {P : Program} {cfg : Cfg} {fid : Nat} {c : Code} {s : St} {Q0 : AX → St → Prop} (h : ∀ Q : AX → St → Prop, Q0 = Q → Wp P cfg fid c s Q) : Wp P cfg fid c s Q0 := h _ rfl
end Go.Proofs.YtepnlhjafgomgaaDoor.Eng
