/- The engine, part 24: contracts of functions on values that are only read; closers; loops along lists. The engine, part 25: functions whose laws are shown by cases on a bare argument: copies of slices that tell nil. The engine, part 26: pointers as arguments; lists that are being gathered. The engine, part 27: bytes as texts. The engine, part 28: bytes.IndexByte, by a law from elsewhere. The engine, part 29: in which own blocks a value lies. -/
import Derived.Test.YtnejoidfbgklbaaGreatDoorEP
import Derived.Lib.Bytealg
import Derived.Lib.Bytes
namespace Go.Proofs.YtnejoidfbgklbaaGreatDoor.Eng
open Go Go.RowKit
set_option linter.unusedSimpArgs false
set_option linter.unusedVariables false

section
variable {P : Program} {cfg : Cfg}
theorem any_refs {as : List AV} {n : Nat} (h : ∀ x ∈ as, Fz n x) : as.any (hasRefs n) = false := by
  rw [List.any_eq_false]; intro x hx; simp [(h x hx).2]
theorem call_fz {f : Nat} {fn : Func} (hf : P.funcs[f]? = some fn) (hq : cfg.prim f = none) (ho : fnOk P cfg f fn = true) (hr : cfg.raw f = false) {as : List AV} {v : AV} {cl : Bool} (hz : ∀ x ∈ as, Fz depthD x)
    (h : pure P cfg f fn as = some (v, cl)) (H : Hp) : call P cfg 0 f as H = some (v, H) :=
  call_of hf hq ho hr (by omega) (mapM_self fun x hx => (hz x hx).1 H) h (.inr (any_refs hz))
end
theorem fz_cons {n : Nat} {a : AV} {l : List AV} : (∀ x ∈ a :: l, Fz n x) ↔ Fz n a ∧ ∀ x ∈ l, Fz n x := by simp
theorem fz_nil {n : Nat} : (∀ x ∈ ([] : List AV), Fz n x) ↔ True := by simp
theorem fz_int (k : IntKind) (z : Int) : Fz depthD (.v (.int k z)) := Fz.int _ _ _
theorem fz_bool (b : Bool) : Fz depthD (.v (.bool b)) := Fz.bool _ _
theorem fz_string (b : ByteArray) : Fz depthD (.v (.string b)) := Fz.string _ _
theorem fz_bytes (l : List Int) : Fz depthD (bytesL l) := bytesL_fz 10 l
theorem fz_i64s (l : List Int) : Fz depthD (i64L l) := i64L_fz 10 l
def textsL (l : List ByteArray) : AV := .lst false (l.map fun s => [.v (.string s)])
theorem textsL_fz (n : Nat) (l : List ByteArray) : Fz (n + 2) (textsL l) := Fz.lst fun c hc x hx => by
  obtain ⟨z, -, rfl⟩ := List.mem_map.1 hc
  simp at hx; subst hx; exact Fz.string _ _
theorem fz_texts (l : List ByteArray) : Fz depthD (textsL l) := textsL_fz 10 l
theorem fz_fn (f : Nat) : Fz depthD (.fn f []) := ⟨fun _ => rfl, rfl⟩
theorem lenD_texts (e : TypeId) (l : List ByteArray) : lenD (some (.slice e)) (textsL l) = some (.v (.int .i64 l.length)) := by simp [lenD, textsL]
theorem asCells_texts (l : List ByteArray) : asCells (textsL l) = some [textsL l] := rfl
theorem okc_texts (l : List ByteArray) : okc (textsL l) = true := rfl
attribute [go_sem] lenD_texts asCells_texts okc_texts

attribute [go_sem] fz_int fz_bool fz_string fz_bytes fz_i64s fz_texts fz_fn Nat.add_zero Nat.zero_add Nat.mul_one decide_true decide_false aresults aresult
theorem gives_intv {k : IntKind} {z z' : Int} {H : Hp} (h : z' = z) : Gives (.v (.int k z)) true (.v (.int k z')) H := by subst h; exact ⟨rfl, rfl⟩
theorem gives_boolv {b b' : Bool} {H : Hp} (h : b' = b) : Gives (.v (.bool b)) true (.v (.bool b')) H := by subst h; exact ⟨rfl, rfl⟩
theorem bool_eq {a b : Bool} (h : a = true ↔ b = true) : a = b := by cases a <;> cases b <;> simp_all

theorem at_drop {α : Type} {l : List α} {j : Nat} (h : j < l.length) : ∃ x, l[j]? = some x ∧ l.drop j = x :: l.drop (j + 1) ∧ x ∈ l :=
  ⟨l[j], by simp [h], List.drop_eq_getElem_cons h, List.getElem_mem h⟩
theorem map_at {α β : Type} {l : List α} {f : α → β} {j : Nat} {x : α} (h : l[j]? = some x) : (l.map f)[j]? = some (f x) := by rw [List.getElem?_map, h]; rfl
theorem at_take {α : Type} {l : List α} {j : Nat} {x : α} (h : l[j]? = some x) : l.take (j + 1) = l.take j ++ [x] := by
  have hj := lt_of_get h
  rw [List.take_succ_eq_append_getElem hj]
  rw [List.getElem?_eq_getElem hj] at h
  simp only [Option.some.injEq] at h; rw [h]
def inB (a lo hi : Int) : Bool := decide (lo ≤ a) && decide (a ≤ hi)
theorem inB_t {a lo hi : Int} : inB a lo hi = true ↔ lo ≤ a ∧ a ≤ hi := by simp [inB]
theorem inB_f {a lo hi : Int} : inB a lo hi = false ↔ ¬ (lo ≤ a ∧ a ≤ hi) := by rw [← inB_t]; simp
theorem g_ne1 (n : Nat) : (n = n + 1) = False := by simp
theorem g_ne2 (n : Nat) : (n + 1 = n) = False := by simp
theorem g_ne3 (n : Nat) : (n = n + 1 + 1) = False := by simp; omega
theorem g_ne4 (n : Nat) : (n + 1 + 1 = n) = False := by simp; omega
theorem g_ne5 (n : Nat) : (0 = n + 1) = False := by simp
attribute [go_sem] g_ne1 g_ne2 g_ne3 g_ne4 g_ne5
theorem fz_rows {α : Type} {enc : α → List AV} {n : Nat} (h : ∀ k, ∀ x ∈ enc k, Fz n x) (l : List α) : Fz (n + 1) (.lst false (l.map enc)) := Fz.lst fun c hc x hx => by
  obtain ⟨k, -, rfl⟩ := List.mem_map.1 hc
  exact h k x hx
/-- Normal forms of what branches tell, all in one. -/
theorem bbs : (∀ b : Bool, ((!b) = true) = (b = false)) ∧ (∀ b : Bool, ((!b) = false) = (b = true)) ∧ (∀ a b : Bool, ((a && b) = true) = (a = true ∧ b = true)) ∧ (∀ a b : Bool, ((a && b) = false) = (a = false ∨ b = false)) ∧ (∀ a b : Bool, ((a || b) = true) = (a = true ∨ b = true)) ∧ (∀ a b : Bool, ((a || b) = false) = (a = false ∧ b = false)) ∧ (∀ (p : Prop) [Decidable p], (decide p = true) = p) ∧ (∀ (p : Prop) [Decidable p], (decide p = false) = ¬ p) ∧ (!true) = false ∧ (!false) = true ∧ (true = false) = False ∧ (false = true) = False ∧ (∀ p : Prop, (¬ ¬ p) = p) ∧ (∀ a b c : Int, (inB a b c = true) = (b ≤ a ∧ a ≤ c)) ∧ (∀ a b c : Int, (inB a b c = false) = ¬ (b ≤ a ∧ a ≤ c)) ∧ (∀ (α : Type) [BEq α] [LawfulBEq α] (a b : α), ((a == b) = true) = (a = b)) ∧ (∀ (α : Type) [BEq α] [LawfulBEq α] (a b : α), ((a != b) = true) = ¬ (a = b)) ∧ (∀ (α : Type) (a b : α), (a ≠ b) = ¬ (a = b)) :=
  ⟨fun b => by cases b <;> simp, fun b => by cases b <;> simp, fun a b => by cases a <;> cases b <;> simp, fun a b => by cases a <;> cases b <;> simp, fun a b => by cases a <;> cases b <;> simp, fun a b => by cases a <;> cases b <;> simp, fun p _ => by simp, fun p _ => by simp, rfl, rfl, by simp, by simp, fun p => by simp, fun a b c => propext inB_t, fun a b c => propext inB_f, fun α _ _ a b => propext beq_iff_eq, fun α _ _ a b => propext bne_iff_ne, fun α a b => rfl⟩
end Go.Proofs.YtnejoidfbgklbaaGreatDoor.Eng
namespace Go.Proofs.YtnejoidfbgklbaaGreatDoor.Eng
open Go Go.RowKit
set_option linter.unusedSimpArgs false
set_option linter.unusedVariables false

section
variable {P : Program} {F : Nat → Nat → Prop} {w : World}
end
end Go.Proofs.YtnejoidfbgklbaaGreatDoor.Eng
namespace Go.Proofs.YtnejoidfbgklbaaGreatDoor.Eng
open Go Go.RowKit
set_option linter.unusedSimpArgs false
set_option linter.unusedVariables false

theorem Fz.fp {n : Nat} {cs : List AV} {o : Nat} (h : ∀ x ∈ cs, Fz n x) : Fz (n + 1) (.fp cs o) := by
  constructor
  · intro H
    simp only [deep]
    rw [mapM_self fun x hx => (h x hx).1 H]; rfl
  · simp only [hasRefs]
    rw [List.any_eq_false]; intro x hx
    simp [(h x hx).2]
theorem mapM_n {f : AV → Option AV} : ([] : List AV).mapM f = some [] := rfl
theorem mapM_c {f : AV → Option AV} {a t : AV} {as ts : List AV} (h : f a = some t) (h' : as.mapM f = some ts) : (a :: as).mapM f = some (t :: ts) := by
  simp only [List.mapM_cons, h, h', Option.bind_eq_bind, Option.bind_some, Option.pure_def]
noncomputable def call' := @call
theorem call_if {P : Program} {cfg : Cfg} {f : Nat} {fn : Func} (hf : P.funcs[f]? = some fn) (hq : cfg.prim f = none) (ho : fnOk P cfg f fn = true) (hr : cfg.raw f = false) {C : Prop} {H : Hp} {as ts : List AV} {v : AV}
    (hd : C → as.mapM (deep H depthD) = some ts) (h : pure P cfg f fn ts = some (v, true)) [Decidable C] : call P cfg 0 f as H = if C then some (v, H) else call' P cfg 0 f as H := by
  split
  · rename_i hc; exact call_of hf hq ho hr (by omega) (hd hc) h (.inl rfl)
  · rfl

theorem bs_agg (z cs : List AV) : bs 1 z [(0, .agg cs)] = if cs.length = z.length ∧ z.length ≤ 16777216 then some (cs, z.length) else bs' 1 z [(0, .agg cs)] := by
  split
  · rename_i h
    have e1 : zeros 1 z = z := by simp [zeros]
    have e2 : setAll z 0 cs = cs := by
      have := setAll_mid cs [] z [] h.1
      simpa using this
    simp [bs, afill, e1, asCells, h.1, e2, h.2]
  · rfl
theorem lit_row (H : Hp) (cs : List AV) (sz : Nat) : litO H 0 1 (some (cs, sz)) = if cs.all okc = true ∧ cs.length = sz ∧ ¬ sz = 0 then some (.lst true [cs], H) else litO' H 0 1 (some (cs, sz)) := by
  split
  · rename_i h
    have e1 : chunk sz 1 cs = [cs] := by simp [chunk, ← h.2.1]
    simp [litO, h.1, h.2.2, e1]
  · rfl
attribute [go_sem] bs_agg lit_row
/-- Nothing of what there was has changed. -/
def Ext (H H' : Hp) : Prop := H.g ≤ H'.g ∧ ∀ b, b < H.g → H'.h b = H.h b
theorem Ext.refl (H : Hp) : Ext H H := ⟨Nat.le_refl _, fun _ _ => rfl⟩
theorem Ext.trans {H H' H2 : Hp} (h : Ext H H') (k : Ext H' H2) : Ext H H2 := ⟨Nat.le_trans h.1 k.1, fun b hb => (k.2 b (Nat.lt_of_lt_of_le hb h.1)).trans (h.2 b hb)⟩
theorem Ext.new {H0 H : Hp} (h : Ext H0 H) (cs : List AV) : Ext H0 (H.new cs) := ⟨by simp only [Hp.new_g]; exact Nat.le_succ_of_le h.1, fun b hb => by
  have := h.1
  rw [Hp.new_h, if_neg (by omega)]; exact h.2 b hb⟩
theorem Ext.set {H0 H : Hp} (h : Ext H0 H) {b : Nat} (hb : H0.g ≤ b) (cs : List AV) : Ext H0 (H.set b cs) := ⟨h.1, fun b' hb' => by rw [Hp.set_h, if_neg (by omega)]; exact h.2 b' hb'⟩
theorem Ext.del {H0 H : Hp} (h : Ext H0 H) {b : Nat} (hb : H0.g ≤ b) : Ext H0 (H.del b) := ⟨h.1, fun b' hb' => by rw [Hp.del_h, if_neg (by omega)]; exact h.2 b' hb'⟩
theorem Ext.at {H H' : Hp} (h : Ext H H') {b : Nat} {c : Option (List AV)} (hb : b < H.g) (hc : H.h b = c) : H'.h b = c := (h.2 b hb).trans hc

/-- A list that is being gathered: n elements of sz cells each. -/
def RAcc (H : Hp) (x : AV) (sz : Nat) (cs : List AV) (n : Nat) : Prop := cs.length = n * sz ∧ ((n = 0 ∧ (x = .lst true [] ∨ x = .v (.slice none 0 0))) ∨ ∃ b, b < H.g ∧ x = .sl b sz 0 n ∧ H.h b = some cs)
/-- The list does not lie in block b. -/
def Off (b : Nat) (x : AV) : Prop := ∀ sz o n, x ≠ .sl b sz o n
theorem off_nil {b : Nat} {y : Value} : Off b (.v y) := fun _ _ _ h => by cases h
theorem off_lst {b : Nat} {fu : Bool} {xs : List (List AV)} : Off b (.lst fu xs) := fun _ _ _ h => by cases h
theorem RAcc.nil {H : Hp} {sz : Nat} : RAcc H (.v (.slice none 0 0)) sz [] 0 := ⟨by simp, .inl ⟨rfl, .inr rfl⟩⟩
theorem RAcc.lst {H : Hp} {sz : Nat} : RAcc H (.lst true []) sz [] 0 := ⟨by simp, .inl ⟨rfl, .inl rfl⟩⟩
theorem RAcc.keep {H H' : Hp} {x : AV} {sz n : Nat} {cs : List AV} (h : RAcc H x sz cs n) (hg : H.g ≤ H'.g) (hk : ∀ b, b < H.g → ¬ Off b x → H'.h b = H.h b) : RAcc H' x sz cs n := by
  refine ⟨h.1, ?_⟩
  rcases h.2 with h | ⟨b, hb, rfl, hh⟩
  · exact .inl h
  · exact .inr ⟨b, Nat.lt_of_lt_of_le hb hg, rfl, (hk b hb fun h => h _ _ _ rfl).trans hh⟩
theorem RAcc.ext {H H' : Hp} {x : AV} {sz n : Nat} {cs : List AV} (h : RAcc H x sz cs n) (he : Ext H H') : RAcc H' x sz cs n := h.keep he.1 fun b hb _ => he.2 b hb
theorem RAcc.setOff {H : Hp} {x : AV} {sz n : Nat} {cs : List AV} (h : RAcc H x sz cs n) {b : Nat} (hb : Off b x) (ds : List AV) : RAcc (H.set b ds) x sz cs n := h.keep (Nat.le_refl _) fun b' _ ho => by
  rw [Hp.set_h]; split
  · rename_i e; subst e; exact absurd hb ho
  · rfl
theorem RAcc.one {H : Hp} {x : AV} {sz n : Nat} {cs : List AV} (h : RAcc H x sz cs n) : okc x = true ∧ asCells x = some [x] := by
  rcases h.2 with ⟨-, rfl | rfl⟩ | ⟨b, hb, rfl, hh⟩ <;> exact ⟨rfl, rfl⟩
theorem RAcc.len {H : Hp} {x : AV} {sz n : Nat} {cs : List AV} (h : RAcc H x sz cs n) (e : TypeId) : lenD (some (.slice e)) x = some (.v (.int .i64 n)) := by
  rcases h.2 with ⟨rfl, rfl | rfl⟩ | ⟨b, hb, rfl, hh⟩ <;> rfl

theorem app_rows {P : Program} {t xt el by_ sz : Nat} {z : List AV} {H : Hp} {x y : AV} {q : Option (AV × Hp)} (hq : aappend P H [t, xt] x y = q) (h1 : elemOf? P t = some el) (h2 : zeroOf P el = some z) (h3 : bytesOf P el = some by_) (h4 : intT P xt = some false) (hz : z.length = sz) (hsz : 0 < sz)
    {cs : List AV} {n : Nat} (ha : RAcc H x sz cs n) {m : Nat} {ys : List AV} (hy1 : alen y = some m) (hy2 : afirst H sz m y = some ys) (hm : ys.length = m * sz) (hr : (n + m) * by_ ≤ 70368744177664) (hr2 : n + m ≤ 70368744177664) :
    ∃ x' H', q = some (x', H') ∧ RAcc H' x' sz (cs ++ ys) (n + m) ∧ H.g ≤ H'.g ∧ (∀ b, b < H.g → Off b x → H'.h b = H.h b) ∧ (∀ b, b < H.g → Off b x → Off b x') := by
  subst hq
  subst hz
  have happ : aappended P H el z xt y = some (m, ys) := by
    simp only [aappended, h4, Option.bind_some, Bool.false_eq_true, if_false, hy1, hy2, Option.map_some]
  simp only [aappend, h1, h2, h3, Option.bind_some, happ]
  obtain ⟨hl, ha⟩ := ha
  have hlen : (cs ++ ys).length = (n + m) * z.length := by rw [List.length_append, hl, hm, Nat.add_mul]
  have hro : roomy (n + m) by_ = true := roomy_of hr2 hr
  by_cases hm0 : m = 0
  · rw [if_pos hm0]
    subst hm0
    have : ys = [] := List.length_eq_zero_iff.1 (by simpa using hm)
    subst this
    simp only [List.append_nil, Nat.add_zero] at hlen ⊢
    rcases ha with ⟨rfl, rfl | rfl⟩ | ⟨b, hb, rfl, hh⟩
    · exact ⟨_, _, rfl, ⟨hl, .inl ⟨rfl, .inl rfl⟩⟩, Nat.le_refl _, fun _ _ _ => rfl, fun _ _ h => h⟩
    · exact ⟨_, _, rfl, ⟨hl, .inl ⟨rfl, .inr rfl⟩⟩, Nat.le_refl _, fun _ _ _ => rfl, fun _ _ h => h⟩
    · exact ⟨_, _, if_pos ⟨hsz, by simp [hh]⟩, ⟨hl, .inr ⟨b, hb, rfl, hh⟩⟩, Nat.le_refl _, fun _ _ _ => rfl, fun _ _ h => h⟩
  · rw [if_neg hm0, if_neg (by omega)]
    have fresh : ∀ {b : Nat}, b < H.g → Off b (.sl H.g z.length 0 (n + m)) := fun hb _ _ _ h => by simp at h; omega
    rcases ha with ⟨rfl, rfl | rfl⟩ | ⟨b, hb, rfl, hh⟩
    · have hc : cs = [] := List.length_eq_zero_iff.1 (by simpa using hl)
      subst hc
      refine ⟨_, _, if_pos ⟨by simp, by simpa using hro⟩, ⟨by simpa using hlen, .inr ⟨H.g, by simp, by simp, by simp [Hp.new_h]⟩⟩, by simp, fun b hb _ => by simp [Hp.new_h, Nat.ne_of_lt hb], fun b hb _ => ?_⟩
      simpa using fresh hb
    · have hc : cs = [] := List.length_eq_zero_iff.1 (by simpa using hl)
      subst hc
      refine ⟨_, _, if_pos (by simpa using hro), ⟨by simpa using hlen, .inr ⟨H.g, by simp, by simp, by simp [Hp.new_h]⟩⟩, by simp, fun b hb _ => by simp [Hp.new_h, Nat.ne_of_lt hb], fun b hb _ => ?_⟩
      simpa using fresh hb
    · dsimp only
      rw [if_pos ⟨rfl, hro⟩, hh]
      simp only [Option.bind_some, Nat.zero_add]
      have h5 : n * z.length ≤ cs.length := by omega
      have h6 : ¬ (n + m) * z.length ≤ cs.length := by
        rw [hl, Nat.add_mul]
        have : 0 < m * z.length := Nat.mul_pos (by omega) hsz
        omega
      rw [if_pos h5, if_neg h6]
      refine ⟨_, _, rfl, ⟨hlen, .inr ⟨H.g, by simp, rfl, ?_⟩⟩, by simp, fun b' hb' hne => ?_, fun b' hb' _ => fresh hb'⟩
      · simp only [Hp.new_h, Hp.del_g, if_true, List.drop_zero, ← hl, List.take_length]
      · have : b' ≠ b := fun e => hne _ _ _ (by rw [e])
        simp [Hp.new_h, Hp.del_h, Nat.ne_of_lt hb', this]

theorem deep_racc {α : Type} {enc : α → List AV} {H : Hp} {x : AV} {sz n d : Nat} {l : List α} (h : RAcc H x sz ((l.map enc).flatten) n) (hn : n = l.length) (hsz : 0 < sz) (hl : ∀ k, (enc k).length = sz) (hz : ∀ k, ∀ x ∈ enc k, Fz d x) : deep H (d + 1) x = some (.lst false (l.map enc)) := by
  subst hn
  rcases h.2 with ⟨h0, h⟩ | ⟨b, hb, rfl, hh⟩
  · have hl0 : l = [] := List.length_eq_zero_iff.1 h0
    rw [hl0]
    rcases h with h | h <;> rw [h] <;> rfl
  · refine deep_sl hh hsz (fun c hc => ?_) (by simp) (fun c hc x hx => ?_)
    · obtain ⟨k, -, rfl⟩ := List.mem_map.1 hc; exact hl k
    · obtain ⟨k, -, rfl⟩ := List.mem_map.1 hc; exact (hz k x hx).1 H
theorem alen_bytes (l : List Int) : alen (bytesL l) = some l.length := by simp [alen, bytesL]
theorem alen_i64s (l : List Int) : alen (i64L l) = some l.length := by simp [alen, i64L]
theorem alen_lst (fu : Bool) (xs : List (List AV)) : alen (.lst fu xs) = some xs.length := rfl
theorem afirst_lst {H : Hp} {fu : Bool} {xs : List (List AV)} {sz n : Nat} (h : ∀ c ∈ xs, c.length = sz) (hn : n = xs.length) : afirst H sz n (.lst fu xs) = some xs.flatten := by
  subst hn
  have h1 : xs.all (fun c => decide (c.length = sz)) = true := by simpa using h
  simp only [afirst, List.take_length, h1, Nat.le_refl, and_self, if_true]
theorem afirst_bytes (H : Hp) (l : List Int) : afirst H 1 l.length (bytesL l) = some (l.map cell) := by
  rw [← cells_flat]; exact afirst_lst (fun c hc => by obtain ⟨z, -, rfl⟩ := List.mem_map.1 hc; rfl) (by simp)
theorem afirst_one (H : Hp) (fu : Bool) (c : List AV) : afirst H c.length 1 (.lst fu [c]) = some c := by
  rw [afirst_lst (n := 1) (sz := c.length) (xs := [c]) (by simp) rfl]; simp
theorem nilCmp_bytes (a : Int) (l : List Int) (n c : Nat) : nilCmp 1 (bytesL (a :: l)) (.v (.slice none n c)) = some false := rfl
attribute [go_sem] alen_bytes alen_i64s nilCmp_bytes
theorem RAcc.newOf {H0 H : Hp} {x : AV} {sz n : Nat} {cs : List AV} (h : RAcc H x sz cs n) (ho : ∀ b, b < H0.g → Off b x) : RAcc (newOf H0 H) x sz cs n := by
  refine ⟨h.1, ?_⟩
  rcases h.2 with h | ⟨b, hb, rfl, hh⟩
  · exact .inl h
  · refine .inr ⟨b, hb, rfl, ?_⟩
    simp only [Eng.newOf]
    rw [if_neg fun hlt => ho b hlt _ _ _ rfl]; exact hh
theorem deep_aggL {H : Hp} {n : Nat} {cs ds : List AV} (h : cs.mapM (deep H n) = some ds) : deep H (n + 1) (.agg cs) = some (.agg ds) := by simp only [deep, h]; rfl
theorem fz_fpi (k : IntKind) (z : Int) (o : Nat) : Fz depthD (.fp [.v (.int k z)] o) := Fz.fp (n := 11) fun y hy => by simp only [List.mem_singleton] at hy; subst hy; exact Fz.int _ _ _
attribute [go_sem] fz_fpi
theorem dirty {H : Hp} {x v' : AV} (h : deep H depthD x = some v') : ∃ v cl, v = v' ∧ Gives v cl x H := ⟨_, _, rfl, h, rfl⟩
theorem fz_deep {x : AV} (h : Fz depthD x) (H : Hp) : deep H depthD x = some x := h.1 H
/-- Stands for y, read deep. -/
def Dz (n : Nat) (x y : AV) : Prop := (∀ H, deep H n x = some y) ∧ hasRefs n x = false
def Dzs (n : Nat) (xs ys : List AV) : Prop := (∀ H, xs.mapM (deep H n) = some ys) ∧ xs.any (hasRefs n) = false
theorem Fz.dz {n : Nat} {x : AV} (h : Fz n x) : Dz n x x := h
theorem Dzs.nil {n : Nat} : Dzs n [] [] := ⟨fun _ => rfl, rfl⟩
theorem Dzs.cons {n : Nat} {x y : AV} {xs ys : List AV} (h : Dz n x y) (h' : Dzs n xs ys) : Dzs n (x :: xs) (y :: ys) := ⟨fun H => mapM_c (h.1 H) (h'.1 H), by simp [h.2, h'.2]⟩
theorem Dz.agg {n : Nat} {xs ys : List AV} (h : Dzs n xs ys) : Dz (n + 1) (.agg xs) (.agg ys) := ⟨fun H => deep_aggL (h.1 H), by simp only [hasRefs]; exact h.2⟩
theorem Dz.lst {n : Nat} {fu : Bool} {xs : List (List AV)} (h : ∀ c ∈ xs, ∀ x ∈ c, Fz n x) : Dz (n + 1) (.lst fu xs) (.lst false xs) := by
  constructor
  · intro H
    simp only [deep]
    rw [mapM_self2 fun c hc => mapM_self fun x hx => (h c hc x hx).1 H]; rfl
  · simp only [hasRefs]
    rw [List.any_eq_false]; intro c hc
    simp only [Bool.not_eq_true]
    rw [List.any_eq_false]; intro x hx
    simp [(h c hc x hx).2]
theorem call_dz {P : Program} {cfg : Cfg} {f : Nat} {fn : Func} (hf : P.funcs[f]? = some fn) (hq : cfg.prim f = none) (ho : fnOk P cfg f fn = true) (hr : cfg.raw f = false) {as ts : List AV} {v : AV} {cl : Bool} (hz : Dzs depthD as ts)
    (h : pure P cfg f fn ts = some (v, cl)) (H : Hp) : call P cfg 0 f as H = some (v, H) :=
  call_of hf hq ho hr (by omega) (hz.1 H) h (.inr hz.2)
theorem flat_snoc {α : Type} (enc : α → List AV) (l : List α) (k : α) : ((l ++ [k]).map enc).flatten = (l.map enc).flatten ++ enc k := by simp
end Go.Proofs.YtnejoidfbgklbaaGreatDoor.Eng
namespace Go.Proofs.YtnejoidfbgklbaaGreatDoor.Eng
open Go Go.RowKit
set_option linter.unusedSimpArgs false
set_option linter.unusedVariables false

theorem conv_bytesL {P : Program} {t st el : TypeId} (h1 : P.underlying t = some (.slice el)) (h2 : P.underlying st = some .string) (h3 : P.underlying el = some (.int .u8)) (H : Hp) (l : List Int) : aconv P H t st (bytesL l) = some (.v (.string (strOf l))) := by
  have e : (l.map fun z => [cell z]).all (fun c => decide (c.length = 1)) = true := by simp
  simp only [aconv, h1, h2, h3, bytesL, e, if_true, cells_flat, bytesIn_cells, Option.map_some, strOf]
theorem strOf_inj {a b : List Int} (ha : Bytes a) (hb : Bytes b) (h : strOf a = strOf b) : a = b := by
  have h1 : (a.map fun z => UInt8.ofNat z.toNat) = b.map fun z => UInt8.ofNat z.toNat := by
    have := congrArg (fun s : ByteArray => s.data.toList) h
    simpa [strOf] using this
  clear h
  induction a generalizing b with
  | nil => cases b with
    | nil => rfl
    | cons _ _ => simp at h1
  | cons x a ih =>
    cases b with
    | nil => simp at h1
    | cons y b =>
      simp only [List.map_cons, List.cons.injEq] at h1
      have hx := ha x (by simp)
      have hy := hb y (by simp)
      have e : x = y := by
        have := congrArg UInt8.toNat h1.1
        simp at this
        omega
      rw [e, ih (fun z hz => ha z (by simp [hz])) (fun z hz => hb z (by simp [hz])) h1.2]
theorem strOf_eq {a b : List Int} (ha : Bytes a) (hb : Bytes b) : ((strOf a).toList == (strOf b).toList) = decide (a = b) := by
  apply bool_eq
  simp only [beq_iff_eq, decide_eq_true_eq]
  constructor
  · intro h
    refine strOf_inj ha hb ?_
    have e : ∀ s : ByteArray, s.toList = s.data.toList := fun s => by
      simp [ByteArray.toList_eq]
    rw [e, e] at h
    cases hs : strOf a; cases ht : strOf b
    rw [hs, ht] at h
    simp at h
    rw [h]
  · intro h; rw [h]
end Go.Proofs.YtnejoidfbgklbaaGreatDoor.Eng
namespace Go.Proofs.YtnejoidfbgklbaaGreatDoor.Eng
open Go Go.RowKit
set_option linter.unusedSimpArgs false
set_option linter.unusedVariables false

section
variable {P : Program} {F : Nat → Nat → Prop} {w : World}
end
end Go.Proofs.YtnejoidfbgklbaaGreatDoor.Eng
namespace Go.Proofs.YtnejoidfbgklbaaGreatDoor.Eng
open Go
set_option linter.unusedSimpArgs false
set_option linter.unusedVariables false

section
variable {H : Hp} {d : Nat}
theorem fpts_0 : ∀ cs : List AV, (∀ c ∈ cs, fpt H d c = some []) → ∃ fps, cs.mapM (fpt H d) = some fps ∧ fps.flatten = [] := by
  intro cs
  induction cs with
  | nil => intro _; exact ⟨[], rfl, rfl⟩
  | cons c cs ih =>
    intro h
    obtain ⟨fps, h1, h2⟩ := ih fun x hx => h x (by simp [hx])
    exact ⟨[] :: fps, mapM_cons_some.2 ⟨_, _, h c (by simp), h1, rfl⟩, by simpa using h2⟩
/-- A slice of plain cells lies in its own block alone. -/
theorem fpt_flat {b sz o n : Nat} {cs : List AV} (hb : H.h b = some cs) (h : ∀ c ∈ cs, fpt H d c = some []) : ∃ fp, fpt H (d + 1) (.sl b sz o n) = some fp ∧ fp.Nodup ∧ ∀ x ∈ fp, x = b := by
  obtain ⟨fps, h1, h2⟩ := fpts_0 (H := H) (d := d) ((cs.drop o).take (n * sz)) fun x hx => h x (List.mem_of_mem_drop (List.mem_of_mem_take hx))
  simp only [fpt, hb, Option.bind_some, h1, Option.map_some, h2]
  split
  · exact ⟨[], rfl, List.nodup_nil, by simp⟩
  · exact ⟨[b], rfl, by simp, by simp⟩
def Own1 (H : Hp) (x : AV) : Prop := ∃ fp, fpt H depthD x = some fp ∧ fp.Nodup
end

theorem deep_ptrD {n : Nat} {H : Hp} {b o : Nat} {cs ds : List AV} (hb : H.h b = some cs) (h : cs.mapM (deep H n) = some ds) : deep H (n + 1) (.ptr b o) = some (.fp ds o) := by
  simp only [deep, hb, Option.bind_some, h]; rfl
theorem dz_nil {n : Nat} : Dz (n + 1) (.v (.slice none 0 0)) (bytesL []) := ⟨fun _ => rfl, rfl⟩

section
variable {P : Program} {cfg : Cfg} {fid : Nat}
/-- What a body gives: a value, whether it is clean, and all of it in own blocks. -/
def GivesO (v : AV) (x : AV) (H : Hp) : Prop := Gives v true x H ∧ Own1 H x
theorem both_wp {fn : Func} {c : Code} {rs : List ResultVar} (hb : fn.body = some c) (hrs : fn.results.toList = rs) {as : List AV} {v : AV} (h : Wp P cfg fid c (envOf as, Hp.nil) (Ends P rs (GivesO v))) : pure P cfg fid fn as = some (v, true) ∧ owned P cfg fid fn as = some v := by
  obtain ⟨r, h1, ⟨h2, h3⟩, fp, h4, h5⟩ := body_wp hb hrs h
  refine ⟨?_, ?_⟩
  · unfold pure; rw [h1]
    simp only [Option.bind_some, h2, h3, Option.map_some]
  · unfold owned; rw [h1]
    simp only [Option.bind_some, h4, h5, if_true, h2]
/-- A call whose result lies in own blocks, and what it gives there. -/
theorem call_ofO {f : Nat} {fn : Func} (hf : P.funcs[f]? = some fn) (hq : cfg.prim f = none) (ho : fnOk P cfg f fn = true) (hr : cfg.raw f = false) {as ts : List AV} {H : Hp} {v : AV} (hd : as.mapM (deep H depthD) = some ts) (hc : owned P cfg f fn ts = some v) :
    call P cfg 1 f as H = mat depthD v H := by
  rw [call_own P cfg hf hq ho hr, hd]
  simp only [Option.bind_some, hc]
end
end Go.Proofs.YtnejoidfbgklbaaGreatDoor.Eng
