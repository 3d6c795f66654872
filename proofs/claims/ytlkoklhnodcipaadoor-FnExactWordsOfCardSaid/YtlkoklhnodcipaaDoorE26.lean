/- The engine, part 26: pointers as arguments; lists that are being gathered. -/
import Derived.Test.YtlkoklhnodcipaaDoorE25
namespace Go.Proofs.YtlkoklhnodcipaaDoor.Eng
open Go Go.RowKit
set_option linter.unusedSimpArgs false
set_option linter.unusedVariables false

theorem Fz.fp {n : Nat} {cs : List AV} {o : Nat} (h : ∀ x ∈ cs, Fz n x) : Fz (n + 1) (.fp cs o) := by
  constructor
  · intro H
    simp only [deep]
    rw [mapM_self fun x hx => (h x hx).1 H]; rfl
  · simp only [hasRefs]
    rw [List.any_eq_false]; intro x hx
    simp [(h x hx).2]
theorem deep_ptr' {n : Nat} {H : Hp} {b o : Nat} {cs : List AV} (hb : H.h b = some cs) (h : ∀ x ∈ cs, Fz n x) : deep H (n + 1) (.ptr b o) = some (.fp cs o) := by
  simp only [deep, hb, Option.bind_some]
  rw [mapM_self fun x hx => (h x hx).1 H]; rfl
theorem deep_ptr {H : Hp} {b o : Nat} {cs : List AV} (hb : H.h b = some cs) (h : ∀ x ∈ cs, Fz 11 x) : deep H depthD (.ptr b o) = some (.fp cs o) := deep_ptr' (n := 11) hb h
theorem mapM_n {f : AV → Option AV} : ([] : List AV).mapM f = some [] := rfl
theorem mapM_c {f : AV → Option AV} {a t : AV} {as ts : List AV} (h : f a = some t) (h' : as.mapM f = some ts) : (a :: as).mapM f = some (t :: ts) := by
  simp only [List.mapM_cons, h, h', Option.bind_eq_bind, Option.bind_some, Option.pure_def]
noncomputable def call' := @call
theorem call_if {P : Program} {cfg : Cfg} {f : Nat} {fn : Func} (hf : P.funcs[f]? = some fn) (hq : cfg.prim f = none) (ho : fnOk P cfg f fn = true) (hr : cfg.raw f = false) {C : Prop} {H : Hp} {as ts : List AV} {v : AV}
    (hd : C → as.mapM (deep H depthD) = some ts) (h : pure P cfg f fn ts = some (v, true)) [Decidable C] : call P cfg 0 f as H = if C then some (v, H) else call' P cfg 0 f as H := by
  split
  · rename_i hc; exact call_of hf hq ho hr (by omega) (hd hc) h (.inl rfl)
  · rfl

theorem bs_agg (z cs : List AV) : bs 1 z [(0, .agg cs)] = if cs.length = z.length ∧ z.length ≤ 16777216 then some (cs, z.length) else bs' 1 z [(0, .agg cs)] := by
  split
  · rename_i h
    have e1 : zeros 1 z = z := by simp [zeros]
    have e2 : setAll z 0 cs = cs := by
      have := setAll_mid cs [] z [] h.1
      simpa using this
    simp [bs, afill, e1, asCells, h.1, e2, h.2]
  · rfl
theorem lit_row (H : Hp) (cs : List AV) (sz : Nat) : litO H 0 1 (some (cs, sz)) = if cs.all okc = true ∧ cs.length = sz ∧ ¬ sz = 0 then some (.lst true [cs], H) else litO' H 0 1 (some (cs, sz)) := by
  split
  · rename_i h
    have e1 : chunk sz 1 cs = [cs] := by simp [chunk, ← h.2.1]
    simp [litO, h.1, h.2.2, e1]
  · rfl
attribute [go_sem] bs_agg lit_row
/-- Nothing of what there was has changed. -/
def Ext (H H' : Hp) : Prop := H.g ≤ H'.g ∧ ∀ b, b < H.g → H'.h b = H.h b
theorem Ext.refl (H : Hp) : Ext H H := ⟨Nat.le_refl _, fun _ _ => rfl⟩
theorem Ext.trans {H H' H2 : Hp} (h : Ext H H') (k : Ext H' H2) : Ext H H2 := ⟨Nat.le_trans h.1 k.1, fun b hb => (k.2 b (Nat.lt_of_lt_of_le hb h.1)).trans (h.2 b hb)⟩
theorem Ext.new {H0 H : Hp} (h : Ext H0 H) (cs : List AV) : Ext H0 (H.new cs) := ⟨by simp only [Hp.new_g]; exact Nat.le_succ_of_le h.1, fun b hb => by
  have := h.1
  rw [Hp.new_h, if_neg (by omega)]; exact h.2 b hb⟩
theorem Ext.set {H0 H : Hp} (h : Ext H0 H) {b : Nat} (hb : H0.g ≤ b) (cs : List AV) : Ext H0 (H.set b cs) := ⟨h.1, fun b' hb' => by rw [Hp.set_h, if_neg (by omega)]; exact h.2 b' hb'⟩
theorem Ext.del {H0 H : Hp} (h : Ext H0 H) {b : Nat} (hb : H0.g ≤ b) : Ext H0 (H.del b) := ⟨h.1, fun b' hb' => by rw [Hp.del_h, if_neg (by omega)]; exact h.2 b' hb'⟩
theorem Ext.at {H H' : Hp} (h : Ext H H') {b : Nat} {c : Option (List AV)} (hb : b < H.g) (hc : H.h b = c) : H'.h b = c := (h.2 b hb).trans hc

/-- A list that is being gathered: n elements of sz cells each. -/
def RAcc (H : Hp) (x : AV) (sz : Nat) (cs : List AV) (n : Nat) : Prop := cs.length = n * sz ∧ ((n = 0 ∧ (x = .lst true [] ∨ x = .v (.slice none 0 0))) ∨ ∃ b, b < H.g ∧ x = .sl b sz 0 n ∧ H.h b = some cs)
/-- The list does not lie in block b. -/
def Off (b : Nat) (x : AV) : Prop := ∀ sz o n, x ≠ .sl b sz o n
theorem off_nil {b : Nat} {y : Value} : Off b (.v y) := fun _ _ _ h => by cases h
theorem off_lst {b : Nat} {fu : Bool} {xs : List (List AV)} : Off b (.lst fu xs) := fun _ _ _ h => by cases h
theorem RAcc.nil {H : Hp} {sz : Nat} : RAcc H (.v (.slice none 0 0)) sz [] 0 := ⟨by simp, .inl ⟨rfl, .inr rfl⟩⟩
theorem RAcc.lst {H : Hp} {sz : Nat} : RAcc H (.lst true []) sz [] 0 := ⟨by simp, .inl ⟨rfl, .inl rfl⟩⟩
theorem RAcc.keep {H H' : Hp} {x : AV} {sz n : Nat} {cs : List AV} (h : RAcc H x sz cs n) (hg : H.g ≤ H'.g) (hk : ∀ b, b < H.g → ¬ Off b x → H'.h b = H.h b) : RAcc H' x sz cs n := by
  refine ⟨h.1, ?_⟩
  rcases h.2 with h | ⟨b, hb, rfl, hh⟩
  · exact .inl h
  · exact .inr ⟨b, Nat.lt_of_lt_of_le hb hg, rfl, (hk b hb fun h => h _ _ _ rfl).trans hh⟩
theorem RAcc.ext {H H' : Hp} {x : AV} {sz n : Nat} {cs : List AV} (h : RAcc H x sz cs n) (he : Ext H H') : RAcc H' x sz cs n := h.keep he.1 fun b hb _ => he.2 b hb
theorem RAcc.setOff {H : Hp} {x : AV} {sz n : Nat} {cs : List AV} (h : RAcc H x sz cs n) {b : Nat} (hb : Off b x) (ds : List AV) : RAcc (H.set b ds) x sz cs n := h.keep (Nat.le_refl _) fun b' _ ho => by
  rw [Hp.set_h]; split
  · rename_i e; subst e; exact absurd hb ho
  · rfl
theorem RAcc.one {H : Hp} {x : AV} {sz n : Nat} {cs : List AV} (h : RAcc H x sz cs n) : okc x = true ∧ asCells x = some [x] := by
  rcases h.2 with ⟨-, rfl | rfl⟩ | ⟨b, hb, rfl, hh⟩ <;> exact ⟨rfl, rfl⟩
theorem RAcc.len {H : Hp} {x : AV} {sz n : Nat} {cs : List AV} (h : RAcc H x sz cs n) (e : TypeId) : lenD (some (.slice e)) x = some (.v (.int .i64 n)) := by
  rcases h.2 with ⟨rfl, rfl | rfl⟩ | ⟨b, hb, rfl, hh⟩ <;> rfl

theorem app_rows {P : Program} {t xt el by_ sz : Nat} {z : List AV} {H : Hp} {x y : AV} {q : Option (AV × Hp)} (hq : aappend P H [t, xt] x y = q) (h1 : elemOf? P t = some el) (h2 : zeroOf P el = some z) (h3 : bytesOf P el = some by_) (h4 : intT P xt = some false) (hz : z.length = sz) (hsz : 0 < sz)
    {cs : List AV} {n : Nat} (ha : RAcc H x sz cs n) {m : Nat} {ys : List AV} (hy1 : alen y = some m) (hy2 : afirst H sz m y = some ys) (hm : ys.length = m * sz) (hr : (n + m) * by_ ≤ 70368744177664) (hr2 : n + m ≤ 70368744177664) :
    ∃ x' H', q = some (x', H') ∧ RAcc H' x' sz (cs ++ ys) (n + m) ∧ H.g ≤ H'.g ∧ (∀ b, b < H.g → Off b x → H'.h b = H.h b) ∧ (∀ b, b < H.g → Off b x → Off b x') := by
  subst hq
  subst hz
  have happ : aappended P H el z xt y = some (m, ys) := by
    simp only [aappended, h4, Option.bind_some, Bool.false_eq_true, if_false, hy1, hy2, Option.map_some]
  simp only [aappend, h1, h2, h3, Option.bind_some, happ]
  obtain ⟨hl, ha⟩ := ha
  have hlen : (cs ++ ys).length = (n + m) * z.length := by rw [List.length_append, hl, hm, Nat.add_mul]
  have hro : roomy (n + m) by_ = true := roomy_of hr2 hr
  by_cases hm0 : m = 0
  · rw [if_pos hm0]
    subst hm0
    have : ys = [] := List.length_eq_zero_iff.1 (by simpa using hm)
    subst this
    simp only [List.append_nil, Nat.add_zero] at hlen ⊢
    rcases ha with ⟨rfl, rfl | rfl⟩ | ⟨b, hb, rfl, hh⟩
    · exact ⟨_, _, rfl, ⟨hl, .inl ⟨rfl, .inl rfl⟩⟩, Nat.le_refl _, fun _ _ _ => rfl, fun _ _ h => h⟩
    · exact ⟨_, _, rfl, ⟨hl, .inl ⟨rfl, .inr rfl⟩⟩, Nat.le_refl _, fun _ _ _ => rfl, fun _ _ h => h⟩
    · exact ⟨_, _, if_pos ⟨hsz, by simp [hh]⟩, ⟨hl, .inr ⟨b, hb, rfl, hh⟩⟩, Nat.le_refl _, fun _ _ _ => rfl, fun _ _ h => h⟩
  · rw [if_neg hm0, if_neg (by omega)]
    have fresh : ∀ {b : Nat}, b < H.g → Off b (.sl H.g z.length 0 (n + m)) := fun hb _ _ _ h => by simp at h; omega
    rcases ha with ⟨rfl, rfl | rfl⟩ | ⟨b, hb, rfl, hh⟩
    · have hc : cs = [] := List.length_eq_zero_iff.1 (by simpa using hl)
      subst hc
      refine ⟨_, _, if_pos ⟨by simp, by simpa using hro⟩, ⟨by simpa using hlen, .inr ⟨H.g, by simp, by simp, by simp [Hp.new_h]⟩⟩, by simp, fun b hb _ => by simp [Hp.new_h, Nat.ne_of_lt hb], fun b hb _ => ?_⟩
      simpa using fresh hb
    · have hc : cs = [] := List.length_eq_zero_iff.1 (by simpa using hl)
      subst hc
      refine ⟨_, _, if_pos (by simpa using hro), ⟨by simpa using hlen, .inr ⟨H.g, by simp, by simp, by simp [Hp.new_h]⟩⟩, by simp, fun b hb _ => by simp [Hp.new_h, Nat.ne_of_lt hb], fun b hb _ => ?_⟩
      simpa using fresh hb
    · dsimp only
      rw [if_pos ⟨rfl, hro⟩, hh]
      simp only [Option.bind_some, Nat.zero_add]
      have h5 : n * z.length ≤ cs.length := by omega
      have h6 : ¬ (n + m) * z.length ≤ cs.length := by
        rw [hl, Nat.add_mul]
        have : 0 < m * z.length := Nat.mul_pos (by omega) hsz
        omega
      rw [if_pos h5, if_neg h6]
      refine ⟨_, _, rfl, ⟨hlen, .inr ⟨H.g, by simp, rfl, ?_⟩⟩, by simp, fun b' hb' hne => ?_, fun b' hb' _ => fresh hb'⟩
      · simp only [Hp.new_h, Hp.del_g, if_true, List.drop_zero, ← hl, List.take_length]
      · have : b' ≠ b := fun e => hne _ _ _ (by rw [e])
        simp [Hp.new_h, Hp.del_h, Nat.ne_of_lt hb', this]

theorem deep_racc {α : Type} {enc : α → List AV} {H : Hp} {x : AV} {sz n d : Nat} {l : List α} (h : RAcc H x sz ((l.map enc).flatten) n) (hn : n = l.length) (hsz : 0 < sz) (hl : ∀ k, (enc k).length = sz) (hz : ∀ k, ∀ x ∈ enc k, Fz d x) : deep H (d + 1) x = some (.lst false (l.map enc)) := by
  subst hn
  rcases h.2 with ⟨h0, h⟩ | ⟨b, hb, rfl, hh⟩
  · have hl0 : l = [] := List.length_eq_zero_iff.1 h0
    rw [hl0]
    rcases h with h | h <;> rw [h] <;> rfl
  · refine deep_sl hh hsz (fun c hc => ?_) (by simp) (fun c hc x hx => ?_)
    · obtain ⟨k, -, rfl⟩ := List.mem_map.1 hc; exact hl k
    · obtain ⟨k, -, rfl⟩ := List.mem_map.1 hc; exact (hz k x hx).1 H
theorem deep_racc1 {f : Int → AV} {H : Hp} {x : AV} {n d : Nat} {l : List Int} (h : RAcc H x 1 (l.map f) n) (hn : n = l.length) (hz : ∀ k, Fz d (f k)) : deep H (d + 1) x = some (.lst false (l.map fun z => [f z])) := by
  have e : l.map f = (l.map fun z => [f z]).flatten := by clear h hn; induction l <;> simp_all
  rw [e] at h
  exact deep_racc h hn (by omega) (fun _ => rfl) (fun k x hx => by simp at hx; subst hx; exact hz k)
theorem clean_racc1 {f : Int → AV} {H : Hp} {x : AV} {n d : Nat} {l : List Int} (h : RAcc H x 1 (l.map f) n) (hz : ∀ k, clean H d (f k) = true) : clean H (d + 1) x = true := by
  rcases h.2 with ⟨h0, h | h⟩ | ⟨b, hb, rfl, hh⟩
  · rw [h]; rfl
  · rw [h]; rfl
  · simp only [clean, hh, Option.getD_some, List.drop_zero]
    rw [List.all_eq_true]; intro x hx
    obtain ⟨z, -, rfl⟩ := List.mem_map.1 (List.mem_of_mem_take hx); exact hz z
theorem alen_bytes (l : List Int) : alen (bytesL l) = some l.length := by simp [alen, bytesL]
theorem alen_i64s (l : List Int) : alen (i64L l) = some l.length := by simp [alen, i64L]
theorem alen_lst (fu : Bool) (xs : List (List AV)) : alen (.lst fu xs) = some xs.length := rfl
theorem afirst_lst {H : Hp} {fu : Bool} {xs : List (List AV)} {sz n : Nat} (h : ∀ c ∈ xs, c.length = sz) (hn : n = xs.length) : afirst H sz n (.lst fu xs) = some xs.flatten := by
  subst hn
  have h1 : xs.all (fun c => decide (c.length = sz)) = true := by simpa using h
  simp only [afirst, List.take_length, h1, Nat.le_refl, and_self, if_true]
theorem afirst_bytes (H : Hp) (l : List Int) : afirst H 1 l.length (bytesL l) = some (l.map cell) := by
  rw [← cells_flat]; exact afirst_lst (fun c hc => by obtain ⟨z, -, rfl⟩ := List.mem_map.1 hc; rfl) (by simp)
theorem afirst_i64s (H : Hp) (l : List Int) : afirst H 1 l.length (i64L l) = some (l.map icell) := by
  rw [← icells_flat]; exact afirst_lst (fun c hc => by obtain ⟨z, -, rfl⟩ := List.mem_map.1 hc; rfl) (by simp)
theorem afirst_one (H : Hp) (fu : Bool) (c : List AV) : afirst H c.length 1 (.lst fu [c]) = some c := by
  rw [afirst_lst (n := 1) (sz := c.length) (xs := [c]) (by simp) rfl]; simp
theorem nilCmp_bytes (a : Int) (l : List Int) (n c : Nat) : nilCmp 1 (bytesL (a :: l)) (.v (.slice none n c)) = some false := rfl
attribute [go_sem] alen_bytes alen_i64s nilCmp_bytes
theorem RAcc.newOf {H0 H : Hp} {x : AV} {sz n : Nat} {cs : List AV} (h : RAcc H x sz cs n) (ho : ∀ b, b < H0.g → Off b x) : RAcc (newOf H0 H) x sz cs n := by
  refine ⟨h.1, ?_⟩
  rcases h.2 with h | ⟨b, hb, rfl, hh⟩
  · exact .inl h
  · refine .inr ⟨b, hb, rfl, ?_⟩
    simp only [Eng.newOf]
    rw [if_neg fun hlt => ho b hlt _ _ _ rfl]; exact hh
theorem body_at {P : Program} {cfg : Cfg} {fid : Nat} {fn : Func} {c : Code} {rs : List ResultVar} (hb : fn.body = some c) (hrs : fn.results.toList = rs) {as : List AV} {H : Hp} {R : AV → Hp → Prop} (h : Wp P cfg fid c (envOf as, H) (Ends P rs R)) : ∃ x H', body P cfg fid fn as H = some (x, H') ∧ R x H' := by
  obtain ⟨⟨x, H'⟩, h1, h2⟩ := body_wp hb hrs h
  exact ⟨x, H', h1, h2⟩
theorem deep_aggL {H : Hp} {n : Nat} {cs ds : List AV} (h : cs.mapM (deep H n) = some ds) : deep H (n + 1) (.agg cs) = some (.agg ds) := by simp only [deep, h]; rfl
theorem fz_fnc {caps : List AV} (h : ∀ x ∈ caps, Fz 11 x) (f : Nat) : Fz depthD (.fn f caps) := by
  have key : ∀ n, (∀ x ∈ caps, Fz n x) → Fz (n + 1) (.fn f caps) := fun n h => by
    constructor
    · intro H
      simp only [deep]
      rw [mapM_self fun x hx => (h x hx).1 H]; rfl
    · simp only [hasRefs]
      rw [List.any_eq_false]; intro x hx
      simp [(h x hx).2]
  exact key 11 h
theorem deep_fn {H : Hp} {f : Nat} {cs ds : List AV} (h : cs.mapM (deep H 11) = some ds) : deep H depthD (.fn f cs) = some (.fn f ds) := by
  have key : ∀ n, cs.mapM (deep H n) = some ds → deep H (n + 1) (.fn f cs) = some (.fn f ds) := fun n h => by simp only [deep, h]; rfl
  exact key 11 h
theorem fz_fpi (k : IntKind) (z : Int) (o : Nat) : Fz depthD (.fp [.v (.int k z)] o) := Fz.fp (n := 11) fun y hy => by simp only [List.mem_singleton] at hy; subst hy; exact Fz.int _ _ _
attribute [go_sem] fz_fpi
theorem deep_p1 {H : Hp} {b : Nat} {x : AV} (hb : H.h b = some [x]) (hx : Fz 10 x) : deep H 11 (.ptr b 0) = some (.fp [x] 0) := deep_ptr' (n := 10) hb fun y hy => by simp only [List.mem_singleton] at hy; subst hy; exact hx
theorem dirty {H : Hp} {x v' : AV} (h : deep H depthD x = some v') : ∃ v cl, v = v' ∧ Gives v cl x H := ⟨_, _, rfl, h, rfl⟩
theorem fz_deep {x : AV} (h : Fz depthD x) (H : Hp) : deep H depthD x = some x := h.1 H
/-- Stands for y, read deep. -/
def Dz (n : Nat) (x y : AV) : Prop := (∀ H, deep H n x = some y) ∧ hasRefs n x = false
def Dzs (n : Nat) (xs ys : List AV) : Prop := (∀ H, xs.mapM (deep H n) = some ys) ∧ xs.any (hasRefs n) = false
theorem Fz.dz {n : Nat} {x : AV} (h : Fz n x) : Dz n x x := h
theorem Dzs.nil {n : Nat} : Dzs n [] [] := ⟨fun _ => rfl, rfl⟩
theorem Dzs.cons {n : Nat} {x y : AV} {xs ys : List AV} (h : Dz n x y) (h' : Dzs n xs ys) : Dzs n (x :: xs) (y :: ys) := ⟨fun H => mapM_c (h.1 H) (h'.1 H), by simp [h.2, h'.2]⟩
theorem Dz.agg {n : Nat} {xs ys : List AV} (h : Dzs n xs ys) : Dz (n + 1) (.agg xs) (.agg ys) := ⟨fun H => deep_aggL (h.1 H), by simp only [hasRefs]; exact h.2⟩
theorem Dz.lst {n : Nat} {fu : Bool} {xs : List (List AV)} (h : ∀ c ∈ xs, ∀ x ∈ c, Fz n x) : Dz (n + 1) (.lst fu xs) (.lst false xs) := by
  constructor
  · intro H
    simp only [deep]
    rw [mapM_self2 fun c hc => mapM_self fun x hx => (h c hc x hx).1 H]; rfl
  · simp only [hasRefs]
    rw [List.any_eq_false]; intro c hc
    simp only [Bool.not_eq_true]
    rw [List.any_eq_false]; intro x hx
    simp [(h c hc x hx).2]
theorem call_dz {P : Program} {cfg : Cfg} {f : Nat} {fn : Func} (hf : P.funcs[f]? = some fn) (hq : cfg.prim f = none) (ho : fnOk P cfg f fn = true) (hr : cfg.raw f = false) {as ts : List AV} {v : AV} {cl : Bool} (hz : Dzs depthD as ts)
    (h : pure P cfg f fn ts = some (v, cl)) (H : Hp) : call P cfg 0 f as H = some (v, H) :=
  call_of hf hq ho hr (by omega) (hz.1 H) h (.inr hz.2)
theorem row_fz {n : Nat} {r : List AV} (h : ∀ x ∈ r, Fz n x) : ∀ c ∈ [r], ∀ x ∈ c, Fz n x := fun c hc => by simp only [List.mem_singleton] at hc; subst hc; exact h
theorem flat_snoc {α : Type} (enc : α → List AV) (l : List α) (k : α) : ((l ++ [k]).map enc).flatten = (l.map enc).flatten ++ enc k := by simp
end Go.Proofs.YtlkoklhnodcipaaDoor.Eng
