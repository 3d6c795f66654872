/- The engine, part 32: values that lie in own blocks one behind the other. -/
import Derived.Test.YtepnlhjafgomgaaDoorE31
namespace Go.Proofs.YtepnlhjafgomgaaDoor.Eng
open Go
set_option linter.unusedSimpArgs false
set_option linter.unusedVariables false

/-- The cells zs stand for ts; their lists lie in the blocks from lo on, below hi, in this order. -/
inductive Laid (H : Hp) : Nat → Nat → List AV → List AV → Prop
  | nil {lo hi : Nat} (h : lo ≤ hi) : Laid H lo hi [] []
  | v {lo hi : Nat} {ts zs : List AV} (y : Value) (h : Laid H lo hi ts zs) : Laid H lo hi (.v y :: ts) (.v y :: zs)
  | nl {lo hi : Nat} {ts zs : List AV} (h : Laid H lo hi ts zs) : Laid H lo hi (.lst false [] :: ts) (.lst false [] :: zs)
  | lst {lo b hi sz n : Nat} {rows : List (List AV)} {cs ts zs : List AV} (hne : rows ≠ []) (hn : n = rows.length) (hsz : 0 < sz) (hs : ∀ c ∈ rows, c.length = sz) (hi1 : Laid H lo b rows.flatten cs) (hb : H.h b = some cs) (h : Laid H (b + 1) hi ts zs) :
      Laid H lo hi (.lst false rows :: ts) (.sl b sz 0 n :: zs)

variable {H H' : Hp} {lo hi : Nat} {ts zs : List AV}
theorem Laid.le (h : Laid H lo hi ts zs) : lo ≤ hi := by
  induction h with
  | nil h => exact h
  | v y h ih => exact ih
  | nl h ih => exact ih
  | lst hne hn hsz hs hi1 hb h ih1 ih2 => omega
theorem Laid.len (h : Laid H lo hi ts zs) : zs.length = ts.length := by
  induction h with
  | nil h => rfl
  | v y h ih => simp [ih]
  | nl h ih => simp [ih]
  | lst hne hn hsz hs hi1 hb h ih1 ih2 => simp [ih2]
theorem Laid.keep (h : Laid H lo hi ts zs) (hk : ∀ b, lo ≤ b → b < hi → H'.h b = H.h b) : Laid H' lo hi ts zs := by
  induction h with
  | nil h => exact .nil h
  | v y h ih => exact .v y (ih hk)
  | nl h ih => exact .nl (ih hk)
  | lst hne hn hsz hs hi1 hb h ih1 ih2 =>
    have l1 := hi1.le
    have l2 := h.le
    exact .lst hne hn hsz hs (ih1 fun b h1 h2 => hk b h1 (by omega)) ((hk _ l1 (by omega)).trans hb) (ih2 fun b h1 h2 => hk b (by omega) h2)
theorem Laid.low {lo' : Nat} (h : Laid H lo hi ts zs) (hl : lo' ≤ lo) : Laid H lo' hi ts zs := by
  induction h with
  | nil h => exact .nil (by omega)
  | v y h ih => exact .v y (ih hl)
  | nl h ih => exact .nl (ih hl)
  | lst hne hn hsz hs hi1 hb h ih1 ih2 => exact .lst hne hn hsz hs (ih1 hl) hb h
theorem Laid.high {hi' : Nat} (h : Laid H lo hi ts zs) (hl : hi ≤ hi') : Laid H lo hi' ts zs := by
  induction h with
  | nil h => exact .nil (by omega)
  | v y h ih => exact .v y (ih hl)
  | nl h ih => exact .nl (ih hl)
  | lst hne hn hsz hs hi1 hb h ih1 ih2 => exact .lst hne hn hsz hs hi1 hb (ih2 hl)
theorem Laid.app {mid : Nat} {ts' zs' : List AV} (h : Laid H lo mid ts zs) (h2 : Laid H mid hi ts' zs') : Laid H lo hi (ts ++ ts') (zs ++ zs') := by
  induction h with
  | nil h => exact h2.low h
  | v y h ih => exact .v y (ih h2)
  | nl h ih => exact .nl (ih h2)
  | lst hne hn hsz hs hi1 hb h ih1 ih2 => exact .lst hne hn hsz hs hi1 hb (ih2 h2)
theorem Laid.split : ∀ (ts : List AV) {lo : Nat} {ts' zs : List AV}, Laid H lo hi (ts ++ ts') zs → ∃ mid zs1 zs2, zs = zs1 ++ zs2 ∧ Laid H lo mid ts zs1 ∧ Laid H mid hi ts' zs2 := by
  intro ts
  induction ts with
  | nil => intro lo ts' zs h; exact ⟨lo, [], zs, rfl, .nil (Nat.le_refl _), h⟩
  | cons t ts ih =>
    intro lo ts' zs h
    simp only [List.cons_append] at h
    cases h with
    | v y h =>
      obtain ⟨mid, z1, z2, rfl, h1, h2⟩ := ih h
      exact ⟨mid, _ :: z1, z2, rfl, .v y h1, h2⟩
    | nl h =>
      obtain ⟨mid, z1, z2, rfl, h1, h2⟩ := ih h
      exact ⟨mid, _ :: z1, z2, rfl, .nl h1, h2⟩
    | lst hne hn hsz hs hi1 hb h =>
      obtain ⟨mid, z1, z2, rfl, h1, h2⟩ := ih h
      exact ⟨mid, _ :: z1, z2, rfl, .lst hne hn hsz hs hi1 hb h1, h2⟩

/-- A plain value reads as it stands. -/
def Plain (y : Value) : Prop := ∀ (H : Hp) (d : Nat), deep H (d + 1) (.v y) = some (.v y)
theorem plain_int (k : IntKind) (z : Int) : Plain (.int k z) := fun _ _ => rfl
theorem plain_bool (b : Bool) : Plain (.bool b) := fun _ _ => rfl
theorem plain_string (s : ByteArray) : Plain (.string s) := fun _ _ => rfl
/-- Plain cells, and lists of rows of such, to a depth of n. -/
def MatG : Nat → AV → Prop
  | 0, _ => False
  | n + 1, x => (∃ y, x = .v y ∧ Plain y) ∨ (∃ xs sz, x = .lst false xs ∧ 0 < sz ∧ ∀ c ∈ xs, c.length = sz ∧ ∀ a ∈ c, MatG n a)
theorem MatG.int (n : Nat) (k : IntKind) (z : Int) : MatG (n + 1) (.v (.int k z)) := .inl ⟨_, rfl, plain_int k z⟩
theorem MatG.bool (n : Nat) (b : Bool) : MatG (n + 1) (.v (.bool b)) := .inl ⟨_, rfl, plain_bool b⟩
theorem MatG.string (n : Nat) (s : ByteArray) : MatG (n + 1) (.v (.string s)) := .inl ⟨_, rfl, plain_string s⟩
theorem MatG.rows {α : Type} {enc : α → List AV} {n sz : Nat} (hsz : 0 < sz) (hl : ∀ k, (enc k).length = sz) (h : ∀ k, ∀ x ∈ enc k, MatG n x) (l : List α) : MatG (n + 1) (.lst false (l.map enc)) := by
  refine .inr ⟨_, sz, rfl, hsz, fun c hc => ?_⟩
  obtain ⟨k, -, rfl⟩ := List.mem_map.1 hc
  exact ⟨hl k, h k⟩
theorem MatG.bytes (n : Nat) (l : List Int) : MatG (n + 2) (bytesL l) := MatG.rows (sz := 1) (by omega) (fun _ => rfl) (fun z x hx => by simp only [List.mem_singleton] at hx; subst hx; exact MatG.int n _ _) l
theorem MatG.i64s (n : Nat) (l : List Int) : MatG (n + 2) (i64L l) := MatG.rows (sz := 1) (by omega) (fun _ => rfl) (fun z x hx => by simp only [List.mem_singleton] at hx; subst hx; exact MatG.int n _ _) l
theorem MatG.texts (n : Nat) (l : List ByteArray) : MatG (n + 2) (textsL l) := MatG.rows (sz := 1) (by omega) (fun _ => rfl) (fun z x hx => by simp only [List.mem_singleton] at hx; subst hx; exact MatG.string n _) l

theorem chunk_flat' (sz : Nat) (xs : List (List AV)) (hs : ∀ c ∈ xs, c.length = sz) : chunk sz xs.length xs.flatten = xs := chunk_flat sz xs hs
/-- What laid cells read as, and where they lie. -/
theorem Laid.deep (h : Laid H lo hi ts zs) : ∀ n d, (∀ t ∈ ts, MatG n t) → n ≤ d → zs.mapM (Eng.deep H d) = some ts ∧ ∃ fps, zs.mapM (fpt H d) = some fps ∧ fps.flatten.Nodup ∧ ∀ x ∈ fps.flatten, lo ≤ x ∧ x < hi := by
  induction h with
  | nil h => intro n d _ _; exact ⟨rfl, [], rfl, by simp, by simp⟩
  | @v lo hi ts zs y h ih =>
    intro n d hg hd
    obtain ⟨i1, fps, i2, i3, i4⟩ := ih n d (fun t ht => hg t (by simp [ht])) hd
    have g0 := hg (.v y) (by simp)
    cases n with
    | zero => exact absurd g0 (by simp [MatG])
    | succ n =>
      obtain ⟨d, rfl⟩ : ∃ e, d = e + 1 := ⟨d - 1, by omega⟩
      have hp : Plain y := by
        rcases g0 with ⟨y', e, hp⟩ | ⟨xs, sz, e, -⟩
        · cases e; exact hp
        · cases e
      exact ⟨mapM_cons_some.2 ⟨_, _, hp H d, i1, rfl⟩, [] :: fps, mapM_cons_some.2 ⟨_, _, rfl, i2, rfl⟩, by simpa using i3, by simpa using i4⟩
  | @nl lo hi ts zs h ih =>
    intro n d hg hd
    obtain ⟨i1, fps, i2, i3, i4⟩ := ih n d (fun t ht => hg t (by simp [ht])) hd
    have g0 := hg (.lst false []) (by simp)
    cases n with
    | zero => exact absurd g0 (by simp [MatG])
    | succ n =>
      obtain ⟨d, rfl⟩ : ∃ e, d = e + 1 := ⟨d - 1, by omega⟩
      exact ⟨mapM_cons_some.2 ⟨_, _, rfl, i1, rfl⟩, [] :: fps, mapM_cons_some.2 ⟨_, _, rfl, i2, rfl⟩, by simpa using i3, by simpa using i4⟩
  | @lst lo b hi sz n rows cs ts zs hne hn hsz hs hi1 hb h ih1 ih2 =>
    intro m d hg hd
    obtain ⟨i1, fps, i2, i3, i4⟩ := ih2 m d (fun t ht => hg t (by simp [ht])) hd
    have g0 := hg (.lst false rows) (by simp)
    cases m with
    | zero => exact absurd g0 (by simp [MatG])
    | succ m =>
      obtain ⟨d, rfl⟩ : ∃ e, d = e + 1 := ⟨d - 1, by omega⟩
      have hr : ∀ t ∈ rows.flatten, MatG m t := by
        intro t ht
        obtain ⟨c, hc, ht⟩ := List.mem_flatten.1 ht
        rcases g0 with ⟨y', e, -⟩ | ⟨xs, sz', e, -, hx⟩
        · cases e
        · cases e; exact (hx c hc).2 t ht
      obtain ⟨j1, fq, j2, j3, j4⟩ := ih1 m d hr (by omega)
      have hl : cs.length = n * sz := by rw [hi1.len, flat_len sz rows hs, hn]
      have l1 := hi1.le
      have l2 := h.le
      have hn0 : n ≠ 0 := by rw [hn]; exact fun e => hne (List.length_eq_zero_iff.1 e)
      have htk : (cs.drop 0).take (n * sz) = cs := by rw [List.drop_zero, List.take_of_length_le (by omega)]
      refine ⟨mapM_cons_some.2 ⟨_, _, ?_, i1, rfl⟩, (b :: fq.flatten) :: fps, mapM_cons_some.2 ⟨_, _, ?_, i2, rfl⟩, ?_, ?_⟩
      · simp only [Eng.deep, hb, Option.bind_some]
        rw [if_pos ⟨by omega, hsz⟩, htk, j1]
        simp only [Option.map_some]
        rw [hn, chunk_flat' sz rows hs]
      · simp only [fpt, hb, Option.bind_some]
        rw [if_neg hn0, htk, j2]; rfl
      · simp only [List.flatten_cons, List.cons_append, List.nodup_cons, List.mem_append, not_or, List.nodup_append]
        refine ⟨⟨fun hm => ?_, fun hm => ?_⟩, j3, i3, fun a ha c hc => ?_⟩
        · have := j4 b hm; omega
        · have := i4 b hm; omega
        · have := j4 a ha; have := i4 c hc; omega
      · intro x hx
        simp only [List.flatten_cons, List.cons_append, List.mem_cons, List.mem_append] at hx
        rcases hx with rfl | hx | hx
        · omega
        · have := j4 x hx; omega
        · have := i4 x hx; omega

theorem mat_lay : ∀ n d, n ≤ d → ∀ (ts : List AV), (∀ t ∈ ts, MatG n t) → ∀ H : Hp, ∃ zs H', matL (mat d) ts H = some (zs, H') ∧ Ext H H' ∧ Laid H' H.g H'.g ts zs := by
  intro n
  induction n with
  | zero =>
    intro d hd ts hg H
    cases ts with
    | nil => exact ⟨[], H, rfl, .refl H, .nil (Nat.le_refl _)⟩
    | cons t ts => exact absurd (hg t (by simp)) (by simp [MatG])
  | succ n ih =>
    intro d hd ts
    obtain ⟨d, rfl⟩ : ∃ e, d = e + 1 := ⟨d - 1, by omega⟩
    induction ts with
    | nil => intro _ H; exact ⟨[], H, rfl, .refl H, .nil (Nat.le_refl _)⟩
    | cons t ts iht =>
      intro hg H
      rcases hg t (by simp) with ⟨y, rfl, hp⟩ | ⟨xs, sz, rfl, hsz, hx⟩
      · obtain ⟨zs, H', h1, h2, h3⟩ := iht (fun t ht => hg t (by simp [ht])) H
        exact ⟨.v y :: zs, H', by simp only [matL, mat_v, Option.bind_some, h1, Option.map_some], h2, .v y h3⟩
      · cases xs with
        | nil =>
          obtain ⟨zs, H', h1, h2, h3⟩ := iht (fun t ht => hg t (by simp [ht])) H
          exact ⟨.lst false [] :: zs, H', by simp only [matL, mat_nil, Option.bind_some, h1, Option.map_some], h2, .nl h3⟩
        | cons r rs =>
          have hr := hx r (by simp)
          obtain ⟨cs, H1, a1, a2, a3⟩ := ih d (by omega) (r :: rs).flatten (fun t ht => by
            obtain ⟨c, hc, ht⟩ := List.mem_flatten.1 ht
            exact (hx c hc).2 t ht) H
          obtain ⟨zs, H', h1, h2, h3⟩ := iht (fun t ht => hg t (by simp [ht])) (H1.new cs)
          have hcond : 0 < r.length ∧ rs.all (fun c => decide (c.length = r.length)) = true := by
            refine ⟨by omega, List.all_eq_true.2 fun c hc => ?_⟩
            simp [(hx c (by simp [hc])).1, hr.1]
          have e1 : Ext H (H1.new cs) := a2.new cs
          refine ⟨.sl H1.g r.length 0 (rs.length + 1) :: zs, H', ?_, e1.trans h2, ?_⟩
          · simp only [matL]
            rw [mat_lst, if_pos hcond, a1]
            simp only [Option.map_some, Option.bind_some, h1]
          · have hk : ∀ b, b < H1.g + 1 → H'.h b = (H1.new cs).h b := fun b hb => h2.2 b (by simpa using hb)
            have hle := a3.le
            refine .lst (by simp) (by simp) (by omega) (fun c hc => by rw [(hx c hc).1, hr.1]) (a3.keep (H' := H') fun b h1 h2 => ?_) ?_ ?_
            · rw [hk b (by omega), Hp.new_h, if_neg (by omega)]
            · rw [hk _ (by omega), Hp.new_h, if_pos rfl]
            · simpa using h3

theorem mat_ext : ∀ (d : Nat), (∀ (t : AV) (H : Hp) (z : AV) (H' : Hp), mat d t H = some (z, H') → Ext H H') ∧ ∀ (ts : List AV) (H : Hp) (zs : List AV) (H' : Hp), matL (mat d) ts H = some (zs, H') → Ext H H' := by
  have key : ∀ d, (∀ (t : AV) (H : Hp) (z : AV) (H' : Hp), mat d t H = some (z, H') → Ext H H') → ∀ (ts : List AV) (H : Hp) (zs : List AV) (H' : Hp), matL (mat d) ts H = some (zs, H') → Ext H H' := by
    intro d h1 ts
    induction ts with
    | nil => intro H zs H' h; simp only [matL, Option.some.injEq, Prod.mk.injEq] at h; obtain ⟨-, rfl⟩ := h; exact .refl H
    | cons t ts ih =>
      intro H zs H' h
      simp only [matL] at h
      obtain ⟨⟨z0, K2⟩, hm0, h⟩ := Option.bind_eq_some_iff.1 h
      obtain ⟨⟨zr, K3⟩, hmr, h⟩ := Option.map_eq_some_iff.1 h
      simp only [Prod.mk.injEq] at h
      obtain ⟨-, rfl⟩ := h
      exact (h1 t H z0 K2 hm0).trans (ih K2 zr K3 hmr)
  intro d
  induction d with
  | zero => exact ⟨fun t H z H' h => by simp [mat] at h, key 0 fun t H z H' h => by simp [mat] at h⟩
  | succ d ih =>
    have h1 : ∀ (t : AV) (H : Hp) (z : AV) (H' : Hp), mat (d + 1) t H = some (z, H') → Ext H H' := by
      intro t H z H' h
      unfold mat at h
      split at h
      · simp only [Option.some.injEq, Prod.mk.injEq] at h; obtain ⟨-, rfl⟩ := h; exact .refl H
      · simp only [Option.some.injEq, Prod.mk.injEq] at h; obtain ⟨-, rfl⟩ := h; exact .refl H
      · split at h
        · obtain ⟨⟨zs, K⟩, h2, h3⟩ := Option.map_eq_some_iff.1 h
          simp only [Prod.mk.injEq] at h3
          obtain ⟨-, rfl⟩ := h3
          exact (ih.2 _ _ _ _ h2).new _
        · exact absurd h (by simp)
      · obtain ⟨⟨zs, K⟩, h2, h3⟩ := Option.map_eq_some_iff.1 h
        simp only [Prod.mk.injEq] at h3
        obtain ⟨-, rfl⟩ := h3
        exact ih.2 _ _ _ _ h2
      · obtain ⟨⟨zs, K⟩, h2, h3⟩ := Option.map_eq_some_iff.1 h
        simp only [Prod.mk.injEq] at h3
        obtain ⟨-, rfl⟩ := h3
        exact ih.2 _ _ _ _ h2
      · exact absurd h (by simp)
    exact ⟨h1, key (d + 1) h1⟩
theorem mat_one {d n : Nat} (hd : n ≤ d) {t : AV} (hg : MatG n t) (H : Hp) : ∃ z H', mat d t H = some (z, H') ∧ Ext H H' ∧ Laid H' H.g H'.g [t] [z] := by
  obtain ⟨zs, H', h1, h2, h3⟩ := mat_lay n d hd [t] (by simpa using hg) H
  simp only [matL] at h1
  obtain ⟨⟨z, H1⟩, h4, h5⟩ := Option.bind_eq_some_iff.1 h1
  simp only [Option.map_some, Option.some.injEq, Prod.mk.injEq] at h5
  obtain ⟨rfl, rfl⟩ := h5
  exact ⟨z, H1, h4, h2, h3⟩
theorem mat_row {n : Nat} {ts : List AV} (hg : ∀ t ∈ ts, MatG n t) (hn : n ≤ 11) (H : Hp) : ∃ zs H', mat depthD (.agg ts) H = some (.agg zs, H') ∧ Ext H H' ∧ Laid H' H.g H'.g ts zs := by
  obtain ⟨zs, H', h1, h2, h3⟩ := mat_lay n 11 hn ts hg H
  have key : ∀ m, matL (mat m) ts H = some (zs, H') → mat (m + 1) (.agg ts) H = some (.agg zs, H') := fun m h => by rw [mat_agg, h]; rfl
  exact ⟨zs, H', key 11 h1, h2, h3⟩
theorem Laid.one (h : Laid H lo hi ts zs) (hg : ∀ t ∈ ts, ∃ n, MatG n t) (ho : ∀ y, AV.v y ∈ ts → y.oneCell' = true) : zs.all okc = true := by
  induction h with
  | nil h => rfl
  | v y h ih => simp only [List.all_cons, okc, ho y (by simp), ih (fun t ht => hg t (by simp [ht])) (fun y hy => ho y (by simp [hy])), Bool.and_self]
  | nl h ih => simp only [List.all_cons, okc, ih (fun t ht => hg t (by simp [ht])) (fun y hy => ho y (by simp [hy])), Bool.and_self]
  | lst hne hn hsz hs hi1 hb h ih1 ih2 => simp only [List.all_cons, okc, ih2 (fun t ht => hg t (by simp [ht])) (fun y hy => ho y (by simp [hy])), Bool.and_self]
theorem Laid.clean (h : Laid H lo hi ts zs) : ∀ n d, (∀ t ∈ ts, MatG n t) → n ≤ d → zs.all (Eng.clean H d) = true := by
  induction h with
  | nil h => intro _ _ _ _; rfl
  | @v lo hi ts zs y h ih =>
    intro n d hg hd
    have i := ih n d (fun t ht => hg t (by simp [ht])) hd
    have g0 := hg (.v y) (by simp)
    cases n with
    | zero => exact absurd g0 (by simp [MatG])
    | succ n =>
      obtain ⟨d, rfl⟩ : ∃ e, d = e + 1 := ⟨d - 1, by omega⟩
      rw [List.all_cons, i]; rfl
  | @nl lo hi ts zs h ih =>
    intro n d hg hd
    have i := ih n d (fun t ht => hg t (by simp [ht])) hd
    have g0 := hg (.lst false []) (by simp)
    cases n with
    | zero => exact absurd g0 (by simp [MatG])
    | succ n =>
      obtain ⟨d, rfl⟩ : ∃ e, d = e + 1 := ⟨d - 1, by omega⟩
      rw [List.all_cons, i]; rfl
  | @lst lo b hi sz n rows cs ts zs hne hn hsz hs hi1 hb h ih1 ih2 =>
    intro m d hg hd
    have i := ih2 m d (fun t ht => hg t (by simp [ht])) hd
    have g0 := hg (.lst false rows) (by simp)
    cases m with
    | zero => exact absurd g0 (by simp [MatG])
    | succ m =>
      obtain ⟨d, rfl⟩ : ∃ e, d = e + 1 := ⟨d - 1, by omega⟩
      have hr : ∀ t ∈ rows.flatten, MatG m t := by
        intro t ht
        obtain ⟨c, hc, ht⟩ := List.mem_flatten.1 ht
        rcases g0 with ⟨y', e, -⟩ | ⟨xs, sz', e, -, hx⟩
        · cases e
        · cases e; exact (hx c hc).2 t ht
      have j := ih1 m d hr (by omega)
      have hl : cs.length = n * sz := by rw [hi1.len, flat_len sz rows hs, hn]
      have e : Eng.clean H (d + 1) (.sl b sz 0 n) = ((((H.h b).getD []).drop 0).take (n * sz)).all (Eng.clean H d) := rfl
      rw [List.all_cons, i, e, hb, Option.getD_some, List.drop_zero, List.take_of_length_le (Nat.le_of_eq hl), j]; rfl
/-- A struct that is laid is what a body may give. -/
theorem Laid.givesO {n : Nat} (h : Laid H lo hi ts zs) (hn : n ≤ 11) (hg : ∀ t ∈ ts, MatG n t) : GivesO (.agg ts) (.agg zs) H := by
  obtain ⟨h1, fps, h2, h3, -⟩ := h.deep n 11 hg hn
  have h4 := h.clean n 11 hg hn
  refine ⟨⟨?_, ?_⟩, fps.flatten, ?_, h3⟩
  · have key : ∀ m, zs.mapM (Eng.deep H m) = some ts → Eng.deep H (m + 1) (.agg zs) = some (.agg ts) := fun m h => deep_aggL h
    exact key 11 h1
  · have key : ∀ m, zs.all (Eng.clean H m) = true → Eng.clean H (m + 1) (.agg zs) = true := fun m h => h
    exact key 11 h4
  · have key : ∀ m, zs.mapM (fpt H m) = some fps → fpt H (m + 1) (.agg zs) = some fps.flatten := fun m h => by simp only [fpt, h, Option.map_some]
    exact key 11 h2
theorem Laid.givesE {n : Nat} (h : ∃ hi, Laid H lo hi ts zs) (hn : n ≤ 11) (hg : ∀ t ∈ ts, MatG n t) : GivesO (.agg ts) (.agg zs) H := by
  obtain ⟨hi, h⟩ := h
  exact h.givesO hn hg
/-- A list whose rows are laid is what a body may give. -/
theorem Laid.givesL {n m sz b : Nat} {rows : List (List AV)} (h : Laid H lo hi rows.flatten zs) (hb : H.h b = some zs) (hlo : b < lo) (hn : n ≤ 11) (hm : m = rows.length) (hsz : 0 < sz) (hs : ∀ c ∈ rows, c.length = sz) (hg : ∀ c ∈ rows, ∀ t ∈ c, MatG n t) : GivesO (.lst false rows) (.sl b sz 0 m) H := by
  subst hm
  have hg' : ∀ t ∈ rows.flatten, MatG n t := fun t ht => by obtain ⟨c, hc, ht⟩ := List.mem_flatten.1 ht; exact hg c hc t ht
  obtain ⟨h1, fps, h2, h3, h4⟩ := h.deep n 11 hg' hn
  have h5 := h.clean n 11 hg' hn
  have hl : zs.length = rows.length * sz := by rw [h.len, flat_len sz rows hs]
  have htk : (zs.drop 0).take (rows.length * sz) = zs := by rw [List.drop_zero, List.take_of_length_le (by omega)]
  have k1 : ∀ m, zs.mapM (Eng.deep H m) = some rows.flatten → Eng.deep H (m + 1) (.sl b sz 0 rows.length) = some (.lst false rows) := fun m h => by
    simp only [Eng.deep, hb, Option.bind_some]
    rw [if_pos ⟨by omega, hsz⟩, htk, h]
    simp only [Option.map_some]
    rw [chunk_flat' sz rows hs]
  have k2 : ∀ m, zs.all (Eng.clean H m) = true → Eng.clean H (m + 1) (.sl b sz 0 rows.length) = true := fun m h => by
    have e : Eng.clean H (m + 1) (.sl b sz 0 rows.length) = ((((H.h b).getD []).drop 0).take (rows.length * sz)).all (Eng.clean H m) := rfl
    rw [e, hb, Option.getD_some, List.drop_zero, List.take_of_length_le (Nat.le_of_eq hl), h]
  have k3 : ∀ m, zs.mapM (fpt H m) = some fps → ∃ fp, fpt H (m + 1) (.sl b sz 0 rows.length) = some fp ∧ fp.Nodup := fun m h => by
    simp only [fpt, hb, Option.bind_some]
    split
    · exact ⟨[], rfl, List.nodup_nil⟩
    · rw [htk, h]
      exact ⟨_, rfl, List.nodup_cons.2 ⟨fun hm => by have := h4 b hm; omega, h3⟩⟩
  exact ⟨⟨k1 11 h1, k2 11 h5⟩, k3 11 h2⟩

/-- What a value becomes when it is laid into own blocks, and the heap then. -/
def zz (d : Nat) (t : AV) (H : Hp) : AV := ((mat d t H).getD (.v undef, H)).1
def hh (d : Nat) (t : AV) (H : Hp) : Hp := ((mat d t H).getD (.v undef, H)).2
theorem mat_zz {n d : Nat} {t : AV} (hg : MatG n t) (hd : n ≤ d) (H : Hp) : mat d t H = some (zz d t H, hh d t H) := by
  obtain ⟨z, H', h, -, -⟩ := mat_one hd hg H
  simp only [zz, hh, h, Option.getD_some]
theorem mat_vz {n : Nat} {y : Value} {t : AV} (hg : MatG n t) (hd : n ≤ 11) (H : Hp) : mat depthD (.agg [.v y, t]) H = some (.agg [.v y, zz 11 t H], hh 11 t H) := by
  have key : ∀ m, mat (m + 1) t H = some (zz (m + 1) t H, hh (m + 1) t H) → mat (m + 1 + 1) (.agg [.v y, t]) H = some (.agg [.v y, zz (m + 1) t H], hh (m + 1) t H) := fun m h => by
    simp only [mat_agg, matL, mat_v, Option.bind_some, h, Option.map_some]
  exact key 10 (mat_zz hg hd H)
theorem hh_ext (d : Nat) (t : AV) (H : Hp) : Ext H (hh d t H) := by
  unfold hh
  cases h : mat d t H with
  | none => exact .refl H
  | some q => exact (mat_ext d).1 t H q.1 q.2 h
theorem hh_h {d b : Nat} {t : AV} {H : Hp} (h : b < H.g) : (hh d t H).h b = H.h b := (hh_ext d t H).2 b h
theorem lt_hh {d b : Nat} {t : AV} {H : Hp} (h : b < H.g) : b < (hh d t H).g := Nat.lt_of_lt_of_le h (hh_ext d t H).1
theorem le_hh {d b : Nat} {t : AV} {H : Hp} (h : b ≤ H.g) : b ≤ (hh d t H).g := Nat.le_trans h (hh_ext d t H).1
theorem zz_ok {n d : Nat} {t : AV} (hg : MatG n t) (hd : n ≤ d) (hv : ∀ y, t ≠ .v y) (H : Hp) : okc (zz d t H) = true ∧ asCells (zz d t H) = some [zz d t H] := by
  obtain ⟨z, H', h, -, hl⟩ := mat_one hd hg H
  simp only [zz, h, Option.getD_some]
  cases hl with
  | v y h => exact absurd rfl (hv y)
  | nl h => exact ⟨rfl, rfl⟩
  | lst hne hn hsz hs hi1 hb h => exact ⟨rfl, rfl⟩
/-- Blocks from lo on are as they were. -/
def Kept (lo : Nat) (H H' : Hp) : Prop := H.g ≤ H'.g ∧ ∀ b, lo ≤ b → b < H.g → H'.h b = H.h b
theorem Kept.refl (lo : Nat) (H : Hp) : Kept lo H H := ⟨Nat.le_refl _, fun _ _ _ => rfl⟩
theorem Kept.set {K : Hp} {b : Nat} {x : List AV} (hb : b < lo) (h : Kept lo H K) : Kept lo H (K.set b x) := ⟨h.1, fun b' h1 h2 => by rw [Hp.set_h, if_neg (by omega)]; exact h.2 b' h1 h2⟩
theorem Kept.hh {K : Hp} {d : Nat} {t : AV} (h : Kept lo H K) : Kept lo H (hh d t K) := ⟨Nat.le_trans h.1 (hh_ext d t K).1, fun b' h1 h2 => ((hh_ext d t K).2 b' (Nat.lt_of_lt_of_le h2 h.1)).trans (h.2 b' h1 h2)⟩
theorem Laid.zz {n d : Nat} {t : AV} {K : Hp} (hg : MatG n t) (hd : n ≤ d) (hlo : lo ≤ K.g) (hk : Kept K.g (Eng.hh d t K) H) (h : Laid H (Eng.hh d t K).g hi ts zs) : Laid H lo hi (t :: ts) (Eng.zz d t K :: zs) := by
  obtain ⟨z, H', h1, h2, h3⟩ := mat_one hd hg K
  have e : Eng.zz d t K = z := by simp only [Eng.zz, h1, Option.getD_some]
  have e2 : Eng.hh d t K = H' := by simp only [Eng.hh, h1, Option.getD_some]
  rw [e2] at hk h
  rw [e]
  exact ((h3.keep hk.2).low hlo).app h
theorem Laid.nilE {H : Hp} {lo : Nat} : ∃ hi, Laid H lo hi [] [] := ⟨lo, .nil (Nat.le_refl _)⟩
theorem Laid.vE {H : Hp} {lo : Nat} {ts zs : List AV} (y : Value) (h : ∃ hi, Laid H lo hi ts zs) : ∃ hi, Laid H lo hi (.v y :: ts) (.v y :: zs) := by
  obtain ⟨hi, h⟩ := h; exact ⟨hi, .v y h⟩
theorem Laid.zzE {H : Hp} {lo : Nat} {ts zs : List AV} {n d : Nat} {t : AV} {K : Hp} (hg : MatG n t) (hd : n ≤ d) (hlo : lo ≤ K.g) (hk : Kept K.g (Eng.hh d t K) H) (h : ∃ hi, Laid H (Eng.hh d t K).g hi ts zs) : ∃ hi, Laid H lo hi (t :: ts) (Eng.zz d t K :: zs) := by
  obtain ⟨hi, h⟩ := h; exact ⟨hi, .zz hg hd hlo hk h⟩
def hhh (d : Nat) (t : AV) (H : Hp) (b : Nat) : Option (List AV) := (hh d t H).h b
def hlt (d : Nat) (t : AV) (H : Hp) (b : Nat) : Prop := b < (hh d t H).g
theorem hh_hI (d b : Nat) (t : AV) (H : Hp) : (hh d t H).h b = if b < H.g then H.h b else hhh d t H b := by
  split
  · exact hh_h (by assumption)
  · rfl
theorem lt_hhI (d b : Nat) (t : AV) (H : Hp) : (b < (hh d t H).g) = (b < H.g ∨ hlt d t H b) := propext ⟨fun h => .inr h, fun h => h.elim lt_hh id⟩
theorem lt_hhT {d b : Nat} {t : AV} {H : Hp} (h : b < H.g) : (b < (hh d t H).g) = True := by simp [lt_hh h]
theorem Laid.flat {H : Hp} {lo hi : Nat} (hle : lo ≤ hi) : ∀ ts : List AV, (∀ x ∈ ts, ∃ y, x = .v y) → Laid H lo hi ts ts := by
  intro ts
  induction ts with
  | nil => intro _; exact .nil hle
  | cons t ts ih =>
    intro h
    obtain ⟨y, rfl⟩ := h t (by simp)
    exact .v y (ih fun x hx => h x (by simp [hx]))
/-- A list of plain rows. -/
theorem givesL_flat {H : Hp} {b sz m n : Nat} {rows : List (List AV)} (hb : H.h b = some rows.flatten) (hn : n ≤ 11) (hm : m = rows.length) (hsz : 0 < sz) (hs : ∀ c ∈ rows, c.length = sz) (hg : ∀ c ∈ rows, ∀ t ∈ c, MatG n t) (hv : ∀ c ∈ rows, ∀ x ∈ c, ∃ y, x = .v y) : GivesO (.lst false rows) (.sl b sz 0 m) H :=
  Laid.givesL (Laid.flat (H := H) (lo := b + 1) (hi := b + 1) (Nat.le_refl _) rows.flatten fun x hx => by obtain ⟨c, hc, hx⟩ := List.mem_flatten.1 hx; exact hv c hc x hx) hb (by omega) hn hm hsz hs hg
/-- One more row in a list that is being filled. -/
theorem fill_mid {n j : Nat} {zs ms z : List AV} (hl : zs.length = j * ms.length) (hz : z.length = ms.length) (hj : j < n) : setAll (zs ++ zeros (n - j) z) (j * ms.length) ms = (zs ++ ms) ++ zeros (n - (j + 1)) z := by
  obtain ⟨d, hd⟩ : ∃ d, n - j = d + 1 := ⟨n - j - 1, by omega⟩
  rw [hd, zeros_succ, show n - (j + 1) = d by omega, ← hl, setAll_mid ms _ z _ hz.symm]
  simp
theorem fill_len {n j sz : Nat} {zs z : List AV} (hl : zs.length = j * sz) (hz : z.length = sz) (hj : j ≤ n) : (zs ++ zeros (n - j) z).length = n * sz := by
  rw [List.length_append, zeros_length, hl, hz, ← Nat.add_mul]; congr 1; omega
end Go.Proofs.YtepnlhjafgomgaaDoor.Eng
