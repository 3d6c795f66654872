/- The engine, part A: a value that lies in own blocks, each once, goes over to another heap. -/
import Derived.Test.YtnejoidfbgklbaaGreatDoorE16
namespace Go.Proofs.YtnejoidfbgklbaaGreatDoor.Eng
open Go
set_option linter.unusedSimpArgs false
set_option linter.unusedVariables false

section
variable {base base1 : Nat} {H1 : Hp} {ρ1 : Nat → Loc} {F1 F : Nat → Nat → Prop} {w : World}

/-- An own block is taken over from elsewhere, as it stands. -/
theorem Inv.adopt {K : Hp} {ρ : Nat → Loc} (I : Inv base K ρ F w) {cs : List AV} (l : Loc) (hl : base ≤ l.blk ∧ l.blk < w.heap.size ∧ cs.length ≤ l.lim)
    (hm : ∀ i, i < l.lim → (∃ x, w.cell? (at_ l.blk (l.off + i)) = some x) ∧ w.frozen? (at_ l.blk (l.off + i)) = false)
    (hv : ∀ (i : Nat) x, cs[i]? = some x → ∃ y, w.cell? (at_ l.blk (l.off + i)) = some y ∧ VR K ρ F w x y)
    (hd : ∀ b c, K.h b = some c → ∀ i j, i < (ρ b).lim → j < l.lim → ¬ ((ρ b).blk = l.blk ∧ (ρ b).off + i = l.off + j))
    (hs : ∀ i, i < l.lim → ¬ F l.blk (l.off + i)) (ho : ∀ x ∈ cs, okc x = true) :
    Inv base (K.new cs) (setρ ρ K.g l) F w ∧ Step K ρ F w (K.new cs) (setρ ρ K.g l) F w := by
  have hρ : ∀ b, b ≠ K.g → setρ ρ K.g l b = ρ b := fun b h => by simp [setρ, h]
  have hρg : setρ ρ K.g l K.g = l := by simp [setρ]
  have st : Step K ρ F w (K.new cs) (setρ ρ K.g l) F w := by
    refine ⟨by simp, fun b cs' hb h => ?_, fun k o h => ⟨h, rfl⟩⟩
    rw [Hp.new_h, if_neg (by omega)] at h
    exact ⟨cs', h, rfl, hρ b (by omega)⟩
  have hcase : ∀ b c, (K.new cs).h b = some c → (b = K.g ∧ c = cs) ∨ (b ≠ K.g ∧ K.h b = some c) := by
    intro b c h
    rw [Hp.new_h] at h
    split at h
    · exact .inl ⟨‹_›, by simpa using h.symm⟩
    · exact .inr ⟨‹_›, h⟩
  refine ⟨⟨fun b c h => ?_, fun b c h => ?_, fun b c h i hi => ?_, fun b c i x h hx => ?_, fun b b' c c' hne h h' i j hi hj => ?_, fun b c h i hi => ?_, I.fin, fun b c x h hx => ?_, I.base, I.tab⟩, st⟩
  · rcases hcase b c h with ⟨rfl, rfl⟩ | ⟨hn, h⟩
    · simp
    · have := I.lt b c h; simp; omega
  · rcases hcase b c h with ⟨rfl, rfl⟩ | ⟨hn, h⟩
    · rw [hρg]; exact hl
    · rw [hρ b hn]; exact I.blk b c h
  · rcases hcase b c h with ⟨rfl, rfl⟩ | ⟨hn, h⟩
    · rw [hρg] at hi ⊢; exact hm i hi
    · rw [hρ b hn] at hi ⊢; exact I.mem b c h i hi
  · rcases hcase b c h with ⟨rfl, rfl⟩ | ⟨hn, h⟩
    · rw [hρg]; obtain ⟨y, hy, hr⟩ := hv i x hx; exact ⟨y, hy, hr.mono st⟩
    · rw [hρ b hn]; obtain ⟨y, hy, hr⟩ := I.val b c i x h hx; exact ⟨y, hy, hr.mono st⟩
  · rcases hcase b c h with ⟨rfl, rfl⟩ | ⟨hn, hk⟩ <;> rcases hcase b' c' h' with ⟨rfl, rfl⟩ | ⟨hn', hk'⟩
    · exact absurd rfl hne
    · rw [hρg] at hi ⊢; rw [hρ b' hn'] at hj ⊢
      rintro ⟨e1, e2⟩; exact hd b' c' hk' j i hj hi ⟨e1.symm, e2.symm⟩
    · rw [hρ b hn] at hi ⊢; rw [hρg] at hj ⊢; exact hd b c hk i j hi hj
    · rw [hρ b hn] at hi ⊢; rw [hρ b' hn'] at hj ⊢; exact I.dis b b' c c' hne hk hk' i j hi hj
  · rcases hcase b c h with ⟨rfl, rfl⟩ | ⟨hn, h⟩
    · rw [hρg] at hi ⊢; exact hs i hi
    · rw [hρ b hn] at hi ⊢; exact I.sep b c h i hi
  · rcases hcase b c h with ⟨rfl, rfl⟩ | ⟨hn, h⟩
    · exact ho x hx
    · exact I.one b c x h hx

def Within (H1 : Hp) (ρ1 : Nat → Loc) (fp : List Nat) (l : Loc) : Prop := ∃ b ∈ fp, (∃ cs, H1.h b = some cs) ∧ l.blk = (ρ1 b).blk ∧ (ρ1 b).off ≤ l.off ∧ l.off + l.lim ≤ (ρ1 b).off + (ρ1 b).lim
theorem Within.sub {fp fp' : List Nat} {l : Loc} (h : ∀ b ∈ fp, b ∈ fp') : Within H1 ρ1 fp l → Within H1 ρ1 fp' l := by
  rintro ⟨b, hb, r⟩; exact ⟨b, h b hb, r⟩
structure Moved (base : Nat) (H1 : Hp) (ρ1 : Nat → Loc) (F : Nat → Nat → Prop) (w : World) (K : Hp) (ρ : Nat → Loc) (K' : Hp) (ρ' : Nat → Loc) (fp : List Nat) : Prop where
  inv : Inv base K' ρ' F w
  step : Step K ρ F w K' ρ' F w
  old : ∀ b, b < K.g → K'.h b = K.h b ∧ ρ' b = ρ b
  new : ∀ b cs, K.g ≤ b → K'.h b = some cs → Within H1 ρ1 fp (ρ' b)
def Apart (H1 : Hp) (ρ1 : Nat → Loc) (K : Hp) (ρ : Nat → Loc) (fp : List Nat) : Prop :=
  ∀ b c, K.h b = some c → ∀ b1 ∈ fp, (∃ cs, H1.h b1 = some cs) → ∀ i j, i < (ρ b).lim → j < (ρ1 b1).lim → ¬ ((ρ b).blk = (ρ1 b1).blk ∧ (ρ b).off + i = (ρ1 b1).off + j)
theorem Moved.none {K : Hp} {ρ : Nat → Loc} (I : Inv base K ρ F w) : Moved base H1 ρ1 F w K ρ K ρ [] :=
  ⟨I, .refl _ _ _ _, fun _ _ => ⟨rfl, rfl⟩, fun b cs h h' => by have := I.lt b cs h'; omega⟩
theorem Moved.trans {K : Hp} {ρ : Nat → Loc} {K2 : Hp} {ρ2 : Nat → Loc} {K3 : Hp} {ρ3 : Nat → Loc} {f g : List Nat} (a : Moved base H1 ρ1 F w K ρ K2 ρ2 f) (b : Moved base H1 ρ1 F w K2 ρ2 K3 ρ3 g) : Moved base H1 ρ1 F w K ρ K3 ρ3 (f ++ g) := by
  refine ⟨b.inv, a.step.trans b.step, fun i hi => ?_, fun i cs hi h => ?_⟩
  · obtain ⟨h1, h2⟩ := a.old i hi
    obtain ⟨h3, h4⟩ := b.old i (Nat.lt_of_lt_of_le hi a.step.g)
    exact ⟨h3.trans h1, h4.trans h2⟩
  · rcases Nat.lt_or_ge i K2.g with hlt | hge
    · obtain ⟨h3, h4⟩ := b.old i hlt
      rw [h4]; rw [h3] at h
      exact (a.new i cs hi h).sub fun b hb => List.mem_append.2 (.inl hb)
    · exact (b.new i cs hge h).sub fun b hb => List.mem_append.2 (.inr hb)
/-- What was not touched is still apart, and what was moved is apart from the rest. -/
theorem Moved.apart (I1 : Inv base1 H1 ρ1 F1 w) {K : Hp} {ρ : Nat → Loc} {K2 : Hp} {ρ2 : Nat → Loc} {f g : List Nat} (a : Moved base H1 ρ1 F w K ρ K2 ρ2 f) (h : Apart H1 ρ1 K ρ g) (hd : ∀ x ∈ f, x ∉ g) : Apart H1 ρ1 K2 ρ2 g := by
  intro b c hb b1 hb1 ⟨c1, hc1⟩ i j hi hj
  rcases Nat.lt_or_ge b K.g with hlt | hge
  · obtain ⟨h1, h2⟩ := a.old b hlt
    rw [h2] at hi ⊢; rw [h1] at hb
    exact h b c hb b1 hb1 ⟨c1, hc1⟩ i j hi hj
  · obtain ⟨b0, hb0, ⟨c0, hc0⟩, e1, e2, e3⟩ := a.new b c hge hb
    rintro ⟨q1, q2⟩
    have hne : b0 ≠ b1 := fun e => hd b0 hb0 (e ▸ hb1)
    exact I1.dis b0 b1 c0 c1 hne hc0 hc1 ((ρ2 b).off + i - (ρ1 b0).off) j (by omega) hj ⟨by rw [← e1]; exact q1, by omega⟩

theorem mapM_cons_some {α β : Type} {f : α → Option β} {a : α} {l : List α} {r : List β} : (a :: l).mapM f = some r ↔ ∃ b s, f a = some b ∧ l.mapM f = some s ∧ r = b :: s := by
  simp only [List.mapM_cons, bind, pure]
  constructor
  · intro h
    obtain ⟨b, h1, h⟩ := Option.bind_eq_some_iff.1 h
    obtain ⟨s, h2, h⟩ := Option.bind_eq_some_iff.1 h
    exact ⟨b, s, h1, h2, (Option.some.inj h).symm⟩
  · rintro ⟨b, s, h1, h2, rfl⟩
    rw [h1]; simp only [Option.bind_some]; rw [h2]; rfl

def MatOk (base : Nat) (H1 : Hp) (ρ1 : Nat → Loc) (F1 F : Nat → Nat → Prop) (w : World) (d : Nat) : Prop :=
  ∀ (x : AV) (y : Value) (t : AV) (fp : List Nat) (K : Hp) (ρ : Nat → Loc) (z : AV) (K' : Hp), fpt H1 d x = some fp → fp.Nodup → deep H1 d x = some t → VR H1 ρ1 F1 w x y → Inv base K ρ F w → Apart H1 ρ1 K ρ fp → mat d t K = some (z, K') →
    ∃ ρ', Moved base H1 ρ1 F w K ρ K' ρ' fp ∧ VR K' ρ' F w z y ∧ (okc x = true → okc z = true)

theorem matL_ok (I1 : Inv base1 H1 ρ1 F1 w) {d : Nat} (ih : MatOk base H1 ρ1 F1 F w d) : ∀ (xs : List AV) (ys : List Value) (ts : List AV) (fps : List (List Nat)) (K : Hp) (ρ : Nat → Loc) (zs : List AV) (K' : Hp),
    xs.mapM (fpt H1 d) = some fps → fps.flatten.Nodup → xs.mapM (deep H1 d) = some ts → xs.length = ys.length → (∀ (i : Nat) x y, xs[i]? = some x → ys[i]? = some y → VR H1 ρ1 F1 w x y) → Inv base K ρ F w → Apart H1 ρ1 K ρ fps.flatten → matL (mat d) ts K = some (zs, K') →
    ∃ ρ', Moved base H1 ρ1 F w K ρ K' ρ' fps.flatten ∧ zs.length = ys.length ∧ (∀ (i : Nat) z y, zs[i]? = some z → ys[i]? = some y → VR K' ρ' F w z y) ∧ ((∀ x ∈ xs, okc x = true) → ∀ z ∈ zs, okc z = true) := by
  intro xs
  induction xs with
  | nil =>
    intro ys ts fps K ρ zs K' hf hn ht hl hv I hA hm
    obtain rfl : fps = [] := (Option.some.inj hf).symm
    obtain rfl : ts = [] := (Option.some.inj ht).symm
    simp only [matL, Option.some.injEq, Prod.mk.injEq] at hm
    obtain ⟨rfl, rfl⟩ := hm
    exact ⟨ρ, .none I, hl, fun i z y h => by simp at h, fun _ z h => by simp at h⟩
  | cons x xs ihx =>
    intro ys ts fps K ρ zs K' hf hn ht hl hv I hA hm
    obtain ⟨f0, fr, hf0, hfr, rfl⟩ := mapM_cons_some.1 hf
    obtain ⟨t0, tr, ht0, htr, rfl⟩ := mapM_cons_some.1 ht
    cases ys with
    | nil => simp at hl
    | cons y ys =>
      simp only [matL] at hm
      obtain ⟨⟨z0, K2⟩, hm0, hm⟩ := Option.bind_eq_some_iff.1 hm
      obtain ⟨⟨zr, K3⟩, hmr, hm⟩ := Option.map_eq_some_iff.1 hm
      simp only [Prod.mk.injEq] at hm
      obtain ⟨rfl, rfl⟩ := hm
      simp only [List.flatten_cons] at hn hA ⊢
      obtain ⟨n1, n2, n3⟩ := List.nodup_append.1 hn
      obtain ⟨ρ2, M2, v2, o2⟩ := ih x y t0 f0 K ρ z0 K2 hf0 n1 ht0 (hv 0 x y rfl rfl) I (fun b c hb b1 hb1 => hA b c hb b1 (List.mem_append.2 (.inl hb1))) hm0
      have hA2 : Apart H1 ρ1 K2 ρ2 fr.flatten := M2.apart I1 (fun b c hb b1 hb1 => hA b c hb b1 (List.mem_append.2 (.inr hb1))) (fun a ha hb => n3 a ha a hb rfl)
      obtain ⟨ρ3, M3, l3, v3, o3⟩ := ihx ys tr fr K2 ρ2 zr K3 hfr n2 htr (by simpa using hl) (fun i a b ha hb => hv (i + 1) a b (by simpa using ha) (by simpa using hb)) M2.inv hA2 hmr
      refine ⟨ρ3, M2.trans M3, by simp [l3], fun i z y' hz hy => ?_, fun h z hz => ?_⟩
      · cases i with
        | zero => simp at hz hy; subst hz hy; exact v2.mono M3.step
        | succ i => exact v3 i z y' (by simpa using hz) (by simpa using hy)
      · rcases List.mem_cons.1 hz with rfl | hz
        · exact o2 (h x (by simp))
        · exact o3 (fun x hx => h x (by simp [hx])) z hz

theorem chunk_flatten : ∀ (sz n : Nat) (l : List AV), l.length = n * sz → (chunk sz n l).flatten = l := by
  intro sz n
  induction n with
  | zero => intro l h; simp at h; subst h; rfl
  | succ n ih =>
    intro l h
    simp only [chunk, List.flatten_cons]
    rw [ih _ (by simp [h, Nat.succ_mul]), List.take_append_drop]
theorem mapM_len {α β : Type} {f : α → Option β} : ∀ (l : List α) {r : List β}, l.mapM f = some r → r.length = l.length := by
  intro l
  induction l with
  | nil => intro r h; obtain rfl : r = [] := (Option.some.inj h).symm; rfl
  | cons a l ih => intro r h; obtain ⟨b, s, -, h2, rfl⟩ := mapM_cons_some.1 h; simp [ih h2]

theorem mat_ok (I1 : Inv base1 H1 ρ1 F1 w) (hbb : base ≤ base1) (hF : ∀ k o, F k o → k < base1) : ∀ d, MatOk base H1 ρ1 F1 F w d := by
  intro d
  induction d with
  | zero => intro x y t fp K ρ z K' hf; simp [fpt] at hf
  | succ d ih =>
    intro x y t fp K ρ z K' hf hn ht hv I hA hm
    have parts : ∀ (cs : List AV) (ys : Array Value) (f : List Nat) (ts : List AV) (zs : List AV) (K' : Hp), (cs.mapM (fpt H1 d)).map List.flatten = some f → f.Nodup → cs.mapM (deep H1 d) = some ts → cs.length = ys.size → (∀ (i : Nat) x y, cs[i]? = some x → ys[i]? = some y → VR H1 ρ1 F1 w x y) → Apart H1 ρ1 K ρ f → matL (mat d) ts K = some (zs, K') →
        ∃ ρ', Moved base H1 ρ1 F w K ρ K' ρ' f ∧ zs.length = ys.size ∧ (∀ (i : Nat) z y, zs[i]? = some z → ys[i]? = some y → VR K' ρ' F w z y) := by
      intro cs ys f ts zs K' hf hn ht hl hv hA hm
      obtain ⟨fps, hf2, rfl⟩ := Option.map_eq_some_iff.1 hf
      obtain ⟨ρ', M, l', v', -⟩ := matL_ok I1 ih cs ys.toList ts fps K ρ zs K' hf2 hn ht (by simpa using hl) (fun i a b ha hb => hv i a b ha (by simpa using hb)) I hA hm
      exact ⟨ρ', M, by simpa using l', fun i z y hz hy => v' i z y hz (by simpa using hy)⟩
    cases x with
    | any => simp [fpt] at hf
    | fp cs o => simp [fpt] at hf
    | ptr b o => simp [fpt] at hf
    | fn f caps => simp [fpt] at hf
    | ifc b => simp [fpt] at hf
    | v q =>
      simp only [fpt, Option.some.injEq] at hf
      subst hf
      have hyq : y = q := by cases hv; rfl
      subst hyq
      have key : ((∃ c, y = .slice none 0 c) ∧ z = .lst false [] ∧ K' = K) ∨ (z = .v y ∧ K' = K) := by
        by_cases hy : y = .slice none 0 0
        · subst hy
          simp [deep] at ht
          subst ht
          simp [mat] at hm
          exact .inl ⟨⟨0, rfl⟩, hm.1.symm, hm.2.symm⟩
        · have h0 : deep H1 (d + 1) (.v y) = some (.v y) := by
            unfold deep
            split <;> simp_all
          rw [h0] at ht
          obtain rfl := Option.some.inj ht
          simp only [mat, Option.some.injEq, Prod.mk.injEq] at hm
          exact .inr ⟨hm.1.symm, hm.2.symm⟩
      rcases key with ⟨⟨c, rfl⟩, rfl, rfl⟩ | ⟨rfl, rfl⟩
      · exact ⟨ρ, .none I, .lst0 (by simp), fun _ => rfl⟩
      · exact ⟨ρ, .none I, .v, fun h => h⟩
    | lst fu xs =>
      cases xs with
      | cons r xs => simp [fpt] at hf
      | nil =>
        simp only [fpt, Option.some.injEq] at hf
        subst hf
        simp [deep] at ht
        subst ht
        simp [mat] at hm
        obtain ⟨rfl, rfl⟩ := hm
        cases hv with
        | lst0 h => exact ⟨ρ, .none I, .lst0 (by simp), fun _ => rfl⟩
        | lst rd hne => exact absurd rfl hne
    | agg cs =>
      cases hv with
      | agg hl hv =>
        simp only [fpt] at hf
        simp only [deep] at ht
        obtain ⟨ts, ht', rfl⟩ := Option.map_eq_some_iff.1 ht
        simp only [mat] at hm
        obtain ⟨⟨zs, K2⟩, hm', heq⟩ := Option.map_eq_some_iff.1 hm
        simp only [Prod.mk.injEq] at heq
        obtain ⟨rfl, rfl⟩ := heq
        obtain ⟨ρ', M, l', v'⟩ := parts cs _ fp ts zs K2 hf hn ht' hl hv hA hm'
        exact ⟨ρ', M, .agg l' v', fun h => by simp [okc] at h⟩
    | tup cs =>
      cases hv with
      | tup hl hv =>
        simp only [fpt] at hf
        simp only [deep] at ht
        obtain ⟨ts, ht', rfl⟩ := Option.map_eq_some_iff.1 ht
        simp only [mat] at hm
        obtain ⟨⟨zs, K2⟩, hm', heq⟩ := Option.map_eq_some_iff.1 hm
        simp only [Prod.mk.injEq] at heq
        obtain ⟨rfl, rfl⟩ := heq
        obtain ⟨ρ', M, l', v'⟩ := parts cs _ fp ts zs K2 hf hn ht' hl hv hA hm'
        exact ⟨ρ', M, .tup l' v', fun h => by simp [okc] at h⟩
    | sl b sz o n =>
      cases hv with
      | sl hb hs hnn =>
        rename_i a c
        simp only [deep] at ht
        obtain ⟨cs, hcs, ht⟩ := Option.bind_eq_some_iff.1 ht
        split at ht
        rotate_left
        · simp at ht
        rename_i hc
        obtain ⟨ds, hds, rfl⟩ := Option.map_eq_some_iff.1 ht
        simp only [fpt] at hf
        split at hf
        · rename_i hn0
          subst hn0
          simp only [Option.some.injEq] at hf
          subst hf
          simp [chunk, mat] at hm
          obtain ⟨rfl, rfl⟩ := hm
          exact ⟨ρ, .none I, .lst0 (by simp), fun _ => rfl⟩
        rename_i hn0
        simp only [hcs, Option.bind_some] at hf
        obtain ⟨fps, hfps, rfl⟩ := Option.map_eq_some_iff.1 hf
        obtain ⟨hlt, hsz⟩ := hc
        have hlen : ((cs.drop o).take (n * sz)).length = n * sz := by simp; omega
        have hdl : ds.length = n * sz := by rw [mapM_len _ hds, hlen]
        obtain ⟨m, rfl⟩ : ∃ m, n = m + 1 := ⟨n - 1, by omega⟩
        have hch : chunk sz (m + 1) ds = ds.take sz :: chunk sz m (ds.drop sz) := rfl
        have htk : (ds.take sz).length = sz := by simp [hdl, Nat.succ_mul]
        rw [hch] at hm
        simp only [mat] at hm
        rw [htk, chunk_length, ← hch, chunk_flatten _ _ _ hdl] at hm
        split at hm
        rotate_left
        · simp at hm
        obtain ⟨⟨zs, K2⟩, hm', heq⟩ := Option.map_eq_some_iff.1 hm
        simp only [Prod.mk.injEq] at heq
        obtain ⟨rfl, rfl⟩ := heq
        obtain ⟨g1, g2, g3⟩ := I1.blk b cs hcs
        -- the slice's own cells
        have hcell : ∀ i, i < (m + 1) * sz → ∃ x y, ((cs.drop o).take ((m + 1) * sz))[i]? = some x ∧ cs[o + i]? = some x ∧ w.cell? (at_ (ρ1 b).blk ((ρ1 b).off + (o + i))) = some y ∧ VR H1 ρ1 F1 w x y := by
          intro i hi
          have hx : cs[o + i]? = some (cs[o + i]'(by omega)) := by simp
          obtain ⟨y, hy, hr⟩ := I1.val b cs (o + i) _ hcs hx
          exact ⟨_, y, by rw [List.getElem?_take_of_lt hi, List.getElem?_drop]; exact hx, hx, hy, hr⟩
        have hys : ∃ ys : List Value, ys.length = (m + 1) * sz ∧ ∀ i y, ys[i]? = some y → w.cell? (at_ (ρ1 b).blk ((ρ1 b).off + (o + i))) = some y := by
          refine ⟨(List.range ((m + 1) * sz)).map fun i => (w.cell? (at_ (ρ1 b).blk ((ρ1 b).off + (o + i)))).getD .nilFunc, by simp, fun i y hy => ?_⟩
          rw [List.getElem?_map] at hy
          obtain ⟨j, hj, rfl⟩ := Option.map_eq_some_iff.1 hy
          have hlt2 : i < (m + 1) * sz := by
            rcases Nat.lt_or_ge i ((m + 1) * sz) with h | h
            · exact h
            · rw [List.getElem?_eq_none (by simpa using h)] at hj; simp at hj
          simp [List.getElem?_range hlt2] at hj
          subst hj
          obtain ⟨x, y, -, -, hy, -⟩ := hcell i hlt2
          rw [hy]; rfl
        obtain ⟨ys, hyl, hyc⟩ := hys
        obtain ⟨n1, n2⟩ := List.nodup_cons.1 hn
        have hA' : Apart H1 ρ1 K ρ fps.flatten := fun b' c' hb' b1 hb1 => hA b' c' hb' b1 (List.mem_cons_of_mem _ hb1)
        obtain ⟨ρ2, M, l2, v2, o2⟩ := matL_ok I1 ih _ ys ds fps K ρ zs K2 hfps n2 hds (by rw [hlen, hyl]) (fun i x y hx hy => by
          have hi : i < (m + 1) * sz := by
            rcases Nat.lt_or_ge i ((m + 1) * sz) with h | h
            · exact h
            · rw [List.getElem?_eq_none (by omega)] at hx; simp at hx
          obtain ⟨x', y', h1, -, h3, h4⟩ := hcell i hi
          rw [hx] at h1; rw [hyc i y hy] at h3
          obtain rfl := Option.some.inj h1
          obtain rfl := Option.some.inj h3
          exact h4) I hA' hm'
        have hAb : ∀ b' c', K2.h b' = some c' → ∀ i j, i < (ρ2 b').lim → j < (ρ1 b).lim → ¬ ((ρ2 b').blk = (ρ1 b).blk ∧ (ρ2 b').off + i = (ρ1 b).off + j) := by
          intro b' c' hb' i j hi hj
          exact M.apart I1 (g := [b]) (fun b0 c0 h0 b1 hb1 => hA b0 c0 h0 b1 (by simp at hb1; simp [hb1])) (fun x hx hxb => by simp at hxb; subst hxb; exact n1 hx) b' c' hb' b (by simp) ⟨cs, hcs⟩ i j hi hj
        have hso := hs cs hcs
        obtain ⟨J, S⟩ := M.inv.adopt (cs := zs) ⟨(ρ1 b).blk, (ρ1 b).off + o, (ρ1 b).lim - o⟩ ⟨by simp; omega, g2, by simp; omega⟩
          (fun i hi => by
            simp only at hi ⊢
            rw [Nat.add_assoc]; exact I1.mem b cs hcs (o + i) (by omega))
          (fun i z hz => by
            simp only
            have hi : i < ys.length := by
              rcases Nat.lt_or_ge i ys.length with h | h
              · exact h
              · rw [List.getElem?_eq_none (by omega)] at hz; simp at hz
            have hy : ys[i]? = some ys[i] := by simp [hi]
            exact ⟨_, by rw [Nat.add_assoc]; exact hyc i _ hy, v2 i z _ hz hy⟩)
          (fun b' c' hb' i j hi hj => by
            simp only at hj ⊢
            rintro ⟨e1, e2⟩; exact hAb b' c' hb' i (o + j) hi (by omega) ⟨e1, by omega⟩)
          (fun i hi hFF => by
            have := hF _ _ hFF
            simp only at this; omega)
          (o2 fun x hx => I1.one b cs x hcs (List.mem_of_mem_drop (List.mem_of_mem_take hx)))
        refine ⟨_, ⟨J, M.step.trans S, fun b' hb' => ?_, fun b' c' hb' h => ?_⟩, .sl (by simp) (fun cs' hcs' => ?_) (fun hae => by rcases hso with ⟨h1, -, -⟩ | ⟨h1, -⟩ <;> first | omega | (rw [h1] at hae; simp at hae)), fun _ => rfl⟩
        · obtain ⟨h1, h2⟩ := M.old b' hb'
          have : b' ≠ K2.g := by have := M.step.g; omega
          rw [Hp.new_h, if_neg this]
          exact ⟨h1, by simp [setρ, this, h2]⟩
        · rw [Hp.new_h] at h
          by_cases e : b' = K2.g
          · subst e
            simp only [setρ, if_true]
            exact ⟨b, by simp, ⟨cs, hcs⟩, rfl, by simp, by simp; omega⟩
          · rw [if_neg e] at h
            simp only [setρ, if_neg e]
            exact (M.new b' c' hb' h).sub fun x hx => List.mem_cons_of_mem _ hx
        · rw [Hp.new_h, if_pos rfl] at hcs'
          obtain rfl := Option.some.inj hcs'
          have hzl : zs.length = (m + 1) * sz := by omega
          simp only [setρ, if_true]
          rcases hso with ⟨h1, -, -⟩ | ⟨h1, h2, h3, h4⟩
          · omega
          · right
            refine ⟨by rw [h1]; simp [Nat.add_assoc], by simp; omega, by simp; omega, ?_⟩
            simp only; omega
end
end Go.Proofs.YtnejoidfbgklbaaGreatDoor.Eng
