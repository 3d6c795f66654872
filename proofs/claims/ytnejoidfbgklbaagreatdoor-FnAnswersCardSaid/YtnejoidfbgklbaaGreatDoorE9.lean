/- The engine, part 9: the builtins on abstract values. -/
import Derived.Test.YtnejoidfbgklbaaGreatDoorE8
namespace Go.Proofs.YtnejoidfbgklbaaGreatDoor.Eng
open Go Go.RowKit
set_option linter.unusedSimpArgs false
set_option linter.unusedVariables false

section
variable {P : Program} {base : Nat} {H : Hp} {ρ : Nat → Loc} {F : Nat → Nat → Prop} {w : World}

theorem one_of_cells {cs : List AV} {vals : List Value} (hl : cs.length = vals.length) (ho : ∀ c ∈ cs, okc c = true) (hv : ∀ (i : Nat) c d, cs[i]? = some c → vals[i]? = some d → VR H ρ F w c d) : ∀ d ∈ vals, d.oneCell' = true := by
  intro d hd
  obtain ⟨i, hi⟩ := List.mem_iff_getElem?.1 hd
  have hlt := lt_of_get hi
  have hc : cs[i]? = some (cs[i]'(by omega)) := by simp [show i < cs.length by omega]
  exact one_of (hv i _ d hc hi) (ho _ (List.mem_of_getElem? hc))

/-- A new row of cells with room behind them, under the name of a slice. -/
theorem fresh_ok (I : Inv base H ρ F w) {H0 : Hp} (h0 : ∀ b cs, H0.h b = some cs → H.h b = some cs) (hg0 : H0.g = H.g) {cs : List AV} {vals : List Value} (rest : Array Value) (el : TypeId) {sz n cap : Nat} (hl : cs.length = vals.length) (hn : cs.length = n * sz)
    (hcap : n ≤ cap) (hrest : rest.size = (cap - n) * sz) (ho : ∀ c ∈ cs, okc c = true) (hv : ∀ (i : Nat) c d, cs[i]? = some c → vals[i]? = some d → VR H ρ F w c d) :
    ∃ ρ', After base H ρ F w (H0.new cs) ρ' F (w.drew.alloc (.cells (vals.toArray ++ rest) el)) ∧ VR (H0.new cs) ρ' F (w.drew.alloc (.cells (vals.toArray ++ rest) el)) (.sl H.g sz 0 n) (.slice (some (at_ w.heap.size 0)) n cap) := by
  obtain ⟨i1, i2⟩ := I.drew
  obtain ⟨i3, i4⟩ := i1.alloc h0 hg0 (cs := cs) (ys := vals.toArray ++ rest) el (by simp; omega) ho (fun i c d hc hd => by
    have hlt := lt_of_get hc
    rw [Array.getElem?_append, if_pos (by simp; omega)] at hd
    exact (hv i c d hc (by simpa using hd)).mono i2)
  refine ⟨_, ⟨i3, i2.trans i4, ((Below.refl _ _).drew).alloc (by exact I.base) _, fun _ _ h => .inl h⟩, .sl (by simp [hg0]) fun c hc => ?_⟩
  have hc' : c = cs := by
    rw [Hp.new_h, hg0, if_pos rfl] at hc; simpa using hc.symm
  subst hc'
  refine .inr ⟨by simp [setρ], by omega, ?_, ?_⟩
  · rw [hn, Nat.zero_add]; exact Nat.mul_le_mul_right _ hcap
  · have : (setρ ρ H.g ⟨w.drew.heap.size, 0, (vals.toArray ++ rest).size⟩ H.g).lim = vals.length + rest.size := by simp [setρ]
    rw [this, ← hl, hn, hrest, ← Nat.add_mul, show n + (cap - n) = cap by omega]; omega

theorem append_ok (I : Inv base H ρ F w) {ts : List TypeId} {x y v : AV} {a b : Value} {H' : Hp} (ty : TypeId) (hx : VR H ρ F w x a) (hy : VR H ρ F w y b) (h : aappend P H ts x y = some (v, H')) :
    ∃ u w' ρ', (Builtin.append_ ts.toArray ty #[a, b]).run P w = .ok u w' ∧ After base H ρ F w H' ρ' F w' ∧ VR H' ρ' F w' v u := by
  unfold aappend at h
  split at h
  case h_2 => simp at h
  rename_i t xt
  simp only [Option.bind_eq_some_iff] at h
  obtain ⟨el, hel, z, hz, bytes, hby, ⟨m, cs⟩, happ, h⟩ := h
  obtain ⟨zv, hzv, hzc, hszv, hone⟩ := run_zero hz
  have hzl : z.length = zv.cells.size := by rw [hzc]; simp
  have hsz : szOf P el = some z.length := by rw [hzl]; exact hszv
  obtain ⟨vals, hl, hvl, ho, hv, happ⟩ := appended_ok (P := P) I hz hy happ
  have hA : Appended P w xt el z.length m b vals := happ
  have ht := elem_spec hel
  by_cases hm : m = 0
  · subst hm
    simp only [if_true] at h
    have hv0 : vals = [] := List.eq_nil_of_length_eq_zero (by omega)
    subst hv0
    have keep : ∀ ad n c, a = .slice ad n c → n ≤ c → (Builtin.append_ [t, xt].toArray ty #[a, b]).run P w = .ok (.slice ad n c) w := by
      rintro ad n c rfl hnc
      cases ad with
      | some ad => rw [append_room ht hsz hby hA (by omega) (by omega)]; rfl
      | none => rw [append_room_none ht hsz hby hA (by omega) (by omega)]; rfl
    split at h
    · simp only [Option.some.injEq, Prod.mk.injEq] at h
      obtain ⟨rfl, rfl⟩ := h
      cases hx
      exact ⟨_, w, ρ, keep none 0 0 rfl (Nat.le_refl _), .refl I, .v⟩
    · simp only [Option.some.injEq, Prod.mk.injEq] at h
      obtain ⟨rfl, rfl⟩ := h
      cases hx with
      | lst0 h0 => exact ⟨_, w, ρ, keep _ _ _ rfl (by omega), .refl I, .lst0 h0⟩
      | lst rd hne hs hf hc ho hm hv => exact ⟨_, w, ρ, keep _ _ _ rfl hc, .refl I, .lst rd hne hs hf hc ho hm hv⟩
    · rename_i b' sz o n
      simp only [Option.ite_none_right_eq_some, Option.some.injEq, Prod.mk.injEq] at h
      obtain ⟨⟨hpos, hlive⟩, rfl, rfl⟩ := h
      obtain ⟨cs', hcs⟩ := Option.isSome_iff_exists.1 hlive
      cases hx with
      | sl hb hs hn =>
        rename_i ad c
        refine ⟨_, w, ρ, keep ad n c rfl ?_, .refl I, .sl hb hs hn⟩
        rcases hs cs' hcs with ⟨rfl, rfl, h3⟩ | ⟨rfl, h4, h5, h6⟩
        · omega
        · exact Nat.le_of_mul_le_mul_right (by omega : n * sz ≤ c * sz) hpos
    · simp at h
  · rw [if_neg hm] at h
    split at h
    · simp at h
    rename_i hz0
    split at h
    · -- nil
      simp only [Option.ite_none_right_eq_some, Option.some.injEq, Prod.mk.injEq] at h
      obtain ⟨hroomy, rfl, rfl⟩ := h
      obtain ⟨r1, r2⟩ := roomy_spec hroomy
      cases hx
      obtain ⟨cap, rest, g1, g2, g3⟩ := append_grow (olds := []) (ad := none) (n := 0) (c := 0) (ty := ty) ht hsz hby hzv hA (by omega) (by simpa using r1) (by simpa using r2) (fun w2 _ => run_firstCells_zero _ _ _ _ _)
      rw [Nat.zero_add] at g1 g2 g3
      obtain ⟨ρ', h1, h2⟩ := fresh_ok I (H0 := H) (fun _ _ h => h) rfl rest el (sz := z.length) (n := m) (cap := cap) hl (by omega) g1 (by rw [g2, hzl]) ho hv
      refine ⟨_, _, ρ', g3, ?_⟩
      have e : ([].toArray ++ vals.toArray ++ rest : Array Value) = vals.toArray ++ rest := by simp
      rw [e]; exact ⟨h1, h2⟩
    · -- a literal
      rename_i xs
      simp only [Option.ite_none_right_eq_some, Option.some.injEq, Prod.mk.injEq] at h
      obtain ⟨⟨hall, hroomy⟩, rfl, rfl⟩ := h
      obtain ⟨r1, r2⟩ := roomy_spec hroomy
      have hel : ∀ c ∈ xs, c.length = z.length := fun c hc => by simpa using List.all_eq_true.1 hall c hc
      have hff : afirst H z.length xs.length (.lst true xs) = some xs.flatten := by
        simp only [afirst]
        rw [if_pos ⟨Nat.le_refl _, by rw [List.take_length]; exact hall⟩, List.take_length]
      obtain ⟨olds, o1, o2, o3, o4, o5⟩ := first_ok (P := P) I hx hff
      have hfull : ∃ ad, a = .slice ad xs.length xs.length := by
        cases hx with
        | lst0 h0 => exact ⟨_, by rw [h0 rfl]; rfl⟩
        | lst rd hne hs hf hc ho hm hv => exact ⟨_, by rw [hf rfl]⟩
      obtain ⟨ad, rfl⟩ := hfull
      obtain ⟨cap, rest, g1, g2, g3⟩ := append_grow (ty := ty) ht hsz hby hzv hA (by omega) r1 r2 o5
      obtain ⟨ρ', h1, h2⟩ := fresh_ok I (H0 := H) (cs := xs.flatten ++ cs) (vals := olds ++ vals) (fun _ _ h => h) rfl rest el (sz := z.length) (n := xs.length + m) (cap := cap) (by simp [o1, hl]) (by rw [List.length_append, o1, o2, hl, hvl, Nat.add_mul]) g1 (by rw [g2, hzl])
        (fun c hc => by rcases List.mem_append.1 hc with h | h; exact o3 c h; exact ho c h) (fun i c d hc hd => by
          rw [List.getElem?_append] at hc hd
          rw [o1] at hc
          split at hc
          · rw [if_pos ‹_›] at hd; exact o4 i c d hc hd
          · rw [if_neg ‹_›] at hd; exact hv _ c d hc hd)
      refine ⟨_, _, ρ', g3, ?_⟩
      have e : (olds.toArray ++ vals.toArray ++ rest : Array Value) = (olds ++ vals).toArray ++ rest := by simp
      rw [e]; exact ⟨h1, h2⟩
    · rename_i b' sz o n
      simp only [Option.ite_none_right_eq_some] at h
      obtain ⟨⟨rfl, hroomy⟩, h⟩ := h
      obtain ⟨r1, r2⟩ := roomy_spec hroomy
      obtain ⟨old, hold, h⟩ := Option.bind_eq_some_iff.1 h
      split at h
      case isFalse => simp at h
      rename_i hon
      have hone' := one_of_cells hl ho hv
      cases hx with
      | sl hb hs hn =>
        rename_i ad c
        obtain ⟨b1, b2, b3⟩ := I.blk b' old hold
        have hlen2 : (n + m) * z.length = n * z.length + m * z.length := Nat.add_mul _ _ _
        have hmpos : 0 < m * z.length := Nat.mul_pos (by omega) (by omega)
        split at h
        · rename_i hfit
          simp only [Option.some.injEq, Prod.mk.injEq] at h
          obtain ⟨rfl, rfl⟩ := h
          rcases hs old hold with ⟨rfl, rfl, h3⟩ | ⟨rfl, h4, h5, h6⟩
          · omega
          have hroom : n + m ≤ c := Nat.le_of_mul_le_mul_right (by omega : (n + m) * z.length ≤ c * z.length) (by omega)
          obtain ⟨w', k1, k2⟩ := storeCells_wrote P vals w (ρ b').blk ((ρ b').off + (o + n * z.length)) 0 (fun j hj => by
            have := I.mem b' old hold (o + n * z.length + j) (by omega)
            rw [Nat.add_zero, Nat.add_assoc]; exact this) hone'
          rw [Nat.add_zero] at k2
          obtain ⟨i1, i2, i3⟩ := I.write hold k2 (xs := cs) hl (by omega) ho hv
          refine ⟨.slice (some (at_ (ρ b').blk ((ρ b').off + o))) (n + m) c, w', ρ, ?_, ⟨i1, i2, i3, fun _ _ h => .inl h⟩, .sl hb fun cs' hcs' => ?_⟩
          · rw [append_room ht hsz hby hA (by have := Nat.mul_le_mul_right bytes (show m ≤ n + m by omega); omega) hroom, add_at, Nat.add_assoc, k1]; rfl
          · rw [Hp.set_h, if_pos rfl] at hcs'
            simp only [Option.some.injEq] at hcs'
            rw [← hcs', setAll_length]
            exact .inr ⟨rfl, by omega, h5, h6⟩
        · rename_i hfit
          simp only [Option.some.injEq, Prod.mk.injEq] at h
          obtain ⟨rfl, rfl⟩ := h
          by_cases hroom : n + m ≤ c
          · rcases hs old hold with ⟨rfl, rfl, h3⟩ | ⟨rfl, h4, h5, h6⟩
            · omega
            have hle : (n + m) * z.length ≤ c * z.length := Nat.mul_le_mul_right _ hroom
            obtain ⟨w', k1, k2⟩ := storeCells_wrote P vals w (ρ b').blk ((ρ b').off + (o + n * z.length)) 0 (fun j hj => by
              have := I.mem b' old hold (o + n * z.length + j) (by omega)
              rw [Nat.add_zero, Nat.add_assoc]; exact this) hone'
            rw [Nat.add_zero] at k2
            obtain ⟨i1, i2, i3⟩ := I.extend hold (n := n * z.length) k2 (xs := cs) hl hon (by omega) ho hv
            refine ⟨.slice (some (at_ (ρ b').blk ((ρ b').off + o))) (n + m) c, w', _, ?_, ⟨i1, i2, i3, fun _ _ h => .inl h⟩, .sl (by simp) fun cs' hcs' => ?_⟩
            · rw [append_room ht hsz hby hA (by have := Nat.mul_le_mul_right bytes (show m ≤ n + m by omega); omega) hroom, add_at, Nat.add_assoc, k1]; rfl
            · rw [Hp.new_h, Hp.del_g, if_pos rfl] at hcs'
              simp only [Option.some.injEq] at hcs'
              have hlc : cs'.length = (n + m) * z.length := by
                rw [← hcs', List.length_append, List.length_take, List.length_drop, hl, hvl]; omega
              refine .inr ⟨by simp [setρ], by omega, by rw [hlc]; omega, ?_⟩
              have : (setρ ρ H.g ⟨(ρ b').blk, (ρ b').off + o, (ρ b').lim - o⟩ H.g).lim = (ρ b').lim - o := by simp [setρ]
              rw [this]; omega
          · have hff : afirst H z.length n (.sl b' z.length o n) = some ((old.drop o).take (n * z.length)) := by
              simp [afirst, hold, hon]
            obtain ⟨olds, o1, o2, o3, o4, o5⟩ := first_ok (P := P) I (.sl hb hs hn) hff
            obtain ⟨cap, rest, g1, g2, g3⟩ := append_grow (ty := ty) ht hsz hby hzv hA (by omega) r1 r2 o5
            obtain ⟨ρ', h1, h2⟩ := fresh_ok I (H0 := H.del b') (cs := (old.drop o).take (n * z.length) ++ cs) (vals := olds ++ vals) (fun i c h => by rw [Hp.del_h] at h; split at h; simp at h; exact h) rfl rest el (sz := z.length) (n := n + m) (cap := cap)
              (by rw [List.length_append, List.length_append, o1, hl]) (by rw [List.length_append, o1, o2, hl, hvl, Nat.add_mul]) g1 (by rw [g2, hzl])
              (fun c hc => by rcases List.mem_append.1 hc with h | h; exact o3 c h; exact ho c h) (fun i c d hc hd => by
                rw [List.getElem?_append] at hc hd
                rw [o1] at hc
                split at hc
                · rw [if_pos ‹_›] at hd; exact o4 i c d hc hd
                · rw [if_neg ‹_›] at hd; exact hv _ c d hc hd)
            refine ⟨_, _, ρ', g3, ?_⟩
            have e : (olds.toArray ++ vals.toArray ++ rest : Array Value) = (olds ++ vals).toArray ++ rest := by simp
            rw [e]; exact ⟨h1, h2⟩
    · simp at h
end
end Go.Proofs.YtnejoidfbgklbaaGreatDoor.Eng
