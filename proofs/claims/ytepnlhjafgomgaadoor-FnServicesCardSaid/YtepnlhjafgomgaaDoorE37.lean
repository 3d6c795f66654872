/- The engine, part 37: texts that a function of the library makes, as own results. -/
import Derived.Test.YtepnlhjafgomgaaDoorE36
namespace Go.Proofs.YtepnlhjafgomgaaDoor.Eng
open Go Go.RowKit
set_option linter.unusedSimpArgs false
set_option linter.unusedVariables false

section
variable {P : Program} {F : Nat → Nat → Prop} {w : World} {ρ : Nat → Loc}
def txcell (s : ByteArray) : AV := .v (.string s)
theorem txcells_flat (l : List ByteArray) : (l.map fun s => [AV.v (.string s)]).flatten = l.map txcell := by
  induction l with
  | nil => rfl
  | cons y l ih => simp only [List.map_cons, List.flatten_cons, ih]; rfl
theorem deep_txts {H : Hp} {b n : Nat} {l : List ByteArray} (hb : H.h b = some (l.map txcell)) (hl : n = l.length) (hlt : b < H.g) (d : Nat) : deep H (d + 2) (.sl b 1 0 n) = some (textsL l) := by
  have h : RAcc H (.sl b 1 0 n) 1 ((l.map fun s => [AV.v (.string s)]).flatten) n := by
    rw [txcells_flat]
    exact ⟨by simp [hl], .inr ⟨b, hlt, rfl, hb⟩⟩
  exact deep_racc (enc := fun s : ByteArray => [AV.v (.string s)]) h hl (by omega) (fun _ => rfl) (fun k x hx => by simp only [List.mem_singleton] at hx; subst hx; exact Fz.string _ _)
theorem texts_fresh {f : Nat} {vals : Array Value} (I : Inv w.heap.size Hp.nil ρ F w) {el : TypeId} {strs : List ByteArray}
    (h : Calls P f vals w fun e w' => e = .returned (.slice (some ⟨w.heap.size, 0, none⟩) strs.length strs.length) ∧ w' = w.alloc (.cells (strs.map Value.string).toArray el)) :
    (Calls P f vals w fun e w' => ∃ u F', e = .returned u ∧ After w.heap.size Hp.nil ρ F w Hp.nil ρ F' w' ∧ VR Hp.nil ρ F' w' (textsL strs) u ∧ (true = true → VR Hp.nil ρ (fun k o => F' k o ∧ w.heap.size ≤ k) w' (textsL strs) u)) ∧ OwnPost P f vals ρ F w (textsL strs) := by
  have base : ∃ ρ1, After w.heap.size Hp.nil ρ F w (Hp.nil.new (strs.map txcell)) ρ1 F (w.alloc (.cells (strs.map Value.string).toArray el)) ∧ VR (Hp.nil.new (strs.map txcell)) ρ1 F (w.alloc (.cells (strs.map Value.string).toArray el)) (.sl 0 1 0 strs.length) (.slice (some ⟨w.heap.size, 0, none⟩) strs.length strs.length) := by
    obtain ⟨i1, i2⟩ := I.alloc (H0 := Hp.nil) (fun _ _ h => h) rfl (cs := strs.map txcell) (ys := (strs.map Value.string).toArray) el (by simp) (fun x hx => by obtain ⟨s, -, rfl⟩ := List.mem_map.1 hx; rfl) (fun i x y hx hy => by
      simp only [List.getElem?_map, Option.map_eq_some_iff] at hx
      obtain ⟨s, hs, rfl⟩ := hx
      simp only [List.getElem?_toArray, List.getElem?_map, hs, Option.map_some, Option.some.injEq] at hy
      subst hy; exact .v)
    refine ⟨_, ⟨i1, i2, (Below.refl _ _).alloc I.base _, fun _ _ h => .inl h⟩, .sl (by show 0 < 1; omega) fun cs' hc => ?_⟩
    have hc' : some (strs.map txcell) = some cs' := hc
    simp only [Option.some.injEq] at hc'; subst hc'
    exact .inr ⟨by simp [setρ, Hp.nil, at_], by simp, by simp, by simp [setρ, Hp.nil]⟩
  have hdeep : deep (Hp.nil.new (strs.map txcell)) depthD (.sl 0 1 0 strs.length) = some (textsL strs) := deep_txts (d := 10) rfl rfl (by show 0 < 1; omega)
  have hclean : clean (Hp.nil.new (strs.map txcell)) depthD (.sl 0 1 0 strs.length) = true := by
    show ((((some (strs.map txcell)).getD []).drop 0).take (strs.length * 1)).all (clean (Hp.nil.new (strs.map txcell)) 11) = true
    rw [List.all_eq_true]
    intro x hx
    have := List.mem_of_mem_drop (List.mem_of_mem_take hx)
    obtain ⟨s, -, rfl⟩ := List.mem_map.1 this
    rfl
  obtain ⟨ρ1, haf, hvr⟩ := base
  constructor
  · refine h.mono ?_
    rintro e w' ⟨rfl, rfl⟩
    have hbk := back_ok I haf.below
    have key : VR Hp.nil ρ (fun k o => w.heap.size ≤ k ∧ k < (w.alloc (.cells (strs.map Value.string).toArray el)).heap.size) (w.alloc (.cells (strs.map Value.string).toArray el)) (textsL strs) (.slice (some ⟨w.heap.size, 0, none⟩) strs.length strs.length) := by
      refine VR.ofNil (H2 := Hp.nil) (ρ' := ρ) ?_
      refine deep_ok haf.inv depthD _ _ _ hdeep hvr (.inr hclean) (.inl fun b cs i hc hi => ?_)
      obtain ⟨b1, b2, b3⟩ := haf.inv.blk b cs hc
      exact ⟨b1, b2⟩
    exact ⟨_, _, rfl, hbk, key.sub fun k o h => .inr h, fun _ => key.sub fun k o h => ⟨.inr h, h.1⟩⟩
  · refine h.mono ?_
    rintro e w' ⟨rfl, rfl⟩
    obtain ⟨fp, f1, f2, -⟩ := fpt_flat (H := Hp.nil.new (strs.map txcell)) (d := 11) (b := 0) (sz := 1) (o := 0) (n := strs.length) (cs := strs.map txcell) rfl (fun c hc => by obtain ⟨s, -, rfl⟩ := List.mem_map.1 hc; rfl)
    exact ⟨_, _, ρ1, F, _, fp, rfl, haf, hvr, f1, f2, hdeep⟩
end
end Go.Proofs.YtepnlhjafgomgaaDoor.Eng
