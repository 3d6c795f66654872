/- The engine, part 29: in which own blocks a value lies. -/
import Derived.Test.YtlkoklhnodcipaaDoorE28
namespace Go.Proofs.YtlkoklhnodcipaaDoor.Eng
open Go
set_option linter.unusedSimpArgs false
set_option linter.unusedVariables false

section
variable {H : Hp} {d : Nat}
theorem fpts_0 : ∀ cs : List AV, (∀ c ∈ cs, fpt H d c = some []) → ∃ fps, cs.mapM (fpt H d) = some fps ∧ fps.flatten = [] := by
  intro cs
  induction cs with
  | nil => intro _; exact ⟨[], rfl, rfl⟩
  | cons c cs ih =>
    intro h
    obtain ⟨fps, h1, h2⟩ := ih fun x hx => h x (by simp [hx])
    exact ⟨[] :: fps, mapM_cons_some.2 ⟨_, _, h c (by simp), h1, rfl⟩, by simpa using h2⟩
/-- A slice of plain cells lies in its own block alone. -/
theorem fpt_flat {b sz o n : Nat} {cs : List AV} (hb : H.h b = some cs) (h : ∀ c ∈ cs, fpt H d c = some []) : ∃ fp, fpt H (d + 1) (.sl b sz o n) = some fp ∧ fp.Nodup ∧ ∀ x ∈ fp, x = b := by
  obtain ⟨fps, h1, h2⟩ := fpts_0 (H := H) (d := d) ((cs.drop o).take (n * sz)) fun x hx => h x (List.mem_of_mem_drop (List.mem_of_mem_take hx))
  simp only [fpt, hb, Option.bind_some, h1, Option.map_some, h2]
  split
  · exact ⟨[], rfl, List.nodup_nil, by simp⟩
  · exact ⟨[b], rfl, by simp, by simp⟩
theorem fpt_int (k : IntKind) (z : Int) : fpt H (d + 1) (.v (.int k z)) = some [] := rfl
theorem fpt_v (y : Value) : fpt H (d + 1) (.v y) = some [] := rfl
theorem fpt_nil (fu : Bool) : fpt H (d + 1) (.lst fu []) = some [] := rfl
def Own1 (H : Hp) (x : AV) : Prop := ∃ fp, fpt H depthD x = some fp ∧ fp.Nodup
theorem own_v (y : Value) : Own1 H (.v y) := ⟨[], rfl, List.nodup_nil⟩
theorem own_lst0 (fu : Bool) : Own1 H (.lst fu []) := ⟨[], rfl, List.nodup_nil⟩
theorem own_sl {b sz o n : Nat} {cs : List AV} (hb : H.h b = some cs) (h : ∀ c ∈ cs, fpt H 11 c = some []) : Own1 H (.sl b sz o n) := by
  obtain ⟨fp, h1, h2, -⟩ := fpt_flat hb h
  exact ⟨fp, h1, h2⟩
theorem own_racc {sz n : Nat} {cs : List AV} {x : AV} (h : RAcc H x sz cs n) (hc : ∀ c ∈ cs, fpt H 11 c = some []) : Own1 H x := by
  rcases h.2 with ⟨-, rfl | rfl⟩ | ⟨b, -, rfl, hb⟩
  · exact own_lst0 _
  · exact own_v _
  · exact own_sl hb hc
end

theorem deep_ptrD {n : Nat} {H : Hp} {b o : Nat} {cs ds : List AV} (hb : H.h b = some cs) (h : cs.mapM (deep H n) = some ds) : deep H (n + 1) (.ptr b o) = some (.fp ds o) := by
  simp only [deep, hb, Option.bind_some, h]; rfl
theorem dz_nil {n : Nat} : Dz (n + 1) (.v (.slice none 0 0)) (bytesL []) := ⟨fun _ => rfl, rfl⟩

section
variable {P : Program} {cfg : Cfg} {fid : Nat}
/-- What a body gives: a value, whether it is clean, and all of it in own blocks. -/
def GivesO (v : AV) (x : AV) (H : Hp) : Prop := Gives v true x H ∧ Own1 H x
theorem both_wp {fn : Func} {c : Code} {rs : List ResultVar} (hb : fn.body = some c) (hrs : fn.results.toList = rs) {as : List AV} {v : AV} (h : Wp P cfg fid c (envOf as, Hp.nil) (Ends P rs (GivesO v))) : pure P cfg fid fn as = some (v, true) ∧ owned P cfg fid fn as = some v := by
  obtain ⟨r, h1, ⟨h2, h3⟩, fp, h4, h5⟩ := body_wp hb hrs h
  refine ⟨?_, ?_⟩
  · unfold pure; rw [h1]
    simp only [Option.bind_some, h2, h3, Option.map_some]
  · unfold owned; rw [h1]
    simp only [Option.bind_some, h4, h5, if_true, h2]
theorem own_wp {fn : Func} {c : Code} {rs : List ResultVar} (hb : fn.body = some c) (hrs : fn.results.toList = rs) {as : List AV} {v : AV} (h : Wp P cfg fid c (envOf as, Hp.nil) (Ends P rs fun x H => deep H depthD x = some v ∧ Own1 H x)) : owned P cfg fid fn as = some v := by
  obtain ⟨r, h1, h2, fp, h3, h4⟩ := body_wp hb hrs h
  unfold owned; rw [h1]
  simp only [Option.bind_some, h3, h4, if_true, h2]
/-- A call whose result lies in own blocks, and what it gives there. -/
theorem call_ofO {f : Nat} {fn : Func} (hf : P.funcs[f]? = some fn) (hq : cfg.prim f = none) (ho : fnOk P cfg f fn = true) (hr : cfg.raw f = false) {as ts : List AV} {H : Hp} {v : AV} (hd : as.mapM (deep H depthD) = some ts) (hc : owned P cfg f fn ts = some v) :
    call P cfg 1 f as H = mat depthD v H := by
  rw [call_own P cfg hf hq ho hr, hd]
  simp only [Option.bind_some, hc]
end
end Go.Proofs.YtlkoklhnodcipaaDoor.Eng
