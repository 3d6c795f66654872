/- What becomes of results, which functions work on their caller's blocks, and the laws from elsewhere. -/
import Derived.Test.YtakbbccdnkigpaaGreatDoorM
import Derived.Test.YtakbbccdnkigpaaGreatDoorE38
import Derived.Shelf.Bytes.IndexByte
import Derived.Test.YtakbbccdnkigpaaGreatDoorER
import Derived.Test.YtakbbccdnkigpaaGreatDoorSh
import Derived.Lib.LaidTab
namespace Go.Proofs.YtakbbccdnkigpaaGreatDoor
open Go Go.RowKit Go.Proofs.YtakbbccdnkigpaaGreatDoor.Eng Go.Shelf
set_option linter.unusedSimpArgs false
set_option linter.unusedVariables false
set_option maxRecDepth 100000
noncomputable section
def raw0 (f : Nat) : Bool := f == 75 || f == 8 || f == 34 || f == 76 || f == 50 || f == 36 || f == 40 || f == 37 || f == 38 || f == 39 || f == 81 || f == 44 || f == 45 || f == 71
def pol0 (f b : Nat) : Nat := if f = 44 then (if b = 21 then 3 else if b = 25 then 3 else if b = 27 then 3 else if b = 31 then 3 else if b = 1000000 then 2 else 0) else if f = 32 then (if b = 111 then 3 else if b = 112 then 3 else if b = 114 then 3 else if b = 115 then 3 else if b = 116 then 3 else if b = 135 then 3 else if b = 136 then 3 else if b = 1000000 then 2 else 0) else if f = 20 then (if b = 9 then 1 else 0) else if f = 14 then (if b = 11 then 1 else 0) else 0
def splitG : List AV → Option (AV × Bool)
  | [.v (.string s), .v (.string t)] => if s.size ≤ 4000000 ∧ t.size = 1 then some (textsL (Lib.splitB t 0 (Lib.countB s t) s), true) else none
  | _ => none
def prim0F (f : Nat) : Option (List AV → Option (AV × Bool)) :=
  if f = 83 then some fmtG else if f = 53 then some parseG else if f = 88 then some (toErrG 118) else if f = 60 then some indexG else if f = 49 then some splitG else none
def cfg0 : Cfg := ⟨pol0, raw0, prim0F, fun _ => false, fun f => f == 49⟩
/-- The table's name, as the given rows have it. -/
def powN : String := ((Rows.fnExactEventOfRow.laid[2]?).map (·.1)).getD ""
theorem gPow : Tryz.prog.globalNamed powN = some 3 := by kernel_rfl
theorem tab_pow {base : Nat} {w : World} (T : Tab base w) : Lib.TabIs Tryz.prog w powN .u64 Lib.pow10Tab := by
  obtain ⟨-, o, h, t, z, rfl⟩ := T (3, isPow) (by simp [tabs])
  show World.var? Tryz.prog w powN = _
  simp only [World.var?, gPow, Option.bind_some, h]
theorem tab_err {base : Nat} {w : World} (T : Tab base w) (k : Nat) (hk : (k, isErr) ∈ tabs) : ∃ ev, w.cell? ⟨k, 0, none⟩ = some ev ∧ (ev = .nilIface ∨ ∃ te pe, ev = .iface te pe) := by
  obtain ⟨-, o, h, u, p, t, z, rfl⟩ := T (k, isErr) hk
  exact ⟨.iface u p, by simp only at h; simp only [World.cell?, h]; rfl, .inr ⟨_, _, rfl⟩⟩
theorem law_FormatInt (n : Int) (w : World) (hn : i64B n) (T : Tab w.heap.size w) : Calls Tryz.prog 83 #[.int .i64 n, .int .i64 10] w fun e w' => e = .returned (.string ⟨(Lib.itoa n).toArray⟩) ∧ ∃ k os, w' = Go.Sort.grow (w.drewN k) os :=
  Any.strconv_FormatInt_10 sh173 n hn.1 hn.2 w (tab_pow T)
theorem below_or {w w' : World} {e : TypeId} (h : w' = w ∨ ∃ t, w' = Lib.bytesWorld w e t) : Below w.heap.size w w' := by
  rcases h with rfl | ⟨t, rfl⟩
  · exact .refl _ _
  · exact Lib.bytesWorld_below _ _ _
theorem law_ParseInt (s : ByteArray) (w : World) (hs : s.size ≤ 281474976710656) (T : Tab w.heap.size w) : EndLaw Tryz.prog 53 #[.string s, .int .i64 10, .int .i64 64] w (Lib.intSat 64 s.data.toList) (Lib.parseIntB 64 s.data.toList) := by
  rcases numEnd_cases (Lib.parseIntB 64 s.data.toList) with ⟨v, hr⟩ | hr | hr
  · skip
    rw [hr]
    refine (Any.strconv_ParseInt_10_at64_ok sh174 s (by omega) v hr w).mono ?_
    rintro e w' ⟨rfl, h⟩
    exact ⟨below_or h, rfl⟩
  · skip
    obtain ⟨ev, h1, h2⟩ := tab_err T 1 (by simp [tabs])
    rw [hr]
    refine (Any.strconv_ParseInt_10_at64_syntax sh174 s hs hr ev w h1 h2).mono ?_
    rintro e w' ⟨N, rfl, -, -, h⟩
    exact ⟨h, _, _, rfl⟩
  · skip
    obtain ⟨ev, h1, h2⟩ := tab_err T 2 (by simp [tabs])
    rw [hr]
    refine (Any.strconv_ParseInt_10_at64_range sh174 s hs hr ev w h1 h2).mono ?_
    rintro e w' ⟨N, rfl, -, -, h⟩
    exact ⟨h, _, _, rfl⟩
theorem law_toError (fn s : ByteArray) (base bits : Int) (w : World) (hs : s.size ≤ 281474976710656) (T : Tab w.heap.size w) : Calls Tryz.prog 88 #[.string fn, .string s, .int .i64 base, .int .i64 bits, .iface 118 (.int .i64 2)] w fun e w' => Below w.heap.size w w' ∧ ∃ u p, e = .returned (.iface u p) := by
  obtain ⟨ev, h1, h2⟩ := tab_err T 1 (by simp [tabs])
  refine (Any.strconv_toError_syntax sh245 fn s base bits ev w hs h1 h2).mono ?_
  rintro e w' ⟨N, rfl, -, -, h⟩
  exact ⟨h, _, _, rfl⟩
theorem law_Split (s t : ByteArray) (w : World) (hs : s.size ≤ 4000000) (ht : t.size = 1) (T : Tab w.heap.size w) : Calls Tryz.prog 49 #[.string s, .string t] w fun e w' =>
    e = .returned (.slice (some ⟨w.heap.size, 0, none⟩) (Lib.splitB t 0 (Lib.countB s t) s).length (Lib.splitB t 0 (Lib.countB s t) s).length) ∧ w' = w.alloc (.cells ((Lib.splitB t 0 (Lib.countB s t) s).map Value.string).toArray 9) := by
  obtain ⟨-, o, h, z, hz⟩ := T (0, isIntAt 0) (by simp [tabs])
  have hm : w.cell? ⟨0, 0, none⟩ = some (.int .i64 z) := hz w h
  have := Any.strings_Split { sh146 with } sh146.i9 s t z w (by omega) hm (by omega)
  rw [Lib.splitB_all t (by omega) 0 _ s rfl]
  exact this
theorem prim0 : PrimOk Tryz.prog cfg0 := by
  intro f g hg ts v cl h ρ F w vals I hl hv
  have hg : prim0F f = some g := hg
  unfold prim0F at hg
  split at hg
  · rename_i hf; subst hf
    obtain rfl := Option.some.inj hg
    exact ⟨fmt_ok law_FormatInt h I hl hv, fun h => absurd h (by decide)⟩
  split at hg
  · rename_i hf; subst hf
    obtain rfl := Option.some.inj hg
    exact ⟨parse_ok law_ParseInt h I hl hv, fun h => absurd h (by decide)⟩
  split at hg
  · rename_i hf; subst hf
    obtain rfl := Option.some.inj hg
    exact ⟨toErr_ok law_toError h I hl hv, fun h => absurd h (by decide)⟩
  split at hg
  · rename_i hf; subst hf
    obtain rfl := Option.some.inj hg
    exact ⟨indexByte_ok (fun b o n c xs cv w hx hc => Any.bytes_IndexByte sh187 b o n c xs cv w hx hc) h I hl hv, fun h => absurd h (by decide)⟩
  split at hg
  rotate_left
  · simp at hg
  rename_i hf; subst hf
  obtain rfl := Option.some.inj hg
  unfold splitG at h
  split at h
  rotate_left
  · simp at h
  rename_i s t
  split at h
  rotate_left
  · simp at h
  rename_i hc
  simp only [Option.some.injEq, Prod.mk.injEq] at h
  obtain ⟨rfl, rfl⟩ := h
  obtain rfl := vals2 hl hv
  obtain ⟨h1, h2⟩ := texts_fresh I (law_Split s t w hc.1 hc.2 I.tab)
  exact ⟨h1, fun _ => h2⟩
theorem c_FormatInt (n : Int) (hn : i64B n) : ∀ H, call Tryz.prog cfg0 0 83 [.v (.int .i64 n), .v (.int .i64 10)] H = some (itoaT n, H) := fun H => by
  rw [call_prim Tryz.prog cfg0 Tryz.func83 (g := fmtG) rfl (by kernel_rfl) rfl (by omega)]
  rw [show [AV.v (.int .i64 n), AV.v (.int .i64 10)].mapM (deep H depthD) = some [.v (.int .i64 n), .v (.int .i64 10)] from rfl]
  simp only [Option.bind_some, fmtG, if_pos hn, pureAt, Bool.true_or, if_true]
theorem c_ParseInt (s : ByteArray) (hs : s.size ≤ 281474976710656) : ∀ H, call Tryz.prog cfg0 0 53 [.v (.string s), .v (.int .i64 10), .v (.int .i64 64)] H = some (endT (Lib.intSat 64 s.data.toList) (Lib.parseIntB 64 s.data.toList), H) := fun H => by
  rw [call_prim Tryz.prog cfg0 Tryz.func53 (g := parseG) rfl (by kernel_rfl) rfl (by omega)]
  rw [show [AV.v (.string s), AV.v (.int .i64 10), AV.v (.int .i64 64)].mapM (deep H depthD) = some [.v (.string s), .v (.int .i64 10), .v (.int .i64 64)] from rfl]
  simp only [Option.bind_some, parseG, if_pos hs, pureAt, Bool.true_or, if_true]
theorem c_toError (fn s : ByteArray) (base bits : Int) (hs : s.size ≤ 281474976710656) : ∀ H, call Tryz.prog cfg0 0 88 [.v (.string fn), .v (.string s), .v (.int .i64 base), .v (.int .i64 bits), .v (.iface 118 (.int .i64 2))] H = some (.ifc true, H) := fun H => by
  rw [call_prim Tryz.prog cfg0 Tryz.func88 (g := toErrG 118) rfl (by kernel_rfl) rfl (by omega)]
  rw [show [AV.v (.string fn), AV.v (.string s), AV.v (.int .i64 base), AV.v (.int .i64 bits), AV.v (.iface 118 (.int .i64 2))].mapM (deep H depthD) = some [AV.v (.string fn), AV.v (.string s), AV.v (.int .i64 base), AV.v (.int .i64 bits), AV.v (.iface 118 (.int .i64 2))] from rfl]
  simp only [Option.bind_some, toErrG, hs, and_self, if_true, pureAt, Bool.true_or]
theorem c_IndexByte (l : List Int) (hne : l ≠ []) (c : Int) : ∀ H, call Tryz.prog cfg0 0 60 [bytesL l, .v (.int .u8 c)] H = some (.v (.int .i64 (Lib.indexByte (Lib.bytesOf l) c.toNat.toUInt8)), H) := by
  intro H
  rw [call_prim Tryz.prog cfg0 Tryz.func60 (g := indexG) rfl (by kernel_rfl) rfl (by omega)]
  rw [mapM_self (f := deep H depthD) (l := [bytesL l, .v (.int .u8 c)]) (fun x hx => by
    simp at hx
    rcases hx with rfl | rfl
    · exact (fz_bytes l).1 H
    · rfl)]
  have h1 : (l.map fun z => [cell z]).all byteRow = true := by simp [byteRow, cell]
  have h2 : (l.map fun z => [cell z]) ≠ [] := by simpa using hne
  simp only [Option.bind_some, bytesL, indexG, h1, h2, ne_eq, not_false_eq_true, and_self, if_true, pureAt, Bool.true_or, rowInts_bytes]
end
end Go.Proofs.YtakbbccdnkigpaaGreatDoor
