/- Typed mirrors of the structs, printed by mir.py. -/
import Derived.Test.YtmncdkecpnoogaaF
import Derived.Test.YtmncdkecpnoogaaE32
namespace Go.Proofs.Ytmncdkecpnoogaa
open Go Go.RowKit Go.Proofs.Ytmncdkecpnoogaa.Eng
set_option linter.unusedSimpArgs false
set_option linter.unusedVariables false
set_option maxRecDepth 100000
structure KeyM where
  Id : Int
  Bytes : List Int
  deriving DecidableEq
def encKey (k : KeyM) : List AV := [.v (.int .i64 k.Id), bytesL k.Bytes]
def KeyM.ok (N : Nat) (k : KeyM) : Prop := (-9223372036854775808 ≤ k.Id ∧ k.Id ≤ 9223372036854775807) ∧ (Eng.Bytes k.Bytes ∧ k.Bytes.length ≤ N)
theorem eq_Key (a b : KeyM) : a = b ↔ a.Id = b.Id ∧ a.Bytes = b.Bytes := by cases a; cases b; simp
theorem fzE_Key (n : Nat) (k : KeyM) : ∀ x ∈ encKey k, Fz (n + 2) x := by
  simp only [encKey, fz_cons, fz_nil, and_true]
  exact ⟨Fz.int _ _ _, bytesL_fz _ _⟩
theorem fzA_Key (k : KeyM) : Fz depthD (.agg [.v (.int .i64 k.Id), bytesL k.Bytes]) := Fz.agg (n := 11) (fzE_Key 9 k)
theorem fzL_Key (l : List KeyM) : Fz depthD (.lst false (l.map encKey)) := fz_rows (n := 11) (fun k => fzE_Key 9 k) l
theorem fzP_Key (k : KeyM) (o : Nat) : Fz depthD (.fp [.v (.int .i64 k.Id), bytesL k.Bytes] o) := Fz.fp (n := 11) (fzE_Key 9 k)
theorem gE_Key (n : Nat) (k : KeyM) : ∀ x ∈ encKey k, MatG (n + 2) x := by
  simp only [encKey, List.forall_mem_cons, List.not_mem_nil, false_implies, implies_true, and_true]
  exact ⟨MatG.int _ _ _, MatG.bytes _ _⟩
theorem gR_Key (n : Nat) (l : List KeyM) : MatG (n + 3) (.lst false (l.map encKey)) := MatG.rows (n := n + 2) (sz := 2) (by omega) (fun _ => rfl) (gE_Key n) l
theorem mirKey {n : Nat} {c : List AV} (h : ShC Try.prog reach n 24 c) : ∃ k : KeyM, c = encKey k ∧ k.ok 140737488351232 := by
  obtain ⟨m, hm, g0⟩ := shC_parts fts24 h
  subst hm
  obtain ⟨a0, b0, e0, h0, g1⟩ := g0
  subst e0
  obtain ⟨x0, rfl, r0⟩ := shC_i64 u2 h0
  obtain ⟨a1, b1, e1, h1, g2⟩ := g1
  subst e1
  obtain ⟨x1, rfl, r1⟩ := shC_bytes u22 u5 byn5 h1
  have e := partsT_nil.1 g2
  subst e
  exact ⟨⟨x0, x1⟩, rfl, ⟨r0, ⟨r1.1, by have q := r1.2; simp only [reach] at q; show x1.length ≤ _; omega⟩⟩⟩
structure RingM where
  Primary : Int
  Keys : List KeyM
  deriving DecidableEq
def encRing (k : RingM) : List AV := [.v (.int .i64 k.Primary), .lst false (k.Keys.map encKey)]
def RingM.ok (N : Nat) (k : RingM) : Prop := (-9223372036854775808 ≤ k.Primary ∧ k.Primary ≤ 9223372036854775807) ∧ (k.Keys.length ≤ N ∧ ∀ x ∈ k.Keys, x.ok N)
theorem eq_Ring (a b : RingM) : a = b ↔ a.Primary = b.Primary ∧ a.Keys = b.Keys := by cases a; cases b; simp
theorem fzE_Ring (n : Nat) (k : RingM) : ∀ x ∈ encRing k, Fz (n + 3) x := by
  simp only [encRing, fz_cons, fz_nil, and_true]
  exact ⟨Fz.int _ _ _, fz_rows (fun k => fzE_Key (n + 0) k) _⟩
theorem fzA_Ring (k : RingM) : Fz depthD (.agg [.v (.int .i64 k.Primary), .lst false (k.Keys.map encKey)]) := Fz.agg (n := 11) (fzE_Ring 8 k)
theorem fzL_Ring (l : List RingM) : Fz depthD (.lst false (l.map encRing)) := fz_rows (n := 11) (fun k => fzE_Ring 8 k) l
theorem fzP_Ring (k : RingM) (o : Nat) : Fz depthD (.fp [.v (.int .i64 k.Primary), .lst false (k.Keys.map encKey)] o) := Fz.fp (n := 11) (fzE_Ring 8 k)
theorem gE_Ring (n : Nat) (k : RingM) : ∀ x ∈ encRing k, MatG (n + 3) x := by
  simp only [encRing, List.forall_mem_cons, List.not_mem_nil, false_implies, implies_true, and_true]
  exact ⟨MatG.int _ _ _, gR_Key (n + 0) _⟩
theorem gR_Ring (n : Nat) (l : List RingM) : MatG (n + 4) (.lst false (l.map encRing)) := MatG.rows (n := n + 3) (sz := 2) (by omega) (fun _ => rfl) (gE_Ring n) l
theorem mirRing {n : Nat} {c : List AV} (h : ShC Try.prog reach n 154 c) : ∃ k : RingM, c = encRing k ∧ k.ok 140737488351232 := by
  obtain ⟨m, hm, g0⟩ := shC_parts fts154 h
  subst hm
  obtain ⟨a0, b0, e0, h0, g1⟩ := g0
  subst e0
  obtain ⟨x0, rfl, r0⟩ := shC_i64 u2 h0
  obtain ⟨a1, b1, e1, h1, g2⟩ := g1
  subst e1
  obtain ⟨y1, rfl, r1, q1, -, s1⟩ := shC_rows u152 h1
  obtain ⟨x1, rfl, p1⟩ := mir_rows (fun c hc => mirKey hc) y1 s1
  have e := partsT_nil.1 g2
  subst e
  exact ⟨⟨x0, x1⟩, rfl, ⟨r0, ⟨by simp only [reach, byn24, List.length_map] at r1; show x1.length ≤ _; omega, p1⟩⟩⟩
structure ClaimM where
  Node : Int
  Inc : Int
  Status : Int
  Meta : Int
  deriving DecidableEq
def encClaim (k : ClaimM) : List AV := [.v (.int .i64 k.Node), .v (.int .i64 k.Inc), .v (.int .i64 k.Status), .v (.int .i64 k.Meta)]
def ClaimM.ok (N : Nat) (k : ClaimM) : Prop := (-9223372036854775808 ≤ k.Node ∧ k.Node ≤ 9223372036854775807) ∧ (-9223372036854775808 ≤ k.Inc ∧ k.Inc ≤ 9223372036854775807) ∧ (-9223372036854775808 ≤ k.Status ∧ k.Status ≤ 9223372036854775807) ∧ (-9223372036854775808 ≤ k.Meta ∧ k.Meta ≤ 9223372036854775807)
theorem eq_Claim (a b : ClaimM) : a = b ↔ a.Node = b.Node ∧ a.Inc = b.Inc ∧ a.Status = b.Status ∧ a.Meta = b.Meta := by cases a; cases b; simp
theorem eqv_Claim (a b : ClaimM) : abinX Try.prog .eql 46 (.agg [.v (.int .i64 a.Node), .v (.int .i64 a.Inc), .v (.int .i64 a.Status), .v (.int .i64 a.Meta)]) (.agg [.v (.int .i64 b.Node), .v (.int .i64 b.Inc), .v (.int .i64 b.Status), .v (.int .i64 b.Meta)]) = some (.v (.bool (decide (a = b)))) := by
  simp only [abinX, nil46, nilCmp, abin, exactAll, Option.map_some, Option.bind_some, plan46, eqBy, List.getElem?_cons_zero, List.getElem?_cons_succ, eqK, if_true, eq_Claim, Bool.decide_and, Bool.and_true, Bool.and_assoc]
theorem eqvz_Claim (a : ClaimM) : abinX Try.prog .eql 46 (.agg [.v (.int .i64 a.Node), .v (.int .i64 a.Inc), .v (.int .i64 a.Status), .v (.int .i64 a.Meta)]) (.agg [.v (.int .i64 0), .v (.int .i64 0), .v (.int .i64 0), .v (.int .i64 0)]) = some (.v (.bool (decide (a = ⟨0, 0, 0, 0⟩)))) := eqv_Claim a ⟨0, 0, 0, 0⟩
theorem nev_Claim (a b : ClaimM) : abinX Try.prog .neq 46 (.agg [.v (.int .i64 a.Node), .v (.int .i64 a.Inc), .v (.int .i64 a.Status), .v (.int .i64 a.Meta)]) (.agg [.v (.int .i64 b.Node), .v (.int .i64 b.Inc), .v (.int .i64 b.Status), .v (.int .i64 b.Meta)]) = some (.v (.bool (!decide (a = b)))) := by
  simp only [abinX, nil46, nilCmp, abin, exactAll, Option.map_some, Option.bind_some, plan46, eqBy, List.getElem?_cons_zero, List.getElem?_cons_succ, eqK, if_true, eq_Claim, Bool.decide_and, Bool.and_true, Bool.and_assoc]
theorem nevz_Claim (a : ClaimM) : abinX Try.prog .neq 46 (.agg [.v (.int .i64 a.Node), .v (.int .i64 a.Inc), .v (.int .i64 a.Status), .v (.int .i64 a.Meta)]) (.agg [.v (.int .i64 0), .v (.int .i64 0), .v (.int .i64 0), .v (.int .i64 0)]) = some (.v (.bool (!decide (a = ⟨0, 0, 0, 0⟩)))) := nev_Claim a ⟨0, 0, 0, 0⟩
theorem fzE_Claim (n : Nat) (k : ClaimM) : ∀ x ∈ encClaim k, Fz (n + 1) x := by
  simp only [encClaim, fz_cons, fz_nil, and_true]
  exact ⟨Fz.int _ _ _, Fz.int _ _ _, Fz.int _ _ _, Fz.int _ _ _⟩
theorem fzA_Claim (k : ClaimM) : Fz depthD (.agg [.v (.int .i64 k.Node), .v (.int .i64 k.Inc), .v (.int .i64 k.Status), .v (.int .i64 k.Meta)]) := Fz.agg (n := 11) (fzE_Claim 10 k)
theorem fzL_Claim (l : List ClaimM) : Fz depthD (.lst false (l.map encClaim)) := fz_rows (n := 11) (fun k => fzE_Claim 10 k) l
theorem fzP_Claim (k : ClaimM) (o : Nat) : Fz depthD (.fp [.v (.int .i64 k.Node), .v (.int .i64 k.Inc), .v (.int .i64 k.Status), .v (.int .i64 k.Meta)] o) := Fz.fp (n := 11) (fzE_Claim 10 k)
theorem gE_Claim (n : Nat) (k : ClaimM) : ∀ x ∈ encClaim k, MatG (n + 1) x := by
  simp only [encClaim, List.forall_mem_cons, List.not_mem_nil, false_implies, implies_true, and_true]
  exact ⟨MatG.int _ _ _, MatG.int _ _ _, MatG.int _ _ _, MatG.int _ _ _⟩
theorem gR_Claim (n : Nat) (l : List ClaimM) : MatG (n + 2) (.lst false (l.map encClaim)) := MatG.rows (n := n + 1) (sz := 4) (by omega) (fun _ => rfl) (gE_Claim n) l
theorem mirClaim {n : Nat} {c : List AV} (h : ShC Try.prog reach n 150 c) : ∃ k : ClaimM, c = encClaim k ∧ k.ok 140737488351232 := by
  obtain ⟨m, hm, g0⟩ := shC_parts fts150 h
  subst hm
  obtain ⟨a0, b0, e0, h0, g1⟩ := g0
  subst e0
  obtain ⟨x0, rfl, r0⟩ := shC_i64 u2 h0
  obtain ⟨a1, b1, e1, h1, g2⟩ := g1
  subst e1
  obtain ⟨x1, rfl, r1⟩ := shC_i64 u2 h1
  obtain ⟨a2, b2, e2, h2, g3⟩ := g2
  subst e2
  obtain ⟨x2, rfl, r2⟩ := shC_i64 u2 h2
  obtain ⟨a3, b3, e3, h3, g4⟩ := g3
  subst e3
  obtain ⟨x3, rfl, r3⟩ := shC_i64 u2 h3
  have e := partsT_nil.1 g4
  subst e
  exact ⟨⟨x0, x1, x2, x3⟩, rfl, ⟨r0, r1, r2, r3⟩⟩
structure WaitM where
  Kind : Int
  Seq : Int
  Node : Int
  Inc : Int
  Left : Int
  For_ : Int
  Old : Int
  deriving DecidableEq
def encWait (k : WaitM) : List AV := [.v (.int .i64 k.Kind), .v (.int .i64 k.Seq), .v (.int .i64 k.Node), .v (.int .i64 k.Inc), .v (.int .i64 k.Left), .v (.int .i64 k.For_), .v (.int .i64 k.Old)]
def WaitM.ok (N : Nat) (k : WaitM) : Prop := (-9223372036854775808 ≤ k.Kind ∧ k.Kind ≤ 9223372036854775807) ∧ (-9223372036854775808 ≤ k.Seq ∧ k.Seq ≤ 9223372036854775807) ∧ (-9223372036854775808 ≤ k.Node ∧ k.Node ≤ 9223372036854775807) ∧ (-9223372036854775808 ≤ k.Inc ∧ k.Inc ≤ 9223372036854775807) ∧ (-9223372036854775808 ≤ k.Left ∧ k.Left ≤ 9223372036854775807) ∧ (-9223372036854775808 ≤ k.For_ ∧ k.For_ ≤ 9223372036854775807) ∧ (-9223372036854775808 ≤ k.Old ∧ k.Old ≤ 9223372036854775807)
theorem eq_Wait (a b : WaitM) : a = b ↔ a.Kind = b.Kind ∧ a.Seq = b.Seq ∧ a.Node = b.Node ∧ a.Inc = b.Inc ∧ a.Left = b.Left ∧ a.For_ = b.For_ ∧ a.Old = b.Old := by cases a; cases b; simp
theorem eqv_Wait (a b : WaitM) : abinX Try.prog .eql 190 (.agg [.v (.int .i64 a.Kind), .v (.int .i64 a.Seq), .v (.int .i64 a.Node), .v (.int .i64 a.Inc), .v (.int .i64 a.Left), .v (.int .i64 a.For_), .v (.int .i64 a.Old)]) (.agg [.v (.int .i64 b.Kind), .v (.int .i64 b.Seq), .v (.int .i64 b.Node), .v (.int .i64 b.Inc), .v (.int .i64 b.Left), .v (.int .i64 b.For_), .v (.int .i64 b.Old)]) = some (.v (.bool (decide (a = b)))) := by
  simp only [abinX, nil190, nilCmp, abin, exactAll, Option.map_some, Option.bind_some, plan190, eqBy, List.getElem?_cons_zero, List.getElem?_cons_succ, eqK, if_true, eq_Wait, Bool.decide_and, Bool.and_true, Bool.and_assoc]
theorem eqvz_Wait (a : WaitM) : abinX Try.prog .eql 190 (.agg [.v (.int .i64 a.Kind), .v (.int .i64 a.Seq), .v (.int .i64 a.Node), .v (.int .i64 a.Inc), .v (.int .i64 a.Left), .v (.int .i64 a.For_), .v (.int .i64 a.Old)]) (.agg [.v (.int .i64 0), .v (.int .i64 0), .v (.int .i64 0), .v (.int .i64 0), .v (.int .i64 0), .v (.int .i64 0), .v (.int .i64 0)]) = some (.v (.bool (decide (a = ⟨0, 0, 0, 0, 0, 0, 0⟩)))) := eqv_Wait a ⟨0, 0, 0, 0, 0, 0, 0⟩
theorem nev_Wait (a b : WaitM) : abinX Try.prog .neq 190 (.agg [.v (.int .i64 a.Kind), .v (.int .i64 a.Seq), .v (.int .i64 a.Node), .v (.int .i64 a.Inc), .v (.int .i64 a.Left), .v (.int .i64 a.For_), .v (.int .i64 a.Old)]) (.agg [.v (.int .i64 b.Kind), .v (.int .i64 b.Seq), .v (.int .i64 b.Node), .v (.int .i64 b.Inc), .v (.int .i64 b.Left), .v (.int .i64 b.For_), .v (.int .i64 b.Old)]) = some (.v (.bool (!decide (a = b)))) := by
  simp only [abinX, nil190, nilCmp, abin, exactAll, Option.map_some, Option.bind_some, plan190, eqBy, List.getElem?_cons_zero, List.getElem?_cons_succ, eqK, if_true, eq_Wait, Bool.decide_and, Bool.and_true, Bool.and_assoc]
theorem nevz_Wait (a : WaitM) : abinX Try.prog .neq 190 (.agg [.v (.int .i64 a.Kind), .v (.int .i64 a.Seq), .v (.int .i64 a.Node), .v (.int .i64 a.Inc), .v (.int .i64 a.Left), .v (.int .i64 a.For_), .v (.int .i64 a.Old)]) (.agg [.v (.int .i64 0), .v (.int .i64 0), .v (.int .i64 0), .v (.int .i64 0), .v (.int .i64 0), .v (.int .i64 0), .v (.int .i64 0)]) = some (.v (.bool (!decide (a = ⟨0, 0, 0, 0, 0, 0, 0⟩)))) := nev_Wait a ⟨0, 0, 0, 0, 0, 0, 0⟩
theorem fzE_Wait (n : Nat) (k : WaitM) : ∀ x ∈ encWait k, Fz (n + 1) x := by
  simp only [encWait, fz_cons, fz_nil, and_true]
  exact ⟨Fz.int _ _ _, Fz.int _ _ _, Fz.int _ _ _, Fz.int _ _ _, Fz.int _ _ _, Fz.int _ _ _, Fz.int _ _ _⟩
theorem fzA_Wait (k : WaitM) : Fz depthD (.agg [.v (.int .i64 k.Kind), .v (.int .i64 k.Seq), .v (.int .i64 k.Node), .v (.int .i64 k.Inc), .v (.int .i64 k.Left), .v (.int .i64 k.For_), .v (.int .i64 k.Old)]) := Fz.agg (n := 11) (fzE_Wait 10 k)
theorem fzL_Wait (l : List WaitM) : Fz depthD (.lst false (l.map encWait)) := fz_rows (n := 11) (fun k => fzE_Wait 10 k) l
theorem fzP_Wait (k : WaitM) (o : Nat) : Fz depthD (.fp [.v (.int .i64 k.Kind), .v (.int .i64 k.Seq), .v (.int .i64 k.Node), .v (.int .i64 k.Inc), .v (.int .i64 k.Left), .v (.int .i64 k.For_), .v (.int .i64 k.Old)] o) := Fz.fp (n := 11) (fzE_Wait 10 k)
theorem gE_Wait (n : Nat) (k : WaitM) : ∀ x ∈ encWait k, MatG (n + 1) x := by
  simp only [encWait, List.forall_mem_cons, List.not_mem_nil, false_implies, implies_true, and_true]
  exact ⟨MatG.int _ _ _, MatG.int _ _ _, MatG.int _ _ _, MatG.int _ _ _, MatG.int _ _ _, MatG.int _ _ _, MatG.int _ _ _⟩
theorem gR_Wait (n : Nat) (l : List WaitM) : MatG (n + 2) (.lst false (l.map encWait)) := MatG.rows (n := n + 1) (sz := 7) (by omega) (fun _ => rfl) (gE_Wait n) l
theorem mirWait {n : Nat} {c : List AV} (h : ShC Try.prog reach n 201 c) : ∃ k : WaitM, c = encWait k ∧ k.ok 140737488351232 := by
  obtain ⟨m, hm, g0⟩ := shC_parts fts201 h
  subst hm
  obtain ⟨a0, b0, e0, h0, g1⟩ := g0
  subst e0
  obtain ⟨x0, rfl, r0⟩ := shC_i64 u2 h0
  obtain ⟨a1, b1, e1, h1, g2⟩ := g1
  subst e1
  obtain ⟨x1, rfl, r1⟩ := shC_i64 u2 h1
  obtain ⟨a2, b2, e2, h2, g3⟩ := g2
  subst e2
  obtain ⟨x2, rfl, r2⟩ := shC_i64 u2 h2
  obtain ⟨a3, b3, e3, h3, g4⟩ := g3
  subst e3
  obtain ⟨x3, rfl, r3⟩ := shC_i64 u2 h3
  obtain ⟨a4, b4, e4, h4, g5⟩ := g4
  subst e4
  obtain ⟨x4, rfl, r4⟩ := shC_i64 u2 h4
  obtain ⟨a5, b5, e5, h5, g6⟩ := g5
  subst e5
  obtain ⟨x5, rfl, r5⟩ := shC_i64 u2 h5
  obtain ⟨a6, b6, e6, h6, g7⟩ := g6
  subst e6
  obtain ⟨x6, rfl, r6⟩ := shC_i64 u2 h6
  have e := partsT_nil.1 g7
  subst e
  exact ⟨⟨x0, x1, x2, x3, x4, x5, x6⟩, rfl, ⟨r0, r1, r2, r3, r4, r5, r6⟩⟩
structure WindowM where
  Top : Int
  Seen : List Int
  deriving DecidableEq
def encWindow (k : WindowM) : List AV := [.v (.int .i64 k.Top), i64L k.Seen]
def WindowM.ok (N : Nat) (k : WindowM) : Prop := (-9223372036854775808 ≤ k.Top ∧ k.Top ≤ 9223372036854775807) ∧ (Eng.I64s k.Seen ∧ k.Seen.length ≤ N)
theorem eq_Window (a b : WindowM) : a = b ↔ a.Top = b.Top ∧ a.Seen = b.Seen := by cases a; cases b; simp
theorem fzE_Window (n : Nat) (k : WindowM) : ∀ x ∈ encWindow k, Fz (n + 2) x := by
  simp only [encWindow, fz_cons, fz_nil, and_true]
  exact ⟨Fz.int _ _ _, i64L_fz _ _⟩
theorem fzA_Window (k : WindowM) : Fz depthD (.agg [.v (.int .i64 k.Top), i64L k.Seen]) := Fz.agg (n := 11) (fzE_Window 9 k)
theorem fzL_Window (l : List WindowM) : Fz depthD (.lst false (l.map encWindow)) := fz_rows (n := 11) (fun k => fzE_Window 9 k) l
theorem fzP_Window (k : WindowM) (o : Nat) : Fz depthD (.fp [.v (.int .i64 k.Top), i64L k.Seen] o) := Fz.fp (n := 11) (fzE_Window 9 k)
theorem gE_Window (n : Nat) (k : WindowM) : ∀ x ∈ encWindow k, MatG (n + 2) x := by
  simp only [encWindow, List.forall_mem_cons, List.not_mem_nil, false_implies, implies_true, and_true]
  exact ⟨MatG.int _ _ _, MatG.i64s _ _⟩
theorem gR_Window (n : Nat) (l : List WindowM) : MatG (n + 3) (.lst false (l.map encWindow)) := MatG.rows (n := n + 2) (sz := 2) (by omega) (fun _ => rfl) (gE_Window n) l
theorem mirWindow {n : Nat} {c : List AV} (h : ShC Try.prog reach n 198 c) : ∃ k : WindowM, c = encWindow k ∧ k.ok 140737488351232 := by
  obtain ⟨m, hm, g0⟩ := shC_parts fts198 h
  subst hm
  obtain ⟨a0, b0, e0, h0, g1⟩ := g0
  subst e0
  obtain ⟨x0, rfl, r0⟩ := shC_i64 u2 h0
  obtain ⟨a1, b1, e1, h1, g2⟩ := g1
  subst e1
  obtain ⟨x1, rfl, r1⟩ := shC_i64s u61 u2 byn2 h1
  have e := partsT_nil.1 g2
  subst e
  exact ⟨⟨x0, x1⟩, rfl, ⟨r0, ⟨r1.1, by have q := r1.2; simp only [reach] at q; show x1.length ≤ _; omega⟩⟩⟩
structure NodeStateM where
  Own : ClaimM
  View : List ClaimM
  Ring : RingM
  Counter : Int
  Seq : Int
  Last : Int
  Waits : List WaitM
  Windows : List WindowM
  Drops : Int
  Stopped : Bool
  deriving DecidableEq
def encNodeState (k : NodeStateM) : List AV := [.v (.int .i64 k.Own.Node), .v (.int .i64 k.Own.Inc), .v (.int .i64 k.Own.Status), .v (.int .i64 k.Own.Meta), .lst false (k.View.map encClaim), .v (.int .i64 k.Ring.Primary), .lst false (k.Ring.Keys.map encKey), .v (.int .i64 k.Counter), .v (.int .i64 k.Seq), .v (.int .i64 k.Last), .lst false (k.Waits.map encWait), .lst false (k.Windows.map encWindow), .v (.int .i64 k.Drops), .v (.bool k.Stopped)]
def NodeStateM.ok (N : Nat) (k : NodeStateM) : Prop := k.Own.ok N ∧ (k.View.length ≤ N ∧ ∀ x ∈ k.View, x.ok N) ∧ k.Ring.ok N ∧ (-9223372036854775808 ≤ k.Counter ∧ k.Counter ≤ 9223372036854775807) ∧ (-9223372036854775808 ≤ k.Seq ∧ k.Seq ≤ 9223372036854775807) ∧ (-9223372036854775808 ≤ k.Last ∧ k.Last ≤ 9223372036854775807) ∧ (k.Waits.length ≤ N ∧ ∀ x ∈ k.Waits, x.ok N) ∧ (k.Windows.length ≤ N ∧ ∀ x ∈ k.Windows, x.ok N) ∧ (-9223372036854775808 ≤ k.Drops ∧ k.Drops ≤ 9223372036854775807) ∧ True
theorem eq_NodeState (a b : NodeStateM) : a = b ↔ a.Own = b.Own ∧ a.View = b.View ∧ a.Ring = b.Ring ∧ a.Counter = b.Counter ∧ a.Seq = b.Seq ∧ a.Last = b.Last ∧ a.Waits = b.Waits ∧ a.Windows = b.Windows ∧ a.Drops = b.Drops ∧ a.Stopped = b.Stopped := by cases a; cases b; simp
theorem fzE_NodeState (n : Nat) (k : NodeStateM) : ∀ x ∈ encNodeState k, Fz (n + 3) x := by
  simp only [encNodeState, fz_cons, fz_nil, and_true]
  exact ⟨Fz.int _ _ _, Fz.int _ _ _, Fz.int _ _ _, Fz.int _ _ _, fz_rows (fun k => fzE_Claim (n + 1) k) _, Fz.int _ _ _, fz_rows (fun k => fzE_Key (n + 0) k) _, Fz.int _ _ _, Fz.int _ _ _, Fz.int _ _ _, fz_rows (fun k => fzE_Wait (n + 1) k) _, fz_rows (fun k => fzE_Window (n + 0) k) _, Fz.int _ _ _, Fz.bool _ _⟩
theorem fzA_NodeState (k : NodeStateM) : Fz depthD (.agg [.v (.int .i64 k.Own.Node), .v (.int .i64 k.Own.Inc), .v (.int .i64 k.Own.Status), .v (.int .i64 k.Own.Meta), .lst false (k.View.map encClaim), .v (.int .i64 k.Ring.Primary), .lst false (k.Ring.Keys.map encKey), .v (.int .i64 k.Counter), .v (.int .i64 k.Seq), .v (.int .i64 k.Last), .lst false (k.Waits.map encWait), .lst false (k.Windows.map encWindow), .v (.int .i64 k.Drops), .v (.bool k.Stopped)]) := Fz.agg (n := 11) (fzE_NodeState 8 k)
theorem fzL_NodeState (l : List NodeStateM) : Fz depthD (.lst false (l.map encNodeState)) := fz_rows (n := 11) (fun k => fzE_NodeState 8 k) l
theorem fzP_NodeState (k : NodeStateM) (o : Nat) : Fz depthD (.fp [.v (.int .i64 k.Own.Node), .v (.int .i64 k.Own.Inc), .v (.int .i64 k.Own.Status), .v (.int .i64 k.Own.Meta), .lst false (k.View.map encClaim), .v (.int .i64 k.Ring.Primary), .lst false (k.Ring.Keys.map encKey), .v (.int .i64 k.Counter), .v (.int .i64 k.Seq), .v (.int .i64 k.Last), .lst false (k.Waits.map encWait), .lst false (k.Windows.map encWindow), .v (.int .i64 k.Drops), .v (.bool k.Stopped)] o) := Fz.fp (n := 11) (fzE_NodeState 8 k)
theorem gE_NodeState (n : Nat) (k : NodeStateM) : ∀ x ∈ encNodeState k, MatG (n + 3) x := by
  simp only [encNodeState, List.forall_mem_cons, List.not_mem_nil, false_implies, implies_true, and_true]
  exact ⟨MatG.int _ _ _, MatG.int _ _ _, MatG.int _ _ _, MatG.int _ _ _, gR_Claim (n + 1) _, MatG.int _ _ _, gR_Key (n + 0) _, MatG.int _ _ _, MatG.int _ _ _, MatG.int _ _ _, gR_Wait (n + 1) _, gR_Window (n + 0) _, MatG.int _ _ _, MatG.bool _ _⟩
theorem gR_NodeState (n : Nat) (l : List NodeStateM) : MatG (n + 4) (.lst false (l.map encNodeState)) := MatG.rows (n := n + 3) (sz := 14) (by omega) (fun _ => rfl) (gE_NodeState n) l
theorem mirNodeState {n : Nat} {c : List AV} (h : ShC Try.prog reach n 158 c) : ∃ k : NodeStateM, c = encNodeState k ∧ k.ok 140737488351232 := by
  obtain ⟨m, hm, g0⟩ := shC_parts fts158 h
  subst hm
  obtain ⟨a0, b0, e0, h0, g1⟩ := g0
  subst e0
  obtain ⟨x0, rfl, r0⟩ := mirClaim h0
  obtain ⟨a1, b1, e1, h1, g2⟩ := g1
  subst e1
  obtain ⟨y1, rfl, r1, q1, -, s1⟩ := shC_rows u151 h1
  obtain ⟨x1, rfl, p1⟩ := mir_rows (fun c hc => mirClaim hc) y1 s1
  obtain ⟨a2, b2, e2, h2, g3⟩ := g2
  subst e2
  obtain ⟨x2, rfl, r2⟩ := mirRing h2
  obtain ⟨a3, b3, e3, h3, g4⟩ := g3
  subst e3
  obtain ⟨x3, rfl, r3⟩ := shC_i64 u2 h3
  obtain ⟨a4, b4, e4, h4, g5⟩ := g4
  subst e4
  obtain ⟨x4, rfl, r4⟩ := shC_i64 u2 h4
  obtain ⟨a5, b5, e5, h5, g6⟩ := g5
  subst e5
  obtain ⟨x5, rfl, r5⟩ := shC_i64 u2 h5
  obtain ⟨a6, b6, e6, h6, g7⟩ := g6
  subst e6
  obtain ⟨y6, rfl, r6, q6, -, s6⟩ := shC_rows u155 h6
  obtain ⟨x6, rfl, p6⟩ := mir_rows (fun c hc => mirWait hc) y6 s6
  obtain ⟨a7, b7, e7, h7, g8⟩ := g7
  subst e7
  obtain ⟨y7, rfl, r7, q7, -, s7⟩ := shC_rows u156 h7
  obtain ⟨x7, rfl, p7⟩ := mir_rows (fun c hc => mirWindow hc) y7 s7
  obtain ⟨a8, b8, e8, h8, g9⟩ := g8
  subst e8
  obtain ⟨x8, rfl, r8⟩ := shC_i64 u2 h8
  obtain ⟨a9, b9, e9, h9, g10⟩ := g9
  subst e9
  obtain ⟨x9, rfl⟩ := shC_boolE u4 h9
  have e := partsT_nil.1 g10
  subst e
  exact ⟨⟨x0, x1, x2, x3, x4, x5, x6, x7, x8, x9⟩, rfl, ⟨r0, ⟨by simp only [reach, byn150, List.length_map] at r1; show x1.length ≤ _; omega, p1⟩, r2, r3, r4, r5, ⟨by simp only [reach, byn201, List.length_map] at r6; show x6.length ≤ _; omega, p6⟩, ⟨by simp only [reach, byn198, List.length_map] at r7; show x7.length ≤ _; omega, p7⟩, r8, trivial⟩⟩
structure FlightM where
  To : Int
  Data : List Int
  deriving DecidableEq
def encFlight (k : FlightM) : List AV := [.v (.int .i64 k.To), bytesL k.Data]
def FlightM.ok (N : Nat) (k : FlightM) : Prop := (-9223372036854775808 ≤ k.To ∧ k.To ≤ 9223372036854775807) ∧ (Eng.Bytes k.Data ∧ k.Data.length ≤ N)
theorem eq_Flight (a b : FlightM) : a = b ↔ a.To = b.To ∧ a.Data = b.Data := by cases a; cases b; simp
theorem fzE_Flight (n : Nat) (k : FlightM) : ∀ x ∈ encFlight k, Fz (n + 2) x := by
  simp only [encFlight, fz_cons, fz_nil, and_true]
  exact ⟨Fz.int _ _ _, bytesL_fz _ _⟩
theorem fzA_Flight (k : FlightM) : Fz depthD (.agg [.v (.int .i64 k.To), bytesL k.Data]) := Fz.agg (n := 11) (fzE_Flight 9 k)
theorem fzL_Flight (l : List FlightM) : Fz depthD (.lst false (l.map encFlight)) := fz_rows (n := 11) (fun k => fzE_Flight 9 k) l
theorem fzP_Flight (k : FlightM) (o : Nat) : Fz depthD (.fp [.v (.int .i64 k.To), bytesL k.Data] o) := Fz.fp (n := 11) (fzE_Flight 9 k)
theorem gE_Flight (n : Nat) (k : FlightM) : ∀ x ∈ encFlight k, MatG (n + 2) x := by
  simp only [encFlight, List.forall_mem_cons, List.not_mem_nil, false_implies, implies_true, and_true]
  exact ⟨MatG.int _ _ _, MatG.bytes _ _⟩
theorem gR_Flight (n : Nat) (l : List FlightM) : MatG (n + 3) (.lst false (l.map encFlight)) := MatG.rows (n := n + 2) (sz := 2) (by omega) (fun _ => rfl) (gE_Flight n) l
theorem mirFlight {n : Nat} {c : List AV} (h : ShC Try.prog reach n 160 c) : ∃ k : FlightM, c = encFlight k ∧ k.ok 140737488351232 := by
  obtain ⟨m, hm, g0⟩ := shC_parts fts160 h
  subst hm
  obtain ⟨a0, b0, e0, h0, g1⟩ := g0
  subst e0
  obtain ⟨x0, rfl, r0⟩ := shC_i64 u2 h0
  obtain ⟨a1, b1, e1, h1, g2⟩ := g1
  subst e1
  obtain ⟨x1, rfl, r1⟩ := shC_bytes u22 u5 byn5 h1
  have e := partsT_nil.1 g2
  subst e
  exact ⟨⟨x0, x1⟩, rfl, ⟨r0, ⟨r1.1, by have q := r1.2; simp only [reach] at q; show x1.length ≤ _; omega⟩⟩⟩
structure StateM where
  Nodes : List NodeStateM
  Flights : List FlightM
  Codes : List Int
  deriving DecidableEq
def encState (k : StateM) : List AV := [.lst false (k.Nodes.map encNodeState), .lst false (k.Flights.map encFlight), i64L k.Codes]
def StateM.ok (N : Nat) (k : StateM) : Prop := (k.Nodes.length ≤ N ∧ ∀ x ∈ k.Nodes, x.ok N) ∧ (k.Flights.length ≤ N ∧ ∀ x ∈ k.Flights, x.ok N) ∧ (Eng.I64s k.Codes ∧ k.Codes.length ≤ N)
theorem eq_State (a b : StateM) : a = b ↔ a.Nodes = b.Nodes ∧ a.Flights = b.Flights ∧ a.Codes = b.Codes := by cases a; cases b; simp
theorem fzE_State (n : Nat) (k : StateM) : ∀ x ∈ encState k, Fz (n + 4) x := by
  simp only [encState, fz_cons, fz_nil, and_true]
  exact ⟨fz_rows (fun k => fzE_NodeState (n + 0) k) _, fz_rows (fun k => fzE_Flight (n + 1) k) _, i64L_fz _ _⟩
theorem fzA_State (k : StateM) : Fz depthD (.agg [.lst false (k.Nodes.map encNodeState), .lst false (k.Flights.map encFlight), i64L k.Codes]) := Fz.agg (n := 11) (fzE_State 7 k)
theorem fzL_State (l : List StateM) : Fz depthD (.lst false (l.map encState)) := fz_rows (n := 11) (fun k => fzE_State 7 k) l
theorem fzP_State (k : StateM) (o : Nat) : Fz depthD (.fp [.lst false (k.Nodes.map encNodeState), .lst false (k.Flights.map encFlight), i64L k.Codes] o) := Fz.fp (n := 11) (fzE_State 7 k)
theorem gE_State (n : Nat) (k : StateM) : ∀ x ∈ encState k, MatG (n + 4) x := by
  simp only [encState, List.forall_mem_cons, List.not_mem_nil, false_implies, implies_true, and_true]
  exact ⟨gR_NodeState (n + 0) _, gR_Flight (n + 1) _, MatG.i64s _ _⟩
theorem gR_State (n : Nat) (l : List StateM) : MatG (n + 5) (.lst false (l.map encState)) := MatG.rows (n := n + 4) (sz := 3) (by omega) (fun _ => rfl) (gE_State n) l
theorem mirState {n : Nat} {c : List AV} (h : ShC Try.prog reach n 63 c) : ∃ k : StateM, c = encState k ∧ k.ok 140737488351232 := by
  obtain ⟨m, hm, g0⟩ := shC_parts fts63 h
  subst hm
  obtain ⟨a0, b0, e0, h0, g1⟩ := g0
  subst e0
  obtain ⟨y0, rfl, r0, q0, -, s0⟩ := shC_rows u59 h0
  obtain ⟨x0, rfl, p0⟩ := mir_rows (fun c hc => mirNodeState hc) y0 s0
  obtain ⟨a1, b1, e1, h1, g2⟩ := g1
  subst e1
  obtain ⟨y1, rfl, r1, q1, -, s1⟩ := shC_rows u60 h1
  obtain ⟨x1, rfl, p1⟩ := mir_rows (fun c hc => mirFlight hc) y1 s1
  obtain ⟨a2, b2, e2, h2, g3⟩ := g2
  subst e2
  obtain ⟨x2, rfl, r2⟩ := shC_i64s u61 u2 byn2 h2
  have e := partsT_nil.1 g3
  subst e
  exact ⟨⟨x0, x1, x2⟩, rfl, ⟨⟨by simp only [reach, byn158, List.length_map] at r0; show x0.length ≤ _; omega, p0⟩, ⟨by simp only [reach, byn160, List.length_map] at r1; show x1.length ≤ _; omega, p1⟩, ⟨r2.1, by have q := r2.2; simp only [reach] at q; show x2.length ≤ _; omega⟩⟩⟩
attribute [go_sem] encKey encRing encClaim encWait encWindow encNodeState encFlight encState fzA_Key fzL_Key fzP_Key fzA_Ring fzL_Ring fzP_Ring fzA_Claim fzL_Claim fzP_Claim fzA_Wait fzL_Wait fzP_Wait fzA_Window fzL_Window fzP_Window fzA_NodeState fzL_NodeState fzP_NodeState fzA_Flight fzL_Flight fzP_Flight fzA_State fzL_State fzP_State
attribute [go_sem 2000] eqv_Claim nev_Claim eqvz_Claim nevz_Claim eqv_Wait nev_Wait eqvz_Wait nevz_Wait
end Go.Proofs.Ytmncdkecpnoogaa
