/- Typed mirrors of the structs, printed by mir.py. -/
import Derived.Test.YtmpkcilehideiaaF
import Derived.Test.YtmpkcilehideiaaER
namespace Go.Proofs.Ytmpkcilehideiaa
open Go Go.RowKit Go.Proofs.Ytmpkcilehideiaa.Eng
set_option linter.unusedSimpArgs false
set_option linter.unusedVariables false
set_option maxRecDepth 100000
structure ClaimM where
  Node : Int
  Inc : Int
  Status : Int
  Meta : Int
  deriving DecidableEq
def encClaim (k : ClaimM) : List AV := [.v (.int .i64 k.Node), .v (.int .i64 k.Inc), .v (.int .i64 k.Status), .v (.int .i64 k.Meta)]
def ClaimM.ok (N : Nat) (k : ClaimM) : Prop := (-9223372036854775808 ≤ k.Node ∧ k.Node ≤ 9223372036854775807) ∧ (-9223372036854775808 ≤ k.Inc ∧ k.Inc ≤ 9223372036854775807) ∧ (-9223372036854775808 ≤ k.Status ∧ k.Status ≤ 9223372036854775807) ∧ (-9223372036854775808 ≤ k.Meta ∧ k.Meta ≤ 9223372036854775807)
theorem eq_Claim (a b : ClaimM) : a = b ↔ a.Node = b.Node ∧ a.Inc = b.Inc ∧ a.Status = b.Status ∧ a.Meta = b.Meta := by cases a; cases b; simp
theorem eqv_Claim (a b : ClaimM) : abinX Try.prog .eql 34 (.agg [.v (.int .i64 a.Node), .v (.int .i64 a.Inc), .v (.int .i64 a.Status), .v (.int .i64 a.Meta)]) (.agg [.v (.int .i64 b.Node), .v (.int .i64 b.Inc), .v (.int .i64 b.Status), .v (.int .i64 b.Meta)]) = some (.v (.bool (decide (a = b)))) := by
  simp only [abinX, nil34, nilCmp, abin, exactAll, Option.map_some, Option.bind_some, plan34, eqBy, List.getElem?_cons_zero, List.getElem?_cons_succ, eqK, if_true, eq_Claim, Bool.decide_and, Bool.and_true, Bool.and_assoc]
theorem eqvz_Claim (a : ClaimM) : abinX Try.prog .eql 34 (.agg [.v (.int .i64 a.Node), .v (.int .i64 a.Inc), .v (.int .i64 a.Status), .v (.int .i64 a.Meta)]) (.agg [.v (.int .i64 0), .v (.int .i64 0), .v (.int .i64 0), .v (.int .i64 0)]) = some (.v (.bool (decide (a = ⟨0, 0, 0, 0⟩)))) := eqv_Claim a ⟨0, 0, 0, 0⟩
theorem nev_Claim (a b : ClaimM) : abinX Try.prog .neq 34 (.agg [.v (.int .i64 a.Node), .v (.int .i64 a.Inc), .v (.int .i64 a.Status), .v (.int .i64 a.Meta)]) (.agg [.v (.int .i64 b.Node), .v (.int .i64 b.Inc), .v (.int .i64 b.Status), .v (.int .i64 b.Meta)]) = some (.v (.bool (!decide (a = b)))) := by
  simp only [abinX, nil34, nilCmp, abin, exactAll, Option.map_some, Option.bind_some, plan34, eqBy, List.getElem?_cons_zero, List.getElem?_cons_succ, eqK, if_true, eq_Claim, Bool.decide_and, Bool.and_true, Bool.and_assoc]
theorem nevz_Claim (a : ClaimM) : abinX Try.prog .neq 34 (.agg [.v (.int .i64 a.Node), .v (.int .i64 a.Inc), .v (.int .i64 a.Status), .v (.int .i64 a.Meta)]) (.agg [.v (.int .i64 0), .v (.int .i64 0), .v (.int .i64 0), .v (.int .i64 0)]) = some (.v (.bool (!decide (a = ⟨0, 0, 0, 0⟩)))) := nev_Claim a ⟨0, 0, 0, 0⟩
theorem fzE_Claim (n : Nat) (k : ClaimM) : ∀ x ∈ encClaim k, Fz (n + 1) x := by
  simp only [encClaim, fz_cons, fz_nil, and_true]
  exact ⟨Fz.int _ _ _, Fz.int _ _ _, Fz.int _ _ _, Fz.int _ _ _⟩
theorem fzA_Claim (k : ClaimM) : Fz depthD (.agg [.v (.int .i64 k.Node), .v (.int .i64 k.Inc), .v (.int .i64 k.Status), .v (.int .i64 k.Meta)]) := Fz.agg (n := 11) (fzE_Claim 10 k)
theorem fzL_Claim (l : List ClaimM) : Fz depthD (.lst false (l.map encClaim)) := fz_rows (n := 11) (fun k => fzE_Claim 10 k) l
theorem fzP_Claim (k : ClaimM) (o : Nat) : Fz depthD (.fp [.v (.int .i64 k.Node), .v (.int .i64 k.Inc), .v (.int .i64 k.Status), .v (.int .i64 k.Meta)] o) := Fz.fp (n := 11) (fzE_Claim 10 k)
theorem gE_Claim (n : Nat) (k : ClaimM) : ∀ x ∈ encClaim k, MatG (n + 1) x := by
  simp only [encClaim, List.forall_mem_cons, List.not_mem_nil, false_implies, implies_true, and_true]
  exact ⟨MatG.int _ _ _, MatG.int _ _ _, MatG.int _ _ _, MatG.int _ _ _⟩
theorem gR_Claim (n : Nat) (l : List ClaimM) : MatG (n + 2) (.lst false (l.map encClaim)) := MatG.rows (n := n + 1) (sz := 4) (by omega) (fun _ => rfl) (gE_Claim n) l
structure KeyM where
  Id : Int
  Bytes : List Int
  deriving DecidableEq
def encKey (k : KeyM) : List AV := [.v (.int .i64 k.Id), bytesL k.Bytes]
def KeyM.ok (N : Nat) (k : KeyM) : Prop := (-9223372036854775808 ≤ k.Id ∧ k.Id ≤ 9223372036854775807) ∧ (Eng.Bytes k.Bytes ∧ k.Bytes.length ≤ N)
theorem eq_Key (a b : KeyM) : a = b ↔ a.Id = b.Id ∧ a.Bytes = b.Bytes := by cases a; cases b; simp
theorem fzE_Key (n : Nat) (k : KeyM) : ∀ x ∈ encKey k, Fz (n + 2) x := by
  simp only [encKey, fz_cons, fz_nil, and_true]
  exact ⟨Fz.int _ _ _, bytesL_fz _ _⟩
theorem fzA_Key (k : KeyM) : Fz depthD (.agg [.v (.int .i64 k.Id), bytesL k.Bytes]) := Fz.agg (n := 11) (fzE_Key 9 k)
theorem fzL_Key (l : List KeyM) : Fz depthD (.lst false (l.map encKey)) := fz_rows (n := 11) (fun k => fzE_Key 9 k) l
theorem fzP_Key (k : KeyM) (o : Nat) : Fz depthD (.fp [.v (.int .i64 k.Id), bytesL k.Bytes] o) := Fz.fp (n := 11) (fzE_Key 9 k)
theorem gE_Key (n : Nat) (k : KeyM) : ∀ x ∈ encKey k, MatG (n + 2) x := by
  simp only [encKey, List.forall_mem_cons, List.not_mem_nil, false_implies, implies_true, and_true]
  exact ⟨MatG.int _ _ _, MatG.bytes _ _⟩
theorem gR_Key (n : Nat) (l : List KeyM) : MatG (n + 3) (.lst false (l.map encKey)) := MatG.rows (n := n + 2) (sz := 2) (by omega) (fun _ => rfl) (gE_Key n) l
structure MessageM where
  Kind : Int
  Seq : Int
  Node : Int
  Claim : ClaimM
  Op : Int
  Key : KeyM
  deriving DecidableEq
def encMessage (k : MessageM) : List AV := [.v (.int .i64 k.Kind), .v (.int .i64 k.Seq), .v (.int .i64 k.Node), .v (.int .i64 k.Claim.Node), .v (.int .i64 k.Claim.Inc), .v (.int .i64 k.Claim.Status), .v (.int .i64 k.Claim.Meta), .v (.int .i64 k.Op), .v (.int .i64 k.Key.Id), bytesL k.Key.Bytes]
def MessageM.ok (N : Nat) (k : MessageM) : Prop := (-9223372036854775808 ≤ k.Kind ∧ k.Kind ≤ 9223372036854775807) ∧ (-9223372036854775808 ≤ k.Seq ∧ k.Seq ≤ 9223372036854775807) ∧ (-9223372036854775808 ≤ k.Node ∧ k.Node ≤ 9223372036854775807) ∧ k.Claim.ok N ∧ (-9223372036854775808 ≤ k.Op ∧ k.Op ≤ 9223372036854775807) ∧ k.Key.ok N
theorem eq_Message (a b : MessageM) : a = b ↔ a.Kind = b.Kind ∧ a.Seq = b.Seq ∧ a.Node = b.Node ∧ a.Claim = b.Claim ∧ a.Op = b.Op ∧ a.Key = b.Key := by cases a; cases b; simp
theorem fzE_Message (n : Nat) (k : MessageM) : ∀ x ∈ encMessage k, Fz (n + 2) x := by
  simp only [encMessage, fz_cons, fz_nil, and_true]
  exact ⟨Fz.int _ _ _, Fz.int _ _ _, Fz.int _ _ _, Fz.int _ _ _, Fz.int _ _ _, Fz.int _ _ _, Fz.int _ _ _, Fz.int _ _ _, Fz.int _ _ _, bytesL_fz _ _⟩
theorem fzA_Message (k : MessageM) : Fz depthD (.agg [.v (.int .i64 k.Kind), .v (.int .i64 k.Seq), .v (.int .i64 k.Node), .v (.int .i64 k.Claim.Node), .v (.int .i64 k.Claim.Inc), .v (.int .i64 k.Claim.Status), .v (.int .i64 k.Claim.Meta), .v (.int .i64 k.Op), .v (.int .i64 k.Key.Id), bytesL k.Key.Bytes]) := Fz.agg (n := 11) (fzE_Message 9 k)
theorem fzL_Message (l : List MessageM) : Fz depthD (.lst false (l.map encMessage)) := fz_rows (n := 11) (fun k => fzE_Message 9 k) l
theorem fzP_Message (k : MessageM) (o : Nat) : Fz depthD (.fp [.v (.int .i64 k.Kind), .v (.int .i64 k.Seq), .v (.int .i64 k.Node), .v (.int .i64 k.Claim.Node), .v (.int .i64 k.Claim.Inc), .v (.int .i64 k.Claim.Status), .v (.int .i64 k.Claim.Meta), .v (.int .i64 k.Op), .v (.int .i64 k.Key.Id), bytesL k.Key.Bytes] o) := Fz.fp (n := 11) (fzE_Message 9 k)
theorem gE_Message (n : Nat) (k : MessageM) : ∀ x ∈ encMessage k, MatG (n + 2) x := by
  simp only [encMessage, List.forall_mem_cons, List.not_mem_nil, false_implies, implies_true, and_true]
  exact ⟨MatG.int _ _ _, MatG.int _ _ _, MatG.int _ _ _, MatG.int _ _ _, MatG.int _ _ _, MatG.int _ _ _, MatG.int _ _ _, MatG.int _ _ _, MatG.int _ _ _, MatG.bytes _ _⟩
theorem gR_Message (n : Nat) (l : List MessageM) : MatG (n + 3) (.lst false (l.map encMessage)) := MatG.rows (n := n + 2) (sz := 10) (by omega) (fun _ => rfl) (gE_Message n) l
attribute [go_sem] encClaim encKey encMessage fzA_Claim fzL_Claim fzP_Claim fzA_Key fzL_Key fzP_Key fzA_Message fzL_Message fzP_Message
attribute [go_sem 2000] eqv_Claim nev_Claim eqvz_Claim nevz_Claim
end Go.Proofs.Ytmpkcilehideiaa
