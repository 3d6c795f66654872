/- Typed mirrors of the structs, printed by mir.py. -/
import Derived.Test.YtnejoidfbgklbaaGreatDoorF
import Derived.Test.YtnejoidfbgklbaaGreatDoorER
namespace Go.Proofs.YtnejoidfbgklbaaGreatDoor
open Go Go.RowKit Go.Proofs.YtnejoidfbgklbaaGreatDoor.Eng
set_option linter.unusedSimpArgs false
set_option linter.unusedVariables false
set_option maxRecDepth 100000
structure ClaimM where
  Node : Int
  Inc : Int
  Status : Int
  Meta : Int
  deriving DecidableEq
def encClaim (k : ClaimM) : List AV := [.v (.int .i64 k.Node), .v (.int .i64 k.Inc), .v (.int .i64 k.Status), .v (.int .i64 k.Meta)]
def ClaimM.ok (N : Nat) (k : ClaimM) : Prop := (-9223372036854775808 ≤ k.Node ∧ k.Node ≤ 9223372036854775807) ∧ (-9223372036854775808 ≤ k.Inc ∧ k.Inc ≤ 9223372036854775807) ∧ (-9223372036854775808 ≤ k.Status ∧ k.Status ≤ 9223372036854775807) ∧ (-9223372036854775808 ≤ k.Meta ∧ k.Meta ≤ 9223372036854775807)
theorem eq_Claim (a b : ClaimM) : a = b ↔ a.Node = b.Node ∧ a.Inc = b.Inc ∧ a.Status = b.Status ∧ a.Meta = b.Meta := by cases a; cases b; simp
theorem eqv_Claim (a b : ClaimM) : abinX Tryz.prog .eql 103 (.agg [.v (.int .i64 a.Node), .v (.int .i64 a.Inc), .v (.int .i64 a.Status), .v (.int .i64 a.Meta)]) (.agg [.v (.int .i64 b.Node), .v (.int .i64 b.Inc), .v (.int .i64 b.Status), .v (.int .i64 b.Meta)]) = some (.v (.bool (decide (a = b)))) := by
  simp only [abinX, nil103, nilCmp, abin, exactAll, Option.map_some, Option.bind_some, plan103, eqBy, List.getElem?_cons_zero, List.getElem?_cons_succ, eqK, if_true, eq_Claim, Bool.decide_and, Bool.and_true, Bool.and_assoc]
theorem eqvz_Claim (a : ClaimM) : abinX Tryz.prog .eql 103 (.agg [.v (.int .i64 a.Node), .v (.int .i64 a.Inc), .v (.int .i64 a.Status), .v (.int .i64 a.Meta)]) (.agg [.v (.int .i64 0), .v (.int .i64 0), .v (.int .i64 0), .v (.int .i64 0)]) = some (.v (.bool (decide (a = ⟨0, 0, 0, 0⟩)))) := eqv_Claim a ⟨0, 0, 0, 0⟩
theorem nev_Claim (a b : ClaimM) : abinX Tryz.prog .neq 103 (.agg [.v (.int .i64 a.Node), .v (.int .i64 a.Inc), .v (.int .i64 a.Status), .v (.int .i64 a.Meta)]) (.agg [.v (.int .i64 b.Node), .v (.int .i64 b.Inc), .v (.int .i64 b.Status), .v (.int .i64 b.Meta)]) = some (.v (.bool (!decide (a = b)))) := by
  simp only [abinX, nil103, nilCmp, abin, exactAll, Option.map_some, Option.bind_some, plan103, eqBy, List.getElem?_cons_zero, List.getElem?_cons_succ, eqK, if_true, eq_Claim, Bool.decide_and, Bool.and_true, Bool.and_assoc]
theorem nevz_Claim (a : ClaimM) : abinX Tryz.prog .neq 103 (.agg [.v (.int .i64 a.Node), .v (.int .i64 a.Inc), .v (.int .i64 a.Status), .v (.int .i64 a.Meta)]) (.agg [.v (.int .i64 0), .v (.int .i64 0), .v (.int .i64 0), .v (.int .i64 0)]) = some (.v (.bool (!decide (a = ⟨0, 0, 0, 0⟩)))) := nev_Claim a ⟨0, 0, 0, 0⟩
theorem fzE_Claim (n : Nat) (k : ClaimM) : ∀ x ∈ encClaim k, Fz (n + 1) x := by
  simp only [encClaim, fz_cons, fz_nil, and_true]
  exact ⟨Fz.int _ _ _, Fz.int _ _ _, Fz.int _ _ _, Fz.int _ _ _⟩
theorem fzA_Claim (k : ClaimM) : Fz depthD (.agg [.v (.int .i64 k.Node), .v (.int .i64 k.Inc), .v (.int .i64 k.Status), .v (.int .i64 k.Meta)]) := Fz.agg (n := 11) (fzE_Claim 10 k)
theorem fzL_Claim (l : List ClaimM) : Fz depthD (.lst false (l.map encClaim)) := fz_rows (n := 11) (fun k => fzE_Claim 10 k) l
theorem fzP_Claim (k : ClaimM) (o : Nat) : Fz depthD (.fp [.v (.int .i64 k.Node), .v (.int .i64 k.Inc), .v (.int .i64 k.Status), .v (.int .i64 k.Meta)] o) := Fz.fp (n := 11) (fzE_Claim 10 k)
structure RecordM where
  Type_ : Int
  Node : Int
  Port : Int
  deriving DecidableEq
def encRecord (k : RecordM) : List AV := [.v (.int .i64 k.Type_), .v (.int .i64 k.Node), .v (.int .i64 k.Port)]
def RecordM.ok (N : Nat) (k : RecordM) : Prop := (-9223372036854775808 ≤ k.Type_ ∧ k.Type_ ≤ 9223372036854775807) ∧ (-9223372036854775808 ≤ k.Node ∧ k.Node ≤ 9223372036854775807) ∧ (-9223372036854775808 ≤ k.Port ∧ k.Port ≤ 9223372036854775807)
theorem eq_Record (a b : RecordM) : a = b ↔ a.Type_ = b.Type_ ∧ a.Node = b.Node ∧ a.Port = b.Port := by cases a; cases b; simp
theorem eqv_Record (a b : RecordM) : abinX Tryz.prog .eql 86 (.agg [.v (.int .i64 a.Type_), .v (.int .i64 a.Node), .v (.int .i64 a.Port)]) (.agg [.v (.int .i64 b.Type_), .v (.int .i64 b.Node), .v (.int .i64 b.Port)]) = some (.v (.bool (decide (a = b)))) := by
  simp only [abinX, nil86, nilCmp, abin, exactAll, Option.map_some, Option.bind_some, plan86, eqBy, List.getElem?_cons_zero, List.getElem?_cons_succ, eqK, if_true, eq_Record, Bool.decide_and, Bool.and_true, Bool.and_assoc]
theorem eqvz_Record (a : RecordM) : abinX Tryz.prog .eql 86 (.agg [.v (.int .i64 a.Type_), .v (.int .i64 a.Node), .v (.int .i64 a.Port)]) (.agg [.v (.int .i64 0), .v (.int .i64 0), .v (.int .i64 0)]) = some (.v (.bool (decide (a = ⟨0, 0, 0⟩)))) := eqv_Record a ⟨0, 0, 0⟩
theorem nev_Record (a b : RecordM) : abinX Tryz.prog .neq 86 (.agg [.v (.int .i64 a.Type_), .v (.int .i64 a.Node), .v (.int .i64 a.Port)]) (.agg [.v (.int .i64 b.Type_), .v (.int .i64 b.Node), .v (.int .i64 b.Port)]) = some (.v (.bool (!decide (a = b)))) := by
  simp only [abinX, nil86, nilCmp, abin, exactAll, Option.map_some, Option.bind_some, plan86, eqBy, List.getElem?_cons_zero, List.getElem?_cons_succ, eqK, if_true, eq_Record, Bool.decide_and, Bool.and_true, Bool.and_assoc]
theorem nevz_Record (a : RecordM) : abinX Tryz.prog .neq 86 (.agg [.v (.int .i64 a.Type_), .v (.int .i64 a.Node), .v (.int .i64 a.Port)]) (.agg [.v (.int .i64 0), .v (.int .i64 0), .v (.int .i64 0)]) = some (.v (.bool (!decide (a = ⟨0, 0, 0⟩)))) := nev_Record a ⟨0, 0, 0⟩
theorem fzE_Record (n : Nat) (k : RecordM) : ∀ x ∈ encRecord k, Fz (n + 1) x := by
  simp only [encRecord, fz_cons, fz_nil, and_true]
  exact ⟨Fz.int _ _ _, Fz.int _ _ _, Fz.int _ _ _⟩
theorem fzA_Record (k : RecordM) : Fz depthD (.agg [.v (.int .i64 k.Type_), .v (.int .i64 k.Node), .v (.int .i64 k.Port)]) := Fz.agg (n := 11) (fzE_Record 10 k)
theorem fzL_Record (l : List RecordM) : Fz depthD (.lst false (l.map encRecord)) := fz_rows (n := 11) (fun k => fzE_Record 10 k) l
theorem fzP_Record (k : RecordM) (o : Nat) : Fz depthD (.fp [.v (.int .i64 k.Type_), .v (.int .i64 k.Node), .v (.int .i64 k.Port)] o) := Fz.fp (n := 11) (fzE_Record 10 k)
attribute [go_sem] encClaim encRecord fzA_Claim fzL_Claim fzP_Claim fzA_Record fzL_Record fzP_Record
attribute [go_sem 2000] eqv_Claim nev_Claim eqvz_Claim nevz_Claim eqv_Record nev_Record eqvz_Record nevz_Record
end Go.Proofs.YtnejoidfbgklbaaGreatDoor
