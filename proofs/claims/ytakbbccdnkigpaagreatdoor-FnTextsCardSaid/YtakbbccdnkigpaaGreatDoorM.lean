/- Typed mirrors of the structs, printed by mir.py. -/
import Derived.Test.YtakbbccdnkigpaaGreatDoorF
import Derived.Test.YtakbbccdnkigpaaGreatDoorER
namespace Go.Proofs.YtakbbccdnkigpaaGreatDoor
open Go Go.RowKit Go.Proofs.YtakbbccdnkigpaaGreatDoor.Eng
set_option linter.unusedSimpArgs false
set_option linter.unusedVariables false
set_option maxRecDepth 100000
structure KeyM where
  Id : Int
  Bytes : List Int
  deriving DecidableEq
def encKey (k : KeyM) : List AV := [.v (.int .i64 k.Id), bytesL k.Bytes]
def KeyM.ok (N : Nat) (k : KeyM) : Prop := (-9223372036854775808 ≤ k.Id ∧ k.Id ≤ 9223372036854775807) ∧ (Eng.Bytes k.Bytes ∧ k.Bytes.length ≤ N)
theorem fzE_Key (n : Nat) (k : KeyM) : ∀ x ∈ encKey k, Fz (n + 2) x := by
  simp only [encKey, fz_cons, fz_nil, and_true]
  exact ⟨Fz.int _ _ _, bytesL_fz _ _⟩
theorem fzA_Key (k : KeyM) : Fz depthD (.agg [.v (.int .i64 k.Id), bytesL k.Bytes]) := Fz.agg (n := 11) (fzE_Key 9 k)
theorem fzL_Key (l : List KeyM) : Fz depthD (.lst false (l.map encKey)) := fz_rows (n := 11) (fun k => fzE_Key 9 k) l
theorem fzP_Key (k : KeyM) (o : Nat) : Fz depthD (.fp [.v (.int .i64 k.Id), bytesL k.Bytes] o) := Fz.fp (n := 11) (fzE_Key 9 k)
structure ClaimM where
  Node : Int
  Inc : Int
  Status : Int
  Meta : Int
  deriving DecidableEq
def encClaim (k : ClaimM) : List AV := [.v (.int .i64 k.Node), .v (.int .i64 k.Inc), .v (.int .i64 k.Status), .v (.int .i64 k.Meta)]
def ClaimM.ok (N : Nat) (k : ClaimM) : Prop := (-9223372036854775808 ≤ k.Node ∧ k.Node ≤ 9223372036854775807) ∧ (-9223372036854775808 ≤ k.Inc ∧ k.Inc ≤ 9223372036854775807) ∧ (-9223372036854775808 ≤ k.Status ∧ k.Status ≤ 9223372036854775807) ∧ (-9223372036854775808 ≤ k.Meta ∧ k.Meta ≤ 9223372036854775807)
theorem eq_Claim (a b : ClaimM) : a = b ↔ a.Node = b.Node ∧ a.Inc = b.Inc ∧ a.Status = b.Status ∧ a.Meta = b.Meta := by cases a; cases b; simp
theorem eqv_Claim (a b : ClaimM) : abinX Tryz.prog .eql 43 (.agg [.v (.int .i64 a.Node), .v (.int .i64 a.Inc), .v (.int .i64 a.Status), .v (.int .i64 a.Meta)]) (.agg [.v (.int .i64 b.Node), .v (.int .i64 b.Inc), .v (.int .i64 b.Status), .v (.int .i64 b.Meta)]) = some (.v (.bool (decide (a = b)))) := by
  simp only [abinX, nil43, nilCmp, abin, exactAll, Option.map_some, Option.bind_some, plan43, eqBy, List.getElem?_cons_zero, List.getElem?_cons_succ, eqK, if_true, eq_Claim, Bool.decide_and, Bool.and_true, Bool.and_assoc]
theorem eqvz_Claim (a : ClaimM) : abinX Tryz.prog .eql 43 (.agg [.v (.int .i64 a.Node), .v (.int .i64 a.Inc), .v (.int .i64 a.Status), .v (.int .i64 a.Meta)]) (.agg [.v (.int .i64 0), .v (.int .i64 0), .v (.int .i64 0), .v (.int .i64 0)]) = some (.v (.bool (decide (a = ⟨0, 0, 0, 0⟩)))) := eqv_Claim a ⟨0, 0, 0, 0⟩
theorem nev_Claim (a b : ClaimM) : abinX Tryz.prog .neq 43 (.agg [.v (.int .i64 a.Node), .v (.int .i64 a.Inc), .v (.int .i64 a.Status), .v (.int .i64 a.Meta)]) (.agg [.v (.int .i64 b.Node), .v (.int .i64 b.Inc), .v (.int .i64 b.Status), .v (.int .i64 b.Meta)]) = some (.v (.bool (!decide (a = b)))) := by
  simp only [abinX, nil43, nilCmp, abin, exactAll, Option.map_some, Option.bind_some, plan43, eqBy, List.getElem?_cons_zero, List.getElem?_cons_succ, eqK, if_true, eq_Claim, Bool.decide_and, Bool.and_true, Bool.and_assoc]
theorem nevz_Claim (a : ClaimM) : abinX Tryz.prog .neq 43 (.agg [.v (.int .i64 a.Node), .v (.int .i64 a.Inc), .v (.int .i64 a.Status), .v (.int .i64 a.Meta)]) (.agg [.v (.int .i64 0), .v (.int .i64 0), .v (.int .i64 0), .v (.int .i64 0)]) = some (.v (.bool (!decide (a = ⟨0, 0, 0, 0⟩)))) := nev_Claim a ⟨0, 0, 0, 0⟩
theorem fzE_Claim (n : Nat) (k : ClaimM) : ∀ x ∈ encClaim k, Fz (n + 1) x := by
  simp only [encClaim, fz_cons, fz_nil, and_true]
  exact ⟨Fz.int _ _ _, Fz.int _ _ _, Fz.int _ _ _, Fz.int _ _ _⟩
theorem fzA_Claim (k : ClaimM) : Fz depthD (.agg [.v (.int .i64 k.Node), .v (.int .i64 k.Inc), .v (.int .i64 k.Status), .v (.int .i64 k.Meta)]) := Fz.agg (n := 11) (fzE_Claim 10 k)
theorem fzL_Claim (l : List ClaimM) : Fz depthD (.lst false (l.map encClaim)) := fz_rows (n := 11) (fun k => fzE_Claim 10 k) l
theorem fzP_Claim (k : ClaimM) (o : Nat) : Fz depthD (.fp [.v (.int .i64 k.Node), .v (.int .i64 k.Inc), .v (.int .i64 k.Status), .v (.int .i64 k.Meta)] o) := Fz.fp (n := 11) (fzE_Claim 10 k)
structure MessageM where
  Kind : Int
  Seq : Int
  Node : Int
  Claim : ClaimM
  Op : Int
  Key : KeyM
  deriving DecidableEq
def encMessage (k : MessageM) : List AV := [.v (.int .i64 k.Kind), .v (.int .i64 k.Seq), .v (.int .i64 k.Node), .v (.int .i64 k.Claim.Node), .v (.int .i64 k.Claim.Inc), .v (.int .i64 k.Claim.Status), .v (.int .i64 k.Claim.Meta), .v (.int .i64 k.Op), .v (.int .i64 k.Key.Id), bytesL k.Key.Bytes]
def MessageM.ok (N : Nat) (k : MessageM) : Prop := (-9223372036854775808 ≤ k.Kind ∧ k.Kind ≤ 9223372036854775807) ∧ (-9223372036854775808 ≤ k.Seq ∧ k.Seq ≤ 9223372036854775807) ∧ (-9223372036854775808 ≤ k.Node ∧ k.Node ≤ 9223372036854775807) ∧ k.Claim.ok N ∧ (-9223372036854775808 ≤ k.Op ∧ k.Op ≤ 9223372036854775807) ∧ k.Key.ok N
theorem fzE_Message (n : Nat) (k : MessageM) : ∀ x ∈ encMessage k, Fz (n + 2) x := by
  simp only [encMessage, fz_cons, fz_nil, and_true]
  exact ⟨Fz.int _ _ _, Fz.int _ _ _, Fz.int _ _ _, Fz.int _ _ _, Fz.int _ _ _, Fz.int _ _ _, Fz.int _ _ _, Fz.int _ _ _, Fz.int _ _ _, bytesL_fz _ _⟩
theorem fzA_Message (k : MessageM) : Fz depthD (.agg [.v (.int .i64 k.Kind), .v (.int .i64 k.Seq), .v (.int .i64 k.Node), .v (.int .i64 k.Claim.Node), .v (.int .i64 k.Claim.Inc), .v (.int .i64 k.Claim.Status), .v (.int .i64 k.Claim.Meta), .v (.int .i64 k.Op), .v (.int .i64 k.Key.Id), bytesL k.Key.Bytes]) := Fz.agg (n := 11) (fzE_Message 9 k)
theorem fzL_Message (l : List MessageM) : Fz depthD (.lst false (l.map encMessage)) := fz_rows (n := 11) (fun k => fzE_Message 9 k) l
theorem fzP_Message (k : MessageM) (o : Nat) : Fz depthD (.fp [.v (.int .i64 k.Kind), .v (.int .i64 k.Seq), .v (.int .i64 k.Node), .v (.int .i64 k.Claim.Node), .v (.int .i64 k.Claim.Inc), .v (.int .i64 k.Claim.Status), .v (.int .i64 k.Claim.Meta), .v (.int .i64 k.Op), .v (.int .i64 k.Key.Id), bytesL k.Key.Bytes] o) := Fz.fp (n := 11) (fzE_Message 9 k)
structure EventM where
  Kind : Int
  Node : Int
  At : Int
  Mask : Int
  Data : List Int
  Op : Int
  Key : KeyM
  deriving DecidableEq
def encEvent (k : EventM) : List AV := [.v (.int .i64 k.Kind), .v (.int .i64 k.Node), .v (.int .i64 k.At), .v (.int .i64 k.Mask), bytesL k.Data, .v (.int .i64 k.Op), .v (.int .i64 k.Key.Id), bytesL k.Key.Bytes]
def EventM.ok (N : Nat) (k : EventM) : Prop := (-9223372036854775808 ≤ k.Kind ∧ k.Kind ≤ 9223372036854775807) ∧ (-9223372036854775808 ≤ k.Node ∧ k.Node ≤ 9223372036854775807) ∧ (-9223372036854775808 ≤ k.At ∧ k.At ≤ 9223372036854775807) ∧ (-9223372036854775808 ≤ k.Mask ∧ k.Mask ≤ 9223372036854775807) ∧ (Eng.Bytes k.Data ∧ k.Data.length ≤ N) ∧ (-9223372036854775808 ≤ k.Op ∧ k.Op ≤ 9223372036854775807) ∧ k.Key.ok N
theorem fzE_Event (n : Nat) (k : EventM) : ∀ x ∈ encEvent k, Fz (n + 2) x := by
  simp only [encEvent, fz_cons, fz_nil, and_true]
  exact ⟨Fz.int _ _ _, Fz.int _ _ _, Fz.int _ _ _, Fz.int _ _ _, bytesL_fz _ _, Fz.int _ _ _, Fz.int _ _ _, bytesL_fz _ _⟩
theorem fzA_Event (k : EventM) : Fz depthD (.agg [.v (.int .i64 k.Kind), .v (.int .i64 k.Node), .v (.int .i64 k.At), .v (.int .i64 k.Mask), bytesL k.Data, .v (.int .i64 k.Op), .v (.int .i64 k.Key.Id), bytesL k.Key.Bytes]) := Fz.agg (n := 11) (fzE_Event 9 k)
theorem fzL_Event (l : List EventM) : Fz depthD (.lst false (l.map encEvent)) := fz_rows (n := 11) (fun k => fzE_Event 9 k) l
theorem fzP_Event (k : EventM) (o : Nat) : Fz depthD (.fp [.v (.int .i64 k.Kind), .v (.int .i64 k.Node), .v (.int .i64 k.At), .v (.int .i64 k.Mask), bytesL k.Data, .v (.int .i64 k.Op), .v (.int .i64 k.Key.Id), bytesL k.Key.Bytes] o) := Fz.fp (n := 11) (fzE_Event 9 k)
attribute [go_sem] encKey encClaim encMessage encEvent fzA_Key fzL_Key fzP_Key fzA_Claim fzL_Claim fzP_Claim fzA_Message fzL_Message fzP_Message fzA_Event fzL_Event fzP_Event
attribute [go_sem 2000] eqv_Claim nev_Claim eqvz_Claim nevz_Claim
end Go.Proofs.YtakbbccdnkigpaaGreatDoor
