/- Typed mirrors of the structs, printed by mir.py. -/
import Derived.Test.YtlkoklhnodcipaaDoorF
import Derived.Test.YtlkoklhnodcipaaDoorE27
namespace Go.Proofs.YtlkoklhnodcipaaDoor
open Go Go.RowKit Go.Proofs.YtlkoklhnodcipaaDoor.Eng
set_option linter.unusedSimpArgs false
set_option linter.unusedVariables false
set_option maxRecDepth 100000
structure TextsResultM where
  Code : Int
  Words : List ByteArray
  deriving DecidableEq
def encTextsResult (k : TextsResultM) : List AV := [.v (.int .i64 k.Code), textsL k.Words]
def TextsResultM.ok (N : Nat) (k : TextsResultM) : Prop := (-9223372036854775808 ≤ k.Code ∧ k.Code ≤ 9223372036854775807) ∧ (k.Words.length ≤ N ∧ ∀ z ∈ k.Words, z.size ≤ N)
theorem eq_TextsResult (a b : TextsResultM) : a = b ↔ a.Code = b.Code ∧ a.Words = b.Words := by cases a; cases b; simp
theorem fzE_TextsResult (n : Nat) (k : TextsResultM) : ∀ x ∈ encTextsResult k, Fz (n + 2) x := by
  simp only [encTextsResult, fz_cons, fz_nil, and_true]
  exact ⟨Fz.int _ _ _, textsL_fz _ _⟩
theorem fzA_TextsResult (k : TextsResultM) : Fz depthD (.agg [.v (.int .i64 k.Code), textsL k.Words]) := Fz.agg (n := 11) (fzE_TextsResult 9 k)
theorem fzL_TextsResult (l : List TextsResultM) : Fz depthD (.lst false (l.map encTextsResult)) := fz_rows (n := 11) (fun k => fzE_TextsResult 9 k) l
theorem fzP_TextsResult (k : TextsResultM) (o : Nat) : Fz depthD (.fp [.v (.int .i64 k.Code), textsL k.Words] o) := Fz.fp (n := 11) (fzE_TextsResult 9 k)
attribute [go_sem] encTextsResult fzA_TextsResult fzL_TextsResult fzP_TextsResult
end Go.Proofs.YtlkoklhnodcipaaDoor
