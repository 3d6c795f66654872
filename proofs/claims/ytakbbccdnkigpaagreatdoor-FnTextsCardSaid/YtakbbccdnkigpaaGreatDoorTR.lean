/- Contracts: draws of texts. Contracts: draws of texts, the functions. Contracts: draws of claims and of bytes. Contracts: draws of bytes and of their texts. Contracts: draws of texts of bytes. Contracts: draws of lines of words. Bytes are read back from their texts, and texts from their bytes. Contracts: draws of lines that may be spoilt. -/
import Derived.Test.YtakbbccdnkigpaaGreatDoorRA
namespace Go.Proofs.YtakbbccdnkigpaaGreatDoor
open Go Go.RowKit Go.Proofs.YtakbbccdnkigpaaGreatDoor.Eng
set_option linter.unusedSimpArgs false
set_option linter.unusedVariables false
set_option maxRecDepth 100000
set_option maxHeartbeats 4000000
noncomputable section
theorem lit_num  : bs 11 [.v (.string ⟨#[]⟩)] [(0, AV.v (.string ⟨#[48]⟩)), (1, AV.v (.string ⟨#[53]⟩)), (2, AV.v (.string ⟨#[45, 53]⟩)), (3, AV.v (.string ⟨#[48, 48]⟩)), (4, AV.v (.string ⟨#[48, 48, 55]⟩)), (5, AV.v (.string ⟨#[]⟩)), (6, AV.v (.string ⟨#[57, 57, 57, 57, 57, 57, 57]⟩)), (7, AV.v (.string ⟨#[49, 48, 48, 48, 48, 48, 48, 48]⟩)), (8, AV.v (.string ⟨#[120]⟩)), (9, AV.v (.string ⟨#[49, 120]⟩)), (10, AV.v (.string ⟨#[49, 48]⟩))] = some ([AV.v (.string ⟨#[48]⟩), AV.v (.string ⟨#[53]⟩), AV.v (.string ⟨#[45, 53]⟩), AV.v (.string ⟨#[48, 48]⟩), AV.v (.string ⟨#[48, 48, 55]⟩), AV.v (.string ⟨#[]⟩), AV.v (.string ⟨#[57, 57, 57, 57, 57, 57, 57]⟩), AV.v (.string ⟨#[49, 48, 48, 48, 48, 48, 48, 48]⟩), AV.v (.string ⟨#[120]⟩), AV.v (.string ⟨#[49, 120]⟩), AV.v (.string ⟨#[49, 48]⟩)], 1) := by kernel_rfl
theorem chk_num  : chunk 1 11 [AV.v (.string ⟨#[48]⟩), AV.v (.string ⟨#[53]⟩), AV.v (.string ⟨#[45, 53]⟩), AV.v (.string ⟨#[48, 48]⟩), AV.v (.string ⟨#[48, 48, 55]⟩), AV.v (.string ⟨#[]⟩), AV.v (.string ⟨#[57, 57, 57, 57, 57, 57, 57]⟩), AV.v (.string ⟨#[49, 48, 48, 48, 48, 48, 48, 48]⟩), AV.v (.string ⟨#[120]⟩), AV.v (.string ⟨#[49, 120]⟩), AV.v (.string ⟨#[49, 48]⟩)] = [[AV.v (.string ⟨#[48]⟩)], [AV.v (.string ⟨#[53]⟩)], [AV.v (.string ⟨#[45, 53]⟩)], [AV.v (.string ⟨#[48, 48]⟩)], [AV.v (.string ⟨#[48, 48, 55]⟩)], [AV.v (.string ⟨#[]⟩)], [AV.v (.string ⟨#[57, 57, 57, 57, 57, 57, 57]⟩)], [AV.v (.string ⟨#[49, 48, 48, 48, 48, 48, 48, 48]⟩)], [AV.v (.string ⟨#[120]⟩)], [AV.v (.string ⟨#[49, 120]⟩)], [AV.v (.string ⟨#[49, 48]⟩)]] := by kernel_rfl
theorem get_num  (n : Nat) (hn : n < 11) : ∃ z : ByteArray, z.size ≤ 1000 ∧ ([[AV.v (.string ⟨#[48]⟩)], [AV.v (.string ⟨#[53]⟩)], [AV.v (.string ⟨#[45, 53]⟩)], [AV.v (.string ⟨#[48, 48]⟩)], [AV.v (.string ⟨#[48, 48, 55]⟩)], [AV.v (.string ⟨#[]⟩)], [AV.v (.string ⟨#[57, 57, 57, 57, 57, 57, 57]⟩)], [AV.v (.string ⟨#[49, 48, 48, 48, 48, 48, 48, 48]⟩)], [AV.v (.string ⟨#[120]⟩)], [AV.v (.string ⟨#[49, 120]⟩)], [AV.v (.string ⟨#[49, 48]⟩)]] : List (List AV))[n]? = some [.v (.string z)] := by
  have hA : ∀ z ∈ ([⟨#[48]⟩, ⟨#[53]⟩, ⟨#[45, 53]⟩, ⟨#[48, 48]⟩, ⟨#[48, 48, 55]⟩, ⟨#[]⟩, ⟨#[57, 57, 57, 57, 57, 57, 57]⟩, ⟨#[49, 48, 48, 48, 48, 48, 48, 48]⟩, ⟨#[120]⟩, ⟨#[49, 120]⟩, ⟨#[49, 48]⟩] : List ByteArray), z.size ≤ 1000 := by
    repeat (first | exact List.forall_mem_nil _ | refine List.forall_mem_cons.2 ⟨by first | exact hy | decide, ?_⟩)
  have hl : n < ([⟨#[48]⟩, ⟨#[53]⟩, ⟨#[45, 53]⟩, ⟨#[48, 48]⟩, ⟨#[48, 48, 55]⟩, ⟨#[]⟩, ⟨#[57, 57, 57, 57, 57, 57, 57]⟩, ⟨#[49, 48, 48, 48, 48, 48, 48, 48]⟩, ⟨#[120]⟩, ⟨#[49, 120]⟩, ⟨#[49, 48]⟩] : List ByteArray).length := by simpa only [List.length_cons, List.length_nil, Nat.reduceAdd] using hn
  refine ⟨_, hA _ (List.getElem_mem hl), ?_⟩
  have h2 : ([[AV.v (.string ⟨#[48]⟩)], [AV.v (.string ⟨#[53]⟩)], [AV.v (.string ⟨#[45, 53]⟩)], [AV.v (.string ⟨#[48, 48]⟩)], [AV.v (.string ⟨#[48, 48, 55]⟩)], [AV.v (.string ⟨#[]⟩)], [AV.v (.string ⟨#[57, 57, 57, 57, 57, 57, 57]⟩)], [AV.v (.string ⟨#[49, 48, 48, 48, 48, 48, 48, 48]⟩)], [AV.v (.string ⟨#[120]⟩)], [AV.v (.string ⟨#[49, 120]⟩)], [AV.v (.string ⟨#[49, 48]⟩)]] : List (List AV)) = ([⟨#[48]⟩, ⟨#[53]⟩, ⟨#[45, 53]⟩, ⟨#[48, 48]⟩, ⟨#[48, 48, 55]⟩, ⟨#[]⟩, ⟨#[57, 57, 57, 57, 57, 57, 57]⟩, ⟨#[49, 48, 48, 48, 48, 48, 48, 48]⟩, ⟨#[120]⟩, ⟨#[49, 120]⟩, ⟨#[49, 48]⟩] : List ByteArray).map fun z => [AV.v (.string z)] := by kernel_rfl
  rw [h2, List.getElem?_map, List.getElem?_eq_getElem hl]; rfl
theorem lit_line (y : ByteArray) : bs 41 [.v (.string ⟨#[]⟩)] [(0, AV.v (.string ⟨#[116, 105, 99, 107, 32, 48]⟩)), (1, AV.v (.string ⟨#[116, 105, 99, 107, 32, 48]⟩)), (2, AV.v (.string ⟨#[116, 105, 99, 107, 32, 49]⟩)), (3, AV.v (.string ⟨#[116, 105, 99, 107, 32, 49]⟩)), (4, AV.v (.string ⟨#[116, 105, 99, 107, 32, 50]⟩)), (5, AV.v (.string ⟨#[99, 111, 109, 101, 32, 48]⟩)), (6, AV.v (.string ⟨#[99, 111, 109, 101, 32, 48]⟩)), (7, AV.v (.string ⟨#[99, 111, 109, 101, 32, 48]⟩)), (8, AV.v (.string ⟨#[99, 111, 109, 101, 32, 49]⟩)), (9, AV.v (.string ⟨#[108, 111, 115, 101, 32, 48]⟩)), (10, AV.v (.string ⟨#[99, 111, 112, 121, 32, 48]⟩)), (11, AV.v (.string ⟨#[116, 117, 114, 110, 32, 48, 32, 50, 48, 32, 49]⟩)), (12, AV.v (.string ⟨#[116, 117, 114, 110, 32, 48, 32, 48, 32, 50, 53, 53]⟩)), (13, AV.v (.string ⟨#[112, 117, 115, 104, 32, 48, 32, 48, 48, 102, 102]⟩)), (14, AV.v (.string ⟨#[112, 117, 115, 104, 32, 49]⟩)), (15, AV.v (.string ⟨#[117, 115, 101, 32, 48, 32, 49]⟩)), (16, AV.v (.string ⟨#[117, 115, 101, 32, 48, 32, 50]⟩)), (17, AV.v (.string y)), (18, AV.v (.string ⟨#[114, 101, 109, 111, 118, 101, 32, 48, 32, 49]⟩)), (19, AV.v (.string ⟨#[115, 116, 111, 112, 32, 49]⟩)), (20, AV.v (.string ⟨#[115, 116, 111, 112, 32, 50]⟩)), (21, AV.v (.string ⟨#[118, 105, 101, 119, 32, 48]⟩)), (22, AV.v (.string ⟨#[118, 105, 101, 119, 32, 49]⟩)), (23, AV.v (.string ⟨#[100, 114, 111, 112, 115, 32, 48]⟩)), (24, AV.v (.string ⟨#[107, 101, 121, 115, 32, 48]⟩)), (25, AV.v (.string ⟨#[102, 105, 110, 100, 32, 48, 32, 49]⟩)), (26, AV.v (.string ⟨#[102, 105, 110, 100, 32, 49, 32, 48]⟩)), (27, AV.v (.string ⟨#[102, 108, 105, 103, 104, 116, 115]⟩)), (28, AV.v (.string ⟨#[115, 101, 116, 116, 108, 101, 100]⟩)), (29, AV.v (.string ⟨#[]⟩)), (30, AV.v (.string ⟨#[32, 32]⟩)), (31, AV.v (.string ⟨#[102, 111, 111]⟩)), (32, AV.v (.string ⟨#[116, 105, 99, 107]⟩)), (33, AV.v (.string ⟨#[116, 105, 99, 107, 32, 57]⟩)), (34, AV.v (.string ⟨#[112, 117, 115, 104, 32, 48, 32, 48]⟩)), (35, AV.v (.string ⟨#[116, 117, 114, 110, 32, 48, 32, 51, 48, 48, 32, 49]⟩)), (36, AV.v (.string ⟨#[116, 117, 114, 110, 32, 48, 32, 49]⟩)), (37, AV.v (.string ⟨#[105, 110, 115, 116, 97, 108, 108, 32, 48, 32, 50]⟩)), (38, AV.v (.string ⟨#[118, 105, 101, 119, 32, 57]⟩)), (39, AV.v (.string ⟨#[102, 105, 110, 100, 32, 48, 32, 49, 48, 48]⟩)), (40, AV.v (.string ⟨#[99, 111, 109, 101, 32, 51, 57]⟩))] = some ([AV.v (.string ⟨#[116, 105, 99, 107, 32, 48]⟩), AV.v (.string ⟨#[116, 105, 99, 107, 32, 48]⟩), AV.v (.string ⟨#[116, 105, 99, 107, 32, 49]⟩), AV.v (.string ⟨#[116, 105, 99, 107, 32, 49]⟩), AV.v (.string ⟨#[116, 105, 99, 107, 32, 50]⟩), AV.v (.string ⟨#[99, 111, 109, 101, 32, 48]⟩), AV.v (.string ⟨#[99, 111, 109, 101, 32, 48]⟩), AV.v (.string ⟨#[99, 111, 109, 101, 32, 48]⟩), AV.v (.string ⟨#[99, 111, 109, 101, 32, 49]⟩), AV.v (.string ⟨#[108, 111, 115, 101, 32, 48]⟩), AV.v (.string ⟨#[99, 111, 112, 121, 32, 48]⟩), AV.v (.string ⟨#[116, 117, 114, 110, 32, 48, 32, 50, 48, 32, 49]⟩), AV.v (.string ⟨#[116, 117, 114, 110, 32, 48, 32, 48, 32, 50, 53, 53]⟩), AV.v (.string ⟨#[112, 117, 115, 104, 32, 48, 32, 48, 48, 102, 102]⟩), AV.v (.string ⟨#[112, 117, 115, 104, 32, 49]⟩), AV.v (.string ⟨#[117, 115, 101, 32, 48, 32, 49]⟩), AV.v (.string ⟨#[117, 115, 101, 32, 48, 32, 50]⟩), AV.v (.string y), AV.v (.string ⟨#[114, 101, 109, 111, 118, 101, 32, 48, 32, 49]⟩), AV.v (.string ⟨#[115, 116, 111, 112, 32, 49]⟩), AV.v (.string ⟨#[115, 116, 111, 112, 32, 50]⟩), AV.v (.string ⟨#[118, 105, 101, 119, 32, 48]⟩), AV.v (.string ⟨#[118, 105, 101, 119, 32, 49]⟩), AV.v (.string ⟨#[100, 114, 111, 112, 115, 32, 48]⟩), AV.v (.string ⟨#[107, 101, 121, 115, 32, 48]⟩), AV.v (.string ⟨#[102, 105, 110, 100, 32, 48, 32, 49]⟩), AV.v (.string ⟨#[102, 105, 110, 100, 32, 49, 32, 48]⟩), AV.v (.string ⟨#[102, 108, 105, 103, 104, 116, 115]⟩), AV.v (.string ⟨#[115, 101, 116, 116, 108, 101, 100]⟩), AV.v (.string ⟨#[]⟩), AV.v (.string ⟨#[32, 32]⟩), AV.v (.string ⟨#[102, 111, 111]⟩), AV.v (.string ⟨#[116, 105, 99, 107]⟩), AV.v (.string ⟨#[116, 105, 99, 107, 32, 57]⟩), AV.v (.string ⟨#[112, 117, 115, 104, 32, 48, 32, 48]⟩), AV.v (.string ⟨#[116, 117, 114, 110, 32, 48, 32, 51, 48, 48, 32, 49]⟩), AV.v (.string ⟨#[116, 117, 114, 110, 32, 48, 32, 49]⟩), AV.v (.string ⟨#[105, 110, 115, 116, 97, 108, 108, 32, 48, 32, 50]⟩), AV.v (.string ⟨#[118, 105, 101, 119, 32, 57]⟩), AV.v (.string ⟨#[102, 105, 110, 100, 32, 48, 32, 49, 48, 48]⟩), AV.v (.string ⟨#[99, 111, 109, 101, 32, 51, 57]⟩)], 1) := by kernel_rfl
theorem chk_line (y : ByteArray) : chunk 1 41 [AV.v (.string ⟨#[116, 105, 99, 107, 32, 48]⟩), AV.v (.string ⟨#[116, 105, 99, 107, 32, 48]⟩), AV.v (.string ⟨#[116, 105, 99, 107, 32, 49]⟩), AV.v (.string ⟨#[116, 105, 99, 107, 32, 49]⟩), AV.v (.string ⟨#[116, 105, 99, 107, 32, 50]⟩), AV.v (.string ⟨#[99, 111, 109, 101, 32, 48]⟩), AV.v (.string ⟨#[99, 111, 109, 101, 32, 48]⟩), AV.v (.string ⟨#[99, 111, 109, 101, 32, 48]⟩), AV.v (.string ⟨#[99, 111, 109, 101, 32, 49]⟩), AV.v (.string ⟨#[108, 111, 115, 101, 32, 48]⟩), AV.v (.string ⟨#[99, 111, 112, 121, 32, 48]⟩), AV.v (.string ⟨#[116, 117, 114, 110, 32, 48, 32, 50, 48, 32, 49]⟩), AV.v (.string ⟨#[116, 117, 114, 110, 32, 48, 32, 48, 32, 50, 53, 53]⟩), AV.v (.string ⟨#[112, 117, 115, 104, 32, 48, 32, 48, 48, 102, 102]⟩), AV.v (.string ⟨#[112, 117, 115, 104, 32, 49]⟩), AV.v (.string ⟨#[117, 115, 101, 32, 48, 32, 49]⟩), AV.v (.string ⟨#[117, 115, 101, 32, 48, 32, 50]⟩), AV.v (.string y), AV.v (.string ⟨#[114, 101, 109, 111, 118, 101, 32, 48, 32, 49]⟩), AV.v (.string ⟨#[115, 116, 111, 112, 32, 49]⟩), AV.v (.string ⟨#[115, 116, 111, 112, 32, 50]⟩), AV.v (.string ⟨#[118, 105, 101, 119, 32, 48]⟩), AV.v (.string ⟨#[118, 105, 101, 119, 32, 49]⟩), AV.v (.string ⟨#[100, 114, 111, 112, 115, 32, 48]⟩), AV.v (.string ⟨#[107, 101, 121, 115, 32, 48]⟩), AV.v (.string ⟨#[102, 105, 110, 100, 32, 48, 32, 49]⟩), AV.v (.string ⟨#[102, 105, 110, 100, 32, 49, 32, 48]⟩), AV.v (.string ⟨#[102, 108, 105, 103, 104, 116, 115]⟩), AV.v (.string ⟨#[115, 101, 116, 116, 108, 101, 100]⟩), AV.v (.string ⟨#[]⟩), AV.v (.string ⟨#[32, 32]⟩), AV.v (.string ⟨#[102, 111, 111]⟩), AV.v (.string ⟨#[116, 105, 99, 107]⟩), AV.v (.string ⟨#[116, 105, 99, 107, 32, 57]⟩), AV.v (.string ⟨#[112, 117, 115, 104, 32, 48, 32, 48]⟩), AV.v (.string ⟨#[116, 117, 114, 110, 32, 48, 32, 51, 48, 48, 32, 49]⟩), AV.v (.string ⟨#[116, 117, 114, 110, 32, 48, 32, 49]⟩), AV.v (.string ⟨#[105, 110, 115, 116, 97, 108, 108, 32, 48, 32, 50]⟩), AV.v (.string ⟨#[118, 105, 101, 119, 32, 57]⟩), AV.v (.string ⟨#[102, 105, 110, 100, 32, 48, 32, 49, 48, 48]⟩), AV.v (.string ⟨#[99, 111, 109, 101, 32, 51, 57]⟩)] = [[AV.v (.string ⟨#[116, 105, 99, 107, 32, 48]⟩)], [AV.v (.string ⟨#[116, 105, 99, 107, 32, 48]⟩)], [AV.v (.string ⟨#[116, 105, 99, 107, 32, 49]⟩)], [AV.v (.string ⟨#[116, 105, 99, 107, 32, 49]⟩)], [AV.v (.string ⟨#[116, 105, 99, 107, 32, 50]⟩)], [AV.v (.string ⟨#[99, 111, 109, 101, 32, 48]⟩)], [AV.v (.string ⟨#[99, 111, 109, 101, 32, 48]⟩)], [AV.v (.string ⟨#[99, 111, 109, 101, 32, 48]⟩)], [AV.v (.string ⟨#[99, 111, 109, 101, 32, 49]⟩)], [AV.v (.string ⟨#[108, 111, 115, 101, 32, 48]⟩)], [AV.v (.string ⟨#[99, 111, 112, 121, 32, 48]⟩)], [AV.v (.string ⟨#[116, 117, 114, 110, 32, 48, 32, 50, 48, 32, 49]⟩)], [AV.v (.string ⟨#[116, 117, 114, 110, 32, 48, 32, 48, 32, 50, 53, 53]⟩)], [AV.v (.string ⟨#[112, 117, 115, 104, 32, 48, 32, 48, 48, 102, 102]⟩)], [AV.v (.string ⟨#[112, 117, 115, 104, 32, 49]⟩)], [AV.v (.string ⟨#[117, 115, 101, 32, 48, 32, 49]⟩)], [AV.v (.string ⟨#[117, 115, 101, 32, 48, 32, 50]⟩)], [AV.v (.string y)], [AV.v (.string ⟨#[114, 101, 109, 111, 118, 101, 32, 48, 32, 49]⟩)], [AV.v (.string ⟨#[115, 116, 111, 112, 32, 49]⟩)], [AV.v (.string ⟨#[115, 116, 111, 112, 32, 50]⟩)], [AV.v (.string ⟨#[118, 105, 101, 119, 32, 48]⟩)], [AV.v (.string ⟨#[118, 105, 101, 119, 32, 49]⟩)], [AV.v (.string ⟨#[100, 114, 111, 112, 115, 32, 48]⟩)], [AV.v (.string ⟨#[107, 101, 121, 115, 32, 48]⟩)], [AV.v (.string ⟨#[102, 105, 110, 100, 32, 48, 32, 49]⟩)], [AV.v (.string ⟨#[102, 105, 110, 100, 32, 49, 32, 48]⟩)], [AV.v (.string ⟨#[102, 108, 105, 103, 104, 116, 115]⟩)], [AV.v (.string ⟨#[115, 101, 116, 116, 108, 101, 100]⟩)], [AV.v (.string ⟨#[]⟩)], [AV.v (.string ⟨#[32, 32]⟩)], [AV.v (.string ⟨#[102, 111, 111]⟩)], [AV.v (.string ⟨#[116, 105, 99, 107]⟩)], [AV.v (.string ⟨#[116, 105, 99, 107, 32, 57]⟩)], [AV.v (.string ⟨#[112, 117, 115, 104, 32, 48, 32, 48]⟩)], [AV.v (.string ⟨#[116, 117, 114, 110, 32, 48, 32, 51, 48, 48, 32, 49]⟩)], [AV.v (.string ⟨#[116, 117, 114, 110, 32, 48, 32, 49]⟩)], [AV.v (.string ⟨#[105, 110, 115, 116, 97, 108, 108, 32, 48, 32, 50]⟩)], [AV.v (.string ⟨#[118, 105, 101, 119, 32, 57]⟩)], [AV.v (.string ⟨#[102, 105, 110, 100, 32, 48, 32, 49, 48, 48]⟩)], [AV.v (.string ⟨#[99, 111, 109, 101, 32, 51, 57]⟩)]] := by kernel_rfl
theorem get_line (y : ByteArray) (hy : y.size ≤ 1000) (n : Nat) (hn : n < 41) : ∃ z : ByteArray, z.size ≤ 1000 ∧ ([[AV.v (.string ⟨#[116, 105, 99, 107, 32, 48]⟩)], [AV.v (.string ⟨#[116, 105, 99, 107, 32, 48]⟩)], [AV.v (.string ⟨#[116, 105, 99, 107, 32, 49]⟩)], [AV.v (.string ⟨#[116, 105, 99, 107, 32, 49]⟩)], [AV.v (.string ⟨#[116, 105, 99, 107, 32, 50]⟩)], [AV.v (.string ⟨#[99, 111, 109, 101, 32, 48]⟩)], [AV.v (.string ⟨#[99, 111, 109, 101, 32, 48]⟩)], [AV.v (.string ⟨#[99, 111, 109, 101, 32, 48]⟩)], [AV.v (.string ⟨#[99, 111, 109, 101, 32, 49]⟩)], [AV.v (.string ⟨#[108, 111, 115, 101, 32, 48]⟩)], [AV.v (.string ⟨#[99, 111, 112, 121, 32, 48]⟩)], [AV.v (.string ⟨#[116, 117, 114, 110, 32, 48, 32, 50, 48, 32, 49]⟩)], [AV.v (.string ⟨#[116, 117, 114, 110, 32, 48, 32, 48, 32, 50, 53, 53]⟩)], [AV.v (.string ⟨#[112, 117, 115, 104, 32, 48, 32, 48, 48, 102, 102]⟩)], [AV.v (.string ⟨#[112, 117, 115, 104, 32, 49]⟩)], [AV.v (.string ⟨#[117, 115, 101, 32, 48, 32, 49]⟩)], [AV.v (.string ⟨#[117, 115, 101, 32, 48, 32, 50]⟩)], [AV.v (.string y)], [AV.v (.string ⟨#[114, 101, 109, 111, 118, 101, 32, 48, 32, 49]⟩)], [AV.v (.string ⟨#[115, 116, 111, 112, 32, 49]⟩)], [AV.v (.string ⟨#[115, 116, 111, 112, 32, 50]⟩)], [AV.v (.string ⟨#[118, 105, 101, 119, 32, 48]⟩)], [AV.v (.string ⟨#[118, 105, 101, 119, 32, 49]⟩)], [AV.v (.string ⟨#[100, 114, 111, 112, 115, 32, 48]⟩)], [AV.v (.string ⟨#[107, 101, 121, 115, 32, 48]⟩)], [AV.v (.string ⟨#[102, 105, 110, 100, 32, 48, 32, 49]⟩)], [AV.v (.string ⟨#[102, 105, 110, 100, 32, 49, 32, 48]⟩)], [AV.v (.string ⟨#[102, 108, 105, 103, 104, 116, 115]⟩)], [AV.v (.string ⟨#[115, 101, 116, 116, 108, 101, 100]⟩)], [AV.v (.string ⟨#[]⟩)], [AV.v (.string ⟨#[32, 32]⟩)], [AV.v (.string ⟨#[102, 111, 111]⟩)], [AV.v (.string ⟨#[116, 105, 99, 107]⟩)], [AV.v (.string ⟨#[116, 105, 99, 107, 32, 57]⟩)], [AV.v (.string ⟨#[112, 117, 115, 104, 32, 48, 32, 48]⟩)], [AV.v (.string ⟨#[116, 117, 114, 110, 32, 48, 32, 51, 48, 48, 32, 49]⟩)], [AV.v (.string ⟨#[116, 117, 114, 110, 32, 48, 32, 49]⟩)], [AV.v (.string ⟨#[105, 110, 115, 116, 97, 108, 108, 32, 48, 32, 50]⟩)], [AV.v (.string ⟨#[118, 105, 101, 119, 32, 57]⟩)], [AV.v (.string ⟨#[102, 105, 110, 100, 32, 48, 32, 49, 48, 48]⟩)], [AV.v (.string ⟨#[99, 111, 109, 101, 32, 51, 57]⟩)]] : List (List AV))[n]? = some [.v (.string z)] := by
  have hA : ∀ z ∈ ([⟨#[116, 105, 99, 107, 32, 48]⟩, ⟨#[116, 105, 99, 107, 32, 48]⟩, ⟨#[116, 105, 99, 107, 32, 49]⟩, ⟨#[116, 105, 99, 107, 32, 49]⟩, ⟨#[116, 105, 99, 107, 32, 50]⟩, ⟨#[99, 111, 109, 101, 32, 48]⟩, ⟨#[99, 111, 109, 101, 32, 48]⟩, ⟨#[99, 111, 109, 101, 32, 48]⟩, ⟨#[99, 111, 109, 101, 32, 49]⟩, ⟨#[108, 111, 115, 101, 32, 48]⟩, ⟨#[99, 111, 112, 121, 32, 48]⟩, ⟨#[116, 117, 114, 110, 32, 48, 32, 50, 48, 32, 49]⟩, ⟨#[116, 117, 114, 110, 32, 48, 32, 48, 32, 50, 53, 53]⟩, ⟨#[112, 117, 115, 104, 32, 48, 32, 48, 48, 102, 102]⟩, ⟨#[112, 117, 115, 104, 32, 49]⟩, ⟨#[117, 115, 101, 32, 48, 32, 49]⟩, ⟨#[117, 115, 101, 32, 48, 32, 50]⟩, y, ⟨#[114, 101, 109, 111, 118, 101, 32, 48, 32, 49]⟩, ⟨#[115, 116, 111, 112, 32, 49]⟩, ⟨#[115, 116, 111, 112, 32, 50]⟩, ⟨#[118, 105, 101, 119, 32, 48]⟩, ⟨#[118, 105, 101, 119, 32, 49]⟩, ⟨#[100, 114, 111, 112, 115, 32, 48]⟩, ⟨#[107, 101, 121, 115, 32, 48]⟩, ⟨#[102, 105, 110, 100, 32, 48, 32, 49]⟩, ⟨#[102, 105, 110, 100, 32, 49, 32, 48]⟩, ⟨#[102, 108, 105, 103, 104, 116, 115]⟩, ⟨#[115, 101, 116, 116, 108, 101, 100]⟩, ⟨#[]⟩, ⟨#[32, 32]⟩, ⟨#[102, 111, 111]⟩, ⟨#[116, 105, 99, 107]⟩, ⟨#[116, 105, 99, 107, 32, 57]⟩, ⟨#[112, 117, 115, 104, 32, 48, 32, 48]⟩, ⟨#[116, 117, 114, 110, 32, 48, 32, 51, 48, 48, 32, 49]⟩, ⟨#[116, 117, 114, 110, 32, 48, 32, 49]⟩, ⟨#[105, 110, 115, 116, 97, 108, 108, 32, 48, 32, 50]⟩, ⟨#[118, 105, 101, 119, 32, 57]⟩, ⟨#[102, 105, 110, 100, 32, 48, 32, 49, 48, 48]⟩, ⟨#[99, 111, 109, 101, 32, 51, 57]⟩] : List ByteArray), z.size ≤ 1000 := by
    repeat (first | exact List.forall_mem_nil _ | refine List.forall_mem_cons.2 ⟨by first | exact hy | decide, ?_⟩)
  have hl : n < ([⟨#[116, 105, 99, 107, 32, 48]⟩, ⟨#[116, 105, 99, 107, 32, 48]⟩, ⟨#[116, 105, 99, 107, 32, 49]⟩, ⟨#[116, 105, 99, 107, 32, 49]⟩, ⟨#[116, 105, 99, 107, 32, 50]⟩, ⟨#[99, 111, 109, 101, 32, 48]⟩, ⟨#[99, 111, 109, 101, 32, 48]⟩, ⟨#[99, 111, 109, 101, 32, 48]⟩, ⟨#[99, 111, 109, 101, 32, 49]⟩, ⟨#[108, 111, 115, 101, 32, 48]⟩, ⟨#[99, 111, 112, 121, 32, 48]⟩, ⟨#[116, 117, 114, 110, 32, 48, 32, 50, 48, 32, 49]⟩, ⟨#[116, 117, 114, 110, 32, 48, 32, 48, 32, 50, 53, 53]⟩, ⟨#[112, 117, 115, 104, 32, 48, 32, 48, 48, 102, 102]⟩, ⟨#[112, 117, 115, 104, 32, 49]⟩, ⟨#[117, 115, 101, 32, 48, 32, 49]⟩, ⟨#[117, 115, 101, 32, 48, 32, 50]⟩, y, ⟨#[114, 101, 109, 111, 118, 101, 32, 48, 32, 49]⟩, ⟨#[115, 116, 111, 112, 32, 49]⟩, ⟨#[115, 116, 111, 112, 32, 50]⟩, ⟨#[118, 105, 101, 119, 32, 48]⟩, ⟨#[118, 105, 101, 119, 32, 49]⟩, ⟨#[100, 114, 111, 112, 115, 32, 48]⟩, ⟨#[107, 101, 121, 115, 32, 48]⟩, ⟨#[102, 105, 110, 100, 32, 48, 32, 49]⟩, ⟨#[102, 105, 110, 100, 32, 49, 32, 48]⟩, ⟨#[102, 108, 105, 103, 104, 116, 115]⟩, ⟨#[115, 101, 116, 116, 108, 101, 100]⟩, ⟨#[]⟩, ⟨#[32, 32]⟩, ⟨#[102, 111, 111]⟩, ⟨#[116, 105, 99, 107]⟩, ⟨#[116, 105, 99, 107, 32, 57]⟩, ⟨#[112, 117, 115, 104, 32, 48, 32, 48]⟩, ⟨#[116, 117, 114, 110, 32, 48, 32, 51, 48, 48, 32, 49]⟩, ⟨#[116, 117, 114, 110, 32, 48, 32, 49]⟩, ⟨#[105, 110, 115, 116, 97, 108, 108, 32, 48, 32, 50]⟩, ⟨#[118, 105, 101, 119, 32, 57]⟩, ⟨#[102, 105, 110, 100, 32, 48, 32, 49, 48, 48]⟩, ⟨#[99, 111, 109, 101, 32, 51, 57]⟩] : List ByteArray).length := by simpa only [List.length_cons, List.length_nil, Nat.reduceAdd] using hn
  refine ⟨_, hA _ (List.getElem_mem hl), ?_⟩
  have h2 : ([[AV.v (.string ⟨#[116, 105, 99, 107, 32, 48]⟩)], [AV.v (.string ⟨#[116, 105, 99, 107, 32, 48]⟩)], [AV.v (.string ⟨#[116, 105, 99, 107, 32, 49]⟩)], [AV.v (.string ⟨#[116, 105, 99, 107, 32, 49]⟩)], [AV.v (.string ⟨#[116, 105, 99, 107, 32, 50]⟩)], [AV.v (.string ⟨#[99, 111, 109, 101, 32, 48]⟩)], [AV.v (.string ⟨#[99, 111, 109, 101, 32, 48]⟩)], [AV.v (.string ⟨#[99, 111, 109, 101, 32, 48]⟩)], [AV.v (.string ⟨#[99, 111, 109, 101, 32, 49]⟩)], [AV.v (.string ⟨#[108, 111, 115, 101, 32, 48]⟩)], [AV.v (.string ⟨#[99, 111, 112, 121, 32, 48]⟩)], [AV.v (.string ⟨#[116, 117, 114, 110, 32, 48, 32, 50, 48, 32, 49]⟩)], [AV.v (.string ⟨#[116, 117, 114, 110, 32, 48, 32, 48, 32, 50, 53, 53]⟩)], [AV.v (.string ⟨#[112, 117, 115, 104, 32, 48, 32, 48, 48, 102, 102]⟩)], [AV.v (.string ⟨#[112, 117, 115, 104, 32, 49]⟩)], [AV.v (.string ⟨#[117, 115, 101, 32, 48, 32, 49]⟩)], [AV.v (.string ⟨#[117, 115, 101, 32, 48, 32, 50]⟩)], [AV.v (.string y)], [AV.v (.string ⟨#[114, 101, 109, 111, 118, 101, 32, 48, 32, 49]⟩)], [AV.v (.string ⟨#[115, 116, 111, 112, 32, 49]⟩)], [AV.v (.string ⟨#[115, 116, 111, 112, 32, 50]⟩)], [AV.v (.string ⟨#[118, 105, 101, 119, 32, 48]⟩)], [AV.v (.string ⟨#[118, 105, 101, 119, 32, 49]⟩)], [AV.v (.string ⟨#[100, 114, 111, 112, 115, 32, 48]⟩)], [AV.v (.string ⟨#[107, 101, 121, 115, 32, 48]⟩)], [AV.v (.string ⟨#[102, 105, 110, 100, 32, 48, 32, 49]⟩)], [AV.v (.string ⟨#[102, 105, 110, 100, 32, 49, 32, 48]⟩)], [AV.v (.string ⟨#[102, 108, 105, 103, 104, 116, 115]⟩)], [AV.v (.string ⟨#[115, 101, 116, 116, 108, 101, 100]⟩)], [AV.v (.string ⟨#[]⟩)], [AV.v (.string ⟨#[32, 32]⟩)], [AV.v (.string ⟨#[102, 111, 111]⟩)], [AV.v (.string ⟨#[116, 105, 99, 107]⟩)], [AV.v (.string ⟨#[116, 105, 99, 107, 32, 57]⟩)], [AV.v (.string ⟨#[112, 117, 115, 104, 32, 48, 32, 48]⟩)], [AV.v (.string ⟨#[116, 117, 114, 110, 32, 48, 32, 51, 48, 48, 32, 49]⟩)], [AV.v (.string ⟨#[116, 117, 114, 110, 32, 48, 32, 49]⟩)], [AV.v (.string ⟨#[105, 110, 115, 116, 97, 108, 108, 32, 48, 32, 50]⟩)], [AV.v (.string ⟨#[118, 105, 101, 119, 32, 57]⟩)], [AV.v (.string ⟨#[102, 105, 110, 100, 32, 48, 32, 49, 48, 48]⟩)], [AV.v (.string ⟨#[99, 111, 109, 101, 32, 51, 57]⟩)]] : List (List AV)) = ([⟨#[116, 105, 99, 107, 32, 48]⟩, ⟨#[116, 105, 99, 107, 32, 48]⟩, ⟨#[116, 105, 99, 107, 32, 49]⟩, ⟨#[116, 105, 99, 107, 32, 49]⟩, ⟨#[116, 105, 99, 107, 32, 50]⟩, ⟨#[99, 111, 109, 101, 32, 48]⟩, ⟨#[99, 111, 109, 101, 32, 48]⟩, ⟨#[99, 111, 109, 101, 32, 48]⟩, ⟨#[99, 111, 109, 101, 32, 49]⟩, ⟨#[108, 111, 115, 101, 32, 48]⟩, ⟨#[99, 111, 112, 121, 32, 48]⟩, ⟨#[116, 117, 114, 110, 32, 48, 32, 50, 48, 32, 49]⟩, ⟨#[116, 117, 114, 110, 32, 48, 32, 48, 32, 50, 53, 53]⟩, ⟨#[112, 117, 115, 104, 32, 48, 32, 48, 48, 102, 102]⟩, ⟨#[112, 117, 115, 104, 32, 49]⟩, ⟨#[117, 115, 101, 32, 48, 32, 49]⟩, ⟨#[117, 115, 101, 32, 48, 32, 50]⟩, y, ⟨#[114, 101, 109, 111, 118, 101, 32, 48, 32, 49]⟩, ⟨#[115, 116, 111, 112, 32, 49]⟩, ⟨#[115, 116, 111, 112, 32, 50]⟩, ⟨#[118, 105, 101, 119, 32, 48]⟩, ⟨#[118, 105, 101, 119, 32, 49]⟩, ⟨#[100, 114, 111, 112, 115, 32, 48]⟩, ⟨#[107, 101, 121, 115, 32, 48]⟩, ⟨#[102, 105, 110, 100, 32, 48, 32, 49]⟩, ⟨#[102, 105, 110, 100, 32, 49, 32, 48]⟩, ⟨#[102, 108, 105, 103, 104, 116, 115]⟩, ⟨#[115, 101, 116, 116, 108, 101, 100]⟩, ⟨#[]⟩, ⟨#[32, 32]⟩, ⟨#[102, 111, 111]⟩, ⟨#[116, 105, 99, 107]⟩, ⟨#[116, 105, 99, 107, 32, 57]⟩, ⟨#[112, 117, 115, 104, 32, 48, 32, 48]⟩, ⟨#[116, 117, 114, 110, 32, 48, 32, 51, 48, 48, 32, 49]⟩, ⟨#[116, 117, 114, 110, 32, 48, 32, 49]⟩, ⟨#[105, 110, 115, 116, 97, 108, 108, 32, 48, 32, 50]⟩, ⟨#[118, 105, 101, 119, 32, 57]⟩, ⟨#[102, 105, 110, 100, 32, 48, 32, 49, 48, 48]⟩, ⟨#[99, 111, 109, 101, 32, 51, 57]⟩] : List ByteArray).map fun z => [AV.v (.string z)] := by kernel_rfl
  rw [h2, List.getElem?_map, List.getElem?_eq_getElem hl]; rfl
end
end Go.Proofs.YtakbbccdnkigpaaGreatDoor
namespace Go.Proofs.YtakbbccdnkigpaaGreatDoor
open Go Go.RowKit Go.Proofs.YtakbbccdnkigpaaGreatDoor.Eng
set_option linter.unusedSimpArgs false
set_option linter.unusedVariables false
set_option maxRecDepth 100000
set_option maxHeartbeats 4000000
noncomputable section
section
variable {code : List Int}
theorem ok_DrawNum : fnOk Tryz.prog cfg0 16 Tryz.f16 = true := by kernel_rfl
theorem c_DrawNum (hco : CodeOk code) : ∃ z : ByteArray, z.size ≤ 1000 ∧ ∀ H, call Tryz.prog cfg0 0 16 [bytesL code] H = some (.v (.string z), H) := by
  have key : ∃ v cl, (∃ z : ByteArray, z.size ≤ 1000 ∧ v = .v (.string z)) ∧ pure Tryz.prog cfg0 16 Tryz.f16 [bytesL code] = some (v, cl) := by
    refine pure_ex (rs := [.tmp 2]) rfl rfl ?_
    have hp0 : ∀ b, cfg0.pol 16 b = 0 := fun b => rfl
    repeat' ((fail_if_success (first | refine wAt 2 ?_)); first | ((first | refine wSeqr ?_ | refine wIf ?_ | refine wReg ?_ | (refine wRet ?_; (try simp only [thenQ, blockQ]); refine ends_by ?_)); intro xx hx; have hc := trivial; (repeat' (simp only [hc, Nat.reduceBEq, go_sem, Nat.reduceAdd, Nat.reduceMul, Nat.reduceSub, Nat.reduceEqDiff, Nat.reduceLT, Nat.reduceLeDiff, Int.reduceEq, Int.reduceLT, Int.reduceLE, reduceIte, aresults, aresult, hp0, lit_num, chk_num] at hx; (try (rw [guardL_if] at hx; split at hx <;> rename_i hc)))); all_goals (subst hx; first | (refine ⟨_, rfl, fun ht => ?_, fun ht => ?_⟩ <;> (try simp only [bbs] at ht)) | (refine ⟨_, rfl, ?_⟩; (try simp only [tupOf])))) | refine wSkip ?_ | (refine wExit ?_; simp only [thenQ, blockQ, reduceIte, Nat.reduceEqDiff]) | refine wSeq ?_ | refine wBlock ?_)
    all_goals try (exfalso; (try simp only [bbs] at *); first | omega | exact absurd trivial (by assumption))
    (first | refine wSeqr ?_ | refine wReg ?_); intro xx hx; have hc := trivial; (repeat' (simp only [hc, Nat.reduceBEq, go_sem, Nat.reduceAdd, Nat.reduceMul, Nat.reduceSub, Nat.reduceEqDiff, Nat.reduceLT, Nat.reduceLeDiff, Int.reduceEq, Int.reduceLT, Int.reduceLE, reduceIte, aresults, aresult, hp0, d_Source code] at hx; (try (rw [guardL_if] at hx; split at hx <;> rename_i hc)))); generalize hq : call Tryz.prog cfg0 0 40 _ _ = q at hx
    obtain ⟨v, H2, rfl, v1, S2, F2, G2⟩ := d_Next hco (a := 0) (H := Hp.nil.new [bytesL code, .v (.int .i64 ((0 : Nat) : Int))]) ⟨new_same _ _, by simp⟩ (by omega) (by omega) hq
    clear hq
    have hv := v1.2.1 (by omega)
    obtain ⟨z, hz, hg⟩ := get_num v.toNat (by omega)
    have hnat : natOf (.v (.int .i64 v)) = some v.toNat := by simp only [natOf]; rw [if_pos v1.1]
    have hc := trivial; (repeat' (simp only [hc, Nat.reduceBEq, go_sem, Nat.reduceAdd, Nat.reduceMul, Nat.reduceSub, Nat.reduceEqDiff, Nat.reduceLT, Nat.reduceLeDiff, Int.reduceEq, Int.reduceLT, Int.reduceLE, reduceIte, aresults, aresult, hp0, hnat, hg] at hx; (try (rw [guardL_if] at hx; split at hx <;> rename_i hc)))); all_goals (subst hx; refine ⟨_, rfl, ?_⟩)
    repeat' (first | ((first | refine wSeqr ?_ | refine wIf ?_ | refine wReg ?_ | (refine wRet ?_; (try simp only [thenQ, blockQ]); refine ends_by ?_)); intro xx hx; have hc := trivial; (repeat' (simp only [hc, Nat.reduceBEq, go_sem, Nat.reduceAdd, Nat.reduceMul, Nat.reduceSub, Nat.reduceEqDiff, Nat.reduceLT, Nat.reduceLeDiff, Int.reduceEq, Int.reduceLT, Int.reduceLE, reduceIte, aresults, aresult, hp0] at hx; (try (rw [guardL_if] at hx; split at hx <;> rename_i hc)))); all_goals (subst hx; first | (refine ⟨_, rfl, fun ht => ?_, fun ht => ?_⟩ <;> (try simp only [bbs] at ht)) | (refine ⟨_, rfl, ?_⟩; (try simp only [tupOf])))) | refine wSkip ?_ | (refine wExit ?_; simp only [thenQ, blockQ, reduceIte, Nat.reduceEqDiff]) | refine wSeq ?_ | refine wBlock ?_)
    all_goals try (exfalso; (try simp only [bbs] at *); first | omega | exact absurd trivial (by assumption))
    exact ⟨_, _, ⟨z, hz, rfl⟩, rfl, rfl⟩
  obtain ⟨v, cl, ⟨z, hz, rfl⟩, hp⟩ := key
  exact ⟨z, hz, fun H => call_fz Tryz.func16 rfl ok_DrawNum rfl (by simp only [fz_cons, fz_nil, go_sem, and_self]) hp H⟩
end
section
variable {code : List Int} {a : Nat} {H : Hp} {b : Nat} {q : Option (AV × Hp)}
theorem strOf_size (l : List Int) : (strOf l).size = l.length := by show (List.toArray _).size = _; simp
theorem ok_Line : fnOk Tryz.prog cfg0 45 Tryz.f45 = true := by kernel_rfl
theorem d_Line (hco : CodeOk code) (hS : Src H b code a) (ha : a ≤ 700000000) (hq : call Tryz.prog cfg0 0 45 [.ptr b 0] H = q) :
    ∃ (z : ByteArray) (H' : Hp), q = some (.v (.string z), H') ∧ z.size ≤ 1000 ∧ Src H' b code (a + 1) ∧ Fr b H H' := by
  subst hq
  have key : ∃ r, body Tryz.prog cfg0 45 Tryz.f45 [.ptr b 0] H = some r ∧ (∃ z : ByteArray, r.1 = .v (.string z) ∧ z.size ≤ 1000 ∧ Src r.2 b code (a + 1) ∧ Fr b H r.2) := by
    refine body_wp (rs := [.tmp 2]) rfl rfl (R := fun x H' => ∃ z : ByteArray, x = .v (.string z) ∧ z.size ≤ 1000 ∧ Src H' b code (a + 1) ∧ Fr b H H') ?_
    have hp0 : ∀ b, cfg0.pol 45 b = 0 := fun b => rfl
    have c4 := c_sl4Bytes 2 (by omega)
    have ct := c_sl14Text (keyB 2) (keyB_bytes 2) (by rw [keyB_len]; omega)
    have hsz : (strOf (hxL (keyB 2))).size = 32 := by rw [strOf_size, hxL_len, keyB_len]
    have h12 : (⟨#[105, 110, 115, 116, 97, 108, 108, 32, 48, 32, 50, 32]⟩ : ByteArray).size = 12 := rfl
    have hys : ((⟨#[105, 110, 115, 116, 97, 108, 108, 32, 48, 32, 50, 32]⟩ : ByteArray) ++ strOf (hxL (keyB 2))).size ≤ 1000 := by rw [ByteArray.size_append, h12, hsz]; omega
    have hs1 : (⟨#[105, 110, 115, 116, 97, 108, 108, 32, 48, 32, 50, 32]⟩ : ByteArray).size + (strOf (hxL (keyB 2))).size ≤ 4611686018427387904 := by rw [h12, hsz]; omega
    have hs2 : (#[105, 110, 115, 116, 97, 108, 108, 32, 48, 32, 50, 32] : Array UInt8).size + (strOf (hxL (keyB 2))).size ≤ 4611686018427387904 := hs1
    have hs3 : 12 + (strOf (hxL (keyB 2))).size ≤ 4611686018427387904 := hs1
    generalize strOf (hxL (keyB 2)) = u at *
    repeat' ((fail_if_success (first | refine wAt 2 ?_)); first | ((first | refine wSeqr ?_ | refine wIf ?_ | refine wReg ?_ | (refine wRet ?_; (try simp only [thenQ, blockQ]); refine ends_by ?_)); intro xx hx; have hc := trivial; (repeat' (simp only [hc, Nat.reduceBEq, go_sem, Nat.reduceAdd, Nat.reduceMul, Nat.reduceSub, Nat.reduceEqDiff, Nat.reduceLT, Nat.reduceLeDiff, Int.reduceEq, Int.reduceLT, Int.reduceLE, reduceIte, aresults, aresult, hp0, c4, ct, hs1, hs2, hs3, lit_line, chk_line] at hx; (try (rw [guardL_if] at hx; split at hx <;> rename_i hc)))); all_goals (subst hx; first | (refine ⟨_, rfl, fun ht => ?_, fun ht => ?_⟩ <;> (try simp only [bbs] at ht)) | (refine ⟨_, rfl, ?_⟩; (try simp only [tupOf])))) | refine wSkip ?_ | (refine wExit ?_; simp only [thenQ, blockQ, reduceIte, Nat.reduceEqDiff]) | refine wSeq ?_ | refine wBlock ?_)
    all_goals try (exfalso; (try simp only [bbs] at *); first | omega | exact absurd trivial (by assumption))
    (first | refine wSeqr ?_ | refine wReg ?_); intro xx hx; have hc := trivial; (repeat' (simp only [hc, Nat.reduceBEq, go_sem, Nat.reduceAdd, Nat.reduceMul, Nat.reduceSub, Nat.reduceEqDiff, Nat.reduceLT, Nat.reduceLeDiff, Int.reduceEq, Int.reduceLT, Int.reduceLE, reduceIte, aresults, aresult, hp0] at hx; (try (rw [guardL_if] at hx; split at hx <;> rename_i hc)))); generalize hq : call Tryz.prog cfg0 0 _ _ _ = q at hx
    obtain ⟨v, H2, rfl, v1, S2, F2, G2⟩ := d_Next hco hS (by omega) (by omega) hq
    clear hq
    have hv := v1.2.1 (by omega)
    obtain ⟨z, hz, hg⟩ := get_line _ hys v.toNat (by omega)
    have hnat : natOf (.v (.int .i64 v)) = some v.toNat := by simp only [natOf]; rw [if_pos v1.1]
    have hc := trivial; (repeat' (simp only [hc, Nat.reduceBEq, go_sem, Nat.reduceAdd, Nat.reduceMul, Nat.reduceSub, Nat.reduceEqDiff, Nat.reduceLT, Nat.reduceLeDiff, Int.reduceEq, Int.reduceLT, Int.reduceLE, reduceIte, aresults, aresult, hp0, hnat, hg] at hx; (try (rw [guardL_if] at hx; split at hx <;> rename_i hc)))); all_goals (subst hx; refine ⟨_, rfl, ?_⟩)
    repeat' (first | ((first | refine wSeqr ?_ | refine wIf ?_ | refine wReg ?_ | (refine wRet ?_; (try simp only [thenQ, blockQ]); refine ends_by ?_)); intro xx hx; have hc := trivial; (repeat' (simp only [hc, Nat.reduceBEq, go_sem, Nat.reduceAdd, Nat.reduceMul, Nat.reduceSub, Nat.reduceEqDiff, Nat.reduceLT, Nat.reduceLeDiff, Int.reduceEq, Int.reduceLT, Int.reduceLE, reduceIte, aresults, aresult, hp0] at hx; (try (rw [guardL_if] at hx; split at hx <;> rename_i hc)))); all_goals (subst hx; first | (refine ⟨_, rfl, fun ht => ?_, fun ht => ?_⟩ <;> (try simp only [bbs] at ht)) | (refine ⟨_, rfl, ?_⟩; (try simp only [tupOf])))) | refine wSkip ?_ | (refine wExit ?_; simp only [thenQ, blockQ, reduceIte, Nat.reduceEqDiff]) | refine wSeq ?_ | refine wBlock ?_)
    all_goals try (exfalso; (try simp only [bbs] at *); first | omega | exact absurd trivial (by assumption))
    exact ⟨z, rfl, hz, S2, F2⟩
  obtain ⟨⟨x, H'⟩, h1, z, rfl, h3, h4, h5⟩ := key
  exact ⟨z, H', by rw [call_raw Tryz.prog cfg0 Tryz.func45 rfl ok_Line rfl rfl, h1], h3, h4, h5⟩
end
end
end Go.Proofs.YtakbbccdnkigpaaGreatDoor
namespace Go.Proofs.YtakbbccdnkigpaaGreatDoor
open Go Go.RowKit Go.Proofs.YtakbbccdnkigpaaGreatDoor.Eng
set_option linter.unusedSimpArgs false
set_option linter.unusedVariables false
set_option maxRecDepth 100000
set_option maxHeartbeats 4000000
noncomputable section
section
variable {code : List Int}
theorem ok_DrawCF : fnOk Tryz.prog cfg0 46 Tryz.f46 = true := by kernel_rfl
theorem c_DrawCF (hco : CodeOk code) : ∃ c : ClaimM, ∀ H, call Tryz.prog cfg0 0 46 [bytesL code] H = some (.agg [.v (.int .i64 c.Node), .v (.int .i64 c.Inc), .v (.int .i64 c.Status), .v (.int .i64 c.Meta)], H) := by
  have key : ∃ v cl, (∃ c : ClaimM, v = .agg [.v (.int .i64 c.Node), .v (.int .i64 c.Inc), .v (.int .i64 c.Status), .v (.int .i64 c.Meta)]) ∧ pure Tryz.prog cfg0 46 Tryz.f46 [bytesL code] = some (v, cl) := by
    refine pure_ex (rs := [.cell 2 43]) rfl rfl ?_
    have hp0 : ∀ b, cfg0.pol 46 b = 0 := fun b => rfl
    repeat' ((fail_if_success (first | refine wAt 2 ?_)); first | ((first | refine wSeqr ?_ | refine wIf ?_ | refine wReg ?_ | (refine wRet ?_; (try simp only [thenQ, blockQ]); refine ends_by ?_)); intro xx hx; have hc := trivial; (repeat' (simp only [hc, Nat.reduceBEq, go_sem, Nat.reduceAdd, Nat.reduceMul, Nat.reduceSub, Nat.reduceEqDiff, Nat.reduceLT, Nat.reduceLeDiff, Int.reduceEq, Int.reduceLT, Int.reduceLE, reduceIte, aresults, aresult, hp0, d_Source code] at hx; (try (rw [guardL_if] at hx; split at hx <;> rename_i hc)))); all_goals (subst hx; first | (refine ⟨_, rfl, fun ht => ?_, fun ht => ?_⟩ <;> (try simp only [bbs] at ht)) | (refine ⟨_, rfl, ?_⟩; (try simp only [tupOf])))) | refine wSkip ?_ | (refine wExit ?_; simp only [thenQ, blockQ, reduceIte, Nat.reduceEqDiff]) | refine wSeq ?_ | refine wBlock ?_)
    (first | refine wSeqr ?_ | refine wReg ?_); intro xx hx; have hc := trivial; (repeat' (simp only [hc, Nat.reduceBEq, go_sem, Nat.reduceAdd, Nat.reduceMul, Nat.reduceSub, Nat.reduceEqDiff, Nat.reduceLT, Nat.reduceLeDiff, Int.reduceEq, Int.reduceLT, Int.reduceLE, reduceIte, aresults, aresult, hp0] at hx; (try (rw [guardL_if] at hx; split at hx <;> rename_i hc)))); generalize hq : call Tryz.prog cfg0 0 _ _ _ = q at hx
    obtain ⟨c, K1, rfl, c1, S1, F1⟩ := d_Claim hco (a := 0) (H := (Hp.nil.new [.v (.int .i64 0), .v (.int .i64 0), .v (.int .i64 0), .v (.int .i64 0)]).new [bytesL code, .v (.int .i64 ((0 : Nat) : Int))]) ⟨new_same _ _, by simp⟩ (by omega) hq
    clear hq
    have k0 : K1.h 0 = some [.v (.int .i64 0), .v (.int .i64 0), .v (.int .i64 0), .v (.int .i64 0)] := F1.2 0 (by show 0 < 2; omega) (by show 0 ≠ 1; omega)
    have f1 : 2 ≤ K1.g := F1.1
    have S1' : Src ((K1.new [.v (.int .i64 0), .v (.int .i64 0), .v (.int .i64 0), .v (.int .i64 0)]).set K1.g (encClaim c)) 1 code _ := ⟨by rw [Hp.set_h, Hp.new_h, if_neg (by omega), if_neg (by omega)]; exact S1.1, by show 1 < K1.g + 1; omega⟩
    have hc := trivial; (repeat' (simp only [hc, Nat.reduceBEq, go_sem, Nat.reduceAdd, Nat.reduceMul, Nat.reduceSub, Nat.reduceEqDiff, Nat.reduceLT, Nat.reduceLeDiff, Int.reduceEq, Int.reduceLT, Int.reduceLE, reduceIte, aresults, aresult, hp0] at hx; (try (rw [guardL_if] at hx; split at hx <;> rename_i hc)))); all_goals (subst hx; refine ⟨_, rfl, ?_⟩)
    repeat' ((fail_if_success (first | refine wAt 3 ?_)); first | ((first | refine wSeqr ?_ | refine wIf ?_ | refine wReg ?_ | (refine wRet ?_; (try simp only [thenQ, blockQ]); refine ends_by ?_)); intro xx hx; have hc := trivial; (repeat' (simp only [hc, Nat.reduceBEq, go_sem, Nat.reduceAdd, Nat.reduceMul, Nat.reduceSub, Nat.reduceEqDiff, Nat.reduceLT, Nat.reduceLeDiff, Int.reduceEq, Int.reduceLT, Int.reduceLE, reduceIte, aresults, aresult, hp0] at hx; (try (rw [guardL_if] at hx; split at hx <;> rename_i hc)))); all_goals (subst hx; first | (refine ⟨_, rfl, fun ht => ?_, fun ht => ?_⟩ <;> (try simp only [bbs] at ht)) | (refine ⟨_, rfl, ?_⟩; (try simp only [tupOf])))) | refine wSkip ?_ | (refine wExit ?_; simp only [thenQ, blockQ, reduceIte, Nat.reduceEqDiff]) | refine wSeq ?_ | refine wBlock ?_)
    (first | refine wSeqr ?_ | refine wReg ?_); intro xx hx; have hc := trivial; (repeat' (simp only [hc, Nat.reduceBEq, go_sem, Nat.reduceAdd, Nat.reduceMul, Nat.reduceSub, Nat.reduceEqDiff, Nat.reduceLT, Nat.reduceLeDiff, Int.reduceEq, Int.reduceLT, Int.reduceLE, reduceIte, aresults, aresult, hp0] at hx; (try (rw [guardL_if] at hx; split at hx <;> rename_i hc)))); generalize hq : call Tryz.prog cfg0 0 _ _ _ = q at hx
    obtain ⟨v, K2, rfl, v1, S2, F2, G2⟩ := d_Next hco S1' (by omega) (by omega) hq
    clear hq
    have k2 : K2.h 0 = some [.v (.int .i64 0), .v (.int .i64 0), .v (.int .i64 0), .v (.int .i64 0)] := (F2.2 0 (by show 0 < K1.g + 1; omega) (by omega)).trans (by rw [Hp.set_h, Hp.new_h, if_neg (by omega), if_neg (by omega)]; exact k0)
    have m2 : K2.h K1.g = some (encClaim c) := (F2.2 K1.g (by show K1.g < K1.g + 1; omega) (by omega)).trans (by rw [Hp.set_h, if_pos rfl])
    have g2 : K2.g = K1.g + 1 := G2
    have n0 : (0 = K1.g) = False := eq_false (by omega)
    have n1 : (K1.g = 0) = False := eq_false (by omega)
    unfold encClaim at m2
    have hc := trivial; (repeat' (simp only [hc, Nat.reduceBEq, go_sem, Nat.reduceAdd, Nat.reduceMul, Nat.reduceSub, Nat.reduceEqDiff, Nat.reduceLT, Nat.reduceLeDiff, Int.reduceEq, Int.reduceLT, Int.reduceLE, reduceIte, aresults, aresult, hp0] at hx; (try (rw [guardL_if] at hx; split at hx <;> rename_i hc)))); all_goals (subst hx; refine ⟨_, rfl, ?_⟩)
    by_cases w0 : v = 0
    · subst w0
      repeat' ((fail_if_success (first | refine wAt 5 ?_)); first | ((first | refine wSeqr ?_ | refine wIf ?_ | refine wReg ?_ | (refine wRet ?_; (try simp only [thenQ, blockQ]); refine ends_by ?_)); intro xx hx; have hc := trivial; (repeat' (simp only [hc, Nat.reduceBEq, go_sem, Nat.reduceAdd, Nat.reduceMul, Nat.reduceSub, Nat.reduceEqDiff, Nat.reduceLT, Nat.reduceLeDiff, Int.reduceEq, Int.reduceLT, Int.reduceLE, reduceIte, aresults, aresult, hp0] at hx; (try (rw [guardL_if] at hx; split at hx <;> rename_i hc)))); all_goals (subst hx; first | (refine ⟨_, rfl, fun ht => ?_, fun ht => ?_⟩ <;> (try simp only [bbs] at ht)) | (refine ⟨_, rfl, ?_⟩; (try simp only [tupOf])))) | refine wSkip ?_ | (refine wExit ?_; simp only [thenQ, blockQ, reduceIte, Nat.reduceEqDiff]) | refine wSeq ?_ | refine wBlock ?_)
      all_goals try (exfalso; (try simp only [bbs] at *); first | omega | exact absurd trivial (by assumption))
      (first | refine wSeqr ?_ | refine wReg ?_); intro xx hx; have hc := trivial; (repeat' (simp only [hc, Nat.reduceBEq, go_sem, Nat.reduceAdd, Nat.reduceMul, Nat.reduceSub, Nat.reduceEqDiff, Nat.reduceLT, Nat.reduceLeDiff, Int.reduceEq, Int.reduceLT, Int.reduceLE, reduceIte, aresults, aresult, hp0] at hx; (try (rw [guardL_if] at hx; split at hx <;> rename_i hc)))); generalize hq : call Tryz.prog cfg0 0 _ _ _ = q at hx
      obtain ⟨z, K3, rfl, -, S3, F3, G3⟩ := d_Pick [-1, 4] (by simp) hco S2 (by omega) hq
      clear hq
      have k3 := (F3.2 0 (by omega) (by omega)).trans k2
      have m3 := (F3.2 K1.g (by omega) (by omega)).trans m2
      have hc := trivial; (repeat' (simp only [hc, Nat.reduceBEq, go_sem, Nat.reduceAdd, Nat.reduceMul, Nat.reduceSub, Nat.reduceEqDiff, Nat.reduceLT, Nat.reduceLeDiff, Int.reduceEq, Int.reduceLT, Int.reduceLE, reduceIte, aresults, aresult, hp0, k3, m3, n0, n1] at hx; (try (rw [guardL_if] at hx; split at hx <;> rename_i hc)))); all_goals (subst hx; refine ⟨_, rfl, ?_⟩)
      repeat' (first | ((first | refine wSeqr ?_ | refine wIf ?_ | refine wReg ?_ | (refine wRet ?_; (try simp only [thenQ, blockQ]); refine ends_by ?_)); intro xx hx; have hc := trivial; (repeat' (simp only [hc, Nat.reduceBEq, go_sem, Nat.reduceAdd, Nat.reduceMul, Nat.reduceSub, Nat.reduceEqDiff, Nat.reduceLT, Nat.reduceLeDiff, Int.reduceEq, Int.reduceLT, Int.reduceLE, reduceIte, aresults, aresult, hp0, k3, m3, n0, n1] at hx; (try (rw [guardL_if] at hx; split at hx <;> rename_i hc)))); all_goals (subst hx; first | (refine ⟨_, rfl, fun ht => ?_, fun ht => ?_⟩ <;> (try simp only [bbs] at ht)) | (refine ⟨_, rfl, ?_⟩; (try simp only [tupOf])))) | refine wSkip ?_ | (refine wExit ?_; simp only [thenQ, blockQ, reduceIte, Nat.reduceEqDiff]) | refine wSeq ?_ | refine wBlock ?_)
      all_goals try (exfalso; (try simp only [bbs] at *); first | omega | exact absurd trivial (by assumption))
      exact ⟨_, _, ⟨⟨z, c.Inc, c.Status, c.Meta⟩, rfl⟩, rfl, rfl⟩
    by_cases w1 : v = 1
    · subst w1
      repeat' ((fail_if_success (first | refine wAt 7 ?_)); first | ((first | refine wSeqr ?_ | refine wIf ?_ | refine wReg ?_ | (refine wRet ?_; (try simp only [thenQ, blockQ]); refine ends_by ?_)); intro xx hx; have hc := trivial; (repeat' (simp only [hc, Nat.reduceBEq, go_sem, Nat.reduceAdd, Nat.reduceMul, Nat.reduceSub, Nat.reduceEqDiff, Nat.reduceLT, Nat.reduceLeDiff, Int.reduceEq, Int.reduceLT, Int.reduceLE, reduceIte, aresults, aresult, hp0] at hx; (try (rw [guardL_if] at hx; split at hx <;> rename_i hc)))); all_goals (subst hx; first | (refine ⟨_, rfl, fun ht => ?_, fun ht => ?_⟩ <;> (try simp only [bbs] at ht)) | (refine ⟨_, rfl, ?_⟩; (try simp only [tupOf])))) | refine wSkip ?_ | (refine wExit ?_; simp only [thenQ, blockQ, reduceIte, Nat.reduceEqDiff]) | refine wSeq ?_ | refine wBlock ?_)
      all_goals try (exfalso; (try simp only [bbs] at *); first | omega | exact absurd trivial (by assumption))
      (first | refine wSeqr ?_ | refine wReg ?_); intro xx hx; have hc := trivial; (repeat' (simp only [hc, Nat.reduceBEq, go_sem, Nat.reduceAdd, Nat.reduceMul, Nat.reduceSub, Nat.reduceEqDiff, Nat.reduceLT, Nat.reduceLeDiff, Int.reduceEq, Int.reduceLT, Int.reduceLE, reduceIte, aresults, aresult, hp0] at hx; (try (rw [guardL_if] at hx; split at hx <;> rename_i hc)))); generalize hq : call Tryz.prog cfg0 0 _ _ _ = q at hx
      obtain ⟨z, K3, rfl, -, S3, F3, G3⟩ := d_Pick [-1, 1000001] (by simp) hco S2 (by omega) hq
      clear hq
      have k3 := (F3.2 0 (by omega) (by omega)).trans k2
      have m3 := (F3.2 K1.g (by omega) (by omega)).trans m2
      have hc := trivial; (repeat' (simp only [hc, Nat.reduceBEq, go_sem, Nat.reduceAdd, Nat.reduceMul, Nat.reduceSub, Nat.reduceEqDiff, Nat.reduceLT, Nat.reduceLeDiff, Int.reduceEq, Int.reduceLT, Int.reduceLE, reduceIte, aresults, aresult, hp0, k3, m3, n0, n1] at hx; (try (rw [guardL_if] at hx; split at hx <;> rename_i hc)))); all_goals (subst hx; refine ⟨_, rfl, ?_⟩)
      repeat' (first | ((first | refine wSeqr ?_ | refine wIf ?_ | refine wReg ?_ | (refine wRet ?_; (try simp only [thenQ, blockQ]); refine ends_by ?_)); intro xx hx; have hc := trivial; (repeat' (simp only [hc, Nat.reduceBEq, go_sem, Nat.reduceAdd, Nat.reduceMul, Nat.reduceSub, Nat.reduceEqDiff, Nat.reduceLT, Nat.reduceLeDiff, Int.reduceEq, Int.reduceLT, Int.reduceLE, reduceIte, aresults, aresult, hp0, k3, m3, n0, n1] at hx; (try (rw [guardL_if] at hx; split at hx <;> rename_i hc)))); all_goals (subst hx; first | (refine ⟨_, rfl, fun ht => ?_, fun ht => ?_⟩ <;> (try simp only [bbs] at ht)) | (refine ⟨_, rfl, ?_⟩; (try simp only [tupOf])))) | refine wSkip ?_ | (refine wExit ?_; simp only [thenQ, blockQ, reduceIte, Nat.reduceEqDiff]) | refine wSeq ?_ | refine wBlock ?_)
      all_goals try (exfalso; (try simp only [bbs] at *); first | omega | exact absurd trivial (by assumption))
      exact ⟨_, _, ⟨⟨c.Node, z, c.Status, c.Meta⟩, rfl⟩, rfl, rfl⟩
    by_cases w2 : v = 2
    · subst w2
      repeat' ((fail_if_success (first | refine wAt 9 ?_)); first | ((first | refine wSeqr ?_ | refine wIf ?_ | refine wReg ?_ | (refine wRet ?_; (try simp only [thenQ, blockQ]); refine ends_by ?_)); intro xx hx; have hc := trivial; (repeat' (simp only [hc, Nat.reduceBEq, go_sem, Nat.reduceAdd, Nat.reduceMul, Nat.reduceSub, Nat.reduceEqDiff, Nat.reduceLT, Nat.reduceLeDiff, Int.reduceEq, Int.reduceLT, Int.reduceLE, reduceIte, aresults, aresult, hp0] at hx; (try (rw [guardL_if] at hx; split at hx <;> rename_i hc)))); all_goals (subst hx; first | (refine ⟨_, rfl, fun ht => ?_, fun ht => ?_⟩ <;> (try simp only [bbs] at ht)) | (refine ⟨_, rfl, ?_⟩; (try simp only [tupOf])))) | refine wSkip ?_ | (refine wExit ?_; simp only [thenQ, blockQ, reduceIte, Nat.reduceEqDiff]) | refine wSeq ?_ | refine wBlock ?_)
      all_goals try (exfalso; (try simp only [bbs] at *); first | omega | exact absurd trivial (by assumption))
      (first | refine wSeqr ?_ | refine wReg ?_); intro xx hx; have hc := trivial; (repeat' (simp only [hc, Nat.reduceBEq, go_sem, Nat.reduceAdd, Nat.reduceMul, Nat.reduceSub, Nat.reduceEqDiff, Nat.reduceLT, Nat.reduceLeDiff, Int.reduceEq, Int.reduceLT, Int.reduceLE, reduceIte, aresults, aresult, hp0] at hx; (try (rw [guardL_if] at hx; split at hx <;> rename_i hc)))); generalize hq : call Tryz.prog cfg0 0 _ _ _ = q at hx
      obtain ⟨z, K3, rfl, -, S3, F3, G3⟩ := d_Pick [-1, 3] (by simp) hco S2 (by omega) hq
      clear hq
      have k3 := (F3.2 0 (by omega) (by omega)).trans k2
      have m3 := (F3.2 K1.g (by omega) (by omega)).trans m2
      have hc := trivial; (repeat' (simp only [hc, Nat.reduceBEq, go_sem, Nat.reduceAdd, Nat.reduceMul, Nat.reduceSub, Nat.reduceEqDiff, Nat.reduceLT, Nat.reduceLeDiff, Int.reduceEq, Int.reduceLT, Int.reduceLE, reduceIte, aresults, aresult, hp0, k3, m3, n0, n1] at hx; (try (rw [guardL_if] at hx; split at hx <;> rename_i hc)))); all_goals (subst hx; refine ⟨_, rfl, ?_⟩)
      repeat' (first | ((first | refine wSeqr ?_ | refine wIf ?_ | refine wReg ?_ | (refine wRet ?_; (try simp only [thenQ, blockQ]); refine ends_by ?_)); intro xx hx; have hc := trivial; (repeat' (simp only [hc, Nat.reduceBEq, go_sem, Nat.reduceAdd, Nat.reduceMul, Nat.reduceSub, Nat.reduceEqDiff, Nat.reduceLT, Nat.reduceLeDiff, Int.reduceEq, Int.reduceLT, Int.reduceLE, reduceIte, aresults, aresult, hp0, k3, m3, n0, n1] at hx; (try (rw [guardL_if] at hx; split at hx <;> rename_i hc)))); all_goals (subst hx; first | (refine ⟨_, rfl, fun ht => ?_, fun ht => ?_⟩ <;> (try simp only [bbs] at ht)) | (refine ⟨_, rfl, ?_⟩; (try simp only [tupOf])))) | refine wSkip ?_ | (refine wExit ?_; simp only [thenQ, blockQ, reduceIte, Nat.reduceEqDiff]) | refine wSeq ?_ | refine wBlock ?_)
      all_goals try (exfalso; (try simp only [bbs] at *); first | omega | exact absurd trivial (by assumption))
      exact ⟨_, _, ⟨⟨c.Node, c.Inc, z, c.Meta⟩, rfl⟩, rfl, rfl⟩
    by_cases w3 : v = 3
    · subst w3
      repeat' ((fail_if_success (first | refine wAt 11 ?_)); first | ((first | refine wSeqr ?_ | refine wIf ?_ | refine wReg ?_ | (refine wRet ?_; (try simp only [thenQ, blockQ]); refine ends_by ?_)); intro xx hx; have hc := trivial; (repeat' (simp only [hc, Nat.reduceBEq, go_sem, Nat.reduceAdd, Nat.reduceMul, Nat.reduceSub, Nat.reduceEqDiff, Nat.reduceLT, Nat.reduceLeDiff, Int.reduceEq, Int.reduceLT, Int.reduceLE, reduceIte, aresults, aresult, hp0] at hx; (try (rw [guardL_if] at hx; split at hx <;> rename_i hc)))); all_goals (subst hx; first | (refine ⟨_, rfl, fun ht => ?_, fun ht => ?_⟩ <;> (try simp only [bbs] at ht)) | (refine ⟨_, rfl, ?_⟩; (try simp only [tupOf])))) | refine wSkip ?_ | (refine wExit ?_; simp only [thenQ, blockQ, reduceIte, Nat.reduceEqDiff]) | refine wSeq ?_ | refine wBlock ?_)
      all_goals try (exfalso; (try simp only [bbs] at *); first | omega | exact absurd trivial (by assumption))
      (first | refine wSeqr ?_ | refine wReg ?_); intro xx hx; have hc := trivial; (repeat' (simp only [hc, Nat.reduceBEq, go_sem, Nat.reduceAdd, Nat.reduceMul, Nat.reduceSub, Nat.reduceEqDiff, Nat.reduceLT, Nat.reduceLeDiff, Int.reduceEq, Int.reduceLT, Int.reduceLE, reduceIte, aresults, aresult, hp0] at hx; (try (rw [guardL_if] at hx; split at hx <;> rename_i hc)))); generalize hq : call Tryz.prog cfg0 0 _ _ _ = q at hx
      obtain ⟨z, K3, rfl, -, S3, F3, G3⟩ := d_Pick [-1, 10000000] (by simp) hco S2 (by omega) hq
      clear hq
      have k3 := (F3.2 0 (by omega) (by omega)).trans k2
      have m3 := (F3.2 K1.g (by omega) (by omega)).trans m2
      have hc := trivial; (repeat' (simp only [hc, Nat.reduceBEq, go_sem, Nat.reduceAdd, Nat.reduceMul, Nat.reduceSub, Nat.reduceEqDiff, Nat.reduceLT, Nat.reduceLeDiff, Int.reduceEq, Int.reduceLT, Int.reduceLE, reduceIte, aresults, aresult, hp0, k3, m3, n0, n1] at hx; (try (rw [guardL_if] at hx; split at hx <;> rename_i hc)))); all_goals (subst hx; refine ⟨_, rfl, ?_⟩)
      repeat' (first | ((first | refine wSeqr ?_ | refine wIf ?_ | refine wReg ?_ | (refine wRet ?_; (try simp only [thenQ, blockQ]); refine ends_by ?_)); intro xx hx; have hc := trivial; (repeat' (simp only [hc, Nat.reduceBEq, go_sem, Nat.reduceAdd, Nat.reduceMul, Nat.reduceSub, Nat.reduceEqDiff, Nat.reduceLT, Nat.reduceLeDiff, Int.reduceEq, Int.reduceLT, Int.reduceLE, reduceIte, aresults, aresult, hp0, k3, m3, n0, n1] at hx; (try (rw [guardL_if] at hx; split at hx <;> rename_i hc)))); all_goals (subst hx; first | (refine ⟨_, rfl, fun ht => ?_, fun ht => ?_⟩ <;> (try simp only [bbs] at ht)) | (refine ⟨_, rfl, ?_⟩; (try simp only [tupOf])))) | refine wSkip ?_ | (refine wExit ?_; simp only [thenQ, blockQ, reduceIte, Nat.reduceEqDiff]) | refine wSeq ?_ | refine wBlock ?_)
      all_goals try (exfalso; (try simp only [bbs] at *); first | omega | exact absurd trivial (by assumption))
      exact ⟨_, _, ⟨⟨c.Node, c.Inc, c.Status, z⟩, rfl⟩, rfl, rfl⟩
    repeat' (first | ((first | refine wSeqr ?_ | refine wIf ?_ | refine wReg ?_ | (refine wRet ?_; (try simp only [thenQ, blockQ]); refine ends_by ?_)); intro xx hx; have hc := trivial; (repeat' (simp only [hc, Nat.reduceBEq, go_sem, Nat.reduceAdd, Nat.reduceMul, Nat.reduceSub, Nat.reduceEqDiff, Nat.reduceLT, Nat.reduceLeDiff, Int.reduceEq, Int.reduceLT, Int.reduceLE, reduceIte, aresults, aresult, hp0, w0, w1, w2, w3, k2, m2, n0, n1] at hx; (try (rw [guardL_if] at hx; split at hx <;> rename_i hc)))); all_goals (subst hx; first | (refine ⟨_, rfl, fun ht => ?_, fun ht => ?_⟩ <;> (try simp only [bbs] at ht)) | (refine ⟨_, rfl, ?_⟩; (try simp only [tupOf])))) | refine wSkip ?_ | (refine wExit ?_; simp only [thenQ, blockQ, reduceIte, Nat.reduceEqDiff]) | refine wSeq ?_ | refine wBlock ?_)
    all_goals try (exfalso; (try simp only [bbs] at *); first | omega | exact absurd trivial (by assumption))
    exact ⟨_, _, ⟨c, rfl⟩, rfl, rfl⟩
  obtain ⟨v, cl, ⟨c, rfl⟩, hp⟩ := key
  exact ⟨c, fun H => call_fz Tryz.func46 rfl ok_DrawCF rfl (by simp only [fz_cons, fz_nil, go_sem, and_self]) hp H⟩
theorem ok_DrawCT : fnOk Tryz.prog cfg0 17 Tryz.f17 = true := by kernel_rfl
theorem c_DrawCT (hco : CodeOk code) : ∃ c : ClaimM, ∀ H, call Tryz.prog cfg0 0 17 [bytesL code] H = some (.agg [.v (.int .i64 c.Node), .v (.int .i64 c.Inc), .v (.int .i64 c.Status), .v (.int .i64 c.Meta)], H) := by
  obtain ⟨c, cc⟩ := c_DrawCF hco
  have key : ∃ v cl, (v = .agg [.v (.int .i64 c.Node), .v (.int .i64 c.Inc), .v (.int .i64 c.Status), .v (.int .i64 c.Meta)]) ∧ pure Tryz.prog cfg0 17 Tryz.f17 [bytesL code] = some (v, cl) := by
    refine pure_ex (rs := [.cell 2 43]) rfl rfl ?_
    have hp0 : ∀ b, cfg0.pol 17 b = 0 := fun b => rfl
    repeat' (first | ((first | refine wSeqr ?_ | refine wIf ?_ | refine wReg ?_ | (refine wRet ?_; (try simp only [thenQ, blockQ]); refine ends_by ?_)); intro xx hx; have hc := trivial; (repeat' (simp only [hc, Nat.reduceBEq, go_sem, Nat.reduceAdd, Nat.reduceMul, Nat.reduceSub, Nat.reduceEqDiff, Nat.reduceLT, Nat.reduceLeDiff, Int.reduceEq, Int.reduceLT, Int.reduceLE, reduceIte, aresults, aresult, hp0, cc] at hx; (try (rw [guardL_if] at hx; split at hx <;> rename_i hc)))); all_goals (subst hx; first | (refine ⟨_, rfl, fun ht => ?_, fun ht => ?_⟩ <;> (try simp only [bbs] at ht)) | (refine ⟨_, rfl, ?_⟩; (try simp only [tupOf])))) | refine wSkip ?_ | (refine wExit ?_; simp only [thenQ, blockQ, reduceIte, Nat.reduceEqDiff]) | refine wSeq ?_ | refine wBlock ?_)
    all_goals try (exfalso; (try simp only [bbs] at *); first | omega | exact absurd trivial (by assumption))
    exact ⟨_, _, rfl, rfl, rfl⟩
  obtain ⟨v, cl, rfl, hp⟩ := key
  exact ⟨c, fun H => call_fz Tryz.func17 rfl ok_DrawCT rfl (by simp only [fz_cons, fz_nil, go_sem, and_self]) hp H⟩
end
end
end Go.Proofs.YtakbbccdnkigpaaGreatDoor
namespace Go.Proofs.YtakbbccdnkigpaaGreatDoor
open Go Go.RowKit Go.Proofs.YtakbbccdnkigpaaGreatDoor.Eng
set_option linter.unusedSimpArgs false
set_option linter.unusedVariables false
set_option maxRecDepth 100000
set_option maxHeartbeats 4000000
noncomputable section
section
variable {code : List Int}
theorem ok_DrawHT : fnOk Tryz.prog cfg0 11 Tryz.f11 = true := by kernel_rfl
theorem c_DrawHT (hco : CodeOk code) : ∃ l : List Int, (Eng.Bytes l ∧ l.length ≤ 801) ∧ ∀ H, call Tryz.prog cfg0 0 11 [bytesL code] H = some (bytesL l, H) := by
  have key : ∃ v cl, (∃ l : List Int, (Eng.Bytes l ∧ l.length ≤ 801) ∧ v = bytesL l) ∧ pure Tryz.prog cfg0 11 Tryz.f11 [bytesL code] = some (v, cl) := by
    refine pure_ex (rs := [.tmp 2]) rfl rfl ?_
    have hp0 : ∀ b, cfg0.pol 11 b = 0 := fun b => rfl
    repeat' ((fail_if_success (first | refine wAt 2 ?_)); first | ((first | refine wSeqr ?_ | refine wIf ?_ | refine wReg ?_ | (refine wRet ?_; (try simp only [thenQ, blockQ]); refine ends_by ?_)); intro xx hx; have hc := trivial; (repeat' (simp only [hc, Nat.reduceBEq, go_sem, Nat.reduceAdd, Nat.reduceMul, Nat.reduceSub, Nat.reduceEqDiff, Nat.reduceLT, Nat.reduceLeDiff, Int.reduceEq, Int.reduceLT, Int.reduceLE, reduceIte, aresults, aresult, hp0, d_Source code] at hx; (try (rw [guardL_if] at hx; split at hx <;> rename_i hc)))); all_goals (subst hx; first | (refine ⟨_, rfl, fun ht => ?_, fun ht => ?_⟩ <;> (try simp only [bbs] at ht)) | (refine ⟨_, rfl, ?_⟩; (try simp only [tupOf])))) | refine wSkip ?_ | (refine wExit ?_; simp only [thenQ, blockQ, reduceIte, Nat.reduceEqDiff]) | refine wSeq ?_ | refine wBlock ?_)
    (first | refine wSeqr ?_ | refine wReg ?_); intro xx hx; have hc := trivial; (repeat' (simp only [hc, Nat.reduceBEq, go_sem, Nat.reduceAdd, Nat.reduceMul, Nat.reduceSub, Nat.reduceEqDiff, Nat.reduceLT, Nat.reduceLeDiff, Int.reduceEq, Int.reduceLT, Int.reduceLE, reduceIte, aresults, aresult, hp0] at hx; (try (rw [guardL_if] at hx; split at hx <;> rename_i hc)))); generalize hq : call Tryz.prog cfg0 0 _ _ _ = q at hx
    obtain ⟨v, H2, rfl, S2, F2, G2⟩ := d_Chance hco (a := 0) (H := Hp.nil.new [bytesL code, .v (.int .i64 ((0 : Nat) : Int))]) ⟨new_same _ _, by simp⟩ (by omega) (by omega) hq
    clear hq
    have hc := trivial; (repeat' (simp only [hc, Nat.reduceBEq, go_sem, Nat.reduceAdd, Nat.reduceMul, Nat.reduceSub, Nat.reduceEqDiff, Nat.reduceLT, Nat.reduceLeDiff, Int.reduceEq, Int.reduceLT, Int.reduceLE, reduceIte, aresults, aresult, hp0] at hx; (try (rw [guardL_if] at hx; split at hx <;> rename_i hc)))); all_goals (subst hx; refine ⟨_, rfl, ?_⟩)
    cases v with
    | true =>
      repeat' ((fail_if_success (first | refine wAt 3 ?_)); first | ((first | refine wSeqr ?_ | refine wIf ?_ | refine wReg ?_ | (refine wRet ?_; (try simp only [thenQ, blockQ]); refine ends_by ?_)); intro xx hx; have hc := trivial; (repeat' (simp only [hc, Nat.reduceBEq, go_sem, Nat.reduceAdd, Nat.reduceMul, Nat.reduceSub, Nat.reduceEqDiff, Nat.reduceLT, Nat.reduceLeDiff, Int.reduceEq, Int.reduceLT, Int.reduceLE, reduceIte, aresults, aresult, hp0] at hx; (try (rw [guardL_if] at hx; split at hx <;> rename_i hc)))); all_goals (subst hx; first | (refine ⟨_, rfl, fun ht => ?_, fun ht => ?_⟩ <;> (try simp only [bbs] at ht)) | (refine ⟨_, rfl, ?_⟩; (try simp only [tupOf])))) | refine wSkip ?_ | (refine wExit ?_; simp only [thenQ, blockQ, reduceIte, Nat.reduceEqDiff]) | refine wSeq ?_ | refine wBlock ?_)
      all_goals try (exfalso; (try simp only [bbs] at *); first | omega | exact absurd trivial (by assumption))
      (first | refine wSeqr ?_ | refine wReg ?_); intro xx hx; have hc := trivial; (repeat' (simp only [hc, Nat.reduceBEq, go_sem, Nat.reduceAdd, Nat.reduceMul, Nat.reduceSub, Nat.reduceEqDiff, Nat.reduceLT, Nat.reduceLeDiff, Int.reduceEq, Int.reduceLT, Int.reduceLE, reduceIte, aresults, aresult, hp0] at hx; (try (rw [guardL_if] at hx; split at hx <;> rename_i hc)))); generalize hq : call Tryz.prog cfg0 0 _ _ _ = q at hx
      obtain ⟨z, H3, rfl, hz, S3, F3, G3⟩ := d_Pick [800, 801] (by simp) hco S2 (by omega) hq
      clear hq
      obtain ⟨n, rfl, hn⟩ : ∃ n : Nat, z = n ∧ n ≤ 801 := ⟨z.toNat, by simp only [List.mem_cons, List.not_mem_nil, or_false] at hz; omega, by simp only [List.mem_cons, List.not_mem_nil, or_false] at hz; omega⟩
      have hro : roomy n 1 = true := by simp [roomy]; omega
      have hnat : natOf (.v (.int .i64 (n : Nat))) = some n := by simp [natOf]
      have hc := trivial; (repeat' (simp only [hc, Nat.reduceBEq, go_sem, Nat.reduceAdd, Nat.reduceMul, Nat.reduceSub, Nat.reduceEqDiff, Nat.reduceLT, Nat.reduceLeDiff, Int.reduceEq, Int.reduceLT, Int.reduceLE, reduceIte, aresults, aresult, hp0, hro, hnat, Nat.le_refl, true_and, and_true] at hx; (try (rw [guardL_if] at hx; split at hx <;> rename_i hc)))); all_goals (subst hx; refine ⟨_, rfl, ?_⟩)
      repeat' (first | ((first | refine wSeqr ?_ | refine wIf ?_ | refine wReg ?_ | (refine wRet ?_; (try simp only [thenQ, blockQ]); refine ends_by ?_)); intro xx hx; have hc := trivial; (repeat' (simp only [hc, Nat.reduceBEq, go_sem, Nat.reduceAdd, Nat.reduceMul, Nat.reduceSub, Nat.reduceEqDiff, Nat.reduceLT, Nat.reduceLeDiff, Int.reduceEq, Int.reduceLT, Int.reduceLE, reduceIte, aresults, aresult, hp0] at hx; (try (rw [guardL_if] at hx; split at hx <;> rename_i hc)))); all_goals (subst hx; first | (refine ⟨_, rfl, fun ht => ?_, fun ht => ?_⟩ <;> (try simp only [bbs] at ht)) | (refine ⟨_, rfl, ?_⟩; (try simp only [tupOf])))) | refine wSkip ?_ | (refine wExit ?_; simp only [thenQ, blockQ, reduceIte, Nat.reduceEqDiff]) | refine wSeq ?_ | refine wBlock ?_)
      all_goals try (exfalso; (try simp only [bbs] at *); first | omega | exact absurd trivial (by assumption))
      have hz0 : zeros n [AV.v (.int .u8 0)] = (List.replicate n (0 : Int)).map cell := zeros_cell n
      refine ⟨_, _, ⟨List.replicate n 0, ⟨fun y hy => by rw [(List.mem_replicate.1 hy).2]; omega, by simpa using hn⟩, rfl⟩, deep_racc1 (d := 11) (n := n) ⟨by simp, Or.inr ⟨H3.g, by show H3.g < H3.g + 1; omega, rfl, by rw [← hz0]; exact new_same _ _⟩⟩ (by simp) (fun q => Fz.int _ _ _), rfl⟩
    | false =>
      repeat' ((fail_if_success (first | refine wAt 4 ?_)); first | ((first | refine wSeqr ?_ | refine wIf ?_ | refine wReg ?_ | (refine wRet ?_; (try simp only [thenQ, blockQ]); refine ends_by ?_)); intro xx hx; have hc := trivial; (repeat' (simp only [hc, Nat.reduceBEq, go_sem, Nat.reduceAdd, Nat.reduceMul, Nat.reduceSub, Nat.reduceEqDiff, Nat.reduceLT, Nat.reduceLeDiff, Int.reduceEq, Int.reduceLT, Int.reduceLE, reduceIte, aresults, aresult, hp0] at hx; (try (rw [guardL_if] at hx; split at hx <;> rename_i hc)))); all_goals (subst hx; first | (refine ⟨_, rfl, fun ht => ?_, fun ht => ?_⟩ <;> (try simp only [bbs] at ht)) | (refine ⟨_, rfl, ?_⟩; (try simp only [tupOf])))) | refine wSkip ?_ | (refine wExit ?_; simp only [thenQ, blockQ, reduceIte, Nat.reduceEqDiff]) | refine wSeq ?_ | refine wBlock ?_)
      all_goals try (exfalso; (try simp only [bbs] at *); first | omega | exact absurd trivial (by assumption))
      (first | refine wSeqr ?_ | refine wReg ?_); intro xx hx; have hc := trivial; (repeat' (simp only [hc, Nat.reduceBEq, go_sem, Nat.reduceAdd, Nat.reduceMul, Nat.reduceSub, Nat.reduceEqDiff, Nat.reduceLT, Nat.reduceLeDiff, Int.reduceEq, Int.reduceLT, Int.reduceLE, reduceIte, aresults, aresult, hp0] at hx; (try (rw [guardL_if] at hx; split at hx <;> rename_i hc)))); generalize hq : call Tryz.prog cfg0 0 40 _ _ = q at hx
      obtain ⟨v, H3, rfl, v1, S3, F3, G3⟩ := d_Next hco S2 (by omega) (by omega) hq
      clear hq
      have hv := v1.2.1 (by omega)
      have hc := trivial; (repeat' (simp only [hc, Nat.reduceBEq, go_sem, Nat.reduceAdd, Nat.reduceMul, Nat.reduceSub, Nat.reduceEqDiff, Nat.reduceLT, Nat.reduceLeDiff, Int.reduceEq, Int.reduceLT, Int.reduceLE, reduceIte, aresults, aresult, hp0] at hx; (try (rw [guardL_if] at hx; split at hx <;> rename_i hc)))); generalize hq : call Tryz.prog cfg0 0 39 _ _ = q at hx
      obtain ⟨x, H4, l, rfl, hb, hl, hr, -, S4, F4⟩ := d_Some hco S3 v.toNat (by omega) (by omega) (by omega) hq
      clear hq
      have hc := trivial; (repeat' (simp only [hc, Nat.reduceBEq, go_sem, Nat.reduceAdd, Nat.reduceMul, Nat.reduceSub, Nat.reduceEqDiff, Nat.reduceLT, Nat.reduceLeDiff, Int.reduceEq, Int.reduceLT, Int.reduceLE, reduceIte, aresults, aresult, hp0] at hx; (try (rw [guardL_if] at hx; split at hx <;> rename_i hc)))); all_goals (subst hx; refine ⟨_, rfl, ?_⟩)
      repeat' (first | ((first | refine wSeqr ?_ | refine wIf ?_ | refine wReg ?_ | (refine wRet ?_; (try simp only [thenQ, blockQ]); refine ends_by ?_)); intro xx hx; have hc := trivial; (repeat' (simp only [hc, Nat.reduceBEq, go_sem, Nat.reduceAdd, Nat.reduceMul, Nat.reduceSub, Nat.reduceEqDiff, Nat.reduceLT, Nat.reduceLeDiff, Int.reduceEq, Int.reduceLT, Int.reduceLE, reduceIte, aresults, aresult, hp0] at hx; (try (rw [guardL_if] at hx; split at hx <;> rename_i hc)))); all_goals (subst hx; first | (refine ⟨_, rfl, fun ht => ?_, fun ht => ?_⟩ <;> (try simp only [bbs] at ht)) | (refine ⟨_, rfl, ?_⟩; (try simp only [tupOf])))) | refine wSkip ?_ | (refine wExit ?_; simp only [thenQ, blockQ, reduceIte, Nat.reduceEqDiff]) | refine wSeq ?_ | refine wBlock ?_)
      all_goals try (exfalso; (try simp only [bbs] at *); first | omega | exact absurd trivial (by assumption))
      exact ⟨_, _, ⟨l, ⟨hb, by omega⟩, rfl⟩, deep_racc1 (d := 11) hr hl.symm (fun q => Fz.int _ _ _), rfl⟩
  obtain ⟨v, cl, ⟨l, hl, rfl⟩, hp⟩ := key
  exact ⟨l, hl, fun H => call_fz Tryz.func11 rfl ok_DrawHT rfl (by simp only [fz_cons, fz_nil, go_sem, and_self]) hp H⟩
end
end
end Go.Proofs.YtakbbccdnkigpaaGreatDoor
namespace Go.Proofs.YtakbbccdnkigpaaGreatDoor
open Go Go.RowKit Go.Proofs.YtakbbccdnkigpaaGreatDoor.Eng
set_option linter.unusedSimpArgs false
set_option linter.unusedVariables false
set_option maxRecDepth 100000
set_option maxHeartbeats 4000000
noncomputable section
section
variable {code : List Int}
theorem add_ok {u : ByteArray} (hu : u.size ≤ 4000) : (∀ x : UInt8, u.size + (⟨#[x]⟩ : ByteArray).size ≤ 4611686018427387904 ∧ u.size + (#[x] : Array UInt8).size ≤ 4611686018427387904 ∧ u.size + 1 ≤ 4611686018427387904) ∧ (∀ x y : UInt8, u.size + (⟨#[x, y]⟩ : ByteArray).size ≤ 4611686018427387904 ∧ u.size + (#[x, y] : Array UInt8).size ≤ 4611686018427387904 ∧ u.size + 2 ≤ 4611686018427387904) := by
  refine ⟨fun x => ?_, fun x y => ?_⟩
  · have h1 : (⟨#[x]⟩ : ByteArray).size = 1 := rfl
    have h2 : (#[x] : Array UInt8).size = 1 := rfl
    omega
  · have h1 : (⟨#[x, y]⟩ : ByteArray).size = 2 := rfl
    have h2 : (#[x, y] : Array UInt8).size = 2 := rfl
    omega
theorem add_s1 (u : ByteArray) (x : UInt8) : (u ++ (⟨#[x]⟩ : ByteArray)).size = u.size + 1 := by rw [ByteArray.size_append]; rfl
theorem add_s2 (u : ByteArray) (x y : UInt8) : (u ++ (⟨#[x, y]⟩ : ByteArray)).size = u.size + 2 := by rw [ByteArray.size_append]; rfl
theorem ok_DrawRH : fnOk Tryz.prog cfg0 13 Tryz.f13 = true := by kernel_rfl
theorem c_DrawRH (hco : CodeOk code) : ∃ z : ByteArray, z.size ≤ 2000 ∧ ∀ H, call Tryz.prog cfg0 0 13 [bytesL code] H = some (.v (.string z), H) := by
  obtain ⟨l, ⟨hb, hl⟩, cl⟩ := c_DrawHT hco
  have ct := c_sl14Text l hb (by omega)
  have hsz : (strOf (hxL l)).size ≤ 1602 := by rw [strOf_size, hxL_len]; omega
  generalize strOf (hxL l) = u at *
  obtain ⟨a1, a2⟩ := add_ok (u := u) (by omega)
  have key : ∃ v cl, (∃ z : ByteArray, z.size ≤ 2000 ∧ v = .v (.string z)) ∧ pure Tryz.prog cfg0 13 Tryz.f13 [bytesL code] = some (v, cl) := by
    refine pure_ex (rs := [.tmp 2]) rfl rfl ?_
    have hp0 : ∀ b, cfg0.pol 13 b = 0 := fun b => rfl
    repeat' ((fail_if_success (first | refine wAt 3 ?_)); first | ((first | refine wSeqr ?_ | refine wIf ?_ | refine wReg ?_ | (refine wRet ?_; (try simp only [thenQ, blockQ]); refine ends_by ?_)); intro xx hx; have hc := trivial; (repeat' (simp only [hc, Nat.reduceBEq, go_sem, Nat.reduceAdd, Nat.reduceMul, Nat.reduceSub, Nat.reduceEqDiff, Nat.reduceLT, Nat.reduceLeDiff, Int.reduceEq, Int.reduceLT, Int.reduceLE, reduceIte, aresults, aresult, hp0, d_Source code, cl, ct] at hx; (try (rw [guardL_if] at hx; split at hx <;> rename_i hc)))); all_goals (subst hx; first | (refine ⟨_, rfl, fun ht => ?_, fun ht => ?_⟩ <;> (try simp only [bbs] at ht)) | (refine ⟨_, rfl, ?_⟩; (try simp only [tupOf])))) | refine wSkip ?_ | (refine wExit ?_; simp only [thenQ, blockQ, reduceIte, Nat.reduceEqDiff]) | refine wSeq ?_ | refine wBlock ?_)
    (first | refine wSeqr ?_ | refine wReg ?_); intro xx hx; have hc := trivial; (repeat' (simp only [hc, Nat.reduceBEq, go_sem, Nat.reduceAdd, Nat.reduceMul, Nat.reduceSub, Nat.reduceEqDiff, Nat.reduceLT, Nat.reduceLeDiff, Int.reduceEq, Int.reduceLT, Int.reduceLE, reduceIte, aresults, aresult, hp0] at hx; (try (rw [guardL_if] at hx; split at hx <;> rename_i hc)))); generalize hq : call Tryz.prog cfg0 0 _ _ _ = q at hx
    obtain ⟨v, H2, rfl, v1, S2, F2, G2⟩ := d_Next hco (a := 0) (H := Hp.nil.new [bytesL code, .v (.int .i64 ((0 : Nat) : Int))]) ⟨new_same _ _, by simp⟩ (by omega) (by omega) hq
    clear hq
    have hc := trivial; (repeat' (simp only [hc, Nat.reduceBEq, go_sem, Nat.reduceAdd, Nat.reduceMul, Nat.reduceSub, Nat.reduceEqDiff, Nat.reduceLT, Nat.reduceLeDiff, Int.reduceEq, Int.reduceLT, Int.reduceLE, reduceIte, aresults, aresult, hp0] at hx; (try (rw [guardL_if] at hx; split at hx <;> rename_i hc)))); all_goals (subst hx; refine ⟨_, rfl, ?_⟩)
    have b1 := a1 103
    have b2 := a2 70 48
    have b3 := a1 48
    by_cases w0 : v = 0
    · repeat' (first | ((first | refine wSeqr ?_ | refine wIf ?_ | refine wReg ?_ | (refine wRet ?_; (try simp only [thenQ, blockQ]); refine ends_by ?_)); intro xx hx; have hc := trivial; (repeat' (simp only [hc, Nat.reduceBEq, go_sem, Nat.reduceAdd, Nat.reduceMul, Nat.reduceSub, Nat.reduceEqDiff, Nat.reduceLT, Nat.reduceLeDiff, Int.reduceEq, Int.reduceLT, Int.reduceLE, reduceIte, aresults, aresult, hp0, w0, b1.1, b1.2.1, b1.2.2] at hx; (try (rw [guardL_if] at hx; split at hx <;> rename_i hc)))); all_goals (subst hx; first | (refine ⟨_, rfl, fun ht => ?_, fun ht => ?_⟩ <;> (try simp only [bbs] at ht)) | (refine ⟨_, rfl, ?_⟩; (try simp only [tupOf])))) | refine wSkip ?_ | (refine wExit ?_; simp only [thenQ, blockQ, reduceIte, Nat.reduceEqDiff]) | refine wSeq ?_ | refine wBlock ?_)
      all_goals try (exfalso; (try simp only [bbs] at *); first | omega | exact absurd trivial (by assumption))
      exact ⟨_, _, ⟨_, by rw [add_s1]; omega, rfl⟩, rfl, rfl⟩
    by_cases w1 : v = 1
    · subst w1
      repeat' (first | ((first | refine wSeqr ?_ | refine wIf ?_ | refine wReg ?_ | (refine wRet ?_; (try simp only [thenQ, blockQ]); refine ends_by ?_)); intro xx hx; have hc := trivial; (repeat' (simp only [hc, Nat.reduceBEq, go_sem, Nat.reduceAdd, Nat.reduceMul, Nat.reduceSub, Nat.reduceEqDiff, Nat.reduceLT, Nat.reduceLeDiff, Int.reduceEq, Int.reduceLT, Int.reduceLE, reduceIte, aresults, aresult, hp0, b2.1, b2.2.1, b2.2.2] at hx; (try (rw [guardL_if] at hx; split at hx <;> rename_i hc)))); all_goals (subst hx; first | (refine ⟨_, rfl, fun ht => ?_, fun ht => ?_⟩ <;> (try simp only [bbs] at ht)) | (refine ⟨_, rfl, ?_⟩; (try simp only [tupOf])))) | refine wSkip ?_ | (refine wExit ?_; simp only [thenQ, blockQ, reduceIte, Nat.reduceEqDiff]) | refine wSeq ?_ | refine wBlock ?_)
      all_goals try (exfalso; (try simp only [bbs] at *); first | omega | exact absurd trivial (by assumption))
      exact ⟨_, _, ⟨_, by rw [add_s2]; omega, rfl⟩, rfl, rfl⟩
    by_cases w2 : v = 2
    · subst w2
      repeat' (first | ((first | refine wSeqr ?_ | refine wIf ?_ | refine wReg ?_ | (refine wRet ?_; (try simp only [thenQ, blockQ]); refine ends_by ?_)); intro xx hx; have hc := trivial; (repeat' (simp only [hc, Nat.reduceBEq, go_sem, Nat.reduceAdd, Nat.reduceMul, Nat.reduceSub, Nat.reduceEqDiff, Nat.reduceLT, Nat.reduceLeDiff, Int.reduceEq, Int.reduceLT, Int.reduceLE, reduceIte, aresults, aresult, hp0, b3.1, b3.2.1, b3.2.2] at hx; (try (rw [guardL_if] at hx; split at hx <;> rename_i hc)))); all_goals (subst hx; first | (refine ⟨_, rfl, fun ht => ?_, fun ht => ?_⟩ <;> (try simp only [bbs] at ht)) | (refine ⟨_, rfl, ?_⟩; (try simp only [tupOf])))) | refine wSkip ?_ | (refine wExit ?_; simp only [thenQ, blockQ, reduceIte, Nat.reduceEqDiff]) | refine wSeq ?_ | refine wBlock ?_)
      all_goals try (exfalso; (try simp only [bbs] at *); first | omega | exact absurd trivial (by assumption))
      exact ⟨_, _, ⟨_, by rw [add_s1]; omega, rfl⟩, rfl, rfl⟩
    repeat' (first | ((first | refine wSeqr ?_ | refine wIf ?_ | refine wReg ?_ | (refine wRet ?_; (try simp only [thenQ, blockQ]); refine ends_by ?_)); intro xx hx; have hc := trivial; (repeat' (simp only [hc, Nat.reduceBEq, go_sem, Nat.reduceAdd, Nat.reduceMul, Nat.reduceSub, Nat.reduceEqDiff, Nat.reduceLT, Nat.reduceLeDiff, Int.reduceEq, Int.reduceLT, Int.reduceLE, reduceIte, aresults, aresult, hp0, w0, w1, w2] at hx; (try (rw [guardL_if] at hx; split at hx <;> rename_i hc)))); all_goals (subst hx; first | (refine ⟨_, rfl, fun ht => ?_, fun ht => ?_⟩ <;> (try simp only [bbs] at ht)) | (refine ⟨_, rfl, ?_⟩; (try simp only [tupOf])))) | refine wSkip ?_ | (refine wExit ?_; simp only [thenQ, blockQ, reduceIte, Nat.reduceEqDiff]) | refine wSeq ?_ | refine wBlock ?_)
    all_goals try (exfalso; (try simp only [bbs] at *); first | omega | exact absurd trivial (by assumption))
    exact ⟨_, _, ⟨u, by omega, rfl⟩, rfl, rfl⟩
  obtain ⟨v, cl, ⟨z, hz, rfl⟩, hp⟩ := key
  exact ⟨z, hz, fun H => call_fz Tryz.func13 rfl ok_DrawRH rfl (by simp only [fz_cons, fz_nil, go_sem, and_self]) hp H⟩
end
end
end Go.Proofs.YtakbbccdnkigpaaGreatDoor
namespace Go.Proofs.YtakbbccdnkigpaaGreatDoor
open Go Go.RowKit Go.Proofs.YtakbbccdnkigpaaGreatDoor.Eng
set_option linter.unusedSimpArgs false
set_option linter.unusedVariables false
set_option maxRecDepth 100000
set_option maxHeartbeats 4000000
noncomputable section
section
variable {code : List Int}
theorem ok_DrawWO : fnOk Tryz.prog cfg0 19 Tryz.f19 = true := by kernel_rfl
theorem c_DrawWO (hco : CodeOk code) : ∃ z : ByteArray, z.size ≤ 4000 ∧ ∀ H, call Tryz.prog cfg0 0 19 [bytesL code] H = some (.v (.string z), H) := by
  have key : ∃ v cl, (∃ z : ByteArray, z.size ≤ 4000 ∧ v = .v (.string z)) ∧ pure Tryz.prog cfg0 19 Tryz.f19 [bytesL code] = some (v, cl) := by
    refine pure_ex (rs := [.tmp 2]) rfl rfl ?_
    have hp0 : ∀ b, cfg0.pol 19 b = 0 := fun b => rfl
    repeat' ((fail_if_success (first | refine wAt 2 ?_)); first | ((first | refine wSeqr ?_ | refine wIf ?_ | refine wReg ?_ | (refine wRet ?_; (try simp only [thenQ, blockQ]); refine ends_by ?_)); intro xx hx; have hc := trivial; (repeat' (simp only [hc, Nat.reduceBEq, go_sem, Nat.reduceAdd, Nat.reduceMul, Nat.reduceSub, Nat.reduceEqDiff, Nat.reduceLT, Nat.reduceLeDiff, Int.reduceEq, Int.reduceLT, Int.reduceLE, reduceIte, aresults, aresult, hp0, d_Source code] at hx; (try (rw [guardL_if] at hx; split at hx <;> rename_i hc)))); all_goals (subst hx; first | (refine ⟨_, rfl, fun ht => ?_, fun ht => ?_⟩ <;> (try simp only [bbs] at ht)) | (refine ⟨_, rfl, ?_⟩; (try simp only [tupOf])))) | refine wSkip ?_ | (refine wExit ?_; simp only [thenQ, blockQ, reduceIte, Nat.reduceEqDiff]) | refine wSeq ?_ | refine wBlock ?_)
    (first | refine wSeqr ?_ | refine wReg ?_); intro xx hx; have hc := trivial; (repeat' (simp only [hc, Nat.reduceBEq, go_sem, Nat.reduceAdd, Nat.reduceMul, Nat.reduceSub, Nat.reduceEqDiff, Nat.reduceLT, Nat.reduceLeDiff, Int.reduceEq, Int.reduceLT, Int.reduceLE, reduceIte, aresults, aresult, hp0] at hx; (try (rw [guardL_if] at hx; split at hx <;> rename_i hc)))); generalize hq : call Tryz.prog cfg0 0 _ _ _ = q at hx
    obtain ⟨z, H1, rfl, hz, S1, F1⟩ := d_Line hco (a := 0) (H := Hp.nil.new [bytesL code, .v (.int .i64 ((0 : Nat) : Int))]) ⟨new_same _ _, by simp⟩ (by omega) hq
    clear hq
    have e1 : (⟨#[32]⟩ : ByteArray).size + z.size ≤ 4611686018427387904 := by rw [show (⟨#[32]⟩ : ByteArray).size = 1 from rfl]; omega
    have e2 : (#[32] : Array UInt8).size + z.size ≤ 4611686018427387904 := e1
    have e3 : 1 + z.size ≤ 4611686018427387904 := e1
    have hs : ((⟨#[32]⟩ : ByteArray) ++ z).size ≤ 1001 := by rw [ByteArray.size_append, show (⟨#[32]⟩ : ByteArray).size = 1 from rfl]; omega
    have hc := trivial; (repeat' (simp only [hc, Nat.reduceBEq, go_sem, Nat.reduceAdd, Nat.reduceMul, Nat.reduceSub, Nat.reduceEqDiff, Nat.reduceLT, Nat.reduceLeDiff, Int.reduceEq, Int.reduceLT, Int.reduceLE, reduceIte, aresults, aresult, hp0, e1, e2, e3] at hx; (try (rw [guardL_if] at hx; split at hx <;> rename_i hc)))); all_goals (subst hx; refine ⟨_, rfl, ?_⟩)
    generalize ((⟨#[32]⟩ : ByteArray) ++ z) = y at *
    repeat' ((fail_if_success (first | refine wAt 3 ?_)); first | ((first | refine wSeqr ?_ | refine wIf ?_ | refine wReg ?_ | (refine wRet ?_; (try simp only [thenQ, blockQ]); refine ends_by ?_)); intro xx hx; have hc := trivial; (repeat' (simp only [hc, Nat.reduceBEq, go_sem, Nat.reduceAdd, Nat.reduceMul, Nat.reduceSub, Nat.reduceEqDiff, Nat.reduceLT, Nat.reduceLeDiff, Int.reduceEq, Int.reduceLT, Int.reduceLE, reduceIte, aresults, aresult, hp0] at hx; (try (rw [guardL_if] at hx; split at hx <;> rename_i hc)))); all_goals (subst hx; first | (refine ⟨_, rfl, fun ht => ?_, fun ht => ?_⟩ <;> (try simp only [bbs] at ht)) | (refine ⟨_, rfl, ?_⟩; (try simp only [tupOf])))) | refine wSkip ?_ | (refine wExit ?_; simp only [thenQ, blockQ, reduceIte, Nat.reduceEqDiff]) | refine wSeq ?_ | refine wBlock ?_)
    (first | refine wSeqr ?_ | refine wReg ?_); intro xx hx; have hc := trivial; (repeat' (simp only [hc, Nat.reduceBEq, go_sem, Nat.reduceAdd, Nat.reduceMul, Nat.reduceSub, Nat.reduceEqDiff, Nat.reduceLT, Nat.reduceLeDiff, Int.reduceEq, Int.reduceLT, Int.reduceLE, reduceIte, aresults, aresult, hp0] at hx; (try (rw [guardL_if] at hx; split at hx <;> rename_i hc)))); generalize hq : call Tryz.prog cfg0 0 _ _ _ = q at hx
    obtain ⟨v, H2, rfl, S2, F2, G2⟩ := d_Chance hco S1 (by omega) (by omega) hq
    clear hq
    have hc := trivial; (repeat' (simp only [hc, Nat.reduceBEq, go_sem, Nat.reduceAdd, Nat.reduceMul, Nat.reduceSub, Nat.reduceEqDiff, Nat.reduceLT, Nat.reduceLeDiff, Int.reduceEq, Int.reduceLT, Int.reduceLE, reduceIte, aresults, aresult, hp0] at hx; (try (rw [guardL_if] at hx; split at hx <;> rename_i hc)))); all_goals (subst hx; refine ⟨_, rfl, ?_⟩)
    cases v with
    | false =>
      repeat' (first | ((first | refine wSeqr ?_ | refine wIf ?_ | refine wReg ?_ | (refine wRet ?_; (try simp only [thenQ, blockQ]); refine ends_by ?_)); intro xx hx; have hc := trivial; (repeat' (simp only [hc, Nat.reduceBEq, go_sem, Nat.reduceAdd, Nat.reduceMul, Nat.reduceSub, Nat.reduceEqDiff, Nat.reduceLT, Nat.reduceLeDiff, Int.reduceEq, Int.reduceLT, Int.reduceLE, reduceIte, aresults, aresult, hp0] at hx; (try (rw [guardL_if] at hx; split at hx <;> rename_i hc)))); all_goals (subst hx; first | (refine ⟨_, rfl, fun ht => ?_, fun ht => ?_⟩ <;> (try simp only [bbs] at ht)) | (refine ⟨_, rfl, ?_⟩; (try simp only [tupOf])))) | refine wSkip ?_ | (refine wExit ?_; simp only [thenQ, blockQ, reduceIte, Nat.reduceEqDiff]) | refine wSeq ?_ | refine wBlock ?_)
      all_goals try (exfalso; (try simp only [bbs] at *); first | omega | exact absurd trivial (by assumption))
      exact ⟨_, _, ⟨y, by omega, rfl⟩, rfl, rfl⟩
    | true =>
      repeat' (first | ((first | refine wSeqr ?_ | refine wIf ?_ | refine wReg ?_ | (refine wRet ?_; (try simp only [thenQ, blockQ]); refine ends_by ?_)); intro xx hx; have hc := trivial; (repeat' (simp only [hc, Nat.reduceBEq, go_sem, Nat.reduceAdd, Nat.reduceMul, Nat.reduceSub, Nat.reduceEqDiff, Nat.reduceLT, Nat.reduceLeDiff, Int.reduceEq, Int.reduceLT, Int.reduceLE, reduceIte, aresults, aresult, hp0] at hx; (try (rw [guardL_if] at hx; split at hx <;> rename_i hc)))); all_goals (subst hx; first | (refine ⟨_, rfl, fun ht => ?_, fun ht => ?_⟩ <;> (try simp only [bbs] at ht)) | (refine ⟨_, rfl, ?_⟩; (try simp only [tupOf])))) | refine wSkip ?_ | (refine wExit ?_; simp only [thenQ, blockQ, reduceIte, Nat.reduceEqDiff]) | refine wSeq ?_ | refine wBlock ?_)
      refine wLoop (fun k s => ∃ (j : Nat) (t : ByteArray), j + k = 4000 ∧ s.1 3 = .ptr 0 0 ∧ s.1 4 = .v (.string t) ∧ (t.size = y.size + j ∧ t.size ≤ 3001) ∧ (Src s.2 0 code (2 + j))) (fun k s hI => ?_) (4000) _ ?_
      · obtain ⟨e, K⟩ := s
        obtain ⟨j, t, hj, h3, h4, hs2, hsrc⟩ := hI
        simp only at h3 h4 hs2 hsrc
        repeat' ((fail_if_success (first | refine wAt 4 ?_)); first | ((first | refine wSeqr ?_ | refine wIf ?_ | refine wReg ?_ | (refine wRet ?_; (try simp only [thenQ, blockQ]); refine ends_by ?_)); intro xx hx; have hc := trivial; (repeat' (simp only [hc, Nat.reduceBEq, go_sem, Nat.reduceAdd, Nat.reduceMul, Nat.reduceSub, Nat.reduceEqDiff, Nat.reduceLT, Nat.reduceLeDiff, Int.reduceEq, Int.reduceLT, Int.reduceLE, reduceIte, aresults, aresult, hp0] at hx; (try (rw [guardL_if] at hx; split at hx <;> rename_i hc)))); all_goals (subst hx; first | (refine ⟨_, rfl, fun ht => ?_, fun ht => ?_⟩ <;> (try simp only [bbs] at ht)) | (refine ⟨_, rfl, ?_⟩; (try simp only [tupOf])))) | refine wSkip ?_ | (refine wExit ?_; simp only [thenQ, blockQ, reduceIte, Nat.reduceEqDiff]) | refine wSeq ?_ | refine wBlock ?_)
        (first | refine wSeqr ?_ | refine wReg ?_); intro xx hx; have hc := trivial; (repeat' (simp only [hc, Nat.reduceBEq, go_sem, Nat.reduceAdd, Nat.reduceMul, Nat.reduceSub, Nat.reduceEqDiff, Nat.reduceLT, Nat.reduceLeDiff, Int.reduceEq, Int.reduceLT, Int.reduceLE, reduceIte, aresults, aresult, hp0, h3, h4] at hx; (try (rw [guardL_if] at hx; split at hx <;> rename_i hc)))); generalize hq : call Tryz.prog cfg0 0 _ _ _ = q at hx
        obtain ⟨n, H3, rfl, hn, S3, F3, G3⟩ := d_Pick [3000, 3001] (by simp) hco hsrc (by omega) hq
        clear hq
        have hn2 : n = 3000 ∨ n = 3001 := by simpa only [List.mem_cons, List.not_mem_nil, or_false] using hn
        by_cases hlt : ((t.size : Nat) : Int) < n
        · have b1 := (add_ok (u := t) (by omega)).1 32
          have hc := trivial; (repeat' (simp only [hc, Nat.reduceBEq, go_sem, Nat.reduceAdd, Nat.reduceMul, Nat.reduceSub, Nat.reduceEqDiff, Nat.reduceLT, Nat.reduceLeDiff, Int.reduceEq, Int.reduceLT, Int.reduceLE, reduceIte, aresults, aresult, hp0, hlt] at hx; (try (rw [guardL_if] at hx; split at hx <;> rename_i hc)))); all_goals (subst hx; refine ⟨_, rfl, ?_⟩)
          repeat' (first | ((first | refine wSeqr ?_ | refine wIf ?_ | refine wReg ?_ | (refine wRet ?_; (try simp only [thenQ, blockQ]); refine ends_by ?_)); intro xx hx; have hc := trivial; (repeat' (simp only [hc, Nat.reduceBEq, go_sem, Nat.reduceAdd, Nat.reduceMul, Nat.reduceSub, Nat.reduceEqDiff, Nat.reduceLT, Nat.reduceLeDiff, Int.reduceEq, Int.reduceLT, Int.reduceLE, reduceIte, aresults, aresult, hp0, h3, h4, hlt, b1.1, b1.2.1, b1.2.2] at hx; (try (rw [guardL_if] at hx; split at hx <;> rename_i hc)))); all_goals (subst hx; first | (refine ⟨_, rfl, fun ht => ?_, fun ht => ?_⟩ <;> (try simp only [bbs] at ht)) | (refine ⟨_, rfl, ?_⟩; (try simp only [tupOf])))) | refine wSkip ?_ | (refine wExit ?_; simp only [thenQ, blockQ, reduceIte, Nat.reduceEqDiff]) | refine wSeq ?_ | refine wBlock ?_)
          all_goals try (exfalso; (try simp only [bbs] at *); first | omega | exact absurd trivial (by assumption))
          refine ⟨_, Nat.sub_lt (by omega) Nat.one_pos, j + 1, t ++ ⟨#[32]⟩, by omega, by simp only [upd_eq, Nat.reduceEqDiff, if_false, if_true, h3, h4], by simp only [upd_eq, Nat.reduceEqDiff, if_false, if_true, h3, h4], ?_⟩
          exact ⟨by rw [add_s1]; omega, S3⟩
        · have hc := trivial; (repeat' (simp only [hc, Nat.reduceBEq, go_sem, Nat.reduceAdd, Nat.reduceMul, Nat.reduceSub, Nat.reduceEqDiff, Nat.reduceLT, Nat.reduceLeDiff, Int.reduceEq, Int.reduceLT, Int.reduceLE, reduceIte, aresults, aresult, hp0, hlt] at hx; (try (rw [guardL_if] at hx; split at hx <;> rename_i hc)))); all_goals (subst hx; refine ⟨_, rfl, ?_⟩)
          repeat' (first | ((first | refine wSeqr ?_ | refine wIf ?_ | refine wReg ?_ | (refine wRet ?_; (try simp only [thenQ, blockQ]); refine ends_by ?_)); intro xx hx; have hc := trivial; (repeat' (simp only [hc, Nat.reduceBEq, go_sem, Nat.reduceAdd, Nat.reduceMul, Nat.reduceSub, Nat.reduceEqDiff, Nat.reduceLT, Nat.reduceLeDiff, Int.reduceEq, Int.reduceLT, Int.reduceLE, reduceIte, aresults, aresult, hp0, h3, h4, hlt] at hx; (try (rw [guardL_if] at hx; split at hx <;> rename_i hc)))); all_goals (subst hx; first | (refine ⟨_, rfl, fun ht => ?_, fun ht => ?_⟩ <;> (try simp only [bbs] at ht)) | (refine ⟨_, rfl, ?_⟩; (try simp only [tupOf])))) | refine wSkip ?_ | (refine wExit ?_; simp only [thenQ, blockQ, reduceIte, Nat.reduceEqDiff]) | refine wSeq ?_ | refine wBlock ?_)
          all_goals try (exfalso; (try simp only [bbs] at *); first | omega | exact absurd trivial (by assumption))
          exact ⟨_, _, ⟨t, by omega, rfl⟩, rfl, rfl⟩
      · exact ⟨0, y, by omega, rfl, rfl, ⟨by omega, by omega⟩, S2⟩
  obtain ⟨v, cl, ⟨z, hz, rfl⟩, hp⟩ := key
  exact ⟨z, hz, fun H => call_fz Tryz.func19 rfl ok_DrawWO rfl (by simp only [fz_cons, fz_nil, go_sem, and_self]) hp H⟩
end
end
end Go.Proofs.YtakbbccdnkigpaaGreatDoor
namespace Go.Proofs.YtakbbccdnkigpaaGreatDoor
open Go Go.RowKit Go.Proofs.YtakbbccdnkigpaaGreatDoor.Eng
set_option linter.unusedSimpArgs false
set_option linter.unusedVariables false
set_option maxRecDepth 100000
set_option maxHeartbeats 2000000
noncomputable section
theorem nib_back : ∀ c : Fin 256, 0 ≤ nibZ (c.val : Int) → (nibZ (c.val : Int)).toNat < 16 ∧ (hexB (nibZ (c.val : Int)).toNat).toNat = c.val := by decide +kernel
theorem hxL_cons (z : Int) (l : List Int) : hxL (z :: l) = hx2 z ++ hxL l := by unfold hxL; rw [List.flatMap_cons]
def ofs (l : List Int) : List UInt8 := l.map fun z => UInt8.ofNat z.toNat
theorem strOf_data (l : List Int) : (strOf l).data.toList = ofs l := by simp [strOf, ofs]
theorem ofs_hx2 (z : Int) : ofs (hx2 z) = [hexB (z / 16).toNat, hexB (z % 16).toNat] := by simp [ofs, hx2]
theorem rt_read : ∀ l : List Int, Eng.Bytes l → hexRd (ofs (hxL l)) = some l := by
  intro l
  induction l with
  | nil => intro _; rfl
  | cons z l ih =>
    intro hb
    have hz := hb z (by simp)
    have h1 := nib_yes ⟨(z / 16).toNat, by omega⟩
    have h2 := nib_yes ⟨(z % 16).toNat, by omega⟩
    have e : ofs (hxL (z :: l)) = hexB (z / 16).toNat :: hexB (z % 16).toNat :: ofs (hxL l) := by
      rw [hxL_cons]; unfold ofs; rw [List.map_append]; have := ofs_hx2 z; unfold ofs at this; rw [this]; rfl
    rw [e, hexRd, ih fun y hy => hb y (by simp [hy])]
    simp only at h1 h2
    rw [h1, h2, if_pos ⟨by omega, by omega⟩]
    simp only [Option.map_some, Option.some.injEq, List.cons.injEq, and_true]
    omega
theorem rt_text : ∀ (n : Nat) (w : List UInt8) (l : List Int), w.length ≤ n → hexRd w = some l → ofs (hxL l) = w ∧ Eng.Bytes l ∧ w.length = 2 * l.length := by
  intro n
  induction n with
  | zero =>
    intro w l hw h
    obtain rfl : w = [] := List.length_eq_zero_iff.1 (by omega)
    simp only [hexRd, Option.some.injEq] at h
    subst h
    exact ⟨rfl, fun z hz => by simp at hz, rfl⟩
  | succ n ih =>
    intro w l hw h
    match w, hw, h with
    | [], _, h =>
      simp only [hexRd, Option.some.injEq] at h
      subst h
      exact ⟨rfl, fun z hz => by simp at hz, rfl⟩
    | [a], _, h => simp [hexRd] at h
    | a :: b :: r, hw, h =>
      rw [hexRd] at h
      split at h
      · rename_i hab
        obtain ⟨l2, h2, rfl⟩ := Option.map_eq_some_iff.1 h
        obtain ⟨e1, e2, e3⟩ := ih r l2 (by simp only [List.length_cons] at hw; omega) h2
        have na := nib_back ⟨a.toNat, UInt8.toNat_lt a⟩ hab.1
        have nb := nib_back ⟨b.toNat, UInt8.toNat_lt b⟩ hab.2
        simp only at na nb
        have ba := (nibZ_b a).1
        have bb := (nibZ_b b).1
        refine ⟨?_, fun y hy => ?_, by simp only [List.length_cons, e3]; omega⟩
        · rw [hxL_cons]
          have := ofs_hx2 (16 * nibZ (a.toNat : Int) + nibZ (b.toNat : Int))
          unfold ofs at this e1 ⊢
          rw [List.map_append, this, e1]
          have q1 : ((16 * nibZ (a.toNat : Int) + nibZ (b.toNat : Int)) / 16).toNat = (nibZ (a.toNat : Int)).toNat := by omega
          have q2 : ((16 * nibZ (a.toNat : Int) + nibZ (b.toNat : Int)) % 16).toNat = (nibZ (b.toNat : Int)).toNat := by omega
          rw [q1, q2, UInt8.toNat_inj.1 na.2, UInt8.toNat_inj.1 nb.2]; rfl
        · rcases List.mem_cons.1 hy with rfl | hy
          · omega
          · exact e2 y hy
      · simp at h
end
end Go.Proofs.YtakbbccdnkigpaaGreatDoor
namespace Go.Proofs.YtakbbccdnkigpaaGreatDoor
open Go Go.RowKit Go.Proofs.YtakbbccdnkigpaaGreatDoor.Eng
set_option linter.unusedSimpArgs false
set_option linter.unusedVariables false
set_option maxRecDepth 100000
set_option maxHeartbeats 4000000
noncomputable section
section
variable {code : List Int} {a : Nat} {H : Hp} {b : Nat} {q : Option (AV × Hp)}
theorem slice_tov {z : ByteArray} {n : Int} (h0 : 0 ≤ n) (h : n ≤ z.size) (e : Env) (H : Hp) (x : Operand) (hx : opd e x = .v (.int .i64 n)) :
    aslice Tryz.prog H e 9 (.v (.string z)) none (some x) none = some (.v (.string (z.extract 0 n.toNat))) := by
  simp only [aslice, u9, Option.isSome_none, Bool.false_eq_true, if_false, bound, hx, natOf]
  rw [if_pos h0]
  simp only [Option.bind_some]
  rw [if_pos ⟨Nat.zero_le _, by omega⟩]
theorem slice_fromv {z : ByteArray} {n : Int} (h0 : 0 ≤ n) (h : n ≤ z.size) (e : Env) (H : Hp) (x : Operand) (hx : opd e x = .v (.int .i64 n)) :
    aslice Tryz.prog H e 9 (.v (.string z)) (some x) none none = some (.v (.string (z.extract n.toNat z.size))) := by
  simp only [aslice, u9, Option.isSome_none, Bool.false_eq_true, if_false, bound, hx, natOf]
  rw [if_pos h0]
  simp only [Option.bind_some]
  rw [if_pos ⟨by omega, Nat.le_refl _⟩]
theorem ok_Spoil : fnOk Tryz.prog cfg0 44 Tryz.f44 = true := by kernel_rfl
theorem d_Spoil (hco : CodeOk code) (hS : Src H b code a) (ha : a ≤ 700000000) {z : ByteArray} (hz : z.size ≤ 1000) (hq : call Tryz.prog cfg0 0 44 [.ptr b 0, .v (.string z)] H = q) :
    ∃ (z' : ByteArray) (H' : Hp), q = some (.v (.string z'), H') ∧ z'.size ≤ 1001 := by
  subst hq
  have key : ∃ r, body Tryz.prog cfg0 44 Tryz.f44 [.ptr b 0, .v (.string z)] H = some r ∧ (∃ z' : ByteArray, r.1 = .v (.string z') ∧ z'.size ≤ 1001) := by
    refine body_wp (rs := [.tmp 4]) rfl rfl (R := fun x H' => ∃ z' : ByteArray, x = .v (.string z') ∧ z'.size ≤ 1001) ?_
    have hp0 : ∀ b, cfg0.pol 44 b = (if b = 21 then 3 else if b = 25 then 3 else if b = 27 then 3 else if b = 31 then 3 else if b = 1000000 then 2 else 0) := fun b => rfl
    by_cases h0 : ((z.size : Nat) : Int) < 1
    · repeat' (first | ((first | refine wSeqr ?_ | refine wSeqrF ?_ | refine wIf ?_ | refine wReg ?_ | refine wRegF ?_ | (refine wRet ?_; (try simp only [thenQ, blockQ]); refine ends_by ?_)); intro xx hx; have hc := trivial; (repeat' (simp only [hc, Nat.reduceBEq, go_sem, Nat.reduceAdd, Nat.reduceMul, Nat.reduceSub, Nat.reduceEqDiff, Nat.reduceLT, Nat.reduceLeDiff, Int.reduceEq, Int.reduceLT, Int.reduceLE, reduceIte, aresults, aresult, hp0, h0] at hx; (try ((first | rw [guardL_if] at hx | rw [guardF_if] at hx); split at hx <;> rename_i hc)))); all_goals (subst hx; first | (refine ⟨_, rfl, fun ht => ?_, fun ht => ?_⟩ <;> (try simp only [bbs] at ht)) | (refine ⟨_, rfl, ?_⟩; (try simp only [tupOf])))) | refine wSkip ?_ | (refine wExit ?_; simp only [thenQ, blockQ, reduceIte, Nat.reduceEqDiff]) | refine wSeq ?_ | refine wBlock ?_)
      all_goals try (exfalso; (try simp only [bbs] at *); first | omega | exact absurd trivial (by assumption))
      exact ⟨z, rfl, by omega⟩
    · repeat' ((fail_if_success (first | refine wAt 1 ?_)); first | ((first | refine wSeqr ?_ | refine wSeqrF ?_ | refine wIf ?_ | refine wReg ?_ | refine wRegF ?_ | (refine wRet ?_; (try simp only [thenQ, blockQ]); refine ends_by ?_)); intro xx hx; have hc := trivial; (repeat' (simp only [hc, Nat.reduceBEq, go_sem, Nat.reduceAdd, Nat.reduceMul, Nat.reduceSub, Nat.reduceEqDiff, Nat.reduceLT, Nat.reduceLeDiff, Int.reduceEq, Int.reduceLT, Int.reduceLE, reduceIte, aresults, aresult, hp0] at hx; (try ((first | rw [guardL_if] at hx | rw [guardF_if] at hx); split at hx <;> rename_i hc)))); all_goals (subst hx; first | (refine ⟨_, rfl, fun ht => ?_, fun ht => ?_⟩ <;> (try simp only [bbs] at ht)) | (refine ⟨_, rfl, ?_⟩; (try simp only [tupOf])))) | refine wSkip ?_ | (refine wExit ?_; simp only [thenQ, blockQ, reduceIte, Nat.reduceEqDiff]) | refine wSeq ?_ | refine wBlock ?_)
      (first | refine wSeqr ?_ | refine wSeqrF ?_ | refine wReg ?_ | refine wRegF ?_); intro xx hx; have hc := trivial; (repeat' (simp only [hc, Nat.reduceBEq, go_sem, Nat.reduceAdd, Nat.reduceMul, Nat.reduceSub, Nat.reduceEqDiff, Nat.reduceLT, Nat.reduceLeDiff, Int.reduceEq, Int.reduceLT, Int.reduceLE, reduceIte, aresults, aresult, hp0, h0] at hx; (try ((first | rw [guardL_if] at hx | rw [guardF_if] at hx); split at hx <;> rename_i hc)))); generalize hq : call Tryz.prog cfg0 0 _ _ _ = q at hx
      obtain ⟨v, H2, rfl, S2, F2, G2⟩ := d_Chance hco hS (by omega) (by omega) hq
      clear hq
      have hc := trivial; (repeat' (simp only [hc, Nat.reduceBEq, go_sem, Nat.reduceAdd, Nat.reduceMul, Nat.reduceSub, Nat.reduceEqDiff, Nat.reduceLT, Nat.reduceLeDiff, Int.reduceEq, Int.reduceLT, Int.reduceLE, reduceIte, aresults, aresult, hp0, h0] at hx; (try ((first | rw [guardL_if] at hx | rw [guardF_if] at hx); split at hx <;> rename_i hc)))); all_goals (subst hx; refine ⟨_, rfl, ?_⟩)
      cases v with
      | false =>
        repeat' (first | ((first | refine wSeqr ?_ | refine wSeqrF ?_ | refine wIf ?_ | refine wReg ?_ | refine wRegF ?_ | (refine wRet ?_; (try simp only [thenQ, blockQ]); refine ends_by ?_)); intro xx hx; have hc := trivial; (repeat' (simp only [hc, Nat.reduceBEq, go_sem, Nat.reduceAdd, Nat.reduceMul, Nat.reduceSub, Nat.reduceEqDiff, Nat.reduceLT, Nat.reduceLeDiff, Int.reduceEq, Int.reduceLT, Int.reduceLE, reduceIte, aresults, aresult, hp0, h0] at hx; (try ((first | rw [guardL_if] at hx | rw [guardF_if] at hx); split at hx <;> rename_i hc)))); all_goals (subst hx; first | (refine ⟨_, rfl, fun ht => ?_, fun ht => ?_⟩ <;> (try simp only [bbs] at ht)) | (refine ⟨_, rfl, ?_⟩; (try simp only [tupOf])))) | refine wSkip ?_ | (refine wExit ?_; simp only [thenQ, blockQ, reduceIte, Nat.reduceEqDiff]) | refine wSeq ?_ | refine wBlock ?_)
        all_goals try (exfalso; (try simp only [bbs] at *); first | omega | exact absurd trivial (by assumption))
        exact ⟨z, rfl, by omega⟩
      | true =>
        repeat' ((fail_if_success (first | refine wAt 3 ?_)); first | ((first | refine wSeqr ?_ | refine wSeqrF ?_ | refine wIf ?_ | refine wReg ?_ | refine wRegF ?_ | (refine wRet ?_; (try simp only [thenQ, blockQ]); refine ends_by ?_)); intro xx hx; have hc := trivial; (repeat' (simp only [hc, Nat.reduceBEq, go_sem, Nat.reduceAdd, Nat.reduceMul, Nat.reduceSub, Nat.reduceEqDiff, Nat.reduceLT, Nat.reduceLeDiff, Int.reduceEq, Int.reduceLT, Int.reduceLE, reduceIte, aresults, aresult, hp0, h0] at hx; (try ((first | rw [guardL_if] at hx | rw [guardF_if] at hx); split at hx <;> rename_i hc)))); all_goals (subst hx; first | (refine ⟨_, rfl, fun ht => ?_, fun ht => ?_⟩ <;> (try simp only [bbs] at ht)) | (refine ⟨_, rfl, ?_⟩; (try simp only [tupOf])))) | refine wSkip ?_ | (refine wExit ?_; simp only [thenQ, blockQ, reduceIte, Nat.reduceEqDiff]) | refine wSeq ?_ | refine wBlock ?_)
        (first | refine wSeqr ?_ | refine wSeqrF ?_ | refine wReg ?_ | refine wRegF ?_); intro xx hx; have hc := trivial; (repeat' (simp only [hc, Nat.reduceBEq, go_sem, Nat.reduceAdd, Nat.reduceMul, Nat.reduceSub, Nat.reduceEqDiff, Nat.reduceLT, Nat.reduceLeDiff, Int.reduceEq, Int.reduceLT, Int.reduceLE, reduceIte, aresults, aresult, hp0] at hx; (try ((first | rw [guardL_if] at hx | rw [guardF_if] at hx); split at hx <;> rename_i hc)))); generalize hq : call Tryz.prog cfg0 0 _ _ _ = q at hx
        obtain ⟨n, H3, rfl, y1, S3, F3, G3⟩ := d_Next hco S2 (by omega) (by omega) hq
        clear hq
        have y2 := y1.2.1 (by omega)
        have hc := trivial; (repeat' (simp only [hc, Nat.reduceBEq, go_sem, Nat.reduceAdd, Nat.reduceMul, Nat.reduceSub, Nat.reduceEqDiff, Nat.reduceLT, Nat.reduceLeDiff, Int.reduceEq, Int.reduceLT, Int.reduceLE, reduceIte, aresults, aresult, hp0] at hx; (try ((first | rw [guardL_if] at hx | rw [guardF_if] at hx); split at hx <;> rename_i hc)))); all_goals (subst hx; refine ⟨_, rfl, ?_⟩)
        repeat' ((fail_if_success (first | refine wAt 4 ?_)); first | ((first | refine wSeqr ?_ | refine wSeqrF ?_ | refine wIf ?_ | refine wReg ?_ | refine wRegF ?_ | (refine wRet ?_; (try simp only [thenQ, blockQ]); refine ends_by ?_)); intro xx hx; have hc := trivial; (repeat' (simp only [hc, Nat.reduceBEq, go_sem, Nat.reduceAdd, Nat.reduceMul, Nat.reduceSub, Nat.reduceEqDiff, Nat.reduceLT, Nat.reduceLeDiff, Int.reduceEq, Int.reduceLT, Int.reduceLE, reduceIte, aresults, aresult, hp0] at hx; (try ((first | rw [guardL_if] at hx | rw [guardF_if] at hx); split at hx <;> rename_i hc)))); all_goals (subst hx; first | (refine ⟨_, rfl, fun ht => ?_, fun ht => ?_⟩ <;> (try simp only [bbs] at ht)) | (refine ⟨_, rfl, ?_⟩; (try simp only [tupOf])))) | refine wSkip ?_ | (refine wExit ?_; simp only [thenQ, blockQ, reduceIte, Nat.reduceEqDiff]) | refine wSeq ?_ | refine wBlock ?_)
        all_goals try (exfalso; (try simp only [bbs] at *); first | omega | exact absurd trivial (by assumption))
        by_cases ez : n ≤ z.size
        · have e1 : (z.extract 0 n.toNat).size ≤ 1000 := by rw [ByteArray.size_extract]; omega
          have e2 : (z.extract n.toNat z.size).size ≤ 1000 := by rw [ByteArray.size_extract]; omega
          have e12 : (z.extract 0 n.toNat).size + (z.extract n.toNat z.size).size ≤ 1000 := by rw [ByteArray.size_extract, ByteArray.size_extract]; omega
          have s1 := slice_tov y1.1 ez
          have s2 := slice_fromv y1.1 ez
          (first | refine wSeqr ?_ | refine wSeqrF ?_ | refine wReg ?_ | refine wRegF ?_); intro xx hx; have hc := trivial; (repeat' (simp only [hc, Nat.reduceBEq, go_sem, Nat.reduceAdd, Nat.reduceMul, Nat.reduceSub, Nat.reduceEqDiff, Nat.reduceLT, Nat.reduceLeDiff, Int.reduceEq, Int.reduceLT, Int.reduceLE, reduceIte, aresults, aresult, hp0] at hx; (try ((first | rw [guardL_if] at hx | rw [guardF_if] at hx); split at hx <;> rename_i hc)))); generalize hq : aslice Tryz.prog _ _ _ _ _ _ _ = q at hx
          rw [s1 _ _ _ (by simp only [opd_tmp, upd_eq, Nat.reduceEqDiff, if_true, if_false])] at hq
          subst hq
          have hc := trivial; (repeat' (simp only [hc, Nat.reduceBEq, go_sem, Nat.reduceAdd, Nat.reduceMul, Nat.reduceSub, Nat.reduceEqDiff, Nat.reduceLT, Nat.reduceLeDiff, Int.reduceEq, Int.reduceLT, Int.reduceLE, reduceIte, aresults, aresult, hp0] at hx; (try ((first | rw [guardL_if] at hx | rw [guardF_if] at hx); split at hx <;> rename_i hc)))); generalize hq : call Tryz.prog cfg0 0 _ _ _ = q at hx
          obtain ⟨c, H4, rfl, hc1, S4, F4, G4⟩ := d_Pick [32, 48, 49, 120] (by simp) hco S3 (by omega) hq
          clear hq
          generalize hA : z.extract 0 n.toNat = zA at *
          generalize hB : z.extract n.toNat z.size = zB at *
          have cv := conv_one (IntKind.wrap .u8 c) Hp.nil
          generalize hC : UInt8.ofNat (IntKind.wrap .u8 c).toNat = y at *
          have b1 : zA.size + (⟨#[y]⟩ : ByteArray).size ≤ 4611686018427387904 := by rw [show (⟨#[y]⟩ : ByteArray).size = 1 from rfl]; omega
          have b2 : zA.size + (#[y] : Array UInt8).size ≤ 4611686018427387904 := b1
          have b3 : zA.size + 1 ≤ 4611686018427387904 := b1
          have b4 : (zA ++ (⟨#[y]⟩ : ByteArray)).size + zB.size ≤ 1001 := by rw [ByteArray.size_append, show (⟨#[y]⟩ : ByteArray).size = 1 from rfl]; omega
          have b5 : zA.size + (#[y] : Array UInt8).size + zB.size ≤ 4611686018427387904 := by rw [show (#[y] : Array UInt8).size = 1 from rfl]; omega
          have b6 : zA.size + 1 + zB.size ≤ 4611686018427387904 := by omega
          have hc := trivial; (repeat' (simp only [hc, Nat.reduceBEq, go_sem, Nat.reduceAdd, Nat.reduceMul, Nat.reduceSub, Nat.reduceEqDiff, Nat.reduceLT, Nat.reduceLeDiff, Int.reduceEq, Int.reduceLT, Int.reduceLE, reduceIte, aresults, aresult, hp0, cv, conv_ib, b1, b2, b3] at hx; (try ((first | rw [guardL_if] at hx | rw [guardF_if] at hx); split at hx <;> rename_i hc)))); generalize hq : aslice Tryz.prog _ _ _ _ _ _ _ = q at hx
          rw [s2 _ _ _ (by simp only [opd_tmp, upd_eq, Nat.reduceEqDiff, if_true, if_false])] at hq
          subst hq
          have hc := trivial; (repeat' (simp only [hc, Nat.reduceBEq, go_sem, Nat.reduceAdd, Nat.reduceMul, Nat.reduceSub, Nat.reduceEqDiff, Nat.reduceLT, Nat.reduceLeDiff, Int.reduceEq, Int.reduceLT, Int.reduceLE, reduceIte, aresults, aresult, hp0, b5, b6] at hx; (try ((first | rw [guardL_if] at hx | rw [guardF_if] at hx); split at hx <;> rename_i hc)))); all_goals (subst hx; refine ⟨_, rfl, ?_⟩)
          repeat' (first | ((first | refine wSeqr ?_ | refine wSeqrF ?_ | refine wIf ?_ | refine wReg ?_ | refine wRegF ?_ | (refine wRet ?_; (try simp only [thenQ, blockQ]); refine ends_by ?_)); intro xx hx; have hc := trivial; (repeat' (simp only [hc, Nat.reduceBEq, go_sem, Nat.reduceAdd, Nat.reduceMul, Nat.reduceSub, Nat.reduceEqDiff, Nat.reduceLT, Nat.reduceLeDiff, Int.reduceEq, Int.reduceLT, Int.reduceLE, reduceIte, aresults, aresult, hp0] at hx; (try ((first | rw [guardL_if] at hx | rw [guardF_if] at hx); split at hx <;> rename_i hc)))); all_goals (subst hx; first | (refine ⟨_, rfl, fun ht => ?_, fun ht => ?_⟩ <;> (try simp only [bbs] at ht)) | (refine ⟨_, rfl, ?_⟩; (try simp only [tupOf])))) | refine wSkip ?_ | (refine wExit ?_; simp only [thenQ, blockQ, reduceIte, Nat.reduceEqDiff]) | refine wSeq ?_ | refine wBlock ?_)
          all_goals try (exfalso; (try simp only [bbs] at *); first | omega | exact absurd trivial (by assumption))
          exact ⟨_, rfl, by rw [ByteArray.size_append]; omega⟩
        · omega
  obtain ⟨⟨x, H'⟩, h1, z', rfl, h3⟩ := key
  exact ⟨z', H', by rw [call_raw Tryz.prog cfg0 Tryz.func44 rfl ok_Spoil rfl rfl, h1], h3⟩
theorem ok_DrawEO : fnOk Tryz.prog cfg0 15 Tryz.f15 = true := by kernel_rfl
theorem c_DrawEO (hco : CodeOk code) : ∃ z : ByteArray, z.size ≤ 1001 ∧ ∀ H, call Tryz.prog cfg0 0 15 [bytesL code] H = some (.v (.string z), H) := by
  have key : ∃ v cl, (∃ z : ByteArray, z.size ≤ 1001 ∧ v = .v (.string z)) ∧ pure Tryz.prog cfg0 15 Tryz.f15 [bytesL code] = some (v, cl) := by
    refine pure_ex (rs := [.tmp 2]) rfl rfl ?_
    have hp0 : ∀ b, cfg0.pol 15 b = 0 := fun b => rfl
    repeat' ((fail_if_success (first | refine wAt 2 ?_)); first | ((first | refine wSeqr ?_ | refine wSeqrF ?_ | refine wIf ?_ | refine wReg ?_ | refine wRegF ?_ | (refine wRet ?_; (try simp only [thenQ, blockQ]); refine ends_by ?_)); intro xx hx; have hc := trivial; (repeat' (simp only [hc, Nat.reduceBEq, go_sem, Nat.reduceAdd, Nat.reduceMul, Nat.reduceSub, Nat.reduceEqDiff, Nat.reduceLT, Nat.reduceLeDiff, Int.reduceEq, Int.reduceLT, Int.reduceLE, reduceIte, aresults, aresult, hp0, d_Source code] at hx; (try ((first | rw [guardL_if] at hx | rw [guardF_if] at hx); split at hx <;> rename_i hc)))); all_goals (subst hx; first | (refine ⟨_, rfl, fun ht => ?_, fun ht => ?_⟩ <;> (try simp only [bbs] at ht)) | (refine ⟨_, rfl, ?_⟩; (try simp only [tupOf])))) | refine wSkip ?_ | (refine wExit ?_; simp only [thenQ, blockQ, reduceIte, Nat.reduceEqDiff]) | refine wSeq ?_ | refine wBlock ?_)
    (first | refine wSeqr ?_ | refine wSeqrF ?_ | refine wReg ?_ | refine wRegF ?_); intro xx hx; have hc := trivial; (repeat' (simp only [hc, Nat.reduceBEq, go_sem, Nat.reduceAdd, Nat.reduceMul, Nat.reduceSub, Nat.reduceEqDiff, Nat.reduceLT, Nat.reduceLeDiff, Int.reduceEq, Int.reduceLT, Int.reduceLE, reduceIte, aresults, aresult, hp0] at hx; (try ((first | rw [guardL_if] at hx | rw [guardF_if] at hx); split at hx <;> rename_i hc)))); generalize hq : call Tryz.prog cfg0 0 45 _ _ = q at hx
    obtain ⟨z, H1, rfl, hz, S1, F1⟩ := d_Line hco (a := 0) (H := Hp.nil.new [bytesL code, .v (.int .i64 ((0 : Nat) : Int))]) ⟨new_same _ _, by simp⟩ (by omega) hq
    clear hq
    have hc := trivial; (repeat' (simp only [hc, Nat.reduceBEq, go_sem, Nat.reduceAdd, Nat.reduceMul, Nat.reduceSub, Nat.reduceEqDiff, Nat.reduceLT, Nat.reduceLeDiff, Int.reduceEq, Int.reduceLT, Int.reduceLE, reduceIte, aresults, aresult, hp0] at hx; (try ((first | rw [guardL_if] at hx | rw [guardF_if] at hx); split at hx <;> rename_i hc)))); generalize hq : call Tryz.prog cfg0 0 44 _ _ = q at hx
    obtain ⟨z2, H2, rfl, hz2⟩ := d_Spoil hco S1 (by omega) hz hq
    clear hq
    have hc := trivial; (repeat' (simp only [hc, Nat.reduceBEq, go_sem, Nat.reduceAdd, Nat.reduceMul, Nat.reduceSub, Nat.reduceEqDiff, Nat.reduceLT, Nat.reduceLeDiff, Int.reduceEq, Int.reduceLT, Int.reduceLE, reduceIte, aresults, aresult, hp0] at hx; (try ((first | rw [guardL_if] at hx | rw [guardF_if] at hx); split at hx <;> rename_i hc)))); all_goals (subst hx; refine ⟨_, rfl, ?_⟩)
    repeat' (first | ((first | refine wSeqr ?_ | refine wSeqrF ?_ | refine wIf ?_ | refine wReg ?_ | refine wRegF ?_ | (refine wRet ?_; (try simp only [thenQ, blockQ]); refine ends_by ?_)); intro xx hx; have hc := trivial; (repeat' (simp only [hc, Nat.reduceBEq, go_sem, Nat.reduceAdd, Nat.reduceMul, Nat.reduceSub, Nat.reduceEqDiff, Nat.reduceLT, Nat.reduceLeDiff, Int.reduceEq, Int.reduceLT, Int.reduceLE, reduceIte, aresults, aresult, hp0] at hx; (try ((first | rw [guardL_if] at hx | rw [guardF_if] at hx); split at hx <;> rename_i hc)))); all_goals (subst hx; first | (refine ⟨_, rfl, fun ht => ?_, fun ht => ?_⟩ <;> (try simp only [bbs] at ht)) | (refine ⟨_, rfl, ?_⟩; (try simp only [tupOf])))) | refine wSkip ?_ | (refine wExit ?_; simp only [thenQ, blockQ, reduceIte, Nat.reduceEqDiff]) | refine wSeq ?_ | refine wBlock ?_)
    all_goals try (exfalso; (try simp only [bbs] at *); first | omega | exact absurd trivial (by assumption))
    exact ⟨_, _, ⟨z2, hz2, rfl⟩, rfl, rfl⟩
  obtain ⟨v, cl, ⟨z, hz, rfl⟩, hp⟩ := key
  exact ⟨z, hz, fun H => call_fz Tryz.func15 rfl ok_DrawEO rfl (by simp only [fz_cons, fz_nil, go_sem, and_self]) hp H⟩
end
end
end Go.Proofs.YtakbbccdnkigpaaGreatDoor
