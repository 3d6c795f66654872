/- Contracts: copies and comparisons of bytes. Contracts: copies of bytes as own results. Contracts: views without a fault, records of a service, both sides. Contracts: the records of a service, both sides. Contracts: RecordsFor and SameRecords, both sides. Contracts: numbers in bytes. -/
import Derived.Test.YtnejoidfbgklbaaGreatDoorDA
namespace Go.Proofs.YtnejoidfbgklbaaGreatDoor
open Go Go.RowKit Go.Proofs.YtnejoidfbgklbaaGreatDoor.Eng
set_option linter.unusedSimpArgs false
set_option linter.unusedVariables false
set_option maxRecDepth 100000
noncomputable section
theorem zeros_cell (n : Nat) : zeros n [cell 0] = (List.replicate n 0).map cell := by
  unfold zeros
  induction n with
  | zero => rfl
  | succ n ih => simp [List.replicate_succ, ih]
end
end Go.Proofs.YtnejoidfbgklbaaGreatDoor
namespace Go.Proofs.YtnejoidfbgklbaaGreatDoor
open Go Go.RowKit Go.Proofs.YtnejoidfbgklbaaGreatDoor.Eng
set_option linter.unusedSimpArgs false
set_option linter.unusedVariables false
set_option maxRecDepth 100000
noncomputable section
theorem gO_bytes {H : Hp} {b : Nat} {l : List Int} (hb : H.h b = some (l.map cell)) : GivesO (bytesL l) (.sl b 1 0 l.length) H := gF_O (gF_bytes (n := 10) hb rfl)
theorem gO_bytesR {H : Hp} {x : AV} {n : Nat} {l : List Int} (h : RAcc H x 1 (l.map cell) n) : GivesO (bytesL l) x H := by
  have hn : n = l.length := by have := h.1; simpa using this.symm
  subst hn
  rcases h.2 with ⟨h0, e⟩ | ⟨b, -, rfl, hb⟩
  · have e0 : l = [] := List.length_eq_zero_iff.1 h0
    subst e0
    rcases e with rfl | rfl
    · exact gF_O (gF_lstT 11 H)
    · exact gF_O (gF_nil 11 H)
  · exact gO_bytes hb
-- not here: laws_toByteS
end
end Go.Proofs.YtnejoidfbgklbaaGreatDoor
namespace Go.Proofs.YtnejoidfbgklbaaGreatDoor
open Go Go.RowKit Go.Proofs.YtnejoidfbgklbaaGreatDoor.Eng
set_option linter.unusedSimpArgs false
set_option linter.unusedVariables false
set_option maxRecDepth 100000
set_option maxHeartbeats 1000000
noncomputable section
theorem ok_sl1In : fnOk Tryz.prog cfg0 43 Tryz.f43 = true := by kernel_rfl
theorem p_sl1In (a lo hi : Int) : pure Tryz.prog cfg0 43 Tryz.f43 [.v (.int .i64 a), .v (.int .i64 lo), .v (.int .i64 hi)] = some (.v (.bool (inB a lo hi)), true) := by
  refine pure_wp (rs := [.tmp 6]) rfl rfl ?_
  have hp0 : ∀ b, cfg0.pol 43 b = 0 := fun b => rfl
  (have hF := trivial; have hc := trivial; repeat' (first | refine wK ?_ | refine wX ?_ | refine rR ?_ | refine rB ?_ ?_ <;> intro ht <;> try simp only [bbs] at ht | refine rG ?_ ?_ <;> intro hc | refine rZ ?_ | refine wQ ?_))
  all_goals (refine gives_boolv ?_; simp [inB, *])
theorem c_sl1In (a lo hi : Int) : ∀ H, call Tryz.prog cfg0 0 43 [.v (.int .i64 a), .v (.int .i64 lo), .v (.int .i64 hi)] H = some (.v (.bool (inB a lo hi)), H) :=
  call_fz Tryz.func43 rfl ok_sl1In rfl (by simp only [fz_cons, fz_nil, go_sem, and_self]) (p_sl1In a lo hi)

theorem ok_iisNode : fnOk Tryz.prog cfg0 49 Tryz.f49 = true := by kernel_rfl
theorem p_iisNode (a : Int) : pure Tryz.prog cfg0 49 Tryz.f49 [.v (.int .i64 a)] = some (.v (.bool (inB a 0 3)), true) := by
  refine pure_wp (rs := [.tmp 2]) rfl rfl ?_
  have hp0 : ∀ b, cfg0.pol 49 b = 0 := fun b => rfl
  (have hF := an hp0 <| c_iin; have hc := trivial; repeat' (first | refine wK ?_ | refine wX ?_ | refine rR ?_ | refine rB ?_ ?_ <;> intro ht <;> try simp only [bbs] at ht | refine rG ?_ ?_ <;> intro hc | refine rZ ?_ | refine wQ ?_))
  all_goals (refine gives_boolv ?_; simp_all [inB])
theorem c_iisNode (a : Int) : ∀ H, call Tryz.prog cfg0 0 49 [.v (.int .i64 a)] H = some (.v (.bool (inB a 0 3)), H) :=
  call_fz Tryz.func49 rfl ok_iisNode rfl (by simp only [fz_cons, fz_nil, go_sem, and_self]) (p_iisNode a)

theorem ok_iisStatus : fnOk Tryz.prog cfg0 84 Tryz.f84 = true := by kernel_rfl
theorem p_iisStatus (a : Int) : pure Tryz.prog cfg0 84 Tryz.f84 [.v (.int .i64 a)] = some (.v (.bool (inB a 0 2)), true) := by
  refine pure_wp (rs := [.tmp 2]) rfl rfl ?_
  have hp0 : ∀ b, cfg0.pol 84 b = 0 := fun b => rfl
  (have hF := an hp0 <| c_iin; have hc := trivial; repeat' (first | refine wK ?_ | refine wX ?_ | refine rR ?_ | refine rB ?_ ?_ <;> intro ht <;> try simp only [bbs] at ht | refine rG ?_ ?_ <;> intro hc | refine rZ ?_ | refine wQ ?_))
  all_goals (refine gives_boolv ?_; simp_all [inB])
theorem c_iisStatus (a : Int) : ∀ H, call Tryz.prog cfg0 0 84 [.v (.int .i64 a)] H = some (.v (.bool (inB a 0 2)), H) :=
  call_fz Tryz.func84 rfl ok_iisStatus rfl (by simp only [fz_cons, fz_nil, go_sem, and_self]) (p_iisStatus a)

def claimOk (c : ClaimM) : Bool := inB c.Node 0 3 && inB c.Inc 0 1000000 && inB c.Status 0 2 && inB c.Meta 0 9999999
def claimFault (c : ClaimM) : Int := if claimOk c = true then 0 else 3
theorem ok_iClaimFault : fnOk Tryz.prog cfg0 73 Tryz.f73 = true := by kernel_rfl
theorem p_iClaimFault (c : ClaimM) : pure Tryz.prog cfg0 73 Tryz.f73 [.agg [.v (.int .i64 c.Node), .v (.int .i64 c.Inc), .v (.int .i64 c.Status), .v (.int .i64 c.Meta)]] = some (.v (.int .i64 (claimFault c)), true) := by
  refine pure_wp (rs := [.tmp 2]) rfl rfl ?_
  have hp0 : ∀ b, cfg0.pol 73 b = 0 := fun b => rfl
  (have hF := an hp0 <| an c_iisNode <| an c_iin <| c_iisStatus; have hc := trivial; repeat' (first | refine wK ?_ | refine wX ?_ | refine rR ?_ | refine rB ?_ ?_ <;> intro ht <;> try simp only [bbs] at ht | refine rG ?_ ?_ <;> intro hc | refine rZ ?_ | refine wQ ?_))
  all_goals (refine gives_intv ?_; unfold claimFault claimOk; (try simp only [bbs] at *); (repeat' split) <;> (try simp only [bbs] at *) <;> omega)
theorem c_iClaimFault (c : ClaimM) : ∀ H, call Tryz.prog cfg0 0 73 [.agg [.v (.int .i64 c.Node), .v (.int .i64 c.Inc), .v (.int .i64 c.Status), .v (.int .i64 c.Meta)]] H = some (.v (.int .i64 (claimFault c)), H) :=
  call_fz Tryz.func73 rfl ok_iClaimFault rfl (by simp only [fz_cons, fz_nil, go_sem, and_self]) (p_iClaimFault c)

theorem ok_sClaimFault : fnOk Tryz.prog cfg0 75 Tryz.f75 = true := by kernel_rfl
theorem p_sClaimFault (c : ClaimM) : pure Tryz.prog cfg0 75 Tryz.f75 [.agg [.v (.int .i64 c.Node), .v (.int .i64 c.Inc), .v (.int .i64 c.Status), .v (.int .i64 c.Meta)]] = some (.v (.int .i64 (claimFault c)), true) := by
  refine pure_wp (rs := [.tmp 2]) rfl rfl ?_
  have hp0 : ∀ b, cfg0.pol 75 b = 0 := fun b => rfl
  (have hF := an hp0 <| c_sl1In; have hc := trivial; repeat' (first | refine wK ?_ | refine wX ?_ | refine rR ?_ | refine rB ?_ ?_ <;> intro ht <;> try simp only [bbs] at ht | refine rG ?_ ?_ <;> intro hc | refine rZ ?_ | refine wQ ?_))
  all_goals (refine gives_intv ?_; unfold claimFault claimOk; (try simp only [bbs] at *); (repeat' split) <;> (try simp only [bbs] at *) <;> omega)
theorem c_sClaimFault (c : ClaimM) : ∀ H, call Tryz.prog cfg0 0 75 [.agg [.v (.int .i64 c.Node), .v (.int .i64 c.Inc), .v (.int .i64 c.Status), .v (.int .i64 c.Meta)]] H = some (.v (.int .i64 (claimFault c)), H) :=
  call_fz Tryz.func75 rfl ok_sClaimFault rfl (by simp only [fz_cons, fz_nil, go_sem, and_self]) (p_sClaimFault c)

/-- The first claim's fault. -/
def fstC : List ClaimM → Int
  | [] => 0
  | c :: r => if claimFault c = 0 then fstC r else claimFault c
/-- Nodes rise. -/
def ascC (l : List ClaimM) : Prop := ∀ (i : Nat) x y, l[i]? = some x → l[i + 1]? = some y → x.Node < y.Node
open Classical in
def viewF (l : List ClaimM) : Int := if 4 < l.length then 2 else if fstC l = 0 then if ascC l then 0 else 1 else fstC l
theorem fstC_none {xs : List ClaimM} (h : ∀ m ∈ xs, claimFault m = 0) : fstC xs = 0 := by
  induction xs with
  | nil => rfl
  | cons m r ih => simp only [fstC, h m (by simp), if_true]; exact ih fun x hx => h x (by simp [hx])
theorem fstC_at {xs : List ClaimM} {j : Nat} {m : ClaimM} (h : ∀ m ∈ xs.take j, claimFault m = 0) (hg : xs[j]? = some m) (hm : ¬ claimFault m = 0) : fstC xs = claimFault m := by
  induction xs generalizing j with
  | nil => simp at hg
  | cons y r ih =>
    cases j with
    | zero => simp only [List.getElem?_cons_zero, Option.some.injEq] at hg; subst hg; simp only [fstC, if_neg hm]
    | succ j =>
      simp only [List.take_succ_cons, List.mem_cons, forall_eq_or_imp] at h
      simp only [fstC, h.1, if_true]
      exact ih h.2 (by simpa using hg)
theorem fstC_zero {xs : List ClaimM} (h : fstC xs = 0) : ∀ m ∈ xs, claimFault m = 0 := by
  induction xs with
  | nil => simp
  | cons y r ih =>
    unfold fstC at h
    split at h
    · rename_i hy
      intro m hm
      rcases List.mem_cons.1 hm with rfl | hm
      · exact hy
      · exact ih h m hm
    · rename_i hy; exact absurd h hy
theorem take_nextC {xs : List ClaimM} {j : Nat} {m : ClaimM} (h : ∀ m ∈ xs.take j, claimFault m = 0) (hg : xs[j]? = some m) (hm : claimFault m = 0) : ∀ m ∈ xs.take (j + 1), claimFault m = 0 := by
  intro y hy
  rw [List.take_add_one, hg] at hy
  rcases List.mem_append.1 hy with hy | hy
  · exact h y hy
  · simp at hy; subst hy; exact hm
theorem viewF_ok {l : List ClaimM} (h : viewF l = 0) : l.length ≤ 4 ∧ ∀ c ∈ l, claimFault c = 0 := by
  unfold viewF at h
  split at h
  · omega
  split at h
  · rename_i h1 h2; exact ⟨by omega, fstC_zero h2⟩
  · rename_i h1 h2; exact absurd h h2
theorem ok_iViewFault : fnOk Tryz.prog cfg0 40 Tryz.f40 = true := by kernel_rfl
theorem p_iViewFault (l : List ClaimM) (hl : l.length ≤ 1048576) : pure Tryz.prog cfg0 40 Tryz.f40 [.lst false (l.map encClaim)] = some (.v (.int .i64 (viewF l)), true) := by
  refine pure_wp (rs := [.tmp 2]) rfl rfl ?_
  have hp0 : ∀ b, cfg0.pol 40 b = 0 := fun b => rfl
  by_cases hbig : 4 < l.length
  · rw [show viewF l = 2 from if_pos hbig]
    (have hF := an hp0 <| @List.length_map.{0,0}; have hc := trivial; repeat' (first | refine wK ?_ | refine wX ?_ | refine rR ?_ | refine rB ?_ ?_ <;> intro ht <;> try simp only [bbs] at ht | refine rG ?_ ?_ <;> intro hc | refine rZ ?_ | refine wQ ?_))
    all_goals try exact False.elim kk
    all_goals exact gives_intv rfl
  (have hF := an hp0 <| @List.length_map.{0,0}; have hc := trivial; repeat' ((fail_if_success (first | refine wAt 4 ?_ | refine wAtL 4 ?_ | refine wAt 10 ?_ | refine wAtL 10 ?_)); first | refine wK ?_ | refine wX ?_ | refine rR ?_ | refine rB ?_ ?_ <;> intro ht <;> try simp only [bbs] at ht | refine rG ?_ ?_ <;> intro hc | refine rZ ?_ | refine wQ ?_))
  all_goals try exact False.elim kk
  refine wLoop (fun k s => ∃ (j : Nat), j + k = l.length ∧ s.1 0 = .lst false (l.map encClaim) ∧ s.1 10 = .lst false (l.map encClaim) ∧ s.1 11 = .v (.int .i64 (l.length : Nat)) ∧ s.1 12 = .v (.int .i64 (j : Nat)) ∧ (∀ m ∈ l.take j, claimFault m = 0)) (fun k s hI => ?_) (l.length) _ ?_
  · obtain ⟨e, H⟩ := s
    obtain ⟨j, hj, h0, h10, h11, h12, hz⟩ := hI
    simp only at h0 h10 h11 h12 hz
    by_cases hlt : j < l.length
    · obtain ⟨m, hg, hd, hm⟩ := at_drop hlt
      have hg' := map_at (f := encClaim) hg
      have hltI : ((j : Nat) : Int) < (l.length : Int) := by omega
      have w4 : IntKind.wrap .i64 ((j : Nat) + 1 : Int) = ((j + 1 : Nat) : Int) := wrap_succ (by omega)
      by_cases hf : claimFault m = 0
      · (have hF := an hp0 <| an h0 <| an h10 <| an h11 <| an h12 <| an hltI <| an hg' <| an encClaim.eq_def <| an c_iClaimFault <| an hf <| an w4 <| @List.length_map.{0,0}; have hc := trivial; repeat' (first | refine wK ?_ | refine wX ?_ | refine rR ?_ | refine rB ?_ ?_ <;> intro ht <;> try simp only [bbs] at ht | refine rG ?_ ?_ <;> intro hc | refine rZ ?_ | refine wQ ?_))
        all_goals try exact False.elim kk
        have hS := an h0 <| an h10 <| an h11 <| h12; refine ⟨_, Nat.sub_lt (by omega) Nat.one_pos, j + 1, by omega, sl, sl, sl, sl, ?_⟩
        exact take_nextC hz hg hf
      · rw [show viewF l = claimFault m by unfold viewF; rw [if_neg hbig, fstC_at hz hg hf, if_neg hf]]
        (have hF := an hp0 <| an h0 <| an h10 <| an h11 <| an h12 <| an hltI <| an hg' <| an encClaim.eq_def <| an c_iClaimFault <| an hf <| an w4 <| @List.length_map.{0,0}; have hc := trivial; repeat' (first | refine wK ?_ | refine wX ?_ | refine rR ?_ | refine rB ?_ ?_ <;> intro ht <;> try simp only [bbs] at ht | refine rG ?_ ?_ <;> intro hc | refine rZ ?_ | refine wQ ?_))
        all_goals try exact False.elim kk
        all_goals exact gives_intv rfl
    · have hj' : j = l.length := by omega
      have hltI : ¬ ((j : Nat) : Int) < (l.length : Int) := by omega
      rw [hj', List.take_length] at hz
      have hf := fstC_none hz
      (have hF := an hp0 <| an h0 <| an h10 <| an h11 <| an h12 <| an hltI <| @List.length_map.{0,0}; have hc := trivial; repeat' ((fail_if_success (first | refine wAt 11 ?_ | refine wAtL 11 ?_)); first | refine wK ?_ | refine wX ?_ | refine rR ?_ | refine rB ?_ ?_ <;> intro ht <;> try simp only [bbs] at ht | refine rG ?_ ?_ <;> intro hc | refine rZ ?_ | refine wQ ?_))
      all_goals try exact False.elim kk
      refine wLoop (fun k s => ∃ (j : Nat), j + k = l.length - 1 ∧ s.1 0 = .lst false (l.map encClaim) ∧ s.1 6 = .v (.int .i64 ((j + 1 : Nat) : Int)) ∧ (∀ (i : Nat) x y, i < j → l[i]? = some x → l[i + 1]? = some y → x.Node < y.Node)) (fun k s hI => ?_) (l.length - 1) _ ?_
      · obtain ⟨e, H⟩ := s
        obtain ⟨j, hj, h0, h6, hasc⟩ := hI
        simp only at h0 h6 hasc
        by_cases hp : j + 1 < l.length
        · obtain ⟨x, gx, -, -⟩ := at_drop (show j < l.length by omega)
          obtain ⟨y, gy, -, -⟩ := at_drop hp
          have gx' := map_at (f := encClaim) gx
          have gy' := map_at (f := encClaim) gy
          have hpI : ((j + 1 : Nat) : Int) < (l.length : Int) := by omega
          have w5 : IntKind.wrap .i64 (((j + 1 : Nat) : Int) - 1) = ((j : Nat) : Int) := by rw [wrap_i64 (by omega) (by omega)]; omega
          have w6 : IntKind.wrap .i64 (((j + 1 : Nat) : Int) + 1) = ((j + 1 + 1 : Nat) : Int) := wrap_succ (by omega)
          by_cases hxy : x.Node < y.Node
          · have n1 : ¬ y.Node ≤ x.Node := by omega
            (have hF := an hp0 <| an h0 <| an h6 <| an hpI <| an gx' <| an gy' <| an encClaim.eq_def <| an w5 <| an w6 <| an n1 <| @List.length_map.{0,0}; have hc := trivial; repeat' (first | refine wK ?_ | refine wX ?_ | refine rR ?_ | refine rB ?_ ?_ <;> intro ht <;> try simp only [bbs] at ht | refine rG ?_ ?_ <;> intro hc | refine rZ ?_ | refine wQ ?_))
            all_goals try exact False.elim kk
            have hS := an h0 <| h6; refine ⟨_, Nat.sub_lt (by omega) Nat.one_pos, j + 1, by omega, sl, sl, ?_⟩
            intro i a b hi ga gb
            by_cases hij : i = j
            · subst hij; rw [gx] at ga; rw [gy] at gb
              obtain rfl := Option.some.inj ga; obtain rfl := Option.some.inj gb; exact hxy
            · exact hasc i a b (by omega) ga gb
          · have n1 : y.Node ≤ x.Node := by omega
            rw [show viewF l = 1 by unfold viewF; rw [if_neg hbig, if_pos hf, if_neg (fun h => hxy (h j x y gx gy))]]
            (have hF := an hp0 <| an h0 <| an h6 <| an hpI <| an gx' <| an gy' <| an encClaim.eq_def <| an w5 <| an w6 <| an n1 <| @List.length_map.{0,0}; have hc := trivial; repeat' (first | refine wK ?_ | refine wX ?_ | refine rR ?_ | refine rB ?_ ?_ <;> intro ht <;> try simp only [bbs] at ht | refine rG ?_ ?_ <;> intro hc | refine rZ ?_ | refine wQ ?_))
            all_goals try exact False.elim kk
            all_goals exact gives_intv rfl
        · have hpI : ¬ ((j + 1 : Nat) : Int) < (l.length : Int) := by omega
          rw [show viewF l = 0 by unfold viewF; rw [if_neg hbig, if_pos hf, if_pos (show ascC l from fun i x y gx gy => hasc i x y (by have := (List.getElem?_eq_some_iff.1 gy).1; omega) gx gy)]]
          (have hF := an hp0 <| an h0 <| an h6 <| an hpI <| @List.length_map.{0,0}; have hc := trivial; repeat' (first | refine wK ?_ | refine wX ?_ | refine rR ?_ | refine rB ?_ ?_ <;> intro ht <;> try simp only [bbs] at ht | refine rG ?_ ?_ <;> intro hc | refine rZ ?_ | refine wQ ?_))
          all_goals try exact False.elim kk
          all_goals exact gives_intv rfl
      · 
        refine ⟨0, by omega, by simp only [upd_eq, Nat.reduceEqDiff, if_false, h0], rfl, fun i x y hi => by omega⟩
  · refine ⟨0, by omega, rfl, rfl, rfl, rfl, ?_⟩
    simp
theorem c_iViewFault (l : List ClaimM) (hl : l.length ≤ 1048576) : ∀ H, call Tryz.prog cfg0 0 40 [.lst false (l.map encClaim)] H = some (.v (.int .i64 (viewF l)), H) :=
  call_fz Tryz.func40 rfl ok_iViewFault rfl (by simp only [fz_cons, fz_nil, go_sem, and_self]) (p_iViewFault l hl)

theorem ok_sViewFault : fnOk Tryz.prog cfg0 46 Tryz.f46 = true := by kernel_rfl
theorem p_sViewFault (l : List ClaimM) (hl : l.length ≤ 1048576) : pure Tryz.prog cfg0 46 Tryz.f46 [.lst false (l.map encClaim)] = some (.v (.int .i64 (viewF l)), true) := by
  refine pure_wp (rs := [.tmp 2]) rfl rfl ?_
  have hp0 : ∀ b, cfg0.pol 46 b = 0 := fun b => rfl
  by_cases hbig : 4 < l.length
  · rw [show viewF l = 2 from if_pos hbig]
    (have hF := an hp0 <| @List.length_map.{0,0}; have hc := trivial; repeat' (first | refine wK ?_ | refine wX ?_ | refine rR ?_ | refine rB ?_ ?_ <;> intro ht <;> try simp only [bbs] at ht | refine rG ?_ ?_ <;> intro hc | refine rZ ?_ | refine wQ ?_))
    all_goals try exact False.elim kk
    all_goals exact gives_intv rfl
  (have hF := an hp0 <| @List.length_map.{0,0}; have hc := trivial; repeat' ((fail_if_success (first | refine wAt 4 ?_ | refine wAtL 4 ?_ | refine wAt 9 ?_ | refine wAtL 9 ?_)); first | refine wK ?_ | refine wX ?_ | refine rR ?_ | refine rB ?_ ?_ <;> intro ht <;> try simp only [bbs] at ht | refine rG ?_ ?_ <;> intro hc | refine rZ ?_ | refine wQ ?_))
  all_goals try exact False.elim kk
  refine wLoop (fun k s => ∃ (j : Nat), j + k = l.length ∧ s.1 0 = .lst false (l.map encClaim) ∧ s.1 3 = .v (.int .i64 (j : Nat)) ∧ (∀ m ∈ l.take j, claimFault m = 0)) (fun k s hI => ?_) (l.length) _ ?_
  · obtain ⟨e, H⟩ := s
    obtain ⟨j, hj, h0, h3, hz⟩ := hI
    simp only at h0 h3 hz
    by_cases hlt : j < l.length
    · obtain ⟨m, hg, hd, hm⟩ := at_drop hlt
      have hg' := map_at (f := encClaim) hg
      have hltI : ((j : Nat) : Int) < (l.length : Int) := by omega
      have w4 : IntKind.wrap .i64 ((j : Nat) + 1 : Int) = ((j + 1 : Nat) : Int) := wrap_succ (by omega)
      by_cases hf : claimFault m = 0
      · (have hF := an hp0 <| an h0 <| an h3 <| an hltI <| an hg' <| an encClaim.eq_def <| an c_sClaimFault <| an hf <| an w4 <| @List.length_map.{0,0}; have hc := trivial; repeat' (first | refine wK ?_ | refine wX ?_ | refine rR ?_ | refine rB ?_ ?_ <;> intro ht <;> try simp only [bbs] at ht | refine rG ?_ ?_ <;> intro hc | refine rZ ?_ | refine wQ ?_))
        all_goals try exact False.elim kk
        have hS := an h0 <| h3; refine ⟨_, Nat.sub_lt (by omega) Nat.one_pos, j + 1, by omega, sl, sl, ?_⟩
        exact take_nextC hz hg hf
      · rw [show viewF l = claimFault m by unfold viewF; rw [if_neg hbig, fstC_at hz hg hf, if_neg hf]]
        (have hF := an hp0 <| an h0 <| an h3 <| an hltI <| an hg' <| an encClaim.eq_def <| an c_sClaimFault <| an hf <| an w4 <| @List.length_map.{0,0}; have hc := trivial; repeat' (first | refine wK ?_ | refine wX ?_ | refine rR ?_ | refine rB ?_ ?_ <;> intro ht <;> try simp only [bbs] at ht | refine rG ?_ ?_ <;> intro hc | refine rZ ?_ | refine wQ ?_))
        all_goals try exact False.elim kk
        all_goals exact gives_intv rfl
    · have hj' : j = l.length := by omega
      have hltI : ¬ ((j : Nat) : Int) < (l.length : Int) := by omega
      rw [hj', List.take_length] at hz
      have hf := fstC_none hz
      (have hF := an hp0 <| an h0 <| an h3 <| an hltI <| @List.length_map.{0,0}; have hc := trivial; repeat' ((fail_if_success (first | refine wAt 10 ?_ | refine wAtL 10 ?_)); first | refine wK ?_ | refine wX ?_ | refine rR ?_ | refine rB ?_ ?_ <;> intro ht <;> try simp only [bbs] at ht | refine rG ?_ ?_ <;> intro hc | refine rZ ?_ | refine wQ ?_))
      all_goals try exact False.elim kk
      refine wLoop (fun k s => ∃ (j : Nat), j + k = l.length - 1 ∧ s.1 0 = .lst false (l.map encClaim) ∧ s.1 5 = .v (.int .i64 ((j + 1 : Nat) : Int)) ∧ (∀ (i : Nat) x y, i < j → l[i]? = some x → l[i + 1]? = some y → x.Node < y.Node)) (fun k s hI => ?_) (l.length - 1) _ ?_
      · obtain ⟨e, H⟩ := s
        obtain ⟨j, hj, h0, h5, hasc⟩ := hI
        simp only at h0 h5 hasc
        by_cases hp : j + 1 < l.length
        · obtain ⟨x, gx, -, -⟩ := at_drop (show j < l.length by omega)
          obtain ⟨y, gy, -, -⟩ := at_drop hp
          have gx' := map_at (f := encClaim) gx
          have gy' := map_at (f := encClaim) gy
          have hpI : ((j + 1 : Nat) : Int) < (l.length : Int) := by omega
          have w5 : IntKind.wrap .i64 (((j + 1 : Nat) : Int) - 1) = ((j : Nat) : Int) := by rw [wrap_i64 (by omega) (by omega)]; omega
          have w6 : IntKind.wrap .i64 (((j + 1 : Nat) : Int) + 1) = ((j + 1 + 1 : Nat) : Int) := wrap_succ (by omega)
          by_cases hxy : x.Node < y.Node
          · have n1 : ¬ y.Node ≤ x.Node := by omega
            (have hF := an hp0 <| an h0 <| an h5 <| an hpI <| an gx' <| an gy' <| an encClaim.eq_def <| an w5 <| an w6 <| an n1 <| @List.length_map.{0,0}; have hc := trivial; repeat' (first | refine wK ?_ | refine wX ?_ | refine rR ?_ | refine rB ?_ ?_ <;> intro ht <;> try simp only [bbs] at ht | refine rG ?_ ?_ <;> intro hc | refine rZ ?_ | refine wQ ?_))
            all_goals try exact False.elim kk
            have hS := an h0 <| h5; refine ⟨_, Nat.sub_lt (by omega) Nat.one_pos, j + 1, by omega, sl, sl, ?_⟩
            intro i a b hi ga gb
            by_cases hij : i = j
            · subst hij; rw [gx] at ga; rw [gy] at gb
              obtain rfl := Option.some.inj ga; obtain rfl := Option.some.inj gb; exact hxy
            · exact hasc i a b (by omega) ga gb
          · have n1 : y.Node ≤ x.Node := by omega
            rw [show viewF l = 1 by unfold viewF; rw [if_neg hbig, if_pos hf, if_neg (fun h => hxy (h j x y gx gy))]]
            (have hF := an hp0 <| an h0 <| an h5 <| an hpI <| an gx' <| an gy' <| an encClaim.eq_def <| an w5 <| an w6 <| an n1 <| @List.length_map.{0,0}; have hc := trivial; repeat' (first | refine wK ?_ | refine wX ?_ | refine rR ?_ | refine rB ?_ ?_ <;> intro ht <;> try simp only [bbs] at ht | refine rG ?_ ?_ <;> intro hc | refine rZ ?_ | refine wQ ?_))
            all_goals try exact False.elim kk
            all_goals exact gives_intv rfl
        · have hpI : ¬ ((j + 1 : Nat) : Int) < (l.length : Int) := by omega
          rw [show viewF l = 0 by unfold viewF; rw [if_neg hbig, if_pos hf, if_pos (show ascC l from fun i x y gx gy => hasc i x y (by have := (List.getElem?_eq_some_iff.1 gy).1; omega) gx gy)]]
          (have hF := an hp0 <| an h0 <| an h5 <| an hpI <| @List.length_map.{0,0}; have hc := trivial; repeat' (first | refine wK ?_ | refine wX ?_ | refine rR ?_ | refine rB ?_ ?_ <;> intro ht <;> try simp only [bbs] at ht | refine rG ?_ ?_ <;> intro hc | refine rZ ?_ | refine wQ ?_))
          all_goals try exact False.elim kk
          all_goals exact gives_intv rfl
      · 
        refine ⟨0, by omega, by simp only [upd_eq, Nat.reduceEqDiff, if_false, h0], rfl, fun i x y hi => by omega⟩
  · refine ⟨0, by omega, rfl, rfl, ?_⟩
    simp
theorem c_sViewFault (l : List ClaimM) (hl : l.length ≤ 1048576) : ∀ H, call Tryz.prog cfg0 0 46 [.lst false (l.map encClaim)] H = some (.v (.int .i64 (viewF l)), H) :=
  call_fz Tryz.func46 rfl ok_sViewFault rfl (by simp only [fz_cons, fz_nil, go_sem, and_self]) (p_sViewFault l hl)

end
end Go.Proofs.YtnejoidfbgklbaaGreatDoor
namespace Go.Proofs.YtnejoidfbgklbaaGreatDoor
open Go Go.RowKit Go.Proofs.YtnejoidfbgklbaaGreatDoor.Eng
set_option linter.unusedSimpArgs false
set_option linter.unusedVariables false
set_option maxRecDepth 100000
set_option maxHeartbeats 1000000
noncomputable section
/-- Is a claim alive, and does it offer the service? -/
def offB (sv : Int) (c : ClaimM) : Bool := decide (c.Status = 0) && decide (c.Meta / 65536 = sv)
def recOf (kind : Int) (c : ClaimM) : RecordM := ⟨kind, c.Node, if kind = 33 then c.Meta % 65536 else 0⟩
def recsL (l : List ClaimM) (sv kind : Int) : List RecordM := (l.filter (offB sv)).map (recOf kind)
theorem recsL_take {l : List ClaimM} {j : Nat} {c : ClaimM} (sv kind : Int) (h : l[j]? = some c) : recsL (l.take (j + 1)) sv kind = recsL (l.take j) sv kind ++ if offB sv c = true then [recOf kind c] else [] := by
  unfold recsL
  rw [List.take_add_one, h, List.filter_append, List.map_append]
  congr 1
  by_cases hx : offB sv c = true
  · rw [if_pos hx]; simp [hx]
  · rw [if_neg hx]; simp [hx]
theorem recsL_len (l : List ClaimM) (sv kind : Int) : (recsL l sv kind).length ≤ l.length := by
  unfold recsL; rw [List.length_map]; exact List.length_filter_le _ _
/-- What is told of the claims. -/
def CMeta (l : List ClaimM) : Prop := ∀ c ∈ l, 0 ≤ c.Meta ∧ c.Meta ≤ 9223372036854775807
theorem off_no {sv : Int} {c : ClaimM} (h : ¬ (c.Status = 0 ∧ c.Meta / 65536 = sv)) : offB sv c = false := by
  unfold offB
  cases hh : decide (c.Status = 0) with
  | false => rfl
  | true =>
    simp only [decide_eq_true_eq] at hh
    simp only [Bool.true_and, decide_eq_false_iff_not]
    exact fun e => h ⟨hh, e⟩
theorem off_yes {sv : Int} {c : ClaimM} (h1 : c.Status = 0) (h2 : c.Meta / 65536 = sv) : offB sv c = true := by simp [offB, h1, h2]
theorem clean_recs {H : Hp} {x : AV} {l : List RecordM} {n : Nat} (h : RAcc H x 3 ((l.map encRecord).flatten) n) : clean H depthD x = true := by
  rcases h.2 with ⟨-, e⟩ | ⟨p, -, rfl, hh⟩
  · rcases e with rfl | rfl <;> rfl
  · show ((((H.h p).getD []).drop 0).take (n * 3)).all (clean H 11) = true
    rw [hh, List.all_eq_true]
    intro y hy
    have hy := List.mem_of_mem_drop (List.mem_of_mem_take hy)
    simp only [Option.getD_some, List.mem_flatten, List.mem_map] at hy
    obtain ⟨c, ⟨r, -, rfl⟩, hy⟩ := hy
    simp only [encRecord, List.mem_cons, List.not_mem_nil, or_false] at hy
    rcases hy with rfl | rfl | rfl <;> rfl
theorem ok_sl10Records : fnOk Tryz.prog cfg0 76 Tryz.f76 = true := by kernel_rfl
theorem p_sl10Records (l : List ClaimM) (hl : l.length ≤ 1048576) (hm : CMeta l) (sv kind : Int) : pure Tryz.prog cfg0 76 Tryz.f76 [.lst false (l.map encClaim), .v (.int .i64 sv), .v (.int .i64 kind)] = some (.lst false ((recsL l sv kind).map encRecord), true) := by
  refine pure_wp (rs := [.tmp 6]) rfl rfl ?_
  have hp0 : ∀ b, cfg0.pol 76 b = 0 := fun b => rfl
  (have hF := hp0; have hc := trivial; repeat' (first | refine wK ?_ | refine wX ?_ | refine rR ?_ | refine rB ?_ ?_ <;> intro ht <;> try simp only [bbs] at ht | refine rG ?_ ?_ <;> intro hc | refine rZ ?_ | refine wQ ?_))
  refine wLoop (fun k s => ∃ (j : Nat) (x : AV), j + k = l.length ∧ s.1 0 = .lst false (l.map encClaim) ∧ s.1 1 = .v (.int .i64 sv) ∧ s.1 2 = .v (.int .i64 kind) ∧ s.1 7 = x ∧ s.1 8 = .v (.int .i64 (j : Nat)) ∧ (RAcc s.2 x 3 (((recsL (l.take j) sv kind).map encRecord).flatten) (recsL (l.take j) sv kind).length)) (fun k s hI => ?_) (l.length) _ ?_
  · obtain ⟨e, H⟩ := s
    obtain ⟨j, x, hj, h0, h1, h2, h7, h8, hr⟩ := hI
    simp only at h0 h1 h2 h7 h8 hr
    have hlen := recsL_len (l.take j) sv kind
    rw [List.length_take] at hlen
    by_cases hlt : j < l.length
    · obtain ⟨c, hg, hd, hc⟩ := at_drop hlt
      have hg' := map_at (f := encClaim) hg
      have hm0 := hm c hc
      have hrt := recsL_take sv kind hg
      have hltI : ((j : Nat) : Int) < (l.length : Int) := by omega
      have w4 : IntKind.wrap .i64 ((j : Nat) + 1 : Int) = ((j + 1 : Nat) : Int) := wrap_succ (by omega)
      have t1 : IntKind.wrap .i64 (c.Meta.tdiv 65536) = c.Meta / 65536 := by rw [Int.tdiv_eq_ediv_of_nonneg (by omega)]; exact wrap_i64 (by omega) (by omega)
      have t2 : c.Meta.tmod 65536 = c.Meta % 65536 := Int.tmod_eq_emod_of_nonneg (by omega)
      by_cases ho : c.Status = 0 ∧ c.Meta / 65536 = sv
      · rw [if_pos (off_yes ho.1 ho.2)] at hrt
        have o1 := ho.1
        have o2 := ho.2
        by_cases hk : kind = 33
        · have hrec : recOf kind c = ⟨33, c.Node, c.Meta % 65536⟩ := by unfold recOf; rw [if_pos hk, hk]
          (have hF := an hp0 <| an h0 <| an h1 <| an h2 <| an h7 <| an h8 <| an hltI <| an hg' <| an encClaim.eq_def <| an t1 <| an t2 <| an o1 <| an o2 <| an hk <| @List.length_map.{0,0}; have hc := trivial; repeat' ((fail_if_success (first | refine wAt 9 ?_ | refine wAtL 9 ?_)); first | refine wK ?_ | refine wX ?_ | refine rR ?_ | refine rB ?_ ?_ <;> intro ht <;> try simp only [bbs] at ht | refine rG ?_ ?_ <;> intro hc | refine rZ ?_ | refine wQ ?_))
          all_goals try exact False.elim kk
          have hF := an hp0 <| h7; have hc := trivial; (try refine wX ?_); refine rN (fun xx hx => ?_); generalize hq : aappend Tryz.prog _ _ _ _ = q at hx
          obtain ⟨x', K2, rfl, hacc, hg2, hk2, ho2⟩ := app_rows hq el39 zero86 by86 int39 (sz := 3) rfl (by omega) (hr.ext ⟨by simp only [Hp.set_g, Hp.new_g]; omega, fun b hb => by simp only [Hp.set_h, Hp.new_h]; (repeat' split) <;> first | omega | rfl⟩) (m := 1) rfl (afirst_one _ _ (encRecord ⟨33, c.Node, c.Meta % 65536⟩)) rfl (by omega) (by omega)
          clear hq
          (subst hx; have hF := hp0; have hc := trivial; repeat' (first | refine rR ?_ | refine rG ?_ ?_ <;> intro hc | refine rZ ?_ | fail))
          (have hF := an hp0 <| an h8 <| w4; have hc := trivial; repeat' (first | refine wK ?_ | refine wX ?_ | refine rR ?_ | refine rB ?_ ?_ <;> intro ht <;> try simp only [bbs] at ht | refine rG ?_ ?_ <;> intro hc | refine rZ ?_ | refine wQ ?_))
          all_goals try exact False.elim kk
          have hS := an h0 <| an h1 <| an h2 <| an h7 <| h8; refine ⟨_, Nat.sub_lt (by omega) Nat.one_pos, j + 1, x', by omega, sl, sl, sl, sl, sl, ?_⟩
          rw [hrt, List.map_append, List.flatten_append, List.length_append, hrec]
          simpa using hacc
        · have hrec : recOf kind c = ⟨kind, c.Node, 0⟩ := by unfold recOf; rw [if_neg hk]
          (have hF := an hp0 <| an h0 <| an h1 <| an h2 <| an h7 <| an h8 <| an hltI <| an hg' <| an encClaim.eq_def <| an t1 <| an t2 <| an o1 <| an o2 <| an hk <| @List.length_map.{0,0}; have hc := trivial; repeat' ((fail_if_success (first | refine wAt 9 ?_ | refine wAtL 9 ?_)); first | refine wK ?_ | refine wX ?_ | refine rR ?_ | refine rB ?_ ?_ <;> intro ht <;> try simp only [bbs] at ht | refine rG ?_ ?_ <;> intro hc | refine rZ ?_ | refine wQ ?_))
          all_goals try exact False.elim kk
          have hF := an hp0 <| h7; have hc := trivial; (try refine wX ?_); refine rN (fun xx hx => ?_); generalize hq : aappend Tryz.prog _ _ _ _ = q at hx
          obtain ⟨x', K2, rfl, hacc, hg2, hk2, ho2⟩ := app_rows hq el39 zero86 by86 int39 (sz := 3) rfl (by omega) (hr.ext ⟨by simp only [Hp.set_g, Hp.new_g]; omega, fun b hb => by simp only [Hp.set_h, Hp.new_h]; (repeat' split) <;> first | omega | rfl⟩) (m := 1) rfl (afirst_one _ _ (encRecord ⟨kind, c.Node, 0⟩)) rfl (by omega) (by omega)
          clear hq
          (subst hx; have hF := hp0; have hc := trivial; repeat' (first | refine rR ?_ | refine rG ?_ ?_ <;> intro hc | refine rZ ?_ | fail))
          (have hF := an hp0 <| an h8 <| w4; have hc := trivial; repeat' (first | refine wK ?_ | refine wX ?_ | refine rR ?_ | refine rB ?_ ?_ <;> intro ht <;> try simp only [bbs] at ht | refine rG ?_ ?_ <;> intro hc | refine rZ ?_ | refine wQ ?_))
          all_goals try exact False.elim kk
          have hS := an h0 <| an h1 <| an h2 <| an h7 <| h8; refine ⟨_, Nat.sub_lt (by omega) Nat.one_pos, j + 1, x', by omega, sl, sl, sl, sl, sl, ?_⟩
          rw [hrt, List.map_append, List.flatten_append, List.length_append, hrec]
          simpa using hacc
      · rw [if_neg (by rw [off_no ho]; simp), List.append_nil] at hrt
        (have hF := an hp0 <| an h0 <| an h1 <| an h2 <| an h7 <| an h8 <| an hltI <| an hg' <| an encClaim.eq_def <| an t1 <| an t2 <| an w4 <| @List.length_map.{0,0}; have hc := trivial; repeat' (first | refine wK ?_ | refine wX ?_ | refine rR ?_ | refine rB ?_ ?_ <;> intro ht <;> try simp only [bbs] at ht | refine rG ?_ ?_ <;> intro hc | refine rZ ?_ | refine wQ ?_))
        all_goals try exact False.elim kk
        all_goals first
          | (exfalso; apply ho; (try simp only [bbs] at *); constructor <;> first | assumption | omega | (simp_all; done))
          | skip
        all_goals (have hS := an h0 <| an h1 <| an h2 <| an h7 <| h8; refine ⟨_, Nat.sub_lt (by omega) Nat.one_pos, j + 1, x, by omega, sl, sl, sl, sl, sl, ?_⟩; rw [hrt]; exact hr)
    · have hj' : j = l.length := by omega
      have hltI : ¬ ((j : Nat) : Int) < (l.length : Int) := by omega
      (have hF := an hp0 <| an h0 <| an h7 <| an h8 <| an hltI <| @List.length_map.{0,0}; have hc := trivial; repeat' (first | refine wK ?_ | refine wX ?_ | refine rR ?_ | refine rB ?_ ?_ <;> intro ht <;> try simp only [bbs] at ht | refine rG ?_ ?_ <;> intro hc | refine rZ ?_ | refine wQ ?_))
      all_goals try exact False.elim kk
      rw [hj', List.take_length] at hr
      exact ⟨deep_racc (d := 11) hr rfl (by omega) (fun _ => rfl) (fun k x hx => fzE_Record 10 k x hx), clean_recs hr⟩
  · exact ⟨0, .lst true [], by omega, rfl, rfl, rfl, rfl, rfl, RAcc.lst⟩
theorem c_sl10Records (l : List ClaimM) (hl : l.length ≤ 1048576) (hm : CMeta l) (sv kind : Int) : ∀ H, call Tryz.prog cfg0 0 76 [.lst false (l.map encClaim), .v (.int .i64 sv), .v (.int .i64 kind)] H = some (.lst false ((recsL l sv kind).map encRecord), H) :=
  call_fz Tryz.func76 rfl ok_sl10Records rfl (by simp only [fz_cons, fz_nil, go_sem, and_self]) (p_sl10Records l hl hm sv kind)

end
end Go.Proofs.YtnejoidfbgklbaaGreatDoor
namespace Go.Proofs.YtnejoidfbgklbaaGreatDoor
open Go Go.RowKit Go.Proofs.YtnejoidfbgklbaaGreatDoor.Eng
set_option linter.unusedSimpArgs false
set_option linter.unusedVariables false
set_option maxRecDepth 100000
set_option maxHeartbeats 1000000
noncomputable section
def typB (k : Int) : Bool := decide (k = 1) || decide (k = 33)
theorem ok_iisType : fnOk Tryz.prog cfg0 62 Tryz.f62 = true := by kernel_rfl
theorem p_iisType (k : Int) : pure Tryz.prog cfg0 62 Tryz.f62 [.v (.int .i64 k)] = some (.v (.bool (typB k)), true) := by
  refine pure_wp (rs := [.tmp 2]) rfl rfl ?_
  have hp0 : ∀ b, cfg0.pol 62 b = 0 := fun b => rfl
  (have hF := hp0; have hc := trivial; repeat' (first | refine wK ?_ | refine wX ?_ | refine rR ?_ | refine rB ?_ ?_ <;> intro ht <;> try simp only [bbs] at ht | refine rG ?_ ?_ <;> intro hc | refine rZ ?_ | refine wQ ?_))
  all_goals (refine gives_boolv ?_; simp_all [typB])
theorem c_iisType (k : Int) : ∀ H, call Tryz.prog cfg0 0 62 [.v (.int .i64 k)] H = some (.v (.bool (typB k)), H) :=
  call_fz Tryz.func62 rfl ok_iisType rfl (by simp only [fz_cons, fz_nil, go_sem, and_self]) (p_iisType k)

def rfC (l : List ClaimM) (sv kind : Int) : Int := if viewF l = 0 then if inB sv 0 99 = true ∧ typB kind = true then 0 else 3 else viewF l
def rfL (l : List ClaimM) (sv kind : Int) : List RecordM := if rfC l sv kind = 0 then recsL l sv kind else []
theorem viewF_meta {l : List ClaimM} (h : viewF l = 0) : CMeta l := fun c hc => by
  have := (viewF_ok h).2 c hc
  unfold claimFault claimOk at this
  split at this
  · rename_i h; simp only [Bool.and_eq_true, inB_t] at h; omega
  · omega
def rfR (l : List ClaimM) (sv kind : Int) : AV := .agg [.v (.int .i64 (rfC l sv kind)), .lst false ((rfL l sv kind).map encRecord)]
theorem rfR_c {l : List ClaimM} {sv kind c : Int} (h : rfC l sv kind = c) (hc : ¬ c = 0) : rfR l sv kind = .agg [.v (.int .i64 c), .lst false []] := by unfold rfR rfL; rw [h, if_neg hc]; rfl
theorem rfR_0 {l : List ClaimM} {sv kind : Int} (h : rfC l sv kind = 0) : rfR l sv kind = .agg [.v (.int .i64 0), .lst false ((recsL l sv kind).map encRecord)] := by unfold rfR rfL; rw [h, if_pos rfl]
theorem d_rr {c : Int} {H : Hp} {x : AV} {l : List RecordM} {n : Nat} (h : RAcc H x 3 ((l.map encRecord).flatten) n) (hn : n = l.length) : deep H depthD (.agg [.v (.int .i64 c), x]) = some (.agg [.v (.int .i64 c), .lst false (l.map encRecord)]) := by
  show ([AV.v (.int .i64 c), x].mapM (deep H 11)).map AV.agg = _
  have h2 : deep H 11 x = some (.lst false (l.map encRecord)) := deep_racc (d := 10) h hn (by omega) (fun _ => rfl) (fun k x hx => fzE_Record 9 k x hx)
  simp only [List.mapM_cons, List.mapM_nil, h2, Option.pure_def, Option.bind_eq_bind, Option.bind_some, Option.map_some]
  rfl
-- not here: spec_RecordsFor
theorem ok_iRecordsFor : fnOk Tryz.prog cfg0 19 Tryz.f19 = true := by kernel_rfl
theorem p_iRecordsFor (l : List ClaimM) (hl : l.length ≤ 1048576) (sv kind : Int) : ∃ cl, pure Tryz.prog cfg0 19 Tryz.f19 [.lst false (l.map encClaim), .v (.int .i64 sv), .v (.int .i64 kind)] = some (rfR l sv kind, cl) := by
  have key : ∃ v cl, v = (rfR l sv kind : AV) ∧ pure Tryz.prog cfg0 19 Tryz.f19 [.lst false (l.map encClaim), .v (.int .i64 sv), .v (.int .i64 kind)] = some (v, cl) := by
    refine pure_ex (rs := [.cell 6 48]) rfl rfl ?_
    have hp0 : ∀ b, cfg0.pol 19 b = 0 := fun b => rfl
    have hv := c_iViewFault l hl
    by_cases hf : viewF l = 0
    · by_cases hs : inB sv 0 99 = true
      · by_cases hk : typB kind = true
        · have hm := viewF_meta hf
          rw [rfR_0 (by unfold rfC; rw [if_pos hf, if_pos ⟨hs, hk⟩])]
          (have hF := an hp0 <| an hv <| an hf <| an c_iin <| an c_iisType <| an hs <| an hk <| @List.length_map.{0,0}; have hc := trivial; repeat' ((fail_if_success (first | refine wAt 8 ?_ | refine wAtL 8 ?_ | refine wAt 16 ?_ | refine wAtL 16 ?_)); first | refine wK ?_ | refine wX ?_ | refine rR ?_ | refine rB ?_ ?_ <;> intro ht <;> try simp only [bbs] at ht | refine rG ?_ ?_ <;> intro hc | refine rZ ?_ | refine wQ ?_))
          all_goals try exact False.elim kk
          refine wLoop (fun k s => ∃ (j : Nat) (x : AV), j + k = l.length ∧ s.1 1 = .v (.int .i64 sv) ∧ s.1 2 = .v (.int .i64 kind) ∧ s.1 6 = .ptr 0 0 ∧ s.1 8 = .ptr 1 0 ∧ s.1 28 = .lst false (l.map encClaim) ∧ s.1 29 = .v (.int .i64 (l.length : Nat)) ∧ s.1 30 = .v (.int .i64 (j : Nat)) ∧ (RAcc s.2 x 3 (((recsL (l.take j) sv kind).map encRecord).flatten) (recsL (l.take j) sv kind).length) ∧ (s.2.h 0 = some [.v (.int .i64 0), .v (.slice none 0 0)] ∧ s.2.h 1 = some [.v (.int .i64 0), x] ∧ 1 < s.2.g) ∧ (Off 0 x ∧ Off 1 x)) (fun k s hI => ?_) (l.length) _ ?_
          · obtain ⟨e, H⟩ := s
            obtain ⟨j, x, hj, h1, h2, h6, h8, h28, h29, h30, hr, hb, hoff⟩ := hI
            simp only at h1 h2 h6 h8 h28 h29 h30 hr hb hoff
            obtain ⟨hb0, hb1, hgg⟩ := hb
            have n1 : (1 = H.g) = False := eq_false (by omega)
            have n2 : (1 = H.g + 1) = False := eq_false (by omega)
            have m1 : (0 = H.g) = False := eq_false (by omega)
            have m2 : (0 = H.g + 1) = False := eq_false (by omega)
            have e1 : (H.g = H.g + 1) = False := eq_false (by omega)
            have hlen := recsL_len (l.take j) sv kind
            rw [List.length_take] at hlen
            by_cases hlt : j < l.length
            · obtain ⟨c, hg, hd, hc⟩ := at_drop hlt
              have hg' := map_at (f := encClaim) hg
              have hm0 := hm c hc
              have hrt := recsL_take sv kind hg
              have hltI : ((j : Nat) : Int) < (l.length : Int) := by omega
              have w4 : IntKind.wrap .i64 ((j : Nat) + 1 : Int) = ((j + 1 : Nat) : Int) := wrap_succ (by omega)
              have t1 : IntKind.wrap .i64 (c.Meta.tdiv 65536) = c.Meta / 65536 := by rw [Int.tdiv_eq_ediv_of_nonneg (by omega)]; exact wrap_i64 (by omega) (by omega)
              have t2 : c.Meta.tmod 65536 = c.Meta % 65536 := Int.tmod_eq_emod_of_nonneg (by omega)
              by_cases ho : c.Status = 0 ∧ c.Meta / 65536 = sv
              · rw [if_pos (off_yes ho.1 ho.2)] at hrt
                have o1 : (c.Status = 0) = True := eq_true ho.1
                have o2 : (c.Meta / 65536 = sv) = True := eq_true ho.2
                by_cases hk3 : kind = 33
                · have hrec : recOf kind c = ⟨kind, c.Node, c.Meta % 65536⟩ := by unfold recOf; rw [if_pos hk3]
                  have k3 : (kind = 33) = True := eq_true hk3
                  (have hF := an hp0 <| an h1 <| an h2 <| an h6 <| an h8 <| an h28 <| an h29 <| an h30 <| an hltI <| an hg' <| an encClaim.eq_def <| an t1 <| an t2 <| an o1 <| an o2 <| an k3 <| an e1 <| an not_true_eq_false <| @List.length_map.{0,0}; have hc := trivial; repeat' ((fail_if_success (first | refine wAt 14 ?_ | refine wAtL 14 ?_)); first | refine wK ?_ | refine wX ?_ | refine rR ?_ | refine rB ?_ ?_ <;> intro ht <;> try simp only [bbs] at ht | refine rG ?_ ?_ <;> intro hc | refine rZ ?_ | refine wQ ?_))
                  all_goals try exact False.elim kk
                  have hF := an hp0 <| an h8 <| an hb1 <| an n1 <| n2; have hc := trivial; (try refine wX ?_); refine rN (fun xx hx => ?_); generalize hq : aappend Tryz.prog _ _ _ _ = q at hx
                  obtain ⟨x', K2, rfl, hacc, hg2, hk2, ho2⟩ := app_rows hq el39 zero86 by86 int39 (sz := 3) rfl (by omega) (hr.ext ⟨by simp only [Hp.set_g, Hp.new_g]; omega, fun b hb => by simp only [Hp.set_h, Hp.new_h]; (repeat' split) <;> first | rfl | (exfalso; rename_i hb1 hb2; simp only [Hp.set_g, Hp.new_g] at hb1 hb2; omega) | (exfalso; rename_i hb1; simp only [Hp.set_g, Hp.new_g] at hb1; omega) | omega⟩) (m := 1) rfl (afirst_one _ _ (encRecord ⟨kind, c.Node, c.Meta % 65536⟩)) rfl (by omega) (by omega)
                  clear hq
                  have gg : 1 < K2.g := by simp only [Hp.set_g, Hp.new_g] at hg2; omega
                  have k0 : K2.h 0 = some [.v (.int .i64 0), .v (.slice none 0 0)] := (hk2 0 (by simp only [Hp.set_g, Hp.new_g]; omega) hoff.1).trans (by simp only [Hp.set_h, Hp.new_h, Hp.set_g, Hp.new_g, n1, n2, m1, m2, if_false]; exact hb0)
                  have k1 : K2.h 1 = some [.v (.int .i64 0), x] := (hk2 1 (by simp only [Hp.set_g, Hp.new_g]; omega) hoff.2).trans (by simp only [Hp.set_h, Hp.new_h, Hp.set_g, Hp.new_g, n1, n2, m1, m2, if_false]; exact hb1)
                  have o0 : Off 0 x' := ho2 0 (by simp only [Hp.set_g, Hp.new_g]; omega) hoff.1
                  have o1' : Off 1 x' := ho2 1 (by simp only [Hp.set_g, Hp.new_g]; omega) hoff.2
                  have xok := hacc.one
                  (subst hx; have hF := an hp0 <| an h8 <| an k1 <| an xok.1 <| xok.2; have hc := trivial; repeat' (first | refine rR ?_ | refine rG ?_ ?_ <;> intro hc | refine rZ ?_ | fail))
                  (have hF := an hp0 <| an h30 <| w4; have hc := trivial; repeat' (first | refine wK ?_ | refine wX ?_ | refine rR ?_ | refine rB ?_ ?_ <;> intro ht <;> try simp only [bbs] at ht | refine rG ?_ ?_ <;> intro hc | refine rZ ?_ | refine wQ ?_))
                  all_goals try exact False.elim kk
                  have hS := an h1 <| an h2 <| an h6 <| an h8 <| an h28 <| an h29 <| h30; refine ⟨_, Nat.sub_lt (by omega) Nat.one_pos, j + 1, x', by omega, sl, sl, sl, sl, sl, sl, sl, ?_⟩
                  refine ⟨?_, ⟨by rw [Hp.set_h, if_neg (by omega)]; exact k0, by rw [Hp.set_h, if_pos rfl], gg⟩, o0, o1'⟩
                  rw [hrt, List.map_append, List.flatten_append, List.length_append, hrec]
                  simpa using hacc.setOff o1' _
                · have hrec : recOf kind c = ⟨kind, c.Node, 0⟩ := by unfold recOf; rw [if_neg hk3]
                  (have hF := an hp0 <| an h1 <| an h2 <| an h6 <| an h8 <| an h28 <| an h29 <| an h30 <| an hltI <| an hg' <| an encClaim.eq_def <| an t1 <| an t2 <| an o1 <| an o2 <| an hk3 <| an e1 <| an not_true_eq_false <| @List.length_map.{0,0}; have hc := trivial; repeat' ((fail_if_success (first | refine wAt 14 ?_ | refine wAtL 14 ?_)); first | refine wK ?_ | refine wX ?_ | refine rR ?_ | refine rB ?_ ?_ <;> intro ht <;> try simp only [bbs] at ht | refine rG ?_ ?_ <;> intro hc | refine rZ ?_ | refine wQ ?_))
                  all_goals try exact False.elim kk
                  have hF := an hp0 <| an h8 <| an hb1 <| an n1 <| n2; have hc := trivial; (try refine wX ?_); refine rN (fun xx hx => ?_); generalize hq : aappend Tryz.prog _ _ _ _ = q at hx
                  obtain ⟨x', K2, rfl, hacc, hg2, hk2, ho2⟩ := app_rows hq el39 zero86 by86 int39 (sz := 3) rfl (by omega) (hr.ext ⟨by simp only [Hp.set_g, Hp.new_g]; omega, fun b hb => by simp only [Hp.set_h, Hp.new_h]; (repeat' split) <;> first | rfl | (exfalso; rename_i hb1 hb2; simp only [Hp.set_g, Hp.new_g] at hb1 hb2; omega) | (exfalso; rename_i hb1; simp only [Hp.set_g, Hp.new_g] at hb1; omega) | omega⟩) (m := 1) rfl (afirst_one _ _ (encRecord ⟨kind, c.Node, 0⟩)) rfl (by omega) (by omega)
                  clear hq
                  have gg : 1 < K2.g := by simp only [Hp.set_g, Hp.new_g] at hg2; omega
                  have k0 : K2.h 0 = some [.v (.int .i64 0), .v (.slice none 0 0)] := (hk2 0 (by simp only [Hp.set_g, Hp.new_g]; omega) hoff.1).trans (by simp only [Hp.set_h, Hp.new_h, Hp.set_g, Hp.new_g, n1, n2, m1, m2, if_false]; exact hb0)
                  have k1 : K2.h 1 = some [.v (.int .i64 0), x] := (hk2 1 (by simp only [Hp.set_g, Hp.new_g]; omega) hoff.2).trans (by simp only [Hp.set_h, Hp.new_h, Hp.set_g, Hp.new_g, n1, n2, m1, m2, if_false]; exact hb1)
                  have o0 : Off 0 x' := ho2 0 (by simp only [Hp.set_g, Hp.new_g]; omega) hoff.1
                  have o1' : Off 1 x' := ho2 1 (by simp only [Hp.set_g, Hp.new_g]; omega) hoff.2
                  have xok := hacc.one
                  (subst hx; have hF := an hp0 <| an h8 <| an k1 <| an xok.1 <| xok.2; have hc := trivial; repeat' (first | refine rR ?_ | refine rG ?_ ?_ <;> intro hc | refine rZ ?_ | fail))
                  (have hF := an hp0 <| an h30 <| w4; have hc := trivial; repeat' (first | refine wK ?_ | refine wX ?_ | refine rR ?_ | refine rB ?_ ?_ <;> intro ht <;> try simp only [bbs] at ht | refine rG ?_ ?_ <;> intro hc | refine rZ ?_ | refine wQ ?_))
                  all_goals try exact False.elim kk
                  have hS := an h1 <| an h2 <| an h6 <| an h8 <| an h28 <| an h29 <| h30; refine ⟨_, Nat.sub_lt (by omega) Nat.one_pos, j + 1, x', by omega, sl, sl, sl, sl, sl, sl, sl, ?_⟩
                  refine ⟨?_, ⟨by rw [Hp.set_h, if_neg (by omega)]; exact k0, by rw [Hp.set_h, if_pos rfl], gg⟩, o0, o1'⟩
                  rw [hrt, List.map_append, List.flatten_append, List.length_append, hrec]
                  simpa using hacc.setOff o1' _
              · rw [if_neg (by rw [off_no ho]; simp), List.append_nil] at hrt
                have hr' := hr.ext (H' := (H.new [.v (.int .i64 0), .v (.int .i64 0), .v (.int .i64 0), .v (.int .i64 0)]).set H.g (encClaim c)) ⟨by simp only [Hp.set_g, Hp.new_g]; omega, fun b hb => by simp only [Hp.set_h, Hp.new_h]; (repeat' split) <;> first | rfl | (exfalso; rename_i hb1 hb2; simp only [Hp.set_g, Hp.new_g] at hb1 hb2; omega) | (exfalso; rename_i hb1; simp only [Hp.set_g, Hp.new_g] at hb1; omega) | omega⟩
                (have hF := an hp0 <| an h1 <| an h2 <| an h6 <| an h8 <| an h28 <| an h29 <| an h30 <| an hltI <| an hg' <| an encClaim.eq_def <| an t1 <| an t2 <| an w4 <| @List.length_map.{0,0}; have hc := trivial; repeat' (first | refine wK ?_ | refine wX ?_ | refine rR ?_ | refine rB ?_ ?_ <;> intro ht <;> try simp only [bbs] at ht | refine rG ?_ ?_ <;> intro hc | refine rZ ?_ | refine wQ ?_))
                all_goals try exact False.elim kk
                all_goals first
                  | (exfalso; apply ho; (try simp only [bbs] at *); constructor <;> first | assumption | omega | (simp_all; done))
                  | skip
                all_goals (have hS := an h1 <| an h2 <| an h6 <| an h8 <| an h28 <| an h29 <| h30; refine ⟨_, Nat.sub_lt (by omega) Nat.one_pos, j + 1, x, by omega, sl, sl, sl, sl, sl, sl, sl, ?_⟩; rw [hrt]; exact ⟨hr', ⟨by rw [Hp.set_h, Hp.new_h, if_neg (by omega), if_neg (by omega)]; exact hb0, by rw [Hp.set_h, Hp.new_h, if_neg (by omega), if_neg (by omega)]; exact hb1, by simp only [Hp.set_g, Hp.new_g]; omega⟩, hoff⟩)
            · have hj' : j = l.length := by omega
              have hltI : ¬ ((j : Nat) : Int) < (l.length : Int) := by omega
              have xok := hr.one
              (have hF := an hp0 <| an h6 <| an h8 <| an h29 <| an h30 <| an hltI <| an hb0 <| an hb1 <| an xok.1 <| an xok.2 <| @List.length_map.{0,0}; have hc := trivial; repeat' (first | refine wK ?_ | refine wX ?_ | refine rR ?_ | refine rB ?_ ?_ <;> intro ht <;> try simp only [bbs] at ht | refine rG ?_ ?_ <;> intro hc | refine rZ ?_ | refine wQ ?_))
              all_goals try exact False.elim kk
              rw [hj', List.take_length] at hr
              exact dirty (d_rr (hr.setOff hoff.1 _) rfl)
          · exact ⟨0, .v (.slice none 0 0), by omega, rfl, rfl, rfl, rfl, rfl, rfl, rfl, RAcc.nil, ⟨rfl, rfl, by show 1 < 2; omega⟩, off_nil, off_nil⟩
        · have hk' : typB kind = false := by simpa using hk
          rw [rfR_c (c := 3) (by unfold rfC; rw [if_pos hf, if_neg (by simp [hk'])]) (by omega)]
          (have hF := an hp0 <| an hv <| an hf <| an c_iin <| an c_iisType <| an hs <| hk'; have hc := trivial; repeat' (first | refine wK ?_ | refine wX ?_ | refine rR ?_ | refine rB ?_ ?_ <;> intro ht <;> try simp only [bbs] at ht | refine rG ?_ ?_ <;> intro hc | refine rZ ?_ | refine wQ ?_))
          all_goals try exact False.elim kk
          all_goals exact dirty rfl
      · have hs' : inB sv 0 99 = false := by simpa using hs
        rw [rfR_c (c := 3) (by unfold rfC; rw [if_pos hf, if_neg (by simp [hs'])]) (by omega)]
        (have hF := an hp0 <| an hv <| an hf <| an c_iin <| hs'; have hc := trivial; repeat' (first | refine wK ?_ | refine wX ?_ | refine rR ?_ | refine rB ?_ ?_ <;> intro ht <;> try simp only [bbs] at ht | refine rG ?_ ?_ <;> intro hc | refine rZ ?_ | refine wQ ?_))
        all_goals try exact False.elim kk
        all_goals exact dirty rfl
    · rw [rfR_c (c := viewF l) (by unfold rfC; rw [if_neg hf]) hf]
      (have hF := an hp0 <| an hv <| hf; have hc := trivial; repeat' (first | refine wK ?_ | refine wX ?_ | refine rR ?_ | refine rB ?_ ?_ <;> intro ht <;> try simp only [bbs] at ht | refine rG ?_ ?_ <;> intro hc | refine rZ ?_ | refine wQ ?_))
      all_goals try exact False.elim kk
      all_goals exact dirty rfl
  obtain ⟨v, cl, rfl, hp⟩ := key
  exact ⟨cl, hp⟩
theorem c_iRecordsFor (l : List ClaimM) (hl : l.length ≤ 1048576) (sv kind : Int) : ∀ H, call Tryz.prog cfg0 0 19 [.lst false (l.map encClaim), .v (.int .i64 sv), .v (.int .i64 kind)] H = some (rfR l sv kind, H) := fun H => by
  obtain ⟨cl, hp⟩ := p_iRecordsFor l hl sv kind
  exact call_fz Tryz.func19 rfl ok_iRecordsFor rfl (by simp only [fz_cons, fz_nil, go_sem, and_self]) hp H

end
end Go.Proofs.YtnejoidfbgklbaaGreatDoor
namespace Go.Proofs.YtnejoidfbgklbaaGreatDoor
open Go Go.RowKit Go.Proofs.YtnejoidfbgklbaaGreatDoor.Eng
set_option linter.unusedSimpArgs false
set_option linter.unusedVariables false
set_option maxRecDepth 100000
noncomputable section
/-- The number that bytes are, the highest one first. -/
def rdN (l : List Int) : Int := l.foldl (fun n z => n * 256 + z) 0
theorem rdN_snoc (l : List Int) (z : Int) : rdN (l ++ [z]) = rdN l * 256 + z := by simp [rdN, List.foldl_append]
theorem rd_bound {l : List Int} (h : Eng.Bytes l) : ∀ j, j ≤ l.length → 0 ≤ rdN (l.take j) ∧ rdN (l.take j) < 256 ^ j := by
  intro j
  induction j with
  | zero => intro _; simp [rdN]
  | succ j ih =>
    intro hj
    obtain ⟨z, hz, -, hm⟩ := at_drop (show j < l.length by omega)
    have hzb := h z hm
    obtain ⟨h1, h2⟩ := ih (by omega)
    rw [at_take hz, rdN_snoc]
    have e : (256 : Int) ^ (j + 1) = 256 ^ j * 256 := Int.pow_succ 256 j
    rw [e]
    omega
theorem rd_step {l : List Int} (h : Eng.Bytes l) {j : Nat} {z : Int} (hz : l[j]? = some z) : rdN (l.take (j + 1)) = rdN (l.take j) * 256 + z ∧ rdN (l.take j) ≤ rdN (l.take (j + 1)) ∧ 0 ≤ z ∧ z ≤ 255 := by
  have hj := lt_of_get hz
  have hzb := h z (List.mem_of_getElem? hz)
  have hb := rd_bound h j (by omega)
  rw [at_take hz, rdN_snoc]
  omega
theorem rd_mono {l : List Int} (h : Eng.Bytes l) : ∀ d j, j + d ≤ l.length → rdN (l.take j) ≤ rdN (l.take (j + d)) := by
  intro d
  induction d with
  | zero => intro j _; exact Int.le_refl _
  | succ d ih =>
    intro j hj
    obtain ⟨z, hz, -, -⟩ := at_drop (show j + d < l.length by omega)
    exact Int.le_trans (ih j (by omega)) (by rw [← Nat.add_assoc]; exact (rd_step h hz).2.1)
theorem rd_le {l : List Int} (h : Eng.Bytes l) {j : Nat} (hj : j ≤ l.length) : rdN (l.take j) ≤ rdN l := by
  have := rd_mono h (l.length - j) j (by omega)
  rwa [show j + (l.length - j) = l.length by omega, List.take_length] at this
theorem rdN_pos {l : List Int} (h : Eng.Bytes l) : 0 ≤ rdN l := by
  have := rd_le h (Nat.zero_le _)
  simpa [rdN] using this
theorem bytes_sub {l : List Int} (h : Eng.Bytes l) (a s : Nat) : Eng.Bytes ((l.drop a).take s) := fun z hz => h z (List.mem_of_mem_drop (List.mem_of_mem_take hz))
theorem sub_at {l : List Int} {a s j : Nat} {z : Int} (hj : j < s) (h : ((l.drop a).take s)[j]? = some z) : l[a + j]? = some z := by
  rw [List.getElem?_take, if_pos hj, List.getElem?_drop] at h; exact h
theorem shl8 {n : Int} (h0 : 0 ≤ n) (h1 : n < 72057594037927936) : IntKind.wrap .u64 (n * 2 ^ min (Int.toNat 8) 64) = n * 256 := by
  have e : min (Int.toNat 8) 64 = 8 := by decide
  rw [e]
  simp [IntKind.wrap, IntKind.bits, IntKind.signed]; omega
theorem or8 {n z : Int} (h0 : 0 ≤ n) (h1 : n < 72057594037927936) (hz : 0 ≤ z ∧ z ≤ 255) : IntKind.wrap .u64 (((BitVec.ofInt 64 (n * 256) ||| BitVec.ofInt 64 z).toNat : Nat) : Int) = n * 256 + z := by
  obtain ⟨m, rfl⟩ : ∃ m : Nat, n = m := ⟨n.toNat, by omega⟩
  obtain ⟨k, rfl⟩ : ∃ k : Nat, z = k := ⟨z.toNat, by omega⟩
  have e1 : (BitVec.ofInt 64 ((m : Int) * 256)).toNat = m <<< 8 := by
    rw [show ((m : Int) * 256) = ((m * 256 : Nat) : Int) by omega, BitVec.ofInt_natCast, BitVec.toNat_ofNat, Nat.shiftLeft_eq]
    exact Nat.mod_eq_of_lt (by omega)
  have e2 : (BitVec.ofInt 64 (k : Int)).toNat = k := by
    rw [BitVec.ofInt_natCast, BitVec.toNat_ofNat]
    exact Nat.mod_eq_of_lt (by omega)
  rw [BitVec.toNat_or, e1, e2, ← Nat.shiftLeft_add_eq_or_of_lt (show k < 2 ^ 8 by omega) m, Nat.shiftLeft_eq]
  simp [IntKind.wrap, IntKind.bits, IntKind.signed]; omega
theorem ok_sl1Read : fnOk Tryz.prog cfg0 53 Tryz.f53 = true := by kernel_rfl
theorem p_sl1Read (l : List Int) (a m : Nat) (a' m' : Int) (ha' : a' = a) (hs' : m' = m) (hb : Eng.Bytes l) (has : a + m ≤ l.length) (hl : l.length ≤ 1048576) (hv : rdN ((l.drop a).take m) < 9223372036854775808) : pure Tryz.prog cfg0 53 Tryz.f53 [bytesL l, .v (.int .i64 a'), .v (.int .i64 m')] = some (.v (.int .i64 (rdN ((l.drop a).take m))), true) := by
  refine pure_wp (rs := [.tmp 6]) rfl rfl ?_
  have hp0 : ∀ b, cfg0.pol 53 b = 0 := fun b => rfl
  have hw := bytes_sub hb a m
  have hwl : ((l.drop a).take m).length = m := by simp; omega
  (have hF := trivial; have hc := trivial; repeat' (first | refine wK ?_ | refine wX ?_ | refine rR ?_ | refine rB ?_ ?_ <;> intro ht <;> try simp only [bbs] at ht | refine rG ?_ ?_ <;> intro hc | refine rZ ?_ | refine wQ ?_))
  refine wLoop (fun k s => ∃ (j : Nat), j + k = m ∧ s.1 0 = bytesL l ∧ s.1 1 = .v (.int .i64 a') ∧ s.1 2 = .v (.int .i64 m') ∧ s.1 7 = .v (.int .i64 (rdN (((l.drop a).take m).take j))) ∧ s.1 8 = .v (.int .i64 (j : Nat)) ∧ True) (fun k s hI => ?_) (m) _ ?_
  · obtain ⟨e, H⟩ := s
    obtain ⟨j, hj, h0, h1, h2, h7, h8, -⟩ := hI
    simp only at h0 h1 h2 h7 h8
    (have hF := an h2 <| h8; have hc := trivial; repeat' (first | refine wK ?_ | refine wX ?_ | refine rR ?_ | refine rB ?_ ?_ <;> intro ht <;> try simp only [bbs] at ht | refine rG ?_ ?_ <;> intro hc | refine rZ ?_ | refine wQ ?_))
    · have hjs : j < m := by omega
      obtain ⟨z, hz, -, -⟩ := at_drop (l := (l.drop a).take m) (j := j) (by omega)
      obtain ⟨r1, r2, r3, r4⟩ := rd_step hw hz
      have hz3 := map_at (f := fun z => [AV.v (.int .u8 z)]) (sub_at hjs hz)
      have r5 := rd_le hw (j := j + 1) (by omega)
      have r6 := (rd_bound hw j (by omega)).1
      have w1 : IntKind.wrap .i64 (rdN (((l.drop a).take m).take j) * 256) = rdN (((l.drop a).take m).take j) * 256 := wrap_i64 (by omega) (by omega)
      have w2 : IntKind.wrap .i64 (rdN (((l.drop a).take m).take j) * 256 + z) = rdN (((l.drop a).take m).take (j + 1)) := by rw [r1]; exact wrap_i64 (by omega) (by omega)
      have w3 : IntKind.wrap .i64 z = z := wrap_i64 (by omega) (by omega)
      have w4 : IntKind.wrap .i64 (a' + (j : Int)) = ((a + j : Nat) : Int) := by rw [wrap_i64 (by omega) (by omega)]; omega
      (have hF := an h0 <| an h1 <| an h7 <| an h8 <| an hz3 <| an w1 <| an w2 <| an w3 <| an w4 <| an bytesL.eq_def <| an cell.eq_def <| (wrap_succ (show j < 9223372036854775807 by omega)); have hc := trivial; repeat' (first | refine wK ?_ | refine wX ?_ | refine rR ?_ | refine rB ?_ ?_ <;> intro ht <;> try simp only [bbs] at ht | refine rG ?_ ?_ <;> intro hc | refine rZ ?_ | refine wQ ?_))
      have hS := an h0 <| an h1 <| an h2 <| an h7 <| h8; refine ⟨_, Nat.sub_lt (by omega) Nat.one_pos, j + 1, by omega, sl, sl, sl, sl, sl, trivial⟩
    · rw [h7, show j = m by omega, List.take_take, Nat.min_self]
      exact ⟨rfl, rfl⟩
  · refine ⟨0, by omega, rfl, rfl, rfl, rfl, rfl, trivial⟩
theorem c_sl1Read (l : List Int) (a m : Nat) (a' m' : Int) (ha' : a' = a) (hs' : m' = m) (hb : Eng.Bytes l) (has : a + m ≤ l.length) (hl : l.length ≤ 1048576) (hv : rdN ((l.drop a).take m) < 9223372036854775808) : ∀ H, call Tryz.prog cfg0 0 53 [bytesL l, .v (.int .i64 a'), .v (.int .i64 m')] H = some (.v (.int .i64 (rdN ((l.drop a).take m))), H) :=
  call_fz Tryz.func53 rfl ok_sl1Read rfl (by simp only [fz_cons, fz_nil, go_sem, and_self]) (p_sl1Read l a m a' m' ha' hs' hb has hl hv)

theorem aslice_bytes {P : Program} {H : Hp} {e : Env} {t el : TypeId} {l : List Int} {lo hi : Operand} {a b : Nat} (hu : P.underlying t = some (.slice el)) (hz : szOf P el = some 1) (ha : natOf (opd e lo) = some a) (hb : natOf (opd e hi) = some b) (h1 : a ≤ b) (h2 : b ≤ l.length) :
    aslice P H e t (bytesL l) (some lo) (some hi) none = some (bytesL ((l.drop a).take (b - a))) := by
  have h3 : (l.map fun z => [cell z]).all (fun c => decide (c.length = 1)) = true := by simp
  simp only [aslice, hu, bytesL, hz, Option.bind_some, bound, ha, hb, h3, List.length_map, h1, h2, and_self, if_true, Bool.false_and, List.map_drop, List.map_take]
def readWord (l : List Int) (a m : Nat) : Int × Int := if a + m ≤ l.length then (if rdN ((l.drop a).take m) < 9223372036854775808 then (0, rdN ((l.drop a).take m)) else (1, 0)) else (3, 0)
theorem ok_iReadWord : fnOk Tryz.prog cfg0 70 Tryz.f70 = true := by kernel_rfl
theorem p_iReadWord (l : List Int) (a m : Nat) (a' m' : Int) (ha' : a' = a) (hm' : m' = m) (hb : Eng.Bytes l) (hm1 : 1 ≤ m) (hm8 : m ≤ 8) (hl : l.length ≤ 1048576) (hab : a ≤ 1048576) : pure Tryz.prog cfg0 70 Tryz.f70 [bytesL l, .v (.int .i64 a'), .v (.int .i64 m')] = some (.agg [.v (.int .i64 (readWord l a m).1), .v (.int .i64 (readWord l a m).2)], true) := by
  refine pure_wp (rs := [.cell 6 45]) rfl rfl ?_
  have hp0 : ∀ b, cfg0.pol 70 b = 0 := fun b => rfl
  have hw := bytes_sub hb a m
  have hib : inB m' 1 8 = true := inB_t.2 (by omega)
  have hsub : IntKind.wrap .i64 ((l.length : Int) - a') = (l.length : Int) - a' := wrap_i64 (by omega) (by omega)
  by_cases has : a + m ≤ l.length
  rotate_left
  · have hr : readWord l a m = (3, 0) := by unfold readWord; rw [if_neg has]
    rw [hr]
    (have hF := an hp0 <| an c_iin <| an hib <| an hsub <| c_inoInt; have hc := trivial; repeat' (first | refine wK ?_ | refine wX ?_ | refine rR ?_ | refine rB ?_ ?_ <;> intro ht <;> try simp only [bbs] at ht <;> (try (exfalso; omega)) | refine rG ?_ ?_ <;> intro hc | refine rZ ?_ | refine wQ ?_))
    all_goals exact ⟨rfl, rfl⟩
  have hwl : ((l.drop a).take m).length = m := by simp; omega
  have hadd : IntKind.wrap .i64 (a' + m') = a' + m' := wrap_i64 (by omega) (by omega)
  have hr : readWord l a m = if rdN ((l.drop a).take m) < 9223372036854775808 then (0, rdN ((l.drop a).take m)) else (1, 0) := by unfold readWord; rw [if_pos has]
  rw [hr]
  have hna : natOf (.v (.int .i64 a')) = some a := by rw [ha']; exact natOf_nat _ _
  have hnb : natOf (.v (.int .i64 (a' + m'))) = some (a + m) := by rw [ha', hm', show (a : Int) + m = ((a + m : Nat) : Int) by omega]; exact natOf_nat _ _
  (have hF := an hp0 <| an c_iin <| an hib <| an hsub <| c_inoInt; have hc := trivial; repeat' (first | refine wK ?_ | refine wX ?_ | refine rR ?_ | refine rB ?_ ?_ <;> intro ht <;> try simp only [bbs] at ht <;> (try (exfalso; omega)) | refine rG ?_ ?_ <;> intro hc | refine rZ ?_ | refine wQ ?_))
  any_goals (exfalso; (try simp only [bbs] at *); omega; done)
  have hF := hadd; have hc := trivial; (try refine wX ?_); refine rN (fun xx hx => ?_); generalize hq : aslice Tryz.prog _ _ _ _ _ _ _ = q at hx
  have hq2 := hq.symm.trans (aslice_bytes (a := a) (b := a + m) u22 sz5 (by simp only [Nat.reduceBEq, go_sem, Nat.reduceAdd, Nat.reduceMul, Nat.reduceSub, Nat.reduceEqDiff, Nat.reduceLT, Nat.reduceLeDiff, Int.reduceEq, Int.reduceLT, Int.reduceLE, reduceIte, aresults, aresult, hna]) (by simp only [Nat.reduceBEq, go_sem, Nat.reduceAdd, Nat.reduceMul, Nat.reduceSub, Nat.reduceEqDiff, Nat.reduceLT, Nat.reduceLeDiff, Int.reduceEq, Int.reduceLT, Int.reduceLE, reduceIte, aresults, aresult, hnb]) (by omega) has)
  rw [show a + m - a = m by omega] at hq2
  subst hq2
  (subst hx; have hF := trivial; have hc := trivial; repeat' (first | refine rR ?_ | refine rG ?_ ?_ <;> intro hc | refine rZ ?_ | fail))
  (have hF := trivial; have hc := trivial; repeat' (first | refine wK ?_ | refine wX ?_ | refine rR ?_ | refine rB ?_ ?_ <;> intro ht <;> try simp only [bbs] at ht | refine rG ?_ ?_ <;> intro hc | refine rZ ?_ | refine wQ ?_))
  refine wLoop (fun k s => ∃ (j : Nat), j + k = m ∧ s.1 6 = .ptr 0 0 ∧ s.1 7 = .v (.int .u64 (rdN (((l.drop a).take m).take j))) ∧ s.1 37 = bytesL ((l.drop a).take m) ∧ s.1 38 = .v (.int .i64 (((l.drop a).take m).length : Nat)) ∧ s.1 39 = .v (.int .i64 (j : Nat)) ∧ (s.2.h 0 = some [.v (.int .i64 0), .v (.int .i64 0)])) (fun k s hI => ?_) (m) _ ?_
  · obtain ⟨e, H⟩ := s
    obtain ⟨j, hj, h6, h7, h37, h38, h39, hz0⟩ := hI
    simp only at h6 h7 h37 h38 h39 hz0
    (have hF := an h37 <| an h38 <| h39; have hc := trivial; repeat' (first | refine wK ?_ | refine wX ?_ | refine rR ?_ | refine rB ?_ ?_ <;> intro ht <;> try simp only [bbs] at ht | refine rG ?_ ?_ <;> intro hc | refine rZ ?_ | refine wQ ?_))
    · have hjs : j < m := by omega
      obtain ⟨z, hz, -, -⟩ := at_drop (l := (l.drop a).take m) (j := j) (by omega)
      obtain ⟨r1, r2, r3, r4⟩ := rd_step hw hz
      have hz3 := map_at (f := fun z => [AV.v (.int .u8 z)]) hz
      have r6 := rd_bound hw j (by omega)
      have hp : (256 : Int) ^ j ≤ 72057594037927936 := by
        have h7 : j ≤ 7 := by omega
        match j, h7 with
        | 0, _ => decide
        | 1, _ => decide
        | 2, _ => decide
        | 3, _ => decide
        | 4, _ => decide
        | 5, _ => decide
        | 6, _ => decide
        | 7, _ => decide
      have w1 := shl8 r6.1 (by omega)
      have w2 := or8 r6.1 (by omega) ⟨r3, r4⟩
      rw [← r1] at w2
      have w3 : IntKind.wrap .u64 z = z := by simp [IntKind.wrap, IntKind.bits, IntKind.signed]; omega
      (have hF := an h6 <| an h7 <| an h37 <| an h39 <| an hz3 <| an w1 <| an w3 <| an bytesL.eq_def <| an cell.eq_def <| (wrap_succ (show j < 9223372036854775807 by omega)); have hc := trivial; repeat' (first | refine wK ?_ | refine wX ?_ | refine rR ?_ | refine rB ?_ ?_ <;> intro ht <;> try simp only [bbs] at ht | refine rG ?_ ?_ <;> intro hc | refine rZ ?_ | refine wQ ?_))
      refine ⟨_, Nat.sub_lt (by omega) Nat.one_pos, j + 1, by omega, by simp only [upd_eq, Nat.reduceEqDiff, if_false, h6], ?_, by simp only [upd_eq, Nat.reduceEqDiff, if_false, h37], by simp only [upd_eq, Nat.reduceEqDiff, if_false, h38], by simp only [upd_eq, Nat.reduceEqDiff, if_true, h39], hz0⟩
      simp only [upd_eq, Nat.reduceEqDiff, if_true, if_false]
      exact congrArg (fun z => AV.v (Value.int .u64 z)) w2
    · rw [show j = m by omega, List.take_take, Nat.min_self] at h7
      by_cases hv : rdN ((l.drop a).take m) < 9223372036854775808
      · have hwv : IntKind.wrap .i64 (rdN ((l.drop a).take m)) = rdN ((l.drop a).take m) := wrap_i64 (by have := rdN_pos hw; omega) (by omega)
        (have hF := an h6 <| an h7 <| an hz0 <| an hwv <| an hp0 <| an c_inoInt <| (aconv_int u124 u2); have hc := trivial; repeat' (first | refine wK ?_ | refine wX ?_ | refine rR ?_ | refine rB ?_ ?_ <;> intro ht <;> try simp only [bbs] at ht <;> (try (exfalso; omega)) | refine rG ?_ ?_ <;> intro hc | refine rZ ?_ | refine wQ ?_))
        simp only [hv, if_true]
        exact ⟨rfl, rfl⟩
      · (have hF := an h6 <| an h7 <| an hz0 <| an hp0 <| c_inoInt; have hc := trivial; repeat' (first | refine wK ?_ | refine wX ?_ | refine rR ?_ | refine rB ?_ ?_ <;> intro ht <;> try simp only [bbs] at ht <;> (try (exfalso; omega)) | refine rG ?_ ?_ <;> intro hc | refine rZ ?_ | refine wQ ?_))
        simp only [hv, if_false]
        exact ⟨rfl, rfl⟩
  · refine ⟨0, by omega, rfl, rfl, rfl, rfl, rfl, ?_⟩; rfl
theorem c_iReadWord (l : List Int) (a m : Nat) (a' m' : Int) (ha' : a' = a) (hm' : m' = m) (hb : Eng.Bytes l) (hm1 : 1 ≤ m) (hm8 : m ≤ 8) (hl : l.length ≤ 1048576) (hab : a ≤ 1048576) : ∀ H, call Tryz.prog cfg0 0 70 [bytesL l, .v (.int .i64 a'), .v (.int .i64 m')] H = some (.agg [.v (.int .i64 (readWord l a m).1), .v (.int .i64 (readWord l a m).2)], H) :=
  call_fz Tryz.func70 rfl ok_iReadWord rfl (by simp only [fz_cons, fz_nil, go_sem, and_self]) (p_iReadWord l a m a' m' ha' hm' hb hm1 hm8 hl hab)

end
end Go.Proofs.YtnejoidfbgklbaaGreatDoor
