/- The plain law of answers: what is answered is read back. Contracts: queries packed, whatever they are; both sides. -/
import Derived.Test.YtnejoidfbgklbaaGreatDoorRA6
namespace Go.Proofs.YtnejoidfbgklbaaGreatDoor
open Go Go.RowKit Go.Proofs.YtnejoidfbgklbaaGreatDoor.Eng
set_option linter.unusedSimpArgs false
set_option linter.unusedVariables false
noncomputable section
theorem rec_get {A R : List Int} {r : RecordM} (i : Nat) : (A ++ (recB r ++ R))[A.length + i]? = (recB r ++ R)[i]? := by
  rw [List.getElem?_append_right (by omega)]; congr 1; omega
theorem word2E (n : Int) : wordL n 2 = [n / 256 % 256, n % 256] := by
  simp only [wordL_succ, wordL_zero, Int.reducePow]; simp
/-- A record that was written is read back. -/
theorem rec_back {A R : List Int} {r : RecordM} (ho : recOk r) (hz : r.Type_ = 1 → r.Port = 0) (hB : Eng.Bytes (A ++ (recB r ++ R))) : recAt (A ++ (recB r ++ R)) A.length r.Type_ = r ∧ okAt (A ++ (recB r ++ R)) A.length r.Type_ = true := by
  obtain ⟨ht, hn, hp⟩ := ho
  have e1 : recAt (A ++ (recB r ++ R)) A.length r.Type_ = r := by
    unfold recAt
    rcases ht with h | h
    · rw [if_pos h]
      have g : (A ++ (recB r ++ R))[A.length + 15]? = some r.Node := by rw [rec_get]; unfold recB; rw [if_pos h]; rfl
      rw [num1_at hB g]
      have hz1 := hz h
      cases r
      simp only at h hz1 ⊢
      subst h; subst hz1; rfl
    · rw [if_neg (by omega)]
      have g : (A ++ (recB r ++ R))[A.length + 20]? = some (48 + r.Node) := by rw [rec_get]; unfold recB; rw [if_neg (by omega), word2E]; rfl
      have g2 : ((A ++ (recB r ++ R)).drop (A.length + 16)).take 2 = [r.Port / 256 % 256, r.Port % 256] := by
        rw [← List.drop_drop, List.drop_left]; unfold recB; rw [if_neg (by omega), word2E]; rfl
      rw [num1_at hB g, num2n_at hB g2]
      cases r
      simp only at h hp ⊢
      subst h
      congr 1 <;> omega
  refine ⟨e1, ?_⟩
  unfold okAt
  rw [e1, inB_t.2 hn, Bool.true_and]
  unfold preB
  rw [List.drop_left, List.take_left' rfl]
  simp
/-- Nodes rise from m on. -/
def incR : Int → List RecordM → Prop
  | _, [] => True
  | m, r :: rs => m < r.Node ∧ incR r.Node rs
theorem rd_back {t : Int} (htt : typB t = true) : ∀ (rs acc : List RecordM) (A : List Int) (f : Nat), (∀ r ∈ rs, recOk r ∧ r.Type_ = t ∧ (r.Type_ = 1 → r.Port = 0)) → incR (lastN acc) rs → rs.length < f → Eng.Bytes (A ++ (rs.map recB).flatten) →
    rdR (A ++ (rs.map recB).flatten) t f A.length acc = some (acc ++ rs) := by
  intro rs
  induction rs with
  | nil =>
    intro acc A f _ _ hf _
    obtain ⟨f, rfl⟩ : ∃ g, f = g + 1 := ⟨f - 1, by simp at hf; omega⟩
    rw [rdR, if_pos (by simp)]; simp
  | cons r rs ih =>
    intro acc A f hro hin hf hB
    obtain ⟨f, rfl⟩ : ∃ g, f = g + 1 := ⟨f - 1, by omega⟩
    obtain ⟨h1, h2, h3⟩ := hro r (by simp)
    have e : A ++ ((r :: rs).map recB).flatten = A ++ (recB r ++ (rs.map recB).flatten) := by simp
    have hB2 := hB
    rw [e] at hB
    obtain ⟨b1, b2⟩ := rec_back h1 h3 hB
    rw [h2] at b1 b2
    have hl : 1 ≤ (recB r).length := by rw [recB_len]; split <;> omega
    rw [e, rdR, if_neg (by simp only [List.length_append]; omega), b1, if_pos ⟨htt, b2, hin.1⟩]
    have e2 : A ++ (recB r ++ (rs.map recB).flatten) = (A ++ recB r) ++ (rs.map recB).flatten := by rw [List.append_assoc]
    have := ih (acc ++ [r]) (A ++ recB r) f (fun x hx => hro x (by simp [hx])) (by rw [lastN_snoc]; exact hin.2) (by simp at hf; omega) (by rw [← e2]; exact hB)
    rw [e2, show A.length + (recB r).length = (A ++ recB r).length by simp, this]
    simp
theorem inc_recs : ∀ (vw : List ClaimM) (m sv t : Int), ascC vw → (∀ c, vw.head? = some c → m < c.Node) → incR m (recsL vw sv t) := by
  intro vw
  induction vw with
  | nil => intro m sv t _ _; exact trivial
  | cons c vw ih =>
    intro m sv t ha hm
    have ha2 : ascC vw := fun i x y h1 h2 => ha (i + 1) x y (by simpa using h1) (by simpa using h2)
    have hc : ∀ d, vw.head? = some d → c.Node < d.Node := fun d hd => ha 0 c d (by simp) (by cases vw with | nil => simp at hd | cons z w => simpa using hd)
    have hmc := hm c rfl
    unfold recsL
    by_cases ho : offB sv c = true
    · rw [List.filter_cons_of_pos ho, List.map_cons]
      exact ⟨hmc, ih c.Node sv t ha2 hc⟩
    · rw [List.filter_cons_of_neg ho]
      exact ih m sv t ha2 fun d hd => Int.lt_trans hmc (hc d hd)
theorem inc_take {rs : List RecordM} : ∀ {m : Int} (n : Nat), incR m rs → incR m (rs.take n) := by
  induction rs with
  | nil => intro m n h; simpa using h
  | cons r rs ih =>
    intro m n h
    cases n with
    | zero => exact trivial
    | succ n => exact ⟨h.1, ih n h.2⟩
/-- Behind the first n there is one more: the last of them is no last node. -/
theorem inc_more {rs : List RecordM} : ∀ {m : Int} {n : Nat}, incR m rs → (∀ r ∈ rs, 0 ≤ r.Node ∧ r.Node ≤ 3) → n < rs.length → m < 3 → lastN (rs.take n) < 3 := by
  induction rs with
  | nil => intro m n _ _ h; simp at h
  | cons r rs ih =>
    intro m n h hn hl hm
    cases n with
    | zero => simp [lastN]
    | succ n =>
      have hl' : n < rs.length := by simpa using hl
      have hr3 : r.Node < 3 := by
        cases rs with
        | nil => simp at hl'
        | cons s rs => have h1 := h.2.1; have := (hn s (by simp)).2; omega
      rw [List.take_succ_cons]
      cases n with
      | zero => simp [lastN]; exact hr3
      | succ n =>
        have := ih h.2 (fun x hx => hn x (by simp [hx])) hl' hr3
        cases rs with
        | nil => simp at hl'
        | cons s rs =>
          rw [List.take_succ_cons] at this ⊢
          unfold lastN at this ⊢
          rw [List.getLast?_cons_cons]; exact this
theorem findB_is {f : Nat → List Int} {mo : Int} : ∀ (N : Nat) {o : List Int}, findB f mo N = some o → ∃ n, n < N ∧ o = f n ∧ (o.length : Int) ≤ mo ∧ ∀ k, n < k → k < N → mo < ((f k).length : Int) := by
  intro N
  induction N with
  | zero => intro o h; simp [findB] at h
  | succ N ih =>
    intro o h
    rw [findB] at h
    split at h
    · rename_i hle
      obtain rfl := Option.some.inj h
      exact ⟨N, by omega, rfl, hle, fun k h1 h2 => by omega⟩
    · rename_i hle
      obtain ⟨n, h1, h2, h3, h4⟩ := ih h
      refine ⟨n, by omega, h2, h3, fun k k1 k2 => ?_⟩
      by_cases hk : k = N
      · subst hk; omega
      · exact h4 k k1 (by omega)
theorem viewF_asc {l : List ClaimM} (h : viewF l = 0) : ascC l := by
  unfold viewF at h
  split at h
  · omega
  split at h
  · split at h
    · assumption
    · omega
  · omega
theorem viewF_head {l : List ClaimM} (h : viewF l = 0) : ∀ c, l.head? = some c → -1 < c.Node := fun c hc => by
  have hcf := (viewF_ok h).2 c (List.mem_of_mem_head? hc)
  unfold claimFault claimOk at hcf
  split at hcf
  · rename_i h1
    simp only [Bool.and_eq_true, inB_t] at h1
    omega
  · omega
theorem recs_ty {vw : List ClaimM} {sv t : Int} : ∀ r ∈ recsL vw sv t, r.Type_ = t ∧ (r.Type_ = 1 → r.Port = 0) := by
  intro r hr
  obtain ⟨c, -, rfl⟩ := List.mem_map.1 hr
  refine ⟨rfl, fun h => ?_⟩
  have h1 : t = 1 := h
  simp only [recOf]; rw [if_neg (by omega)]
/-- An answer is read back. -/
theorem ans_read {vw : List ClaimM} {l B : List Int} {mo : Int} (hb : Eng.Bytes l) (hv : viewF vw = 0) (hmo : inB mo 60 300 = true) (h12 : 12 ≤ l.length) (h : aqO vw l mo = some B) :
    ∃ n, n ≤ (rsQ vw l).length ∧ aR B = some ((rsQ vw l).take n) ∧ num1 B 3 = stQ l ∧ ctA B = decide (n < (rsQ vw l).length) ∧ B.take 2 = l.take 2 ∧ (B.length : Int) ≤ mo ∧ 12 ≤ B.length ∧ Eng.Bytes B := by
  obtain ⟨n, hn, hB, hle, hmax⟩ := findB_is _ h
  obtain ⟨hrl, hro⟩ := rsQ_ok hb hv
  have hst := stQ_b l
  have hqw : Eng.Bytes (quQ l) := by
    rw [qu_is]; split
    · intro z hz; simp at hz
    · exact bdrop hb 12
  have hl2 : (l.take 2).length = 2 := by simp; omega
  have hBb : Eng.Bytes B := by
    rw [hB]; exact ansB_bytes (fun z hz => hb z (List.mem_of_mem_take hz)) hqw hst fun r hr => hro r (List.mem_of_mem_take hr)
  have hB2 : B.take 2 = l.take 2 := by rw [hB]; unfold ansN ansB; rw [List.take_left' hl2]
  have hBl : B.length = 12 + (quQ l).length + (((rsQ vw l).take n).map recB).flatten.length := by rw [hB]; exact ans_len (by omega)
  have hB12 : 12 ≤ B.length := by omega
  have hself : ansB (B.take 2) (stQ l) (decide (n < (rsQ vw l).length)) (quQ l) ((rsQ vw l).take n) = B := by rw [hB2, hB]; rfl
  have hct := chk_cut hBb (by omega) hself
  have h3 : num1 B 3 = stQ l := by
    obtain ⟨a, b, e2⟩ := take_two (l := l) (by omega)
    have g : B[3]? = some (stQ l % 256) := by rw [hB]; unfold ansN ansB; rw [e2]; rfl
    rw [num1_at hBb g]; omega
  refine ⟨n, by omega, ?_, h3, hct, hB2, hle, hB12, hBb⟩
  obtain ⟨i0, t0, ls0, -, -, hz0, hz1⟩ := so_is (vw := vw) hb
  by_cases hs1 : stQ l = 1
  · have hall : rsQ vw l = [] := hz1 (by omega)
    have hqe : quQ l = [] := by rw [qu_is, if_pos hs1]
    rw [hall, hqe, hs1] at hself
    unfold aR
    rw [if_pos (h3.trans hs1), hall]
    unfold chk
    simp only [List.take_nil, List.length_nil, Nat.not_lt_zero, decide_false] at hself ⊢
    rw [if_pos hself]
  cases hqf : qF l with
  | none => exact absurd (show stQ l = 1 by unfold stQ; rw [hqf]) hs1
  | some z =>
    obtain ⟨i, ls, t⟩ := z
    obtain ⟨hk, hi, htt, -, -⟩ := qF_ok hb hqf
    have hstF : stQ l = stF ls t := by unfold stQ; rw [hqf]
    have hpk : packB i ls t = l := by
      have ha := hqf
      unfold qF at ha
      split at ha
      · unfold askF at ha
        split at ha
        · rename_i hz
          simp only [Option.some.injEq, Prod.mk.injEq] at ha
          obtain ⟨rfl, rfl, rfl⟩ := ha
          exact hz.2
        · simp at ha
      · simp at ha
    have hw : quQ l = (ls.map lab1).flatten ++ 0 :: (wordL t 2 ++ [0, 1]) := by
      rw [qu_is, if_neg hs1, ← hpk]
      have e : packB i ls t = (wordL i 2 ++ [1, 0, 0, 1, 0, 0, 0, 0, 0, 0]) ++ ((ls.map lab1).flatten ++ 0 :: (wordL t 2 ++ [0, 1])) := by simp [packB, encN, List.append_assoc]
      rw [e, List.drop_left' (by simp [wordL_len])]
    have hqL : (quQ l).length = (ls.map lab1).flatten.length + 5 := by rw [hw]; simp [wordL_len]
    have hd12 : quQ l = l.drop 12 := by rw [qu_is, if_neg hs1]
    obtain ⟨hd, hhd⟩ : ∃ hd : List Int, hd.length = 12 ∧ B = hd ++ (quQ l ++ (((rsQ vw l).take n).map recB).flatten) := by
      refine ⟨l.take 2 ++ ([if decide (n < (rsQ vw l).length) = true then 134 else 132, stQ l % 256] ++ ([0, if stQ l = 1 then 0 else 1] ++ wordL ((rsQ vw l).take n).length 2 ++ [0, 0, 0, 0])), by simp [wordL_len]; omega, ?_⟩
      rw [hB]; unfold ansN ansB; simp [List.append_assoc]
    obtain ⟨hdl, hBe⟩ := hhd
    have hnm : nmR B 12 12 0 [] 0 = (0, ls, (12 : Int) + ((ls.map lab1).flatten.length : Int) + 1) := by
      have := nm_enc ls [] hd (wordL t 2 ++ [0, 1] ++ (((rsQ vw l).take n).map recB).flatten) 12 0 (by simpa using hk) (by have := hk.1; omega)
      rw [hdl] at this
      rw [hBe, hw]
      simpa [List.append_assoc] using this
    have hnmo : nmO B := by unfold nmO; rw [hnm]; exact ⟨rfl, by simp only; omega⟩
    have hend : endA B = 12 + (quQ l).length := by unfold endA; rw [hnm]; simp only; omega
    have hquA : quA B = quQ l := by
      unfold quA
      rw [hend, hBe, List.drop_left' hdl, show 12 + (quQ l).length - 12 = (quQ l).length by omega, List.take_left' rfl]
    have hqyA : qyA B = l := by
      unfold qyA
      rw [hB2, hquA, hd12]
      have key : ∀ L : List Int, packB i ls t = L → L.take 2 ++ [1, 0, 0, 1, 0, 0, 0, 0, 0, 0] ++ L.drop 12 = L := by
        rintro L rfl
        have e : packB i ls t = wordL i 2 ++ ([1, 0, 0, 1, 0, 0, 0, 0, 0, 0] ++ (encN ls ++ wordL t 2 ++ [0, 1])) := by simp [packB, List.append_assoc]
        have e2 : List.drop 12 (packB i ls t) = encN ls ++ wordL t 2 ++ [0, 1] := by rw [e, ← List.append_assoc, List.drop_left' (by simp [wordL_len])]
        have e3 : List.take 2 (packB i ls t) = wordL i 2 := by rw [e, List.take_left' (by simp [wordL_len])]
        rw [e2, e3]
        simp [packB, List.append_assoc]
      exact key l hpk
    have hselA : ansB (B.take 2) (stF ls t) (decide (n < (rsQ vw l).length)) (quA B) ((rsQ vw l).take n) = B := by rw [← hstF, hquA]; exact hself
    unfold aR
    rw [if_neg (by rw [h3]; exact hs1), if_pos hnmo, hqyA, hqf]
    simp only
    rw [if_pos (by rw [h3, hstF])]
    by_cases hs0 : stF ls t = 0
    · have hall : rsQ vw l = recsL vw (svOf ls) t := by unfold rsQ; rw [hqf]; exact if_pos hs0
      have htb : typB t = true := by
        unfold stF at hs0
        split at hs0
        · omega
        · split at hs0
          · assumption
          · omega
      have hinc : incR (-1) (rsQ vw l) := by rw [hall]; exact inc_recs vw (-1) _ _ (viewF_asc hv) (viewF_head hv)
      have hty : ∀ r ∈ rsQ vw l, r.Type_ = t ∧ (r.Type_ = 1 → r.Port = 0) := by rw [hall]; exact recs_ty
      have hrd : rdR B t 5 (endA B) [] = some ((rsQ vw l).take n) := by
        have e : B = (hd ++ quQ l) ++ (((rsQ vw l).take n).map recB).flatten := by rw [hBe, List.append_assoc]
        have := rd_back htb ((rsQ vw l).take n) [] (hd ++ quQ l) 5 (fun r hr => ⟨hro r (List.mem_of_mem_take hr), hty r (List.mem_of_mem_take hr)⟩) (inc_take n hinc) (by rw [List.length_take]; omega) (by rw [← e]; exact hBb)
        rw [← e, show (hd ++ quQ l).length = endA B by rw [hend, List.length_append, hdl]] at this
        simpa using this
      rw [if_pos hs0, hrd]
      simp only
      unfold arE chk
      rw [hct]
      by_cases hcut : n < (rsQ vw l).length
      · rw [decide_eq_true hcut] at hselA ⊢
        have hcb : cutB B t ((rsQ vw l).take n) = true := by
          unfold cutB
          have h1 := inc_more hinc (fun r hr => (hro r hr).2.1) hcut (by omega)
          have h2 := hmax (n + 1) (by omega) (by omega)
          have h3' : (ansN l (stQ l) (quQ l) (rsQ vw l) (n + 1)).length = 12 + (quQ l).length + (((rsQ vw l).take (n + 1)).map recB).flatten.length := ans_len (by omega)
          have hg : (rsQ vw l)[n]? = some (rsQ vw l)[n] := by simp [hcut]
          rw [at_take hg] at h3'
          simp only [List.map_append, List.map_cons, List.map_nil, List.flatten_append, List.flatten_cons, List.flatten_nil, List.append_nil, List.length_append] at h3'
          have hrl2 : (recB (rsQ vw l)[n]).length = if t = 33 then 22 else 16 := by
            rw [recB_len, (hty _ (List.getElem_mem hcut)).1]
            rcases typ_or htb with h | h <;> subst h <;> rfl
          have hm60 := (inB_t.1 hmo).1
          rw [decide_eq_true h1, Bool.true_and]
          apply decide_eq_true
          rw [hrl2] at h3'
          split <;> simp_all <;> omega
        rw [if_pos rfl, if_pos ⟨hs0, hcb⟩, if_pos hselA]
      · rw [decide_eq_false hcut] at hselA ⊢
        rw [if_neg (by simp), if_pos hselA]
    · have hall : rsQ vw l = [] := hz1 (by rw [hstF]; exact hs0)
      rw [if_neg hs0]
      simp only
      rw [hall] at hct hselA ⊢
      simp only [List.take_nil, List.length_nil, Nat.not_lt_zero, decide_false] at hct hselA ⊢
      unfold arE chk
      rw [hct, if_neg (by simp), if_pos hselA]
end
end Go.Proofs.YtnejoidfbgklbaaGreatDoor
namespace Go.Proofs.YtnejoidfbgklbaaGreatDoor
open Go Go.RowKit Go.Proofs.YtnejoidfbgklbaaGreatDoor.Eng
set_option linter.unusedSimpArgs false
set_option linter.unusedVariables false
set_option maxRecDepth 100000
set_option maxHeartbeats 2000000
noncomputable section
/-- What is wrong with labels. -/
def labC (ls : List ByteArray) : Int := if 6 < ls.length then 2 else 5
open Classical in
def labE (ls : List ByteArray) : Int := if labsOk ls then 0 else labC ls
theorem labs_pre {ls : List ByteArray} {j : Nat} (h : ∀ s ∈ ls.take j, labelOk s = true) : (labsL ls j).length ≤ 21 * ls.length := by
  have h1 := labs_len h
  have h2 : (ls.take j).length ≤ ls.length := by rw [List.length_take]; omega
  unfold labsL; omega
theorem pre_step {ls : List ByteArray} {j : Nat} {s : ByteArray} (h : ∀ s ∈ ls.take j, labelOk s = true) (hg : ls[j]? = some s) (hs : labelOk s = true) : ∀ s ∈ ls.take (j + 1), labelOk s = true := by
  rw [at_take hg]
  intro x hx
  rcases List.mem_append.1 hx with h1 | h1
  · exact h x h1
  · simp only [List.mem_singleton] at h1; subst h1; exact hs
theorem ok_EncBad : fnOk Tryz.prog cfg0 28 Tryz.f28 = true := by kernel_rfl
theorem pq_EncBad (ls : List ByteArray) (hsz : ∀ s ∈ ls, s.size ≤ 1048576) (hll : ls.length ≤ 1000) (hbad : ¬ labsOk ls) : pure Tryz.prog cfg0 28 Tryz.f28 [textsL ls] = some (.agg [.v (.int .i64 (labC ls)), .lst false []], true) ∧ owned Tryz.prog cfg0 28 Tryz.f28 [textsL ls] = some (.agg [.v (.int .i64 (labC ls)), .lst false []]) := by
  refine both_wp (rs := [.cell 2 29]) rfl rfl ?_
  have hp0 : ∀ b, cfg0.pol 28 b = 0 := fun b => rfl
  by_cases h6 : 6 < ls.length
  · have h6I : 6 < ((ls.length : Nat) : Int) := by omega
    rw [show labC ls = 2 from if_pos h6]
    (have hF := an hp0 <| an textsL.eq_def <| an @List.length_map.{0,0} <| an h6I <| (c_inoBytes 2); have hc := trivial; repeat' (first | refine wK ?_ | refine wX ?_ | refine rR ?_ | refine rB ?_ ?_ <;> intro ht <;> try simp only [bbs] at ht | refine rG ?_ ?_ <;> intro hc | refine rZ ?_ | refine wQ ?_))
    all_goals try exact False.elim kk
    all_goals exact gO_no _
  rw [show labC ls = 5 from if_neg h6]
  have h6I : ¬ 6 < ((ls.length : Nat) : Int) := by omega
  (have hF := an hp0 <| an textsL.eq_def <| an @List.length_map.{0,0} <| h6I; have hc := trivial; repeat' (first | refine wK ?_ | refine wX ?_ | refine rR ?_ | refine rB ?_ ?_ <;> intro ht <;> try simp only [bbs] at ht | refine rG ?_ ?_ <;> intro hc | refine rZ ?_ | refine wQ ?_))
  all_goals try exact False.elim kk
  refine wLoop (fun k s => ∃ (j : Nat) (x : AV), j + k = ls.length ∧ s.1 2 = .ptr 0 0 ∧ s.1 3 = x ∧ s.1 10 = textsL ls ∧ s.1 11 = .v (.int .i64 (ls.length : Nat)) ∧ s.1 12 = .v (.int .i64 (j : Nat)) ∧ (RAcc s.2 x 1 ((labsL ls j).map cell) (labsL ls j).length) ∧ (s.2.h 0 = some [.v (.int .i64 0), .v (.slice none 0 0)] ∧ 0 < s.2.g) ∧ (Off 0 x) ∧ (∀ s ∈ ls.take j, labelOk s = true)) (fun k s hI => ?_) (ls.length) _ ?_
  · obtain ⟨e, H⟩ := s
    obtain ⟨j, x, hj, h2, h3, h10, h11, h12, hr, hb, hoff, hpre⟩ := hI
    simp only at h2 h3 h10 h11 h12 hr hb hoff hpre
    obtain ⟨hb0, hgg⟩ := hb
    have hlp := labs_pre hpre
    by_cases hlt : j < ls.length
    · have hltI : ((j : Nat) : Int) < (ls.length : Int) := by omega
      obtain ⟨s, hg, -, hm⟩ := at_drop hlt
      have hg' := get_text hg
      have hss := hsz s hm
      have w1 : IntKind.wrap .i64 (((j : Nat) : Int) + 1) = ((j + 1 : Nat) : Int) := wrap_succ (by omega)
      have hnl := nums_len s
      have cl := c_iisLabel s (by omega)
      cases hlab : labelOk s with
      | false =>
        rw [hlab] at cl
        (have hF := an hp0 <| an h2 <| an h10 <| an h11 <| an h12 <| an hltI <| an textsL.eq_def <| an @List.length_map.{0,0} <| an hg' <| an cl <| an (c_inoBytes 5) <| hb0; have hc := trivial; repeat' (first | refine wK ?_ | refine wX ?_ | refine rR ?_ | refine rB ?_ ?_ <;> intro ht <;> try simp only [bbs] at ht | refine rG ?_ ?_ <;> intro hc | refine rZ ?_ | refine wQ ?_))
        all_goals try exact False.elim kk
        all_goals exact gO_no _
      | true =>
        rw [hlab] at cl
        have hs := lab_size hlab
        (have hF := an hp0 <| an h10 <| an h11 <| an h12 <| an hltI <| an textsL.eq_def <| an @List.length_map.{0,0} <| an hg' <| cl; have hc := trivial; repeat' ((fail_if_success (first | refine wAt 9 ?_ | refine wAtL 9 ?_)); first | refine wK ?_ | refine wX ?_ | refine rR ?_ | refine rB ?_ ?_ <;> intro ht <;> try simp only [bbs] at ht | refine rG ?_ ?_ <;> intro hc | refine rZ ?_ | refine wQ ?_))
        all_goals try exact False.elim kk
        have hF := an hp0 <| an h3 <| conv_si; have hc := trivial; (try refine wX ?_); refine rN (fun xx hx => ?_); generalize hq : aappend Tryz.prog _ _ _ _ = q at hx
        obtain ⟨x1, K1, rfl, hac1, hg1, hk1, ho1⟩ := app_rows hq el22 zero5 by5 int22 (sz := 1) rfl (by omega) hr (m := 1) rfl (afirst_one _ _ [cell ((s.size : Int) % 256)]) rfl (by omega) (by omega)
        clear hq
        have k0 := (hk1 0 hgg hoff).trans hb0
        have o0 := ho1 0 hgg hoff
        subst hx; have hF := an hp0 <| conv_sb; have hc := trivial; refine rN (fun xx hx => ?_); generalize hq : aappend Tryz.prog _ _ _ _ = q at hx
        obtain ⟨x2, K2, rfl, hac2, hg2, hk2, ho2⟩ := app_rows hq el22 zero5 by5 int9 (sz := 1) rfl (by omega) hac1 (show alen (.v (.string s)) = some s.size from rfl) (afirst_str _ s) (by simp [hnl]) (by omega) (by omega)
        clear hq
        have k1 := (hk2 0 (by omega) o0).trans k0
        have o1 := ho2 0 (by omega) o0
        (subst hx; have hF := hp0; have hc := trivial; repeat' (first | refine rR ?_ | refine rG ?_ ?_ <;> intro hc | refine rZ ?_ | fail))
        (have hF := an hp0 <| an h12 <| w1; have hc := trivial; repeat' (first | refine wK ?_ | refine wX ?_ | refine rR ?_ | refine rB ?_ ?_ <;> intro ht <;> try simp only [bbs] at ht | refine rG ?_ ?_ <;> intro hc | refine rZ ?_ | refine wQ ?_))
        all_goals try exact False.elim kk
        have hS := an h2 <| an h3 <| an h10 <| an h11 <| h12; refine ⟨_, Nat.sub_lt (by omega) Nat.one_pos, j + 1, x2, by omega, sl, sl, sl, sl, sl, ?_⟩
        refine ⟨?_, ⟨k1, show 0 < K2.g by omega⟩, o1, pre_step hpre hg hlab⟩
        rw [labsL_succ hg]
        simpa [Nat.add_assoc, Nat.add_comm, Nat.add_left_comm, hnl] using hac2
    · exfalso
      apply hbad
      have hj : j = ls.length := by omega
      subst hj
      rw [List.take_length] at hpre
      exact ⟨by omega, hpre⟩
  · refine ⟨0, .v (.slice none 0 0), by omega, rfl, rfl, rfl, rfl, rfl, ?_⟩
    exact ⟨RAcc.nil, ⟨rfl, by simp⟩, off_nil, by simp⟩
theorem c_EncBad (ls : List ByteArray) (hsz : ∀ s ∈ ls, s.size ≤ 1048576) (hll : ls.length ≤ 1000) (hbad : ¬ labsOk ls) : ∀ H, call Tryz.prog cfg0 0 28 [textsL ls] H = some (.agg [.v (.int .i64 (labC ls)), .lst false []], H) :=
  call_fz Tryz.func28 rfl ok_EncBad rfl (by simp only [fz_cons, fz_nil, go_sem, and_self]) (pq_EncBad ls hsz hll hbad).1
theorem ok_sl10Labels : fnOk Tryz.prog cfg0 44 Tryz.f44 = true := by kernel_rfl
theorem p_sl10Labels (ls : List ByteArray) (hsz : ∀ s ∈ ls, s.size ≤ 1048576) (hll : ls.length ≤ 1000) : pure Tryz.prog cfg0 44 Tryz.f44 [textsL ls] = some (.v (.int .i64 (labE ls)), true) := by
  refine pure_wp (rs := [.tmp 2]) rfl rfl ?_
  have hp0 : ∀ b, cfg0.pol 44 b = 0 := fun b => rfl
  by_cases h6 : 6 < ls.length
  · have h6I : 6 < ((ls.length : Nat) : Int) := by omega
    rw [show labE ls = 2 by unfold labE labC; rw [if_neg (fun h => by have := h.1; omega), if_pos h6]]
    (have hF := an hp0 <| an textsL.eq_def <| an @List.length_map.{0,0} <| h6I; have hc := trivial; repeat' (first | refine wK ?_ | refine wX ?_ | refine rR ?_ | refine rB ?_ ?_ <;> intro ht <;> try simp only [bbs] at ht | refine rG ?_ ?_ <;> intro hc | refine rZ ?_ | refine wQ ?_))
    all_goals try exact False.elim kk
    all_goals exact gives_intv rfl
  have h6I : ¬ 6 < ((ls.length : Nat) : Int) := by omega
  (have hF := an hp0 <| an textsL.eq_def <| an @List.length_map.{0,0} <| h6I; have hc := trivial; repeat' (first | refine wK ?_ | refine wX ?_ | refine rR ?_ | refine rB ?_ ?_ <;> intro ht <;> try simp only [bbs] at ht | refine rG ?_ ?_ <;> intro hc | refine rZ ?_ | refine wQ ?_))
  all_goals try exact False.elim kk
  refine wLoop (fun k s => ∃ (j : Nat), j + k = ls.length ∧ s.1 0 = textsL ls ∧ s.1 3 = .v (.int .i64 (j : Nat)) ∧ (∀ s ∈ ls.take j, labelOk s = true)) (fun k s hI => ?_) (ls.length) _ ?_
  · obtain ⟨e, H⟩ := s
    obtain ⟨j, hj, h0, h3, hpre⟩ := hI
    simp only at h0 h3 hpre
    by_cases hlt : j < ls.length
    · have hltI : ((j : Nat) : Int) < (ls.length : Int) := by omega
      obtain ⟨s, hg, -, hm⟩ := at_drop hlt
      have hg' := get_text hg
      have w1 : IntKind.wrap .i64 (((j : Nat) : Int) + 1) = ((j + 1 : Nat) : Int) := wrap_succ (by omega)
      have cl := c_sl10Label s (hsz s hm)
      cases hlab : labelOk s with
      | false =>
        rw [hlab] at cl
        rw [show labE ls = 5 by unfold labE labC; rw [if_neg (fun h => by have := h.2 s hm; rw [hlab] at this; simp at this), if_neg h6]]
        (have hF := an hp0 <| an h0 <| an h3 <| an hltI <| an textsL.eq_def <| an @List.length_map.{0,0} <| an hg' <| cl; have hc := trivial; repeat' (first | refine wK ?_ | refine wX ?_ | refine rR ?_ | refine rB ?_ ?_ <;> intro ht <;> try simp only [bbs] at ht | refine rG ?_ ?_ <;> intro hc | refine rZ ?_ | refine wQ ?_))
        all_goals try exact False.elim kk
        all_goals exact gives_intv rfl
      | true =>
        rw [hlab] at cl
        (have hF := an hp0 <| an h0 <| an h3 <| an hltI <| an textsL.eq_def <| an @List.length_map.{0,0} <| an hg' <| an cl <| w1; have hc := trivial; repeat' (first | refine wK ?_ | refine wX ?_ | refine rR ?_ | refine rB ?_ ?_ <;> intro ht <;> try simp only [bbs] at ht | refine rG ?_ ?_ <;> intro hc | refine rZ ?_ | refine wQ ?_))
        all_goals try exact False.elim kk
        have hS := an h0 <| h3; refine ⟨_, Nat.sub_lt (by omega) Nat.one_pos, j + 1, by omega, sl, sl, ?_⟩
        exact pre_step hpre hg hlab
    · have hltI : ¬ ((j : Nat) : Int) < (ls.length : Int) := by omega
      have hj : j = ls.length := by omega
      subst hj
      rw [List.take_length] at hpre
      rw [show labE ls = 0 by unfold labE; rw [if_pos ⟨by omega, hpre⟩]]
      (have hF := an hp0 <| an h0 <| an h3 <| an hltI <| an textsL.eq_def <| @List.length_map.{0,0}; have hc := trivial; repeat' (first | refine wK ?_ | refine wX ?_ | refine rR ?_ | refine rB ?_ ?_ <;> intro ht <;> try simp only [bbs] at ht | refine rG ?_ ?_ <;> intro hc | refine rZ ?_ | refine wQ ?_))
      all_goals try exact False.elim kk
      all_goals exact gives_intv rfl
  · refine ⟨0, by omega, rfl, rfl, ?_⟩
    simp
theorem c_sl10Labels (ls : List ByteArray) (hsz : ∀ s ∈ ls, s.size ≤ 1048576) (hll : ls.length ≤ 1000) : ∀ H, call Tryz.prog cfg0 0 44 [textsL ls] H = some (.v (.int .i64 (labE ls)), H) :=
  call_fz Tryz.func44 rfl ok_sl10Labels rfl (by simp only [fz_cons, fz_nil, go_sem, and_self]) (p_sl10Labels ls hsz hll)

open Classical in
def pkC (i t : Int) (ls : List ByteArray) : Int := if (0 ≤ i ∧ i ≤ 65535) ∧ (0 ≤ t ∧ t ≤ 65535) then labE ls else 3
open Classical in
def pkB (i t : Int) (ls : List ByteArray) : List Int := if pkC i t ls = 0 then packB i ls t else []
theorem labE_0 {ls : List ByteArray} : labE ls = 0 ↔ labsOk ls := by
  unfold labE labC
  split
  · simp [*]
  · rename_i h; constructor
    · intro h2; split at h2 <;> omega
    · exact fun h2 => absurd h2 h
theorem pk_ok {i t : Int} {ls : List ByteArray} (hi : 0 ≤ i ∧ i ≤ 65535) (htt : 0 ≤ t ∧ t ≤ 65535) (hk : labsOk ls) : pkC i t ls = 0 ∧ pkB i t ls = packB i ls t := by
  have h : pkC i t ls = 0 := by unfold pkC; rw [if_pos ⟨hi, htt⟩]; exact labE_0.2 hk
  exact ⟨h, by unfold pkB; rw [if_pos h]⟩
theorem pk_lab {i t : Int} {ls : List ByteArray} (hi : 0 ≤ i ∧ i ≤ 65535) (htt : 0 ≤ t ∧ t ≤ 65535) (hk : ¬ labsOk ls) : pkC i t ls = labC ls ∧ pkB i t ls = [] ∧ ¬ labC ls = 0 := by
  have h : pkC i t ls = labC ls := by unfold pkC labE; rw [if_pos ⟨hi, htt⟩, if_neg hk]
  have h0 : ¬ labC ls = 0 := by unfold labC; split <;> omega
  exact ⟨h, by unfold pkB; rw [if_neg (by rw [h]; exact h0)], h0⟩
theorem pk_num {i t : Int} {ls : List ByteArray} (h : ¬ ((0 ≤ i ∧ i ≤ 65535) ∧ (0 ≤ t ∧ t ≤ 65535))) : pkC i t ls = 3 ∧ pkB i t ls = [] := by
  have h1 : pkC i t ls = 3 := if_neg h
  exact ⟨h1, by unfold pkB; rw [if_neg (by rw [h1]; omega)]⟩
/-- Both sides pack the same. -/
theorem c_PackQ (i t : Int) (ls : List ByteArray) (hsz : ∀ s ∈ ls, s.size ≤ 1048576) (hll : ls.length ≤ 1000) : (∀ H, call Tryz.prog cfg0 0 6 [.agg [.v (.int .i64 i), textsL ls, .v (.int .i64 t)]] H = some (.agg [.v (.int .i64 (pkC i t ls)), bytesL (pkB i t ls)], H)) := by
  by_cases hr : (0 ≤ i ∧ i ≤ 65535) ∧ (0 ≤ t ∧ t ≤ 65535)
  · by_cases hk : labsOk ls
    · obtain ⟨e1, e2⟩ := pk_ok hr.1 hr.2 hk
      rw [e1, e2]; exact c_iPackQuery i t ls hr.1 hr.2 hk
    · obtain ⟨e1, e2, e3⟩ := pk_lab hr.1 hr.2 hk
      rw [e1, e2]
      have key : ∃ v cl, v = (AV.agg [.v (.int .i64 (labC ls)), bytesL []] : AV) ∧ pure Tryz.prog cfg0 6 Tryz.f6 [.agg [.v (.int .i64 i), textsL ls, .v (.int .i64 t)]] = some (v, cl) := by
        refine pure_ex (rs := [.cell 2 29]) rfl rfl ?_
        have hp0 : ∀ b, cfg0.pol 6 b = 0 := fun b => rfl
        have i1 : inB i 0 65535 = true := inB_t.2 hr.1
        have i2 : inB t 0 65535 = true := inB_t.2 hr.2
        have hen := c_EncBad ls hsz hll hk
        have tx := tx_ok ls
        have e4 : (labC ls = 0) = False := eq_false e3
        (have hF := an hp0 <| an c_iin <| an i1 <| an i2 <| an hen <| an tx.1 <| an tx.2 <| e4; have hc := trivial; repeat' (first | refine wK ?_ | refine wX ?_ | refine rR ?_ | refine rB ?_ ?_ <;> intro ht <;> try simp only [bbs] at ht | refine rG ?_ ?_ <;> intro hc | refine rZ ?_ | refine wQ ?_))
        all_goals try exact False.elim kk
        all_goals exact dirty rfl
      obtain ⟨v, cl, rfl, hp⟩ := key
      exact fun H => call_fz Tryz.func6 rfl ok_iPackQuery rfl (by simp only [fz_cons, fz_nil, fz_q, go_sem, and_self]) hp H
  · obtain ⟨e1, e2⟩ := pk_num (ls := ls) hr
    rw [e1, e2]
    have key : ∃ v cl, v = (AV.agg [.v (.int .i64 3), bytesL []] : AV) ∧ pure Tryz.prog cfg0 6 Tryz.f6 [.agg [.v (.int .i64 i), textsL ls, .v (.int .i64 t)]] = some (v, cl) := by
      refine pure_ex (rs := [.cell 2 29]) rfl rfl ?_
      have hp0 : ∀ b, cfg0.pol 6 b = 0 := fun b => rfl
      have tx := tx_ok ls
      have n3 := c_inoBytes 3
      cases i1 : inB i 0 65535 with
      | false =>
        (have hF := an hp0 <| an c_iin <| an i1 <| an tx.1 <| an tx.2 <| n3; have hc := trivial; repeat' (first | refine wK ?_ | refine wX ?_ | refine rR ?_ | refine rB ?_ ?_ <;> intro ht <;> try simp only [bbs] at ht | refine rG ?_ ?_ <;> intro hc | refine rZ ?_ | refine wQ ?_))
        all_goals try exact False.elim kk
        all_goals exact dirty rfl
      | true =>
        have i2 : inB t 0 65535 = false := inB_f.2 (fun h => hr ⟨inB_t.1 i1, h⟩)
        (have hF := an hp0 <| an c_iin <| an i1 <| an i2 <| an tx.1 <| an tx.2 <| n3; have hc := trivial; repeat' (first | refine wK ?_ | refine wX ?_ | refine rR ?_ | refine rB ?_ ?_ <;> intro ht <;> try simp only [bbs] at ht | refine rG ?_ ?_ <;> intro hc | refine rZ ?_ | refine wQ ?_))
        all_goals try exact False.elim kk
        all_goals exact dirty rfl
    obtain ⟨v, cl, rfl, hp⟩ := key
    exact fun H => call_fz Tryz.func6 rfl ok_iPackQuery rfl (by simp only [fz_cons, fz_nil, fz_q, go_sem, and_self]) hp H
theorem ok_sPackQuery : fnOk Tryz.prog cfg0 12 Tryz.f12 = true := by kernel_rfl
theorem p_sPackQuery (i t : Int) (ls : List ByteArray) (hsz : ∀ s ∈ ls, s.size ≤ 1048576) (hll : ls.length ≤ 1000) : ∃ cl, pure Tryz.prog cfg0 12 Tryz.f12 [.agg [.v (.int .i64 i), textsL ls, .v (.int .i64 t)]] = some (.agg [.v (.int .i64 (pkC i t ls)), bytesL (pkB i t ls)], cl) := by
  have key : ∃ v cl, v = (.agg [.v (.int .i64 (pkC i t ls)), bytesL (pkB i t ls)] : AV) ∧ pure Tryz.prog cfg0 12 Tryz.f12 [.agg [.v (.int .i64 i), textsL ls, .v (.int .i64 t)]] = some (v, cl) := by
    refine pure_ex (rs := [.cell 2 29]) rfl rfl ?_
    have hp0 : ∀ b, cfg0.pol 12 b = 0 := fun b => rfl
    have tx := tx_ok ls
    by_cases hr : (0 ≤ i ∧ i ≤ 65535) ∧ (0 ≤ t ∧ t ≤ 65535)
    · have i1 : inB i 0 65535 = true := inB_t.2 hr.1
      have i2 : inB t 0 65535 = true := inB_t.2 hr.2
      have hlb := c_sl10Labels ls hsz hll
      by_cases hk : labsOk ls
      · obtain ⟨e1, e2⟩ := pk_ok hr.1 hr.2 hk
        rw [e1, e2]
        rw [labE_0.2 hk] at hlb
        have hq2 := cp_Query i t ls hr.1 hr.2 hk
        have by2 := by_ok (packB i ls t)
        (have hF := an hp0 <| an c_sl1In <| an i1 <| an i2 <| an hlb <| an hq2 <| an tx.1 <| an tx.2 <| an by2.1 <| by2.2; have hc := trivial; repeat' (first | refine wK ?_ | refine wX ?_ | refine rR ?_ | refine rB ?_ ?_ <;> intro ht <;> try simp only [bbs] at ht | refine rG ?_ ?_ <;> intro hc | refine rZ ?_ | refine wQ ?_))
        all_goals try exact False.elim kk
        all_goals exact dirty (fz_deep (fz_b _ _) _)
      · obtain ⟨e1, e2, e3⟩ := pk_lab hr.1 hr.2 hk
        rw [e1, e2]
        rw [show labE ls = labC ls from if_neg hk] at hlb
        have e4 : (labC ls = 0) = False := eq_false e3
        (have hF := an hp0 <| an c_sl1In <| an i1 <| an i2 <| an hlb <| an tx.1 <| an tx.2 <| e4; have hc := trivial; repeat' (first | refine wK ?_ | refine wX ?_ | refine rR ?_ | refine rB ?_ ?_ <;> intro ht <;> try simp only [bbs] at ht | refine rG ?_ ?_ <;> intro hc | refine rZ ?_ | refine wQ ?_))
        all_goals try exact False.elim kk
        all_goals exact dirty rfl
    · obtain ⟨e1, e2⟩ := pk_num (ls := ls) hr
      rw [e1, e2]
      cases i1 : inB i 0 65535 with
      | false =>
        (have hF := an hp0 <| an c_sl1In <| an i1 <| an tx.1 <| tx.2; have hc := trivial; repeat' (first | refine wK ?_ | refine wX ?_ | refine rR ?_ | refine rB ?_ ?_ <;> intro ht <;> try simp only [bbs] at ht | refine rG ?_ ?_ <;> intro hc | refine rZ ?_ | refine wQ ?_))
        all_goals try exact False.elim kk
        all_goals exact dirty rfl
      | true =>
        have i2 : inB t 0 65535 = false := inB_f.2 (fun h => hr ⟨inB_t.1 i1, h⟩)
        (have hF := an hp0 <| an c_sl1In <| an i1 <| an i2 <| an tx.1 <| tx.2; have hc := trivial; repeat' (first | refine wK ?_ | refine wX ?_ | refine rR ?_ | refine rB ?_ ?_ <;> intro ht <;> try simp only [bbs] at ht | refine rG ?_ ?_ <;> intro hc | refine rZ ?_ | refine wQ ?_))
        all_goals try exact False.elim kk
        all_goals exact dirty rfl
  obtain ⟨v, cl, rfl, hp⟩ := key
  exact ⟨cl, hp⟩
theorem c_sPackQuery (i t : Int) (ls : List ByteArray) (hsz : ∀ s ∈ ls, s.size ≤ 1048576) (hll : ls.length ≤ 1000) : ∀ H, call Tryz.prog cfg0 0 12 [.agg [.v (.int .i64 i), textsL ls, .v (.int .i64 t)]] H = some (.agg [.v (.int .i64 (pkC i t ls)), bytesL (pkB i t ls)], H) := fun H => by
  obtain ⟨cl, hp⟩ := p_sPackQuery i t ls hsz hll
  exact call_fz Tryz.func12 rfl ok_sPackQuery rfl (by simp only [fz_cons, fz_nil, go_sem, fz_q, and_self]) hp H

end
end Go.Proofs.YtnejoidfbgklbaaGreatDoor
