/- messages: requests read; walked. -/
import Derived.Test.YtgbfchagmniiiaaME
set_option maxRecDepth 8000
set_option linter.unusedSimpArgs false
set_option linter.unusedVariables false
namespace Go.Proofs.Try
open Go Go.Av
set_option pp.maxSteps 900
attribute [local irreducible] alist awp adraw apure
attribute [local go_sem] cellsOf_int cellsOf_bool cellsOf_str cellsOf_nilp cellsOf_nil cellsOf_e0 cellsOf_sl cellsOf_osl cellsOf_ptr cellsOf_eptr cellsOf_fn cellsOf_agg okc_int okc_bool okc_str okc_nilp okc_nil okc_e0 okc_sl okc_osl okc_ptr okc_eptr okc_fn okc_agg and_assoc splice_0n splice_0c splice_s load_ptr load_eptr read_t read_f store_p cells_inj set_same exists_and_left List.length_cons List.length_nil List.drop_zero List.drop_succ_cons List.take_succ_cons List.take_zero Option.isSome_some
variable {γ : Gl} {σ s : St} {K : D → St → Prop}
attribute [local go_sem] List.length_append natc0 eq_self

theorem Number_i {p m : Nat} {n : Int} {st : RS} (hn : n = (m : Nat)) (hs : s p = some (.cells (rdD st) 161)) (hl : st.1.length ≤ 140737488355328) (hm : m ≤ 1073741824) (hK : K (.int .i64 (vR m st)) (s.set p (.cells (rdD (nR m st)) 161))) : ACalls prog γ 118 [.ptr p 0, .int .i64 n] s K := by
  subst hn; exact Number_c hs hl hm hK
theorem build98 {a b : Int} (hk : K (.agg (reqD ⟨a, b, 0, 0, 0⟩)) s) : abuild prog 98 [(0, .int .i64 a), (1, .int .i64 b)] s K := by
  simp only [abuild, zc98, pl98]
  exact hk
theorem build98z (hk : K (.agg (reqD zeroQ)) s) : abuild prog 98 [] s K := by
  simp only [abuild, zc98, pl98]
  exact hk
theorem upd_cells (r : Req) {i : Nat} (h : i ≤ 4) (v : Int) : splice (reqD r) i [.int .i64 v] = reqD (r.upd i v) := by
  match i, h with
  | 0, _ => rfl
  | 1, _ => rfl
  | 2, _ => rfl
  | 3, _ => rfl
  | 4, _ => rfl
theorem nR_len (m : Nat) (st : RS) : (nR m st).1.length ≤ st.1.length := (q1_len st.1).1
theorem beg_len (c : UInt8) (t : List UInt8) : (beg c t).1.length ≤ t.length := by
  unfold beg
  split
  · rw [List.length_tail]; omega
  · simp
theorem zero_req : ([.int .i64 0, .int .i64 0, .int .i64 0, .int .i64 0, .int .i64 0] : List D) = reqD zeroQ := rfl
theorem ptrs_drop (p : Nat) (l : List Nat) (n : Nat) : (ptrsD p l).drop n = ptrsD p (l.drop n) := by simp [ptrsD]
theorem idx2 (k : Int) : 2 ≤ (idx k).length := by
  unfold idx
  split
  · decide
  · split <;> decide
theorem le_none {s s' : St} {i : Nat} (h : s.le s') (hi : s' i = none) : s i = none := by
  cases hq : s i with
  | none => rfl
  | some o => rw [h i o hq] at hi; cases hi
theorem spl98 (r : Req) : splice [.int .i64 0, .int .i64 0, .int .i64 0, .int .i64 0, .int .i64 0] 0 (reqD r) = reqD r := rfl
theorem spl98r (r r' : Req) : splice (reqD r') 0 (reqD r) = reqD r := rfl
theorem take98 (r : Req) : (reqD r).take 5 = reqD r := rfl
theorem GetRequest_c {t : List UInt8} (ht : t.length ≤ 140737488355328) (hK : K (.tup [.agg (reqD (getR t)), .int .i64 (grE t)]) s) : ACalls prog γ 81 [.str t] s K := by
  have hrl : ∀ r : Req, (reqD r).length = 5 := fun r => rfl
  have c1 : ∀ r : Req, (reqD r)[1]? = some (.int .i64 r.kind) := fun r => rfl
  have hbl := beg_len 81 t
  refine acalls_of_awp (by kernel_rfl) func81 rfl (by kernel_rfl) rfl rfl (by kernel_rfl) (Nat.le_of_ble_eq_true rfl) ?_
  refine rs ?_
  (refine aF ?_; intro c hc; (try (have h_hc := hc; simp only [set_none] at h_hc)))
  refine run ?_
  refine al_done ?_
  refine rs ?_
  refine run ?_
  (refine al_fresh ?_ ?_ ?_ ?_ ?_; rotate_left 3; (· intro K hK; refine S1 ?_; refine Or.inl (Begin_c (by omega) ?_); exact hK); intro q hq; (try (have h_hq := hq; simp only [set_none] at h_hq)))
  refine run ?_
  refine al_done ?_
  obtain ⟨kqc, hq0⟩ := keep_none hq
  rw [zero_req]
  obtain ⟨s1, hs1⟩ : ∃ z, (s.set c (.cells (reqD zeroQ) 98)).set q (.cells (rdD (beg 81 t)) 161) = z := ⟨_, rfl⟩
  have e1q : s1 q = some (.cells (rdD (beg 81 t)) 161) := by rw [← hs1]; exact set_same _ _ _
  have e1c : s1 c = some (.cells (reqD zeroQ) 98) := by rw [← hs1, set_other _ (Ne.symm kqc)]; exact set_same _ _ _
  have hle1 : s.le s1 := by rw [← hs1]; exact (le_set _ hc).trans (le_set _ hq)
  rw [hs1]
  clear hs1 hq
  refine rs ?_
  refine run ?_
  (refine al_set ?_ ?_ ?_ ?_; rotate_left 2; (· intro K hK; refine S1 ?_; refine Or.inl (Number_i (m := big) rfl e1q (by omega) (by decide) ?_); exact hK))
  have n1 := nR_len big (beg 81 t)
  obtain ⟨st1, hst1⟩ : ∃ x, nR big (beg 81 t) = x := ⟨_, rfl⟩
  refine run ?_
  (refine al_set ?_ ?_ ?_ ?_; rotate_left 2; (· intro K hK; refine S1 ?_; refine Or.inl (Number_i (m := 5) rfl (set_same _ _ _) (by omega) (by decide) ?_); exact hK))
  have n2 := nR_len 5 (nR big (beg 81 t))
  rw [set_set]
  refine run ?_
  (refine al_set ?_ ?_ ?_ ?_; rotate_left 2; (· intro K hK; refine S1 ?_; refine build98 ?_; exact hK))
  (refine aF ?_; intro x hx; (try (have h_hx := hx; simp only [set_none] at h_hx)))
  refine runX (And.intro hrl spl98) ?_
  refine al_done ?_
  rw [set_set]
  obtain ⟨kxq, hx1⟩ := keep_none hx
  have kxc : c ≠ x := keep_ne e1c hx1
  have hx0 := le_none hle1 hx1
  obtain ⟨s2, hs2⟩ : ∃ z, (s1.set q (.cells (rdD (nR 5 (nR big (beg 81 t)))) 161)).set x (.cells (reqD ⟨vR big (beg 81 t), vR 5 (nR big (beg 81 t)), 0, 0, 0⟩) 98) = z := ⟨_, rfl⟩
  have hR : rqA t = rdF ((idx (rq2 t).1.kind).drop 2) (rq2 t).1 (rq2 t).2 := rfl
  obtain ⟨r2, hr2⟩ : ∃ z, (rq2 t).1 = z := ⟨_, rfl⟩
  obtain ⟨st2, hst2⟩ : ∃ z, (rq2 t).2 = z := ⟨_, rfl⟩
  have hs2' : (s1.set q (.cells (rdD st2) 161)).set x (.cells (reqD r2) 98) = s2 := by rw [← hs2, ← hr2, ← hst2]; rfl
  have hsl : st2.1.length ≤ 140737488355328 := by rw [← hst2]; show (nR 5 (nR big (beg 81 t))).1.length ≤ _; omega
  rw [hr2, hst2] at hR
  rw [hs2]
  clear hs2
  have e2x : s2 x = some (.cells (reqD r2) 98) := by rw [← hs2']; exact set_same _ _ _
  have e2q : s2 q = some (.cells (rdD st2) 161) := by rw [← hs2', set_other _ (Ne.symm kxq)]; exact set_same _ _ _
  have e2c : s2 c = some (.cells (reqD zeroQ) 98) := by rw [← hs2', set_other _ kxc, set_other _ (Ne.symm kqc)]; exact e1c
  have hle2 : s.le s2 := by rw [← hs2']; exact le_set2 (le_set2 hle1 hq0) hx0
  have hi2 := idx2 r2.kind
  have hcl : (ptrsD x (idx r2.kind)).length = (idx r2.kind).length * 1 := by rw [Nat.mul_one]; exact List.length_map ..
  obtain ⟨l, hl⟩ : ∃ l, (idx r2.kind).drop 2 = l := ⟨_, rfl⟩
  have hll : (idx r2.kind).length - 2 = l.length := by rw [← hl, List.length_drop]
  have hl3 : l.length ≤ 3 := by have := idx_len r2.kind; omega
  have hl4 : ∀ i ∈ l, i ≤ 4 := fun i h => idx_le r2.kind i (List.mem_of_mem_drop (hl ▸ h))
  have hdr : ((ptrsD x (idx r2.kind)).take ((idx r2.kind).length * 1)).drop (2 * 1) = ptrsD x l := by
    rw [List.take_of_length_le (by omega), ptrs_drop, hl]
  have hpl : (ptrsD x l).length = l.length := List.length_map ..
  rw [hl] at hR
  refine rs ?_
  refine run ?_
  (refine al_set ?_ ?_ ?_ ?_; rotate_left 2; (· intro K hK; refine S1 ?_; refine Or.inl (Numbers_c e2x ?_); exact hK))
  refine run ?_
  (refine al_set ?_ ?_ ?_ ?_; rotate_left 2; (· intro K hK; refine S1 ?_; refine slice_sl elt142 (l := 2) (h := (idx r2.kind).length) hcl rfl rfl hi2 (Nat.le_refl _) hll hdr ?_; exact hK))
  refine run ?_
  refine al_done ?_
  clear e1q e1c hle1 hst1 n1 n2 hcl hdr hs2' hx hx1
  refine asc ?_; refine awp_while (fun n ρ τ => ∃ (k : Nat) (r : Req) (st : RS), n = l.length - k ∧ k ≤ l.length ∧ rdF l r2 st2 = rdF (l.drop k) r st ∧ st.1.length ≤ 140737488355328 ∧ s.le τ ∧ τ x = some (.cells (reqD r) 98) ∧ τ q = some (.cells (rdD st) 161) ∧ τ c = some (.cells (reqD zeroQ) 98) ∧ ρ 2 = .ptr c 0 ∧ ρ 4 = .ptr q 0 ∧ ρ 5 = .ptr x 0 ∧ ρ 16 = .sl l.length (ptrsD x l) none ∧ ρ 17 = .int .i64 (l.length : Nat) ∧ ρ 18 = .int .i64 (k : Nat)) l.length ?_ ?_
  · refine ⟨0, r2, st2, rfl, Nat.zero_le _, rfl, hsl, hle2, e2x, e2q, e2c, ?_, ?_, ?_, ?_, ?_, ?_⟩
    all_goals simp only [↓set_get, Nat.reduceEqDiff, Bool.false_eq_true, ↓reduceIte, aenv0, aenvS, aenvN, one_ne]
    rfl
  rintro n ρ τ ⟨k, r, st, rfl, hk, hrd, hsl, hle, ex, eq, ec, g2, g4, g5, g16, g17, g18⟩
  refine rs ?_
  refine runX (And.intro g17 g18) ?_
  refine al_done ?_
  refine asc ?_; refine ate ?_ ?_
  · intro hb2
    have hb2 : k < l.length := Int.ofNat_lt.1 (of_decide_eq_true hb2)
    have hpt : (ptrsD x l)[k]? = some (.ptr x l[k]) := by rw [ptrsD, List.getElem?_map, List.getElem?_eq_getElem hb2]; rfl
    have hi4 := hl4 _ (List.getElem_mem hb2)
    have hst := upd_cells r hi4
    rw [List.drop_eq_getElem_cons hb2, rdF] at hrd
    have n1 := nR_len big st
    obtain ⟨i, hi⟩ : ∃ i, l[k] = i := ⟨_, rfl⟩
    rw [hi] at hpt hi4 hst hrd
    have ex2 : (τ.set q (.cells (rdD (nR big st)) 161)) x = some (.cells (reqD r) 98) := by rw [set_other _ kxq]; exact ex
    have hi5 : i < 5 := by omega
    refine asc ?_; refine awp_body ?_
    refine rs ?_
    refine runX (And.intro g16 (And.intro g18 (And.intro hpt hpl))) ?_
    refine al_done ?_
    refine awp_region ?_
    refine runX g4 ?_
    (refine al_set ?_ ?_ ?_ ?_; rotate_left 2; (· intro K hK; refine S1X g4 ?_; refine Or.inl (Number_i (m := big) rfl eq hsl (by decide) ?_); exact hK))
    refine runX (And.intro ex (And.intro hst hrl)) ?_
    refine al_nil (.done ?_)
    refine awp_region ?_
    refine runX g18 ?_
    refine al_nil ?_
    refine lq_next (l.length - (k + 1)) (by omega) ⟨k + 1, r.upd i (vR big st), nR big st, rfl, by omega, hrd, by omega, le_set2 (le_set2 hle hq0) hx0, set_same _ _ _, ?_, ?_, ?_, ?_, ?_, ?_, ?_, ?_⟩
    · rw [set_other _ (Ne.symm kxq)]; exact set_same _ _ _
    · rw [set_other _ kxc, set_other _ (Ne.symm kqc)]; exact ec
    · simp only [↓set_get, Nat.reduceEqDiff, Bool.false_eq_true, ↓reduceIte, aenv0, aenvS, aenvN, one_ne, g2]
    · simp only [↓set_get, Nat.reduceEqDiff, Bool.false_eq_true, ↓reduceIte, aenv0, aenvS, aenvN, one_ne, g4]
    · simp only [↓set_get, Nat.reduceEqDiff, Bool.false_eq_true, ↓reduceIte, aenv0, aenvS, aenvN, one_ne, g5]
    · simp only [↓set_get, Nat.reduceEqDiff, Bool.false_eq_true, ↓reduceIte, aenv0, aenvS, aenvN, one_ne, g16]
    · simp only [↓set_get, Nat.reduceEqDiff, Bool.false_eq_true, ↓reduceIte, aenv0, aenvS, aenvN, one_ne, g17]
    · simp only [↓set_get, Nat.reduceEqDiff, Bool.false_eq_true, ↓reduceIte, aenv0, aenvS, aenvN, one_ne]; rfl
  intro hb2
  have hb2 : k = l.length := Nat.le_antisymm hk (Nat.le_of_not_lt (fun h => of_decide_eq_false hb2 (Int.ofNat_lt.2 h)))
  subst hb2
  rw [List.drop_length, rdF, ← hR] at hrd
  have hok : RqOk t ↔ (st.2 = true ∧ st.1 = []) ∧ 1 ≤ r.kind := by rw [RqOk, hrd]
  have hlec : ∀ v, s.le (τ.set c v) := fun v => le_set2 hle hc
  refine lq_exit ?_
  refine asc ?_; refine awp_rj (fun ρ' s' => s' = τ ∧ ρ' 2 = .ptr c 0 ∧ ρ' 5 = .ptr x 0 ∧ ρ' 34 = .bool (decide (¬ RqOk t))) ?_ ?_
  · intro K' hJ
    (repeat' (first | refine run1X (And.intro g4 (And.intro g5 (And.intro ex c1))) ?_ | (refine al_set ?_ ?_ ?_ ?_; rotate_left 2; (· intro K hK; refine S1X (And.intro g4 (And.intro g5 (And.intro ex c1))) ?_; refine Or.inl (End_c eq ?_); exact hK)) | (refine al_guard rfl (by simp only [↓set_get, Nat.reduceEqDiff, Bool.false_eq_true, ↓reduceIte, aenv0, aenvS, aenvN, one_ne, g4, g5, ex, c1]; rfl) (fun hb => ?_) (fun hb => ?_) <;> (try simp only [ne_eq, Bool.not_eq_true, Bool.not_eq_false] at hb) <;> have hb2 := hb <;> (try simp only [decide_eq_true_eq, decide_eq_false_iff_not, beq_iff_eq, beq_eq_false_iff_ne, bne_iff_ne, ne_eq, Bool.not_eq_true', Bool.not_eq_false'] at hb2) <;> (try rw [hb]))))
    all_goals refine al_nil (hJ _ _ ⟨rfl, ?_, ?_, ?_⟩)
    all_goals simp only [↓set_get, Nat.reduceEqDiff, Bool.false_eq_true, ↓reduceIte, aenv0, aenvS, aenvN, one_ne, g2, g5]
    all_goals (congr 1; rw [Bool.eq_iff_iff]; simp_all; try omega)
  rintro ρ1 τ ⟨rfl, g2, g5, g34⟩
  by_cases hG : RqOk t
  · have e34 : decide (¬ RqOk t) = false := decide_eq_false (fun h => h hG)
    have hgr : getR t = r := by rw [getR, if_pos hG, hrd]
    rw [hgr, grE, if_pos hG] at hK
    rw [e34] at g34
    refine asc ?_; refine aiX g34 ?_ ?_
    · intro h; cases h
    · intro _
      refine rs ?_
      (repeat (first | (refine al_set ?_ ?_ ?_ ?_; rotate_left 2; (· intro K hK; simp (disch := omega) only [go_sem, ↓set_get, ↓reduceIte, ↓o_bsl, ↓o_build, Nat.reduceEqDiff, Nat.reduceAdd, Nat.reduceMul, Int.reduceEq, Int.reduceNe, set_other, del_other, g5, g2, ex, ec, hrl, take98, spl98r]; (repeat' (first | exact hK | (refine And.intro ?_ ?_) | assumption | omega)))) | (refine al_guard (b := true) rfl ?_ (fun _ => ?_) (fun h => absurd rfl h); · simp only [↓set_get, Nat.reduceEqDiff, Bool.false_eq_true, ↓reduceIte, aenv0, aenvS, aenvN, one_ne, g5, g2, ex, ec, hrl, take98, spl98r]; done) | (refine al_guard (b := false) rfl ?_ (fun _ => ?_) (fun h => absurd rfl h); · simp only [↓set_get, Nat.reduceEqDiff, Bool.false_eq_true, ↓reduceIte, aenv0, aenvS, aenvN, one_ne, g5, g2, ex, ec, hrl, take98, spl98r]; done) | (refine al_guard (b := true) rfl ?_ (fun h => Bool.noConfusion h) (fun _ => ?_); · simp only [↓set_get, Nat.reduceEqDiff, Bool.false_eq_true, ↓reduceIte, aenv0, aenvS, aenvN, one_ne, g5, g2, ex, ec, hrl, take98, spl98r]; done) | (refine al_guard (b := false) rfl ?_ (fun h => Bool.noConfusion h) (fun _ => ?_); · simp only [↓set_get, Nat.reduceEqDiff, Bool.false_eq_true, ↓reduceIte, aenv0, aenvS, aenvN, one_ne, g5, g2, ex, ec, hrl, take98, spl98r]; done) | (refine al_guard0 rfl ?_ ?_; · simp only [↓set_get, Nat.reduceEqDiff, Bool.false_eq_true, ↓reduceIte, aenv0, aenvS, aenvN, one_ne, g5, g2, ex, ec, hrl, take98, spl98r]; done) | (refine al_none ?_ ?_ ?_ ?_; rotate_left 2; (· intro K hK; simp (disch := omega) only [go_sem, ↓set_get, ↓reduceIte, ↓o_bsl, ↓o_build, Nat.reduceEqDiff, Nat.reduceAdd, Nat.reduceMul, Int.reduceEq, Int.reduceNe, set_other, del_other, g5, g2, ex, ec, hrl, take98, spl98r]; (repeat' (first | exact hK | (refine And.intro ?_ ?_) | assumption | omega))))))
      refine al_done (awp_ret (afin_cell s (hlec _) ?_))
      simp only [ares, aone, ↓set_get, Nat.reduceEqDiff, Bool.false_eq_true, ↓reduceIte, aenv0, aenvS, aenvN, one_ne, g2, load_ptr, tagg98, tsz98, set_same]
      exact ⟨_, _, rfl, by simp only [read_t, hrl, List.drop_zero, take98]; exact ⟨by decide, hK⟩⟩
  · have e34 : decide (¬ RqOk t) = true := decide_eq_true hG
    have hgr : getR t = zeroQ := by rw [getR, if_neg hG]
    rw [hgr, grE, if_neg hG] at hK
    rw [e34] at g34
    refine asc ?_; refine aiX g34 ?_ ?_
    · intro _
      refine rs ?_
      (refine al_set ?_ ?_ ?_ ?_; rotate_left 2; (· intro K hK; refine S1 ?_; refine build98z ?_; exact hK))
      (repeat (first | (refine al_set ?_ ?_ ?_ ?_; rotate_left 2; (· intro K hK; simp (disch := omega) only [go_sem, ↓set_get, ↓reduceIte, ↓o_bsl, ↓o_build, Nat.reduceEqDiff, Nat.reduceAdd, Nat.reduceMul, Int.reduceEq, Int.reduceNe, set_other, del_other, g2, ec, hrl, spl98r]; (repeat' (first | exact hK | (refine And.intro ?_ ?_) | assumption | omega)))) | (refine al_guard (b := true) rfl ?_ (fun _ => ?_) (fun h => absurd rfl h); · simp only [↓set_get, Nat.reduceEqDiff, Bool.false_eq_true, ↓reduceIte, aenv0, aenvS, aenvN, one_ne, g2, ec, hrl, spl98r]; done) | (refine al_guard (b := false) rfl ?_ (fun _ => ?_) (fun h => absurd rfl h); · simp only [↓set_get, Nat.reduceEqDiff, Bool.false_eq_true, ↓reduceIte, aenv0, aenvS, aenvN, one_ne, g2, ec, hrl, spl98r]; done) | (refine al_guard (b := true) rfl ?_ (fun h => Bool.noConfusion h) (fun _ => ?_); · simp only [↓set_get, Nat.reduceEqDiff, Bool.false_eq_true, ↓reduceIte, aenv0, aenvS, aenvN, one_ne, g2, ec, hrl, spl98r]; done) | (refine al_guard (b := false) rfl ?_ (fun h => Bool.noConfusion h) (fun _ => ?_); · simp only [↓set_get, Nat.reduceEqDiff, Bool.false_eq_true, ↓reduceIte, aenv0, aenvS, aenvN, one_ne, g2, ec, hrl, spl98r]; done) | (refine al_guard0 rfl ?_ ?_; · simp only [↓set_get, Nat.reduceEqDiff, Bool.false_eq_true, ↓reduceIte, aenv0, aenvS, aenvN, one_ne, g2, ec, hrl, spl98r]; done) | (refine al_none ?_ ?_ ?_ ?_; rotate_left 2; (· intro K hK; simp (disch := omega) only [go_sem, ↓set_get, ↓reduceIte, ↓o_bsl, ↓o_build, Nat.reduceEqDiff, Nat.reduceAdd, Nat.reduceMul, Int.reduceEq, Int.reduceNe, set_other, del_other, g2, ec, hrl, spl98r]; (repeat' (first | exact hK | (refine And.intro ?_ ?_) | assumption | omega))))))
      refine al_done (awp_ret (afin_cell s (hlec _) ?_))
      simp only [ares, aone, ↓set_get, Nat.reduceEqDiff, Bool.false_eq_true, ↓reduceIte, aenv0, aenvS, aenvN, one_ne, g2, load_ptr, tagg98, tsz98, set_same]
      exact ⟨_, _, rfl, by simp only [read_t, hrl, List.drop_zero, take98]; exact ⟨by decide, hK⟩⟩
    · intro h; cases h
end Go.Proofs.Try
