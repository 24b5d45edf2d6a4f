/- messages: replies got; walked. -/
import Derived.Test.YtgbfchagmniiiaaMR
import Derived.Test.YtgbfchagmniiiaaMS
import Derived.Test.YtgbfchagmniiiaaGD
set_option maxRecDepth 8000
set_option linter.unusedSimpArgs false
set_option linter.unusedVariables false
namespace Go.Proofs.Try
open Go Go.Av
set_option pp.maxSteps 900
attribute [local irreducible] alist awp adraw apure
attribute [local go_sem] cellsOf_int cellsOf_bool cellsOf_str cellsOf_nilp cellsOf_nil cellsOf_e0 cellsOf_sl cellsOf_osl cellsOf_ptr cellsOf_eptr cellsOf_fn cellsOf_agg okc_int okc_bool okc_str okc_nilp okc_nil okc_e0 okc_sl okc_osl okc_ptr okc_eptr okc_fn okc_agg and_assoc splice_0n splice_0c splice_s load_ptr load_eptr read_t read_f store_p cells_inj set_same exists_and_left List.length_cons List.length_nil List.drop_zero List.drop_succ_cons List.take_succ_cons List.take_zero Option.isSome_some
variable {γ : Gl} {σ s : St} {K : D → St → Prop}
attribute [local go_sem] List.length_append natc0 eq_self sgD_len sgD_a spl91 splice_self List.length_replicate length_bytesD sgsD_len bne_self_eq_false Int.toNat_natCast

def zero100 : List D := [.int .i64 0, .int .i64 0, .int .i64 0, .nil, .nil, .nil]
theorem build100b {a b : Int} (hk : K (.agg [.int .i64 a, .int .i64 b, .int .i64 0, .nil, .nil, .nil]) s) : abuild prog 100 [(0, .int .i64 a), (1, .int .i64 b)] s K := by
  simp only [abuild, zc100, pl100]
  exact hk
theorem build100z (hk : K (.agg [.int .i64 0, .int .i64 0, .int .i64 0, .nil, .nil, .nil]) s) : abuild prog 100 [] s K := by
  simp only [abuild, zc100, pl100]
  exact hk
theorem wk_rep {r : Rep} {d3 d4 d5 : D} (h3 : Wk d3 (.sl r.heads.length (sgsD r.heads) none)) (h4 : Wk d4 (.sl r.entries.length (txD r.entries) none)) (h5 : Wk d5 (pathD r.proof)) : ∀ (k : Nat) d d', ([.int .i64 r.id, .int .i64 r.kind, .int .i64 r.code, d3, d4, d5] : List D)[k]? = some d → (repD r)[k]? = some d' → Wk d d' := by
  intro k d d' e e'
  match k, e, e' with
  | 0, e, e' => cases e; cases e'; exact .refl _
  | 1, e, e' => cases e; cases e'; exact .refl _
  | 2, e, e' => cases e; cases e'; exact .refl _
  | 3, e, e' => cases e; cases e'; exact h3
  | 4, e, e' => cases e; cases e'; exact h4
  | 5, e, e' => cases e; cases e'; exact h5
  | k + 6, e, e' => simp at e
/-- The row that a cell holds: none yet, or one of one's own. -/
def RowT (τ : St) (x q c : Nat) (s : St) (l : List (List UInt8)) (d : D) : Prop :=
  (l = [] ∧ d = .nil) ∨ ∃ i c0, τ i = some (.tok 9 c0) ∧ (i ≠ x ∧ i ≠ q ∧ i ≠ c) ∧ s i = none ∧ d = .sl l.length (txD l) (some (i, 1))
theorem rx_rep {Q : Env → St → Prop} {ρ : Env} {τ : St} {x : Nat} {r : Rep} {d3 d4 d5 : D} (hx : τ x = some (.cells [.int .i64 r.id, .int .i64 r.kind, .int .i64 r.code, d3, d4, d5] 100)) (h3 : Wk d3 (.sl r.heads.length (sgsD r.heads) none)) (h4 : Wk d4 (.sl r.entries.length (txD r.entries) none)) (h5 : Wk d5 (pathD r.proof)) (h : Rx Q ρ (τ.set x (.cells (repD r) 100))) : Rx Q ρ τ := rx_cells (l' := repD r) hx (Nat.le_refl 6) (wk_rep h3 h4 h5) h
theorem wk_h1 (y : SHead) : Wk (.sl 1 (sgD y) none) (.sl [y].length (sgsD [y]) none) := by
  rw [show sgsD [y] = sgD y from rows_one ..]; exact .refl _
theorem RowT.frame {τ τ' : St} {x q c : Nat} {l : List (List UInt8)} {d : D} (h : RowT τ x q c s l d) (hj : ∀ j, j ≠ x → j ≠ q → j ≠ c → τ' j = τ j) : RowT τ' x q c s l d := by
  rcases h with h | ⟨i, c0, h0, h1, h2, h3⟩
  · exact .inl h
  · exact .inr ⟨i, c0, by rw [hj i h1.1 h1.2.1 h1.2.2]; exact h0, h1, h2, h3⟩
theorem RowT.wk {τ : St} {x q c : Nat} {l : List (List UInt8)} {d : D} (h : RowT τ x q c s l d) : Wk d (.sl l.length (txD l) none) := by
  rcases h with ⟨rfl, rfl⟩ | ⟨i, c0, _, _, _, rfl⟩
  · exact .nil
  · exact .tok _ _ _
theorem bsl_t1 {t : List UInt8} (hk : K (.sl 1 [.str t] none) s) : abuildSl prog 44 1 [(0, .str t)] s K := by
  have hf : afill (fun i => some (i * 1, 1)) (List.replicate 1 [D.str []]).flatten [(0, .str t)] = some [.str t] := by
    simp only [List.replicate_succ, List.replicate_zero, List.flatten_cons, List.flatten_nil, List.cons_append, List.nil_append, afill, cellsOf_str, okc_str, Nat.reduceMul, splice_s, splice_0c, splice_0n, List.length_cons, List.length_nil, Nat.reduceAdd, Nat.reduceLeDiff, and_self, if_true]
  simp only [abuildSl, elt44, zc9, hf]
  exact ⟨by decide, .inr (.inr hk)⟩
theorem app_rowT {τ : St} {x q c : Nat} {l : List (List UInt8)} {d : D} {t : List UInt8} (h : RowT τ x q c s l d) (hl : l.length ≤ 1000) (hk : ∀ i, τ i = none → ∀ τ', τ' i = some (.tok 9 (txD (l ++ [t]))) → (∀ j, j ≠ i → (∀ i0 c0, d = .sl l.length (txD l) (some (i0, 1)) → τ i0 = some (.tok 9 c0) → j ≠ i0) → τ' j = τ j) → (s.le τ → s.le τ') → K (.sl (l ++ [t]).length (txD (l ++ [t])) (some (i, 1))) τ') : aapp τ 9 1 16 d 1 [.str t] K := by
  have e : txD (l ++ [t]) = txD l ++ [.str t] := by simp [txD]
  rcases h with ⟨rfl, rfl⟩ | ⟨i0, c0, h0, hne, hs0, rfl⟩
  · refine app_nil (by decide) (by decide) fun i hi => hk i hi _ ?_ ?_ ?_
    · exact set_same _ _ _
    · intro j hj _; exact set_other _ hj
    · intro hle; exact hle.trans (le_set _ hi)
  · refine ⟨rfl, ⟨c0, h0⟩, by omega, fun i hi => ?_⟩
    have := hk i hi ((τ.del i0).set i (.tok 9 (txD (l ++ [t])))) (set_same _ _ _) ?_ ?_
    · rw [List.length_append, List.length_singleton] at this
      rw [← e]; exact this
    · intro j hj hj0
      have hj0 := hj0 i0 c0 rfl h0
      rw [set_other _ hj]; simp [St.del, hj0]
    · intro hle j x hx
      have h1 := hle j x hx
      by_cases hj : j = i
      · subst hj; rw [hi] at h1; cases h1
      · by_cases hj0 : j = i0
        · subst hj0; rw [hs0] at hx; cases hx
        · rw [set_other _ hj]; simp [St.del, hj0]; exact h1
theorem vR5 (st : RS) : vR 5 st = 0 ∨ (1 ≤ vR 5 st ∧ vR 5 st ≤ 5) := by
  have := vR_le 5 st
  omega
theorem hdS_len (st : RS) : (hdS st).1.length ≤ st.1.length := (q4_len st.1).1
theorem tS_len (m : Nat) (st : RS) : (tS m st).1.length ≤ st.1.length := (q4_len st.1).1
theorem GetReply_c {t : List UInt8} (ht : t.length ≤ 140737488355328) (hK : K (.tup [.agg (repD (getP t)), .int .i64 (gpR t)]) s) : ACalls prog γ 83 [.str t] s K := by
  have hpl : ∀ r : Rep, (repD r).length = 6 := fun r => rfl
  have tk6 : ∀ r : Rep, (repD r).take 6 = repD r := fun r => rfl
  have c1 : ∀ r : Rep, (repD r)[1]? = some (.int .i64 r.kind) := fun r => rfl
  have hbl := beg_len 82 t
  refine acalls_of_awp (by kernel_rfl) func83 rfl (by kernel_rfl) rfl rfl (by kernel_rfl) (Nat.le_of_ble_eq_true rfl) ?_
  refine rs ?_
  (refine aF ?_; intro c hc; (try (have h_hc := hc; simp only [set_none] at h_hc)))
  refine run ?_
  refine al_done ?_
  refine rs ?_
  refine run ?_
  (refine al_fresh ?_ ?_ ?_ ?_ ?_; rotate_left 3; (· intro K hK; refine S1 ?_; refine Or.inl (Begin_c (by omega) ?_); exact hK); intro q hq; (try (have h_hq := hq; simp only [set_none] at h_hq)))
  refine run ?_
  refine al_done ?_
  obtain ⟨kqc, hq0⟩ := keep_none hq
  obtain ⟨s1, hs1⟩ : ∃ z, (s.set c (.cells [.int .i64 0, .int .i64 0, .int .i64 0, .nil, .nil, .nil] 100)).set q (.cells (rdD (beg 82 t)) 161) = z := ⟨_, rfl⟩
  have e1q : s1 q = some (.cells (rdD (beg 82 t)) 161) := by rw [← hs1]; exact set_same _ _ _
  have e1c : s1 c = some (.cells zero100 100) := by rw [← hs1, set_other _ (Ne.symm kqc)]; exact set_same _ _ _
  have hle1 : s.le s1 := by rw [← hs1]; exact (le_set _ hc).trans (le_set _ hq)
  rw [hs1]
  clear hs1 hq
  refine rs ?_
  refine run ?_
  (refine al_set ?_ ?_ ?_ ?_; rotate_left 2; (· intro K hK; refine S1 ?_; refine Or.inl (Number_i (m := big) rfl e1q (by omega) (by decide) ?_); exact hK))
  have n1 := nR_len big (beg 82 t)
  refine run ?_
  (refine al_set ?_ ?_ ?_ ?_; rotate_left 2; (· intro K hK; refine S1 ?_; refine Or.inl (Number_i (m := 5) rfl (set_same _ _ _) (by omega) (by decide) ?_); exact hK))
  have n2 := nR_len 5 (nR big (beg 82 t))
  rw [set_set]
  refine run ?_
  (refine al_set ?_ ?_ ?_ ?_; rotate_left 2; (· intro K hK; refine S1 ?_; refine build100b ?_; exact hK))
  (refine aF ?_; intro x hx; (try (have h_hx := hx; simp only [set_none] at h_hx)))
  refine run ?_
  refine al_done ?_
  rw [set_set]
  obtain ⟨kxq, hx1⟩ := keep_none hx
  have kxc : c ≠ x := keep_ne e1c hx1
  have hx0 := le_none hle1 hx1
  have hR : rpA t = rpB (rp2 t).1.1 (rp2 t).1.2 (rp2 t).2 := rfl
  have hk5 : 0 ≤ (rp2 t).1.2 ∧ (rp2 t).1.2 ≤ 5 := vR_le 5 _
  obtain ⟨s2, hs2⟩ : ∃ z, (s1.set q (.cells (rdD (nR 5 (nR big (beg 82 t)))) 161)).set x (.cells [.int .i64 (vR big (beg 82 t)), .int .i64 (vR 5 (nR big (beg 82 t))), .int .i64 0, .nil, .nil, .nil] 100) = z := ⟨_, rfl⟩
  rw [hs2]
  obtain ⟨i, hi⟩ : ∃ z, vR big (beg 82 t) = z := ⟨_, rfl⟩
  obtain ⟨k, hk⟩ : ∃ z, vR 5 (nR big (beg 82 t)) = z := ⟨_, rfl⟩
  obtain ⟨st2, hst2⟩ : ∃ z, nR 5 (nR big (beg 82 t)) = z := ⟨_, rfl⟩
  have hR : rpA t = rpB i k st2 := by rw [hR, ← hi, ← hk, ← hst2]; rfl
  have hk5 : 0 ≤ k ∧ k ≤ 5 := by rw [← hk]; exact vR_le 5 _
  have hsl : st2.1.length ≤ 140737488355328 := by rw [← hst2]; omega
  rw [hi, hk, hst2] at hs2
  rw [hi, hk]
  clear hst2 n1 n2
  have e2x : s2 x = some (.cells [.int .i64 i, .int .i64 k, .int .i64 0, .nil, .nil, .nil] 100) := by rw [← hs2]; exact set_same _ _ _
  have e2q : s2 q = some (.cells (rdD st2) 161) := by rw [← hs2, set_other _ (Ne.symm kxq)]; exact set_same _ _ _
  have e2c : s2 c = some (.cells zero100 100) := by rw [← hs2, set_other _ kxc, set_other _ (Ne.symm kqc)]; exact e1c
  have hle2 : s.le s2 := by rw [← hs2]; exact le_set2 (le_set2 hle1 hq0) hx0
  clear hs2 hx hx1 e1q e1c hle1
  refine asc ?_; refine awp_rj (fun ρ' s' => s' = s2 ∧ ρ' 2 = .ptr c 0 ∧ ρ' 4 = .ptr q 0 ∧ ρ' 5 = .ptr x 0 ∧ ρ' 15 = .int .i64 k) ?_ ?_
  · intro K' hJ
    (repeat (first | (refine al_set ?_ ?_ ?_ ?_; rotate_left 2; (· intro K hK; simp (disch := omega) only [go_sem, ↓set_get, ↓reduceIte, ↓o_bsl, ↓o_build, Nat.reduceEqDiff, Nat.reduceAdd, Nat.reduceMul, Int.reduceEq, Int.reduceNe, set_other, del_other, e2x]; (repeat' (first | exact hK | (refine And.intro ?_ ?_) | assumption | omega)))) | (refine al_guard (b := true) rfl ?_ (fun _ => ?_) (fun h => absurd rfl h); · simp only [↓set_get, Nat.reduceEqDiff, Bool.false_eq_true, ↓reduceIte, aenv0, aenvS, aenvN, one_ne, e2x]; done) | (refine al_guard (b := false) rfl ?_ (fun _ => ?_) (fun h => absurd rfl h); · simp only [↓set_get, Nat.reduceEqDiff, Bool.false_eq_true, ↓reduceIte, aenv0, aenvS, aenvN, one_ne, e2x]; done) | (refine al_guard (b := true) rfl ?_ (fun h => Bool.noConfusion h) (fun _ => ?_); · simp only [↓set_get, Nat.reduceEqDiff, Bool.false_eq_true, ↓reduceIte, aenv0, aenvS, aenvN, one_ne, e2x]; done) | (refine al_guard (b := false) rfl ?_ (fun h => Bool.noConfusion h) (fun _ => ?_); · simp only [↓set_get, Nat.reduceEqDiff, Bool.false_eq_true, ↓reduceIte, aenv0, aenvS, aenvN, one_ne, e2x]; done) | (refine al_guard0 rfl ?_ ?_; · simp only [↓set_get, Nat.reduceEqDiff, Bool.false_eq_true, ↓reduceIte, aenv0, aenvS, aenvN, one_ne, e2x]; done) | (refine al_none ?_ ?_ ?_ ?_; rotate_left 2; (· intro K hK; simp (disch := omega) only [go_sem, ↓set_get, ↓reduceIte, ↓o_bsl, ↓o_build, Nat.reduceEqDiff, Nat.reduceAdd, Nat.reduceMul, Int.reduceEq, Int.reduceNe, set_other, del_other, e2x]; (repeat' (first | exact hK | (refine And.intro ?_ ?_) | assumption | omega))))))
    refine al_nil (hJ _ _ ⟨rfl, ?_, ?_, ?_, ?_⟩)
    all_goals simp only [↓set_get, Nat.reduceEqDiff, Bool.false_eq_true, ↓reduceIte, aenv0, aenvS, aenvN, one_ne]
  rintro ρ s2 ⟨rfl, g2, g4, g5, g15⟩
  refine asc ?_; refine awp_bj (fun ρ' s' => s' x = some (.cells (repD (rpB i k st2).1) 100) ∧ s' q = some (.cells (rdD (rpB i k st2).2) 161) ∧ s' c = some (.cells zero100 100) ∧ s.le s' ∧ ρ' 2 = .ptr c 0 ∧ ρ' 4 = .ptr q 0 ∧ ρ' 5 = .ptr x 0) ?_ ?_
  · intro K' hJ
    by_cases k1 : k = 1
    · have e1 : (k == 1) = true := by rw [k1]; rfl
      have eB : rpB i k st2 = (mkP i k (vR 255 st2) [] [] st2 false, cS st2) := by rw [rpB, if_pos k1]
      rw [eB] at hJ
      refine rs ?_
      refine runX (And.intro e1 g15) ?_
      refine al_done ?_
      refine ac ?_ ?_
      · intro _
        refine rs ?_
        refine runX g4 ?_
        (refine al_set ?_ ?_ ?_ ?_; rotate_left 2; (· intro K hK; refine S1X g4 ?_; refine Or.inl (Number_i (m := 255) rfl e2q hsl (by decide) ?_); exact hK))
        (repeat (first | (refine al_set ?_ ?_ ?_ ?_; rotate_left 2; (· intro K hK; simp (disch := omega) only [go_sem, ↓set_get, ↓reduceIte, ↓o_bsl, ↓o_build, Nat.reduceEqDiff, Nat.reduceAdd, Nat.reduceMul, Int.reduceEq, Int.reduceNe, set_other, del_other, g5, e2x]; (repeat' (first | exact hK | (refine And.intro ?_ ?_) | assumption | omega)))) | (refine al_guard (b := true) rfl ?_ (fun _ => ?_) (fun h => absurd rfl h); · simp only [↓set_get, Nat.reduceEqDiff, Bool.false_eq_true, ↓reduceIte, aenv0, aenvS, aenvN, one_ne, g5, e2x]; done) | (refine al_guard (b := false) rfl ?_ (fun _ => ?_) (fun h => absurd rfl h); · simp only [↓set_get, Nat.reduceEqDiff, Bool.false_eq_true, ↓reduceIte, aenv0, aenvS, aenvN, one_ne, g5, e2x]; done) | (refine al_guard (b := true) rfl ?_ (fun h => Bool.noConfusion h) (fun _ => ?_); · simp only [↓set_get, Nat.reduceEqDiff, Bool.false_eq_true, ↓reduceIte, aenv0, aenvS, aenvN, one_ne, g5, e2x]; done) | (refine al_guard (b := false) rfl ?_ (fun h => Bool.noConfusion h) (fun _ => ?_); · simp only [↓set_get, Nat.reduceEqDiff, Bool.false_eq_true, ↓reduceIte, aenv0, aenvS, aenvN, one_ne, g5, e2x]; done) | (refine al_guard0 rfl ?_ ?_; · simp only [↓set_get, Nat.reduceEqDiff, Bool.false_eq_true, ↓reduceIte, aenv0, aenvS, aenvN, one_ne, g5, e2x]; done) | (refine al_none ?_ ?_ ?_ ?_; rotate_left 2; (· intro K hK; simp (disch := omega) only [go_sem, ↓set_get, ↓reduceIte, ↓o_bsl, ↓o_build, Nat.reduceEqDiff, Nat.reduceAdd, Nat.reduceMul, Int.reduceEq, Int.reduceNe, set_other, del_other, g5, e2x]; (repeat' (first | exact hK | (refine And.intro ?_ ?_) | assumption | omega))))))
        refine al_done ?_
        obtain ⟨s3, hs3⟩ : ∃ z, (s2.set q (.cells (rdD (nR 255 st2)) 161)).set x (.cells [.int .i64 i, .int .i64 k, .int .i64 (vR 255 st2), .nil, .nil, .nil] 100) = z := ⟨_, rfl⟩
        have e3x : s3 x = some (.cells [.int .i64 i, .int .i64 k, .int .i64 (vR 255 st2), .nil, .nil, .nil] 100) := by rw [← hs3]; exact set_same _ _ _
        have e3q : s3 q = some (.cells [.str (nR 255 st2).1, .bool (nR 255 st2).2] 161) := by rw [← hs3, set_other _ (Ne.symm kxq)]; exact set_same _ _ _
        have e3c : s3 c = some (.cells zero100 100) := by rw [← hs3, set_other _ kxc, set_other _ (Ne.symm kqc)]; exact e2c
        have hle3 : s.le s3 := by rw [← hs3]; exact le_set2 (le_set2 hle2 hq0) hx0
        rw [hs3]
        refine awp_region ?_
        cases hb : (nR 255 st2).2 with
        | false =>
          rw [hb] at e3q
          have hcs : rdD (cS st2) = [.str (nR 255 st2).1, .bool false] := by rw [rdD, cS, hb]; rfl
          (repeat (first | (refine al_set ?_ ?_ ?_ ?_; rotate_left 2; (· intro K hK; simp (disch := omega) only [go_sem, ↓set_get, ↓reduceIte, ↓o_bsl, ↓o_build, Nat.reduceEqDiff, Nat.reduceAdd, Nat.reduceMul, Int.reduceEq, Int.reduceNe, set_other, del_other, g4, e3q]; (repeat' (first | exact hK | (refine And.intro ?_ ?_) | assumption | omega)))) | (refine al_guard (b := true) rfl ?_ (fun _ => ?_) (fun h => absurd rfl h); · simp only [↓set_get, Nat.reduceEqDiff, Bool.false_eq_true, ↓reduceIte, aenv0, aenvS, aenvN, one_ne, g4, e3q]; done) | (refine al_guard (b := false) rfl ?_ (fun _ => ?_) (fun h => absurd rfl h); · simp only [↓set_get, Nat.reduceEqDiff, Bool.false_eq_true, ↓reduceIte, aenv0, aenvS, aenvN, one_ne, g4, e3q]; done) | (refine al_guard (b := true) rfl ?_ (fun h => Bool.noConfusion h) (fun _ => ?_); · simp only [↓set_get, Nat.reduceEqDiff, Bool.false_eq_true, ↓reduceIte, aenv0, aenvS, aenvN, one_ne, g4, e3q]; done) | (refine al_guard (b := false) rfl ?_ (fun h => Bool.noConfusion h) (fun _ => ?_); · simp only [↓set_get, Nat.reduceEqDiff, Bool.false_eq_true, ↓reduceIte, aenv0, aenvS, aenvN, one_ne, g4, e3q]; done) | (refine al_guard0 rfl ?_ ?_; · simp only [↓set_get, Nat.reduceEqDiff, Bool.false_eq_true, ↓reduceIte, aenv0, aenvS, aenvN, one_ne, g4, e3q]; done) | (refine al_none ?_ ?_ ?_ ?_; rotate_left 2; (· intro K hK; simp (disch := omega) only [go_sem, ↓set_get, ↓reduceIte, ↓o_bsl, ↓o_build, Nat.reduceEqDiff, Nat.reduceAdd, Nat.reduceMul, Int.reduceEq, Int.reduceNe, set_other, del_other, g4, e3q]; (repeat' (first | exact hK | (refine And.intro ?_ ?_) | assumption | omega))))))
          refine al_nil (hJ _ _ (rx_rep (r := mkP i k (vR 255 st2) [] [] st2 false) (x := x) ?_ .nil .nil .nil (.done ⟨set_same _ _ _, ?_, ?_, ?_, ?_, ?_, ?_⟩)))
          · rw [set_other _ kxq]; exact e3x
          · rw [set_other _ (Ne.symm kxq), set_same, hcs]
          · rw [set_other _ kxc, set_other _ (Ne.symm kqc)]; exact e3c
          · exact le_set2 (le_set2 hle3 hq0) hx0
          all_goals simp only [↓set_get, Nat.reduceEqDiff, Bool.false_eq_true, ↓reduceIte, aenv0, aenvS, aenvN, one_ne, g2, g4, g5]
        | true =>
          rw [hb] at e3q
          have hcs : rdD (cS st2) = [.str (nR 255 st2).1, .bool (decide (vR 255 st2 > 0))] := by rw [rdD, cS, hb]; rfl
          (repeat (first | (refine al_set ?_ ?_ ?_ ?_; rotate_left 2; (· intro K hK; simp (disch := omega) only [go_sem, ↓set_get, ↓reduceIte, ↓o_bsl, ↓o_build, Nat.reduceEqDiff, Nat.reduceAdd, Nat.reduceMul, Int.reduceEq, Int.reduceNe, set_other, del_other, g4, g5, e3q, e3x]; (repeat' (first | exact hK | (refine And.intro ?_ ?_) | assumption | omega)))) | (refine al_guard (b := true) rfl ?_ (fun _ => ?_) (fun h => absurd rfl h); · simp only [↓set_get, Nat.reduceEqDiff, Bool.false_eq_true, ↓reduceIte, aenv0, aenvS, aenvN, one_ne, g4, g5, e3q, e3x]; done) | (refine al_guard (b := false) rfl ?_ (fun _ => ?_) (fun h => absurd rfl h); · simp only [↓set_get, Nat.reduceEqDiff, Bool.false_eq_true, ↓reduceIte, aenv0, aenvS, aenvN, one_ne, g4, g5, e3q, e3x]; done) | (refine al_guard (b := true) rfl ?_ (fun h => Bool.noConfusion h) (fun _ => ?_); · simp only [↓set_get, Nat.reduceEqDiff, Bool.false_eq_true, ↓reduceIte, aenv0, aenvS, aenvN, one_ne, g4, g5, e3q, e3x]; done) | (refine al_guard (b := false) rfl ?_ (fun h => Bool.noConfusion h) (fun _ => ?_); · simp only [↓set_get, Nat.reduceEqDiff, Bool.false_eq_true, ↓reduceIte, aenv0, aenvS, aenvN, one_ne, g4, g5, e3q, e3x]; done) | (refine al_guard0 rfl ?_ ?_; · simp only [↓set_get, Nat.reduceEqDiff, Bool.false_eq_true, ↓reduceIte, aenv0, aenvS, aenvN, one_ne, g4, g5, e3q, e3x]; done) | (refine al_none ?_ ?_ ?_ ?_; rotate_left 2; (· intro K hK; simp (disch := omega) only [go_sem, ↓set_get, ↓reduceIte, ↓o_bsl, ↓o_build, Nat.reduceEqDiff, Nat.reduceAdd, Nat.reduceMul, Int.reduceEq, Int.reduceNe, set_other, del_other, g4, g5, e3q, e3x]; (repeat' (first | exact hK | (refine And.intro ?_ ?_) | assumption | omega))))))
          refine al_nil (hJ _ _ (rx_rep (r := mkP i k (vR 255 st2) [] [] st2 false) (x := x) ?_ .nil .nil .nil (.done ⟨set_same _ _ _, ?_, ?_, ?_, ?_, ?_, ?_⟩)))
          · rw [set_other _ kxq]; exact e3x
          · rw [set_other _ (Ne.symm kxq), set_same, hcs]
          · rw [set_other _ kxc, set_other _ (Ne.symm kqc)]; exact e3c
          · exact le_set2 (le_set2 hle3 hq0) hx0
          all_goals simp only [↓set_get, Nat.reduceEqDiff, Bool.false_eq_true, ↓reduceIte, aenv0, aenvS, aenvN, one_ne, g2, g4, g5]
      · intro h; cases h
    have e1 : (k == 1) = false := by rw [beq_eq_false_iff_ne]; exact k1
    refine rs ?_
    refine runX (And.intro e1 g15) ?_
    refine al_done ?_
    refine ac ?_ ?_
    · intro h; cases h
    intro _
    by_cases k2 : k = 2
    · have e2 : (k == 2) = true := by rw [k2]; rfl
      have eB : rpB i k st2 = (mkP i k 0 [gX (txR st2)] [] st2 false, hdS st2) := by rw [rpB, if_neg k1, if_pos k2]
      rw [eB] at hJ
      refine rs ?_
      refine runX (And.intro e2 g15) ?_
      refine al_done ?_
      refine ac ?_ ?_
      · intro _
        refine awp_region ?_
        refine runX g4 ?_
        (refine al_set ?_ ?_ ?_ ?_; rotate_left 2; (· intro K hK; refine S1X g4 ?_; refine Or.inl (Head_r e2q hsl ?_); exact hK))
        (refine al_set ?_ ?_ ?_ ?_; rotate_left 2; (· intro K hK; refine S1 ?_; refine bsl_agg0 elt79 zc91 rfl (sgD_len _) (by decide) ?_; exact hK))
        (repeat (first | (refine al_set ?_ ?_ ?_ ?_; rotate_left 2; (· intro K hK; simp (disch := omega) only [go_sem, ↓set_get, ↓reduceIte, ↓o_bsl, ↓o_build, Nat.reduceEqDiff, Nat.reduceAdd, Nat.reduceMul, Int.reduceEq, Int.reduceNe, set_other, del_other, g5, e2x]; (repeat' (first | exact hK | (refine And.intro ?_ ?_) | assumption | omega)))) | (refine al_guard (b := true) rfl ?_ (fun _ => ?_) (fun h => absurd rfl h); · simp only [↓set_get, Nat.reduceEqDiff, Bool.false_eq_true, ↓reduceIte, aenv0, aenvS, aenvN, one_ne, g5, e2x]; done) | (refine al_guard (b := false) rfl ?_ (fun _ => ?_) (fun h => absurd rfl h); · simp only [↓set_get, Nat.reduceEqDiff, Bool.false_eq_true, ↓reduceIte, aenv0, aenvS, aenvN, one_ne, g5, e2x]; done) | (refine al_guard (b := true) rfl ?_ (fun h => Bool.noConfusion h) (fun _ => ?_); · simp only [↓set_get, Nat.reduceEqDiff, Bool.false_eq_true, ↓reduceIte, aenv0, aenvS, aenvN, one_ne, g5, e2x]; done) | (refine al_guard (b := false) rfl ?_ (fun h => Bool.noConfusion h) (fun _ => ?_); · simp only [↓set_get, Nat.reduceEqDiff, Bool.false_eq_true, ↓reduceIte, aenv0, aenvS, aenvN, one_ne, g5, e2x]; done) | (refine al_guard0 rfl ?_ ?_; · simp only [↓set_get, Nat.reduceEqDiff, Bool.false_eq_true, ↓reduceIte, aenv0, aenvS, aenvN, one_ne, g5, e2x]; done) | (refine al_none ?_ ?_ ?_ ?_; rotate_left 2; (· intro K hK; simp (disch := omega) only [go_sem, ↓set_get, ↓reduceIte, ↓o_bsl, ↓o_build, Nat.reduceEqDiff, Nat.reduceAdd, Nat.reduceMul, Int.reduceEq, Int.reduceNe, set_other, del_other, g5, e2x]; (repeat' (first | exact hK | (refine And.intro ?_ ?_) | assumption | omega))))))
        refine al_nil (hJ _ _ (rx_rep (r := mkP i k 0 [gX (txR st2)] [] st2 false) (x := x) (set_same _ _ _) (wk_h1 _) .nil .nil (.done ⟨set_same _ _ _, ?_, ?_, ?_, ?_, ?_, ?_⟩)))
        · rw [set_other _ (Ne.symm kxq), set_other _ (Ne.symm kxq), set_same]
        · rw [set_other _ kxc, set_other _ kxc, set_other _ (Ne.symm kqc)]; exact e2c
        · exact le_set2 (le_set2 (le_set2 hle2 hq0) hx0) hx0
        all_goals simp only [↓set_get, Nat.reduceEqDiff, Bool.false_eq_true, ↓reduceIte, aenv0, aenvS, aenvN, one_ne, g2, g4, g5]
      · intro h; cases h
    have e2 : (k == 2) = false := by rw [beq_eq_false_iff_ne]; exact k2
    refine rs ?_
    refine runX (And.intro e2 g15) ?_
    refine al_done ?_
    refine ac ?_ ?_
    · intro h; cases h
    intro _
    by_cases k3 : k = 3
    · have e3 : (k == 3) = true := by rw [k3]; rfl
      have eB : rpB i k st2 = (mkP i k 0 [] (enR (vR 16 st2).toNat (nR 16 st2)).1 (stE st2) true, hS (stE st2)) := by rw [rpB, if_neg k1, if_neg k2, if_pos k3]
      rw [eB] at hJ
      refine rs ?_
      refine runX (And.intro e3 g15) ?_
      refine al_done ?_
      refine ac ?_ ?_
      · intro _
        have n16 := nR_len 16 st2
        have v16 := vR_le 16 st2
        refine rs ?_
        refine runX g4 ?_
        (refine al_set ?_ ?_ ?_ ?_; rotate_left 2; (· intro K hK; refine S1X g4 ?_; refine Or.inl (Number_i (m := 16) rfl e2q hsl (by decide) ?_); exact hK))
        refine run ?_
        refine al_done ?_
        obtain ⟨N, hN⟩ : ∃ N, (vR 16 st2).toNat = N := ⟨_, rfl⟩
        have hNv : vR 16 st2 = (N : Nat) := by omega
        obtain ⟨st0, hst0⟩ : ∃ z, nR 16 st2 = z := ⟨_, rfl⟩
        have hsE : stE st2 = (enR N st0).2 := by rw [stE, hN, hst0]
        rw [hN, hst0] at hJ
        rw [hst0] at n16
        rw [hNv, hst0]
        refine asc ?_; refine awp_while (fun n ρ τ => ∃ (m : Nat) (done : List (List UInt8)) (st : RS) (d : D), n = m ∧ done.length + m ≤ 16 ∧ st.1.length ≤ 140737488355328 ∧ (enR N st0).1 = done ++ (enR m st).1 ∧ (enR N st0).2 = (enR m st).2 ∧ RowT τ x q c s done d ∧ τ x = some (.cells [.int .i64 i, .int .i64 k, .int .i64 0, .nil, d, .nil] 100) ∧ τ q = some (.cells (rdD st) 161) ∧ τ c = some (.cells zero100 100) ∧ s.le τ ∧ ρ 2 = .ptr c 0 ∧ ρ 4 = .ptr q 0 ∧ ρ 5 = .ptr x 0 ∧ ρ 6 = .int .i64 (m : Nat)) N ?_ ?_
        · refine ⟨N, [], st0, .nil, rfl, by simp; omega, by omega, rfl, rfl, .inl ⟨rfl, rfl⟩, ?_, set_same _ _ _, ?_, le_set2 hle2 hq0, ?_, ?_, ?_, ?_⟩
          · rw [set_other _ kxq]; exact e2x
          · rw [set_other _ (Ne.symm kqc)]; exact e2c
          all_goals simp only [↓set_get, Nat.reduceEqDiff, Bool.false_eq_true, ↓reduceIte, aenv0, aenvS, aenvN, one_ne, g2, g4, g5]
        rintro m ρ τ ⟨_, done, st, d, rfl, hdl, hsl, hu1, hu2, hrow, ex, eq, ec, hle, g2, g4, g5, g6⟩
        have eq' : τ q = some (.cells [.str st.1, .bool st.2] 161) := eq
        refine asc ?_; refine awp_rj (fun ρ' s' => s' = τ ∧ ρ' 2 = .ptr c 0 ∧ ρ' 4 = .ptr q 0 ∧ ρ' 5 = .ptr x 0 ∧ ρ' 6 = .int .i64 (m : Nat) ∧ ρ' 50 = .bool (decide (st.2 = true ∧ 0 < m))) ?_ ?_
        · intro K2 hJ2
          cases hb : st.2
          all_goals rw [hb] at eq'
          all_goals refine runX (And.intro g4 (And.intro g6 eq')) ?_
          all_goals refine al_nil (hJ2 _ _ ⟨rfl, ?_, ?_, ?_, ?_, ?_⟩)
          all_goals simp only [↓set_get, Nat.reduceEqDiff, Bool.false_eq_true, ↓reduceIte, aenv0, aenvS, aenvN, one_ne, g2, g4, g5, g6]
          all_goals (congr 1; simp [hb])
        rintro ρ τ ⟨rfl, g2, g4, g5, g6, g50⟩
        refine asc ?_; refine ateX g50 ?_ ?_
        · intro hb2
          obtain ⟨hb, hm⟩ := of_decide_eq_true hb2
          obtain ⟨m, rfl⟩ : ∃ j, m = j + 1 := ⟨m - 1, by omega⟩
          rw [enR, if_pos hb] at hu1 hu2
          have htl := tS_len 200 st
          obtain ⟨τ1, ht1⟩ : ∃ z, τ.set q (.cells (rdD (tS 200 st)) 161) = z := ⟨_, rfl⟩
          have hrow1 : RowT τ1 x q c s done d := hrow.frame (fun j _ hq _ => by rw [← ht1, set_other _ hq])
          have e1x : τ1 x = some (.cells [.int .i64 i, .int .i64 k, .int .i64 0, .nil, d, .nil] 100) := by rw [← ht1, set_other _ kxq]; exact ex
          have e1q : τ1 q = some (.cells (rdD (tS 200 st)) 161) := by rw [← ht1]; exact set_same _ _ _
          have e1c : τ1 c = some (.cells zero100 100) := by rw [← ht1, set_other _ (Ne.symm kqc)]; exact ec
          have hle1 : s.le τ1 := by rw [← ht1]; exact le_set2 hle hq0
          have hx1 : ∀ τ, xcells τ 1 (.sl 1 [.str (txR st)] none) = some (1, [.str (txR st)]) := fun τ => rfl
          refine asc ?_; refine awp_body ?_
          refine awp_draw1 [true, true, true, false, false, false, true, false] (by kernel_rfl) ?_
          refine runDX (And.intro g4 (And.intro g5 ex)) ?_
          refine pa_nil ?_
          refine passes ?_
          (refine pt_set ?_ ?_ ?_ ?_ ?_; rotate_left 2; (· intro K hK; refine S1X (And.intro ex (And.intro g4 g5)) ?_; refine Or.inl (Text_r (m := 200) rfl eq hsl ?_); exact hK); (· exact seensX (And.intro ex (And.intro g4 g5))))
          rw [ht1]
          (refine pt_set ?_ ?_ ?_ ?_ ?_; rotate_left 2; (· intro K hK; simp (disch := omega) only [go_sem, ↓set_get, ↓reduceIte, ↓o_bsl, ↓o_build, Nat.reduceEqDiff, Nat.reduceAdd, Nat.reduceMul, Int.reduceEq, Int.reduceNe, set_other, del_other,  e1x, g4, g5]; refine bsl_t1 ?_; exact hK); (· ((repeat' (first | exact seen_nil | refine seen_skip (by decide +kernel) ?_ | refine seen_cons ?_ ?_))) <;> (simp (disch := omega) only [go_sem, ↓set_get, ↓reduceIte, ↓o_bsl, ↓o_build, Nat.reduceEqDiff, Nat.reduceAdd, Nat.reduceMul, Int.reduceEq, Int.reduceNe, set_other, del_other,  e1x, g4, g5]; (repeat' (first | exact St.le.refl _ | rfl | (refine And.intro ?_ ?_) | assumption  | omega)))))
          have hxj : ∀ j, τ1 j = none → x ≠ j ∧ q ≠ j ∧ c ≠ j := fun j hj => ⟨keep_ne e1x hj, keep_ne e1q hj, keep_ne e1c hj⟩
          refine pt_rel (fun d' τ' => ∃ j, τ1 j = none ∧ d' = .sl (done ++ [txR st]).length (txD (done ++ [txR st])) (some (j, 1)) ∧ τ' j = some (.tok 9 (txD (done ++ [txR st]))) ∧ τ' x = τ1 x ∧ τ' q = τ1 q ∧ τ' c = τ1 c ∧ s.le τ') ?_ ?_
          · intro K2 hK2
            simp (disch := omega) only [go_sem, ↓set_get, ↓reduceIte, ↓o_bsl, ↓o_build, Nat.reduceEqDiff, Nat.reduceAdd, Nat.reduceMul, Int.reduceEq, Int.reduceNe, set_other, del_other, hx1]
            refine app_rowT hrow1 (by omega) (fun j hj τ' h1 h2 h3 => hK2 _ _ ⟨j, hj, rfl, h1, ?_, ?_, ?_, h3 hle1⟩)
            · exact h2 x (hxj j hj).1 (fun i0 c0 _ h0 e => by rw [← e, e1x] at h0; cases h0)
            · exact h2 q (hxj j hj).2.1 (fun i0 c0 _ h0 e => by rw [← e, e1q] at h0; cases h0)
            · exact h2 c (hxj j hj).2.2 (fun i0 c0 _ h0 e => by rw [← e, e1c] at h0; cases h0)
          rintro _ τ' ⟨j, hj, rfl, h1, hx', hq', hc', hle'⟩
          rw [e1x] at hx'
          rw [e1q] at hq'
          rw [e1c] at hc'
          obtain ⟨jx, jq, jc⟩ := hxj j hj
          have hs0 := le_none hle1 hj
          refine ⟨seensX (And.intro hx' (And.intro g4 g5)), ?_⟩
          refine passesX (And.intro hx' (And.intro g4 g5)) ?_
          refine pt_end (Rx.done ?_)
          refine awp_region ?_
          refine runX g6 ?_
          refine al_nil ?_
          refine lq_next m (by omega) ⟨m, done ++ [txR st], tS 200 st, .sl (done ++ [txR st]).length (txD (done ++ [txR st])) (some (j, 1)), rfl, by simp; omega, by omega, by rw [hu1]; simp, hu2, .inr ⟨j, txD (done ++ [txR st]), ?_, ⟨Ne.symm jx, Ne.symm jq, Ne.symm jc⟩, hs0, rfl⟩, by rw [List.length_append]; exact set_same _ _ _, ?_, ?_, le_set2 hle' hx0, ?_, ?_, ?_, ?_⟩
          · rw [set_other _ (Ne.symm jx)]; exact h1
          · rw [set_other _ (Ne.symm kxq)]; exact hq'
          · rw [set_other _ kxc]; exact hc'
          · simp only [↓set_get, Nat.reduceEqDiff, Bool.false_eq_true, ↓reduceIte, aenv0, aenvS, aenvN, one_ne, g2]
          · simp only [↓set_get, Nat.reduceEqDiff, Bool.false_eq_true, ↓reduceIte, aenv0, aenvS, aenvN, one_ne, g4]
          · simp only [↓set_get, Nat.reduceEqDiff, Bool.false_eq_true, ↓reduceIte, aenv0, aenvS, aenvN, one_ne, g5]
          · simp only [↓set_get, Nat.reduceEqDiff, Bool.false_eq_true, ↓reduceIte, aenv0, aenvS, aenvN, one_ne]; congr 1; omega
        · intro hb2
          have hb2 : ¬ (st.2 = true ∧ 0 < m) := of_decide_eq_false hb2
          have hend : enR m st = ([], st) := by
            cases m with
            | zero => rfl
            | succ m => rw [enR, if_neg (fun h => hb2 ⟨h, by omega⟩)]
          rw [hend] at hu1 hu2
          rw [List.append_nil] at hu1
          rw [hsE, hu1, hu2] at hJ
          refine lq_exit ?_
          refine awp_region ?_
          refine runX g4 ?_
          (refine al_set ?_ ?_ ?_ ?_; rotate_left 2; (· intro K hK; refine S1X g4 ?_; refine Or.inl (Hashes_r eq hsl ?_); exact hK))
          rw [pathD]
          refine runX (And.intro g5 ex) ?_
          refine al_nil (hJ _ _ (rx_rep (r := mkP i k 0 [] done st true) (x := x) (set_same _ _ _) .nil hrow.wk (.refl _) (.done ⟨set_same _ _ _, ?_, ?_, ?_, ?_, ?_, ?_⟩)))
          · rw [set_other _ (Ne.symm kxq), set_other _ (Ne.symm kxq), set_same]
          · rw [set_other _ kxc, set_other _ kxc, set_other _ (Ne.symm kqc)]; exact ec
          · exact le_set2 (le_set2 (le_set2 hle hq0) hx0) hx0
          all_goals simp only [↓set_get, Nat.reduceEqDiff, Bool.false_eq_true, ↓reduceIte, aenv0, aenvS, aenvN, one_ne, g2, g4, g5]
      · intro h; cases h
    have e3 : (k == 3) = false := by rw [beq_eq_false_iff_ne]; exact k3
    refine rs ?_
    refine runX (And.intro e3 g15) ?_
    refine al_done ?_
    refine ac ?_ ?_
    · intro h; cases h
    intro _
    by_cases k4 : k = 4
    · have e4 : (k == 4) = true := by rw [k4]; rfl
      have eB : rpB i k st2 = (mkP i k 0 [] [] st2 true, hS st2) := by rw [rpB, if_neg k1, if_neg k2, if_neg k3, if_pos k4]
      rw [eB] at hJ
      refine rs ?_
      refine runX (And.intro e4 g15) ?_
      refine al_done ?_
      refine ac ?_ ?_
      · intro _
        refine awp_region ?_
        refine runX g4 ?_
        (refine al_set ?_ ?_ ?_ ?_; rotate_left 2; (· intro K hK; refine S1X g4 ?_; refine Or.inl (Hashes_r e2q hsl ?_); exact hK))
        rw [pathD]
        (repeat (first | (refine al_set ?_ ?_ ?_ ?_; rotate_left 2; (· intro K hK; simp (disch := omega) only [go_sem, ↓set_get, ↓reduceIte, ↓o_bsl, ↓o_build, Nat.reduceEqDiff, Nat.reduceAdd, Nat.reduceMul, Int.reduceEq, Int.reduceNe, set_other, del_other, g5, e2x]; (repeat' (first | exact hK | (refine And.intro ?_ ?_) | assumption | omega)))) | (refine al_guard (b := true) rfl ?_ (fun _ => ?_) (fun h => absurd rfl h); · simp only [↓set_get, Nat.reduceEqDiff, Bool.false_eq_true, ↓reduceIte, aenv0, aenvS, aenvN, one_ne, g5, e2x]; done) | (refine al_guard (b := false) rfl ?_ (fun _ => ?_) (fun h => absurd rfl h); · simp only [↓set_get, Nat.reduceEqDiff, Bool.false_eq_true, ↓reduceIte, aenv0, aenvS, aenvN, one_ne, g5, e2x]; done) | (refine al_guard (b := true) rfl ?_ (fun h => Bool.noConfusion h) (fun _ => ?_); · simp only [↓set_get, Nat.reduceEqDiff, Bool.false_eq_true, ↓reduceIte, aenv0, aenvS, aenvN, one_ne, g5, e2x]; done) | (refine al_guard (b := false) rfl ?_ (fun h => Bool.noConfusion h) (fun _ => ?_); · simp only [↓set_get, Nat.reduceEqDiff, Bool.false_eq_true, ↓reduceIte, aenv0, aenvS, aenvN, one_ne, g5, e2x]; done) | (refine al_guard0 rfl ?_ ?_; · simp only [↓set_get, Nat.reduceEqDiff, Bool.false_eq_true, ↓reduceIte, aenv0, aenvS, aenvN, one_ne, g5, e2x]; done) | (refine al_none ?_ ?_ ?_ ?_; rotate_left 2; (· intro K hK; simp (disch := omega) only [go_sem, ↓set_get, ↓reduceIte, ↓o_bsl, ↓o_build, Nat.reduceEqDiff, Nat.reduceAdd, Nat.reduceMul, Int.reduceEq, Int.reduceNe, set_other, del_other, g5, e2x]; (repeat' (first | exact hK | (refine And.intro ?_ ?_) | assumption | omega))))))
        refine al_nil (hJ _ _ (rx_rep (r := mkP i k 0 [] [] st2 true) (x := x) (set_same _ _ _) .nil .nil (.refl _) (.done ⟨set_same _ _ _, ?_, ?_, ?_, ?_, ?_, ?_⟩)))
        · rw [set_other _ (Ne.symm kxq), set_other _ (Ne.symm kxq), set_same]
        · rw [set_other _ kxc, set_other _ kxc, set_other _ (Ne.symm kqc)]; exact e2c
        · exact le_set2 (le_set2 (le_set2 hle2 hq0) hx0) hx0
        all_goals simp only [↓set_get, Nat.reduceEqDiff, Bool.false_eq_true, ↓reduceIte, aenv0, aenvS, aenvN, one_ne, g2, g4, g5]
      · intro h; cases h
    have e4 : (k == 4) = false := by rw [beq_eq_false_iff_ne]; exact k4
    refine rs ?_
    refine runX (And.intro e4 g15) ?_
    refine al_done ?_
    refine ac ?_ ?_
    · intro h; cases h
    intro _
    by_cases k5 : k = 5
    · have e5 : (k == 5) = true := by rw [k5]; rfl
      have eB : rpB i k st2 = (mkP i k 0 [gX (txR st2), gX (txR (hdS st2))] [] st2 false, hdS (hdS st2)) := by rw [rpB, if_neg k1, if_neg k2, if_neg k3, if_neg k4, if_pos k5]
      rw [eB] at hJ
      have hl2 := hdS_len st2
      refine rs ?_
      refine runX (And.intro e5 g15) ?_
      refine al_done ?_
      refine ac ?_ ?_
      · intro _
        refine awp_region ?_
        refine runX g4 ?_
        (refine al_set ?_ ?_ ?_ ?_; rotate_left 2; (· intro K hK; refine S1X g4 ?_; refine Or.inl (Head_r e2q hsl ?_); exact hK))
        refine runX g4 ?_
        (refine al_set ?_ ?_ ?_ ?_; rotate_left 2; (· intro K hK; refine S1X g4 ?_; refine Or.inl (Head_r (set_same _ _ _) (by omega) ?_); exact hK))
        rw [set_set]
        (refine al_set ?_ ?_ ?_ ?_; rotate_left 2; (· intro K hK; refine S1 ?_; refine bsl2 ?_; exact hK))
        (repeat (first | (refine al_set ?_ ?_ ?_ ?_; rotate_left 2; (· intro K hK; simp (disch := omega) only [go_sem, ↓set_get, ↓reduceIte, ↓o_bsl, ↓o_build, Nat.reduceEqDiff, Nat.reduceAdd, Nat.reduceMul, Int.reduceEq, Int.reduceNe, set_other, del_other, g5, e2x]; (repeat' (first | exact hK | (refine And.intro ?_ ?_) | assumption | omega)))) | (refine al_guard (b := true) rfl ?_ (fun _ => ?_) (fun h => absurd rfl h); · simp only [↓set_get, Nat.reduceEqDiff, Bool.false_eq_true, ↓reduceIte, aenv0, aenvS, aenvN, one_ne, g5, e2x]; done) | (refine al_guard (b := false) rfl ?_ (fun _ => ?_) (fun h => absurd rfl h); · simp only [↓set_get, Nat.reduceEqDiff, Bool.false_eq_true, ↓reduceIte, aenv0, aenvS, aenvN, one_ne, g5, e2x]; done) | (refine al_guard (b := true) rfl ?_ (fun h => Bool.noConfusion h) (fun _ => ?_); · simp only [↓set_get, Nat.reduceEqDiff, Bool.false_eq_true, ↓reduceIte, aenv0, aenvS, aenvN, one_ne, g5, e2x]; done) | (refine al_guard (b := false) rfl ?_ (fun h => Bool.noConfusion h) (fun _ => ?_); · simp only [↓set_get, Nat.reduceEqDiff, Bool.false_eq_true, ↓reduceIte, aenv0, aenvS, aenvN, one_ne, g5, e2x]; done) | (refine al_guard0 rfl ?_ ?_; · simp only [↓set_get, Nat.reduceEqDiff, Bool.false_eq_true, ↓reduceIte, aenv0, aenvS, aenvN, one_ne, g5, e2x]; done) | (refine al_none ?_ ?_ ?_ ?_; rotate_left 2; (· intro K hK; simp (disch := omega) only [go_sem, ↓set_get, ↓reduceIte, ↓o_bsl, ↓o_build, Nat.reduceEqDiff, Nat.reduceAdd, Nat.reduceMul, Int.reduceEq, Int.reduceNe, set_other, del_other, g5, e2x]; (repeat' (first | exact hK | (refine And.intro ?_ ?_) | assumption | omega))))))
        refine al_nil (hJ _ _ (rx_rep (r := mkP i k 0 [gX (txR st2), gX (txR (hdS st2))] [] st2 false) (x := x) (set_same _ _ _) (.refl _) .nil .nil (.done ⟨set_same _ _ _, ?_, ?_, ?_, ?_, ?_, ?_⟩)))
        · rw [set_other _ (Ne.symm kxq), set_other _ (Ne.symm kxq), set_same]
        · rw [set_other _ kxc, set_other _ kxc, set_other _ (Ne.symm kqc)]; exact e2c
        · exact le_set2 (le_set2 (le_set2 hle2 hq0) hx0) hx0
        all_goals simp only [↓set_get, Nat.reduceEqDiff, Bool.false_eq_true, ↓reduceIte, aenv0, aenvS, aenvN, one_ne, g2, g4, g5]
      · intro h; cases h
    have e5 : (k == 5) = false := by rw [beq_eq_false_iff_ne]; exact k5
    have eB : rpB i k st2 = (mkP i k 0 [] [] st2 false, st2) := by rw [rpB, if_neg k1, if_neg k2, if_neg k3, if_neg k4, if_neg k5]
    rw [eB] at hJ
    refine rs ?_
    refine runX (And.intro e5 g15) ?_
    refine al_done ?_
    refine ac ?_ ?_
    · intro h; cases h
    intro _
    refine awp_skip (hJ _ _ (rx_rep (r := mkP i k 0 [] [] st2 false) (x := x) e2x .nil .nil .nil (.done ⟨set_same _ _ _, ?_, ?_, ?_, ?_, ?_, ?_⟩)))
    · rw [set_other _ (Ne.symm kxq)]; exact e2q
    · rw [set_other _ kxc]; exact e2c
    · exact le_set2 hle2 hx0
    all_goals simp only [↓set_get, Nat.reduceEqDiff, Bool.false_eq_true, ↓reduceIte, aenv0, aenvS, aenvN, one_ne, g2, g4, g5]
  · rintro ρ τ ⟨ex, eq, ec, hle, g2, g4, g5⟩
    have hok : RpOk t ↔ ((rpB i k st2).2.2 = true ∧ (rpB i k st2).2.1 = []) ∧ 1 ≤ (rpB i k st2).1.kind := by rw [RpOk, hR]
    obtain ⟨r, hr⟩ : ∃ r, (rpB i k st2).1 = r := ⟨_, rfl⟩
    obtain ⟨st, hst⟩ : ∃ z, (rpB i k st2).2 = z := ⟨_, rfl⟩
    rw [hr, hst] at hok
    rw [hr] at ex
    rw [hst] at eq
    have hrA : (rpA t).1 = r := by rw [hR]; exact hr
    have hlec : ∀ v, s.le (τ.set c v) := fun v => le_set2 hle hc
    refine asc ?_; refine awp_rj (fun ρ' s' => s' = τ ∧ ρ' 2 = .ptr c 0 ∧ ρ' 5 = .ptr x 0 ∧ ρ' 83 = .bool (decide (¬ RpOk t))) ?_ ?_
    · intro K' hJ
      (repeat' (first | refine run1X (And.intro g4 (And.intro g5 (And.intro ex c1))) ?_ | (refine al_set ?_ ?_ ?_ ?_; rotate_left 2; (· intro K hK; refine S1X (And.intro g4 (And.intro g5 (And.intro ex c1))) ?_; refine Or.inl (End_c eq ?_); exact hK)) | (refine al_guard rfl (by simp only [↓set_get, Nat.reduceEqDiff, Bool.false_eq_true, ↓reduceIte, aenv0, aenvS, aenvN, one_ne, g4, g5, ex, c1]; rfl) (fun hb => ?_) (fun hb => ?_) <;> (try simp only [ne_eq, Bool.not_eq_true, Bool.not_eq_false] at hb) <;> have hb2 := hb <;> (try simp only [decide_eq_true_eq, decide_eq_false_iff_not, beq_iff_eq, beq_eq_false_iff_ne, bne_iff_ne, ne_eq, Bool.not_eq_true', Bool.not_eq_false'] at hb2) <;> (try rw [hb]))))
      all_goals refine al_nil (hJ _ _ ⟨rfl, ?_, ?_, ?_⟩)
      all_goals simp only [↓set_get, Nat.reduceEqDiff, Bool.false_eq_true, ↓reduceIte, aenv0, aenvS, aenvN, one_ne, g2, g5]
      all_goals (congr 1; rw [Bool.eq_iff_iff]; simp_all; try omega)
    rintro ρ1 τ ⟨rfl, g2, g5, g83⟩
    have ec' : τ c = some (.cells [.int .i64 0, .int .i64 0, .int .i64 0, .nil, .nil, .nil] 100) := ec
    by_cases hG : RpOk t
    · have e83 : decide (¬ RpOk t) = false := decide_eq_false (fun h => h hG)
      have hgr : getP t = r := by rw [getP, if_pos hG, hrA]
      have hsp : splice [.int .i64 0, .int .i64 0, .int .i64 0, .nil, .nil, .nil] 0 (repD r) = repD r := rfl
      rw [hgr, gpR, if_pos hG] at hK
      rw [e83] at g83
      refine asc ?_; refine aiX g83 ?_ ?_
      · intro h; cases h
      · intro _
        refine rs ?_
        refine runX (And.intro g5 (And.intro g2 (And.intro ex (And.intro ec' (And.intro hpl (And.intro tk6 hsp)))))) ?_
        refine al_done (awp_ret (afin_cell s (hlec _) ?_))
        simp only [ares, aone, ↓set_get, Nat.reduceEqDiff, Bool.false_eq_true, ↓reduceIte, aenv0, aenvS, aenvN, one_ne, g2, load_ptr, tagg100, tsz100, set_same]
        exact ⟨_, _, rfl, by simp only [read_t, hpl, List.drop_zero, tk6]; exact ⟨by decide, hK⟩⟩
    · have e83 : decide (¬ RpOk t) = true := decide_eq_true hG
      have hgr : getP t = zeroP := by rw [getP, if_neg hG]
      rw [hgr, gpR, if_neg hG] at hK
      rw [e83] at g83
      refine asc ?_; refine aiX g83 ?_ ?_
      · intro _
        refine rs ?_
        (refine al_set ?_ ?_ ?_ ?_; rotate_left 2; (· intro K hK; refine S1 ?_; refine build100z ?_; exact hK))
        refine runX (And.intro g2 ec') ?_
        refine al_done (awp_ret (afin_rx (rx_rep (r := zeroP) (x := c) (set_same _ _ _) .nil .nil .nil (.done ?_))))
        simp only [ares, aone, ↓set_get, Nat.reduceEqDiff, Bool.false_eq_true, ↓reduceIte, aenv0, aenvS, aenvN, one_ne, g2, load_ptr, tagg100, tsz100, set_same, set_set]
        exact ⟨_, _, rfl, by simp only [read_t, hpl, List.drop_zero, tk6]; exact ⟨by decide, s, hlec _, hK⟩⟩
      · intro h; cases h
end Go.Proofs.Try
