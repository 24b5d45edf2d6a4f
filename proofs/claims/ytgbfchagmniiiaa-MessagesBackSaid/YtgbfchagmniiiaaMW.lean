/- messages: replies got, as the document has it; walked. -/
import Derived.Test.YtgbfchagmniiiaaMP
import Derived.Test.YtgbfchagmniiiaaMV
import Derived.Test.YtgbfchagmniiiaaMH
set_option maxRecDepth 8000
set_option linter.unusedSimpArgs false
set_option linter.unusedVariables false
namespace Go.Proofs.Try
open Go Go.Av
set_option pp.maxSteps 900
attribute [local irreducible] alist awp adraw apure
attribute [local go_sem] cellsOf_int cellsOf_bool cellsOf_str cellsOf_nilp cellsOf_nil cellsOf_e0 cellsOf_sl cellsOf_osl cellsOf_ptr cellsOf_eptr cellsOf_fn cellsOf_agg okc_int okc_bool okc_str okc_nilp okc_nil okc_e0 okc_sl okc_osl okc_ptr okc_eptr okc_fn okc_agg and_assoc splice_0n splice_0c splice_s load_ptr load_eptr read_t read_f store_p cells_inj set_same exists_and_left List.length_cons List.length_nil List.drop_zero List.drop_succ_cons List.take_succ_cons List.take_zero Option.isSome_some
variable {γ : Gl} {σ s : St} {K : D → St → Prop}
attribute [local go_sem] List.length_append natc0 eq_self sgD_len sgD_a spl91 splice_self List.length_replicate length_bytesD sgsD_len bne_self_eq_false Int.toNat_natCast

theorem mk_fin {i k : Nat} {c : Int} {h : List SHead} {e : List (List UInt8)} {u : List UInt8} {b : Bool} (hi : i ≤ big) (hk : k ≤ 5) (hc : I64 c) (hh : h.length ≤ 1000) (he : e.length ≤ 1000 ∧ ∀ x ∈ e, x.length ≤ 1000) : Fin (mkR i k c h e u b) := by
  have hb : big = 1073741824 := rfl
  refine ⟨⟨hh, he.1, ?_⟩, he.2, ⟨?_, ?_⟩, ⟨?_, ?_⟩, hc⟩
  · cases b with
    | false => exact Nat.zero_le _
    | true => exact Nat.le_trans (q5_len u).2.2 (by decide)
  · show -9223372036854775808 ≤ (i : Int); omega
  · show (i : Int) ≤ 9223372036854775807; omega
  · show -9223372036854775808 ≤ (k : Int); omega
  · show (k : Int) ≤ 9223372036854775807; omega
theorem refB_fin (i k : Nat) (t : List UInt8) (hi : i ≤ big) (hk : k ≤ 5) : Fin (refB i k t).1 := by
  have h0 : I64 0 := ⟨by decide, by decide⟩
  have hn : ([] : List (List UInt8)).length ≤ 1000 ∧ ∀ x ∈ ([] : List (List UInt8)), x.length ≤ 1000 := ⟨Nat.zero_le _, fun x hx => nomatch hx⟩
  obtain ⟨a, b, c⟩ := en_len t
  unfold refB
  split
  · exact mk_fin hi hk ⟨by omega, by omega⟩ (Nat.zero_le _) hn
  split
  · split
    · exact mk_fin hi hk h0 (by simp) hn
    · exact mk_fin hi hk h0 (by simp) hn
  split
  · exact mk_fin hi hk h0 (by decide) ⟨by omega, fun x hx => by have := c x hx; omega⟩
  split
  · exact mk_fin hi hk h0 (by simp) hn
  split
  · split
    · split
      · exact mk_fin hi hk h0 (by simp) hn
      · exact mk_fin hi hk h0 (by simp) hn
    · exact mk_fin hi hk h0 (by simp) hn
  · exact mk_fin hi hk h0 (by simp) hn
theorem rGetReply_c {t : List UInt8} (ht : t.length ≤ 140737488355328) (hK : K (.tup [.agg (repD (getP t)), .int .i64 (gpR t)]) s) : ACalls prog γ 84 [.str t] s K := by
  have hpl : ∀ r : Rep, (repD r).length = 6 := fun r => rfl
  have tk6 : ∀ r : Rep, (repD r).take 6 = repD r := fun r => rfl
  have c1 : ∀ r : Rep, (repD r)[1]? = some (.int .i64 r.kind) := fun r => rfl
  have none_K : ¬ RpOk t → K (.tup [.agg (repD zeroP), .int .i64 10]) s := fun h => by
    have hgr : getP t = zeroP := by rw [getP, if_neg h]
    rw [hgr, gpR, if_neg h] at hK; exact hK
  refine acalls_of_awp (by kernel_rfl) func84 rfl (by kernel_rfl) rfl rfl (by kernel_rfl) (Nat.le_of_ble_eq_true rfl) ?_
  refine rs ?_
  (refine aF ?_; intro c hc; (try (have h_hc := hc; simp only [set_none] at h_hc)))
  refine run ?_
  refine al_done ?_
  obtain ⟨s1, hs1⟩ : ∃ z, s.set c (.cells [.int .i64 0, .int .i64 0, .int .i64 0, .nil, .nil, .nil] 100) = z := ⟨_, rfl⟩
  have e1c : s1 c = some (.cells [.int .i64 0, .int .i64 0, .int .i64 0, .nil, .nil, .nil] 100) := by rw [← hs1]; exact set_same _ _ _
  have hle1 : s.le s1 := by rw [← hs1]; exact le_set _ hc
  have hlec : ∀ {τ : St} (v), s.le τ → s.le (τ.set c v) := fun v h => le_set2 h hc
  rw [hs1]
  clear hs1
  refine asc ?_; refine awp_rj (fun ρ' s' => s' = s1 ∧ ρ' 0 = .str t ∧ ρ' 2 = .ptr c 0 ∧ ρ' 21 = .bool (decide (¬ (t.length ≤ 65536 ∧ t ≠ [])))) ?_ ?_
  · intro K' hJ
    have e0 : ((t.length : Int) == 0) = decide (t = []) := by cases t <;> simp; omega
    (repeat' (first | refine run1X e0 ?_ | (refine al_guard rfl (by simp only [↓set_get, Nat.reduceEqDiff, Bool.false_eq_true, ↓reduceIte, aenv0, aenvS, aenvN, one_ne, e0]; rfl) (fun hb => ?_) (fun hb => ?_) <;> (try simp only [ne_eq, Bool.not_eq_true, Bool.not_eq_false] at hb) <;> have hb2 := hb <;> (try simp only [decide_eq_true_eq, decide_eq_false_iff_not, beq_iff_eq, beq_eq_false_iff_ne, bne_iff_ne, ne_eq, Bool.not_eq_true', Bool.not_eq_false'] at hb2) <;> (try rw [hb]))))
    all_goals refine al_nil (hJ _ _ ⟨rfl, ?_, ?_, ?_⟩)
    all_goals simp only [↓set_get, Nat.reduceEqDiff, Bool.false_eq_true, ↓reduceIte, aenv0, aenvS, aenvN, one_ne]
    all_goals (congr 1; rw [Bool.eq_iff_iff]; simp_all; try omega)
  rintro ρ s1 ⟨rfl, g0, g2, g21⟩
  by_cases hl : t.length ≤ 65536 ∧ t ≠ []
  case neg =>
    have hK := none_K (fun h => hl ((ref_getP t).1 h).1.1)
    rw [decide_eq_true hl] at g21
    refine asc ?_; refine aiX g21 ?_ ?_
    · intro _
      refine rs ?_
      (refine al_set ?_ ?_ ?_ ?_; rotate_left 2; (· intro K hK; refine S1 ?_; refine build100z ?_; exact hK))
      (repeat (first | (refine al_set ?_ ?_ ?_ ?_; rotate_left 2; (· intro K hK; simp (disch := omega) only [go_sem, ↓set_get, ↓reduceIte, ↓o_bsl, ↓o_build, Nat.reduceEqDiff, Nat.reduceAdd, Nat.reduceMul, Int.reduceEq, Int.reduceNe, set_other, del_other, g2, e1c]; (repeat' (first | exact hK | (refine And.intro ?_ ?_) | assumption | omega)))) | (refine al_guard (b := true) rfl ?_ (fun _ => ?_) (fun h => absurd rfl h); · simp only [↓set_get, Nat.reduceEqDiff, Bool.false_eq_true, ↓reduceIte, aenv0, aenvS, aenvN, one_ne, g2, e1c]; done) | (refine al_guard (b := false) rfl ?_ (fun _ => ?_) (fun h => absurd rfl h); · simp only [↓set_get, Nat.reduceEqDiff, Bool.false_eq_true, ↓reduceIte, aenv0, aenvS, aenvN, one_ne, g2, e1c]; done) | (refine al_guard (b := true) rfl ?_ (fun h => Bool.noConfusion h) (fun _ => ?_); · simp only [↓set_get, Nat.reduceEqDiff, Bool.false_eq_true, ↓reduceIte, aenv0, aenvS, aenvN, one_ne, g2, e1c]; done) | (refine al_guard (b := false) rfl ?_ (fun h => Bool.noConfusion h) (fun _ => ?_); · simp only [↓set_get, Nat.reduceEqDiff, Bool.false_eq_true, ↓reduceIte, aenv0, aenvS, aenvN, one_ne, g2, e1c]; done) | (refine al_guard0 rfl ?_ ?_; · simp only [↓set_get, Nat.reduceEqDiff, Bool.false_eq_true, ↓reduceIte, aenv0, aenvS, aenvN, one_ne, g2, e1c]; done) | (refine al_none ?_ ?_ ?_ ?_; rotate_left 2; (· intro K hK; simp (disch := omega) only [go_sem, ↓set_get, ↓reduceIte, ↓o_bsl, ↓o_build, Nat.reduceEqDiff, Nat.reduceAdd, Nat.reduceMul, Int.reduceEq, Int.reduceNe, set_other, del_other, g2, e1c]; (repeat' (first | exact hK | (refine And.intro ?_ ?_) | assumption | omega))))))
      refine al_done (awp_ret (afin_rx (rx_rep (r := zeroP) (x := c) (set_same _ _ _) .nil .nil .nil (.done ?_))))
      simp only [ares, aone, ↓set_get, Nat.reduceEqDiff, Bool.false_eq_true, ↓reduceIte, aenv0, aenvS, aenvN, one_ne, g2, load_ptr, tagg100, tsz100, set_same, set_set]
      exact ⟨_, _, rfl, by simp only [read_t, hpl, List.drop_zero, tk6]; exact ⟨by decide, s, hlec _ hle1, hK⟩⟩
    · intro h; cases h
  rw [decide_eq_false (fun h => h hl)] at g21
  have h1l : 1 ≤ t.length := by
    cases t with
    | nil => exact absurd rfl hl.2
    | cons x u => rw [List.length_cons]; omega
  refine asc ?_; refine aiX g21 ?_ ?_
  · intro h; cases h
  intro _
  have htl : t.tail.length ≤ 140737488355328 := by rw [List.length_tail]; omega
  have l1 := q1_len t.tail
  have l2 := q1_len (q1 t.tail).2
  refine rs ?_
  refine runX g0 ?_
  (refine al_set ?_ ?_ ?_ ?_; rotate_left 2; (· intro K hK; refine S1 ?_; refine slice_str isStr9 (l := 1) (h := t.length) rfl rfl h1l (Nat.le_refl _) ?_; exact hK))
  rw [List.take_length, List.drop_one]
  refine run ?_
  (refine al_set ?_ ?_ ?_ ?_; rotate_left 2; (· intro K hK; refine S1 ?_; refine Or.inl (rRead_c htl ?_); exact hK))
  rw [dRead_q]
  refine run ?_
  refine al_done ?_
  refine rs ?_
  refine run ?_
  (refine al_set ?_ ?_ ?_ ?_; rotate_left 2; (· intro K hK; refine S1 ?_; refine Or.inl (rRead_c (by omega) ?_); exact hK))
  rw [dRead_q]
  refine run ?_
  refine al_done ?_
  have hb : big = 1073741824 := rfl
  refine asc ?_; refine awp_rj (fun ρ' s' => s' = s1 ∧ ρ' 0 = .str t ∧ ρ' 2 = .ptr c 0 ∧ ρ' 4 = .int .u64 (rfI t : Nat) ∧ ρ' 7 = .int .u64 (rfK t : Nat) ∧ ρ' 8 = .str (rfT t) ∧ ρ' 49 = .bool (decide (¬ (((readB t.tail).isSome = true ∧ (readB (q1 t.tail).2).isSome = true) ∧ rfI t ≤ 1073741824 ∧ rfK t ≤ 5)))) ?_ ?_
  · intro K' hJ
    (repeat' (first | refine run1X g0 ?_ | (refine al_guard rfl (by simp only [↓set_get, Nat.reduceEqDiff, Bool.false_eq_true, ↓reduceIte, aenv0, aenvS, aenvN, one_ne, g0]; rfl) (fun hb => ?_) (fun hb => ?_) <;> (try simp only [ne_eq, Bool.not_eq_true, Bool.not_eq_false] at hb) <;> have hb2 := hb <;> (try simp only [decide_eq_true_eq, decide_eq_false_iff_not, beq_iff_eq, beq_eq_false_iff_ne, bne_iff_ne, ne_eq, Bool.not_eq_true', Bool.not_eq_false'] at hb2) <;> (try rw [hb]))))
    all_goals refine al_nil (hJ _ _ ⟨rfl, ?_, ?_, ?_, ?_, ?_, ?_⟩)
    all_goals simp only [↓set_get, Nat.reduceEqDiff, Bool.false_eq_true, ↓reduceIte, aenv0, aenvS, aenvN, one_ne, g0, g2, rfI, rfK, rfT]
    all_goals (congr 1; rw [Bool.eq_iff_iff]; simp_all; try omega)
  rintro ρ s1 ⟨rfl, g0, g2, g4, g7, g8, g49⟩
  by_cases hok : ((readB t.tail).isSome = true ∧ (readB (q1 t.tail).2).isSome = true) ∧ rfI t ≤ 1073741824 ∧ rfK t ≤ 5
  case neg =>
    have hK := none_K (fun h => hok ((ref_getP t).1 h).1.2)
    rw [decide_eq_true hok] at g49
    refine asc ?_; refine aiX g49 ?_ ?_
    · intro _
      refine rs ?_
      (refine al_set ?_ ?_ ?_ ?_; rotate_left 2; (· intro K hK; refine S1 ?_; refine build100z ?_; exact hK))
      (repeat (first | (refine al_set ?_ ?_ ?_ ?_; rotate_left 2; (· intro K hK; simp (disch := omega) only [go_sem, ↓set_get, ↓reduceIte, ↓o_bsl, ↓o_build, Nat.reduceEqDiff, Nat.reduceAdd, Nat.reduceMul, Int.reduceEq, Int.reduceNe, set_other, del_other, g2, e1c]; (repeat' (first | exact hK | (refine And.intro ?_ ?_) | assumption | omega)))) | (refine al_guard (b := true) rfl ?_ (fun _ => ?_) (fun h => absurd rfl h); · simp only [↓set_get, Nat.reduceEqDiff, Bool.false_eq_true, ↓reduceIte, aenv0, aenvS, aenvN, one_ne, g2, e1c]; done) | (refine al_guard (b := false) rfl ?_ (fun _ => ?_) (fun h => absurd rfl h); · simp only [↓set_get, Nat.reduceEqDiff, Bool.false_eq_true, ↓reduceIte, aenv0, aenvS, aenvN, one_ne, g2, e1c]; done) | (refine al_guard (b := true) rfl ?_ (fun h => Bool.noConfusion h) (fun _ => ?_); · simp only [↓set_get, Nat.reduceEqDiff, Bool.false_eq_true, ↓reduceIte, aenv0, aenvS, aenvN, one_ne, g2, e1c]; done) | (refine al_guard (b := false) rfl ?_ (fun h => Bool.noConfusion h) (fun _ => ?_); · simp only [↓set_get, Nat.reduceEqDiff, Bool.false_eq_true, ↓reduceIte, aenv0, aenvS, aenvN, one_ne, g2, e1c]; done) | (refine al_guard0 rfl ?_ ?_; · simp only [↓set_get, Nat.reduceEqDiff, Bool.false_eq_true, ↓reduceIte, aenv0, aenvS, aenvN, one_ne, g2, e1c]; done) | (refine al_none ?_ ?_ ?_ ?_; rotate_left 2; (· intro K hK; simp (disch := omega) only [go_sem, ↓set_get, ↓reduceIte, ↓o_bsl, ↓o_build, Nat.reduceEqDiff, Nat.reduceAdd, Nat.reduceMul, Int.reduceEq, Int.reduceNe, set_other, del_other, g2, e1c]; (repeat' (first | exact hK | (refine And.intro ?_ ?_) | assumption | omega))))))
      refine al_done (awp_ret (afin_rx (rx_rep (r := zeroP) (x := c) (set_same _ _ _) .nil .nil .nil (.done ?_))))
      simp only [ares, aone, ↓set_get, Nat.reduceEqDiff, Bool.false_eq_true, ↓reduceIte, aenv0, aenvS, aenvN, one_ne, g2, load_ptr, tagg100, tsz100, set_same, set_set]
      exact ⟨_, _, rfl, by simp only [read_t, hpl, List.drop_zero, tk6]; exact ⟨by decide, s, hlec _ hle1, hK⟩⟩
    · intro h; cases h
  rw [decide_eq_false (fun h => h hok)] at g49
  refine asc ?_; refine aiX g49 ?_ ?_
  · intro h; cases h
  intro _
  have hrf : rfOk t := ⟨hl, hok⟩
  have hT : (rfT t).length ≤ t.tail.length := by show (q1 (q1 t.tail).2).2.length ≤ _; omega
  have hfin : Fin (refPB t).1 := refB_fin _ _ _ hok.2.1 hok.2.2
  have hRP : refPB t = refB (rfI t : Nat) (rfK t : Nat) (rfT t) := rfl
  have hIb := hok.2.1
  have hKb := hok.2.2
  have href := ref_getP t
  have heq : RpOk t → getP t = (refPB t).1 := fun h => ref_getP_eq h
  rw [hRP] at hfin href heq
  obtain ⟨I, hI⟩ : ∃ I, rfI t = I := ⟨_, rfl⟩
  obtain ⟨Kd, hKd⟩ : ∃ I, rfK t = I := ⟨_, rfl⟩
  rw [hI] at hIb g4 hfin href heq
  rw [hKd] at hKb g7 hfin href heq
  obtain ⟨p, hp⟩ : ∃ p, refB (I : Nat) (Kd : Nat) (rfT t) = p := ⟨_, rfl⟩
  refine rs ?_
  refine runX (And.intro g4 (And.intro g7 g8)) ?_
  (refine al_set ?_ ?_ ?_ ?_; rotate_left 2; (· intro K hK; refine S1 ?_; refine build100b ?_; exact hK))
  refine run ?_
  (refine al_set ?_ ?_ ?_ ?_; rotate_left 2; (· intro K hK; refine S1X g8 ?_; refine Or.inl (rReply_c (t := rfT t) (by omega) ?_); exact hK))
  rw [hp] at hfin href heq ⊢
  refine run ?_
  (refine aF ?_; intro y hy; (try (have h_hy := hy; simp only [set_none] at h_hy)))
  have hsp : splice [.int .i64 0, .int .i64 0, .int .i64 0, .nil, .nil, .nil] 0 (repD p.1) = repD p.1 := rfl
  refine runX (And.intro hpl (And.intro tk6 hsp)) ?_
  refine al_done ?_
  rw [set_set]
  have kyc : c ≠ y := keep_ne e1c hy
  obtain ⟨s2, hs2⟩ : ∃ z, s1.set y (.cells (repD p.1) 100) = z := ⟨_, rfl⟩
  have e2y : s2 y = some (.cells (repD p.1) 100) := by rw [← hs2]; exact set_same _ _ _
  have e2c : s2 c = some (.cells [.int .i64 0, .int .i64 0, .int .i64 0, .nil, .nil, .nil] 100) := by rw [← hs2, set_other _ kyc]; exact e1c
  have hle2 : s.le s2 := by rw [← hs2]; exact hle1.trans (le_set _ hy)
  rw [hs2]
  clear hs2 hy
  refine rs ?_
  (repeat (first | (refine al_set ?_ ?_ ?_ ?_; rotate_left 2; (· intro K hK; simp (disch := omega) only [go_sem, ↓set_get, ↓reduceIte, ↓o_bsl, ↓o_build, Nat.reduceEqDiff, Nat.reduceAdd, Nat.reduceMul, Int.reduceEq, Int.reduceNe, set_other, del_other, e2y, hpl, tk6]; (repeat' (first | exact hK | (refine And.intro ?_ ?_) | assumption | omega)))) | (refine al_guard (b := true) rfl ?_ (fun _ => ?_) (fun h => absurd rfl h); · simp only [↓set_get, Nat.reduceEqDiff, Bool.false_eq_true, ↓reduceIte, aenv0, aenvS, aenvN, one_ne, e2y, hpl, tk6]; done) | (refine al_guard (b := false) rfl ?_ (fun _ => ?_) (fun h => absurd rfl h); · simp only [↓set_get, Nat.reduceEqDiff, Bool.false_eq_true, ↓reduceIte, aenv0, aenvS, aenvN, one_ne, e2y, hpl, tk6]; done) | (refine al_guard (b := true) rfl ?_ (fun h => Bool.noConfusion h) (fun _ => ?_); · simp only [↓set_get, Nat.reduceEqDiff, Bool.false_eq_true, ↓reduceIte, aenv0, aenvS, aenvN, one_ne, e2y, hpl, tk6]; done) | (refine al_guard (b := false) rfl ?_ (fun h => Bool.noConfusion h) (fun _ => ?_); · simp only [↓set_get, Nat.reduceEqDiff, Bool.false_eq_true, ↓reduceIte, aenv0, aenvS, aenvN, one_ne, e2y, hpl, tk6]; done) | (refine al_guard0 rfl ?_ ?_; · simp only [↓set_get, Nat.reduceEqDiff, Bool.false_eq_true, ↓reduceIte, aenv0, aenvS, aenvN, one_ne, e2y, hpl, tk6]; done) | (refine al_none ?_ ?_ ?_ ?_; rotate_left 2; (· intro K hK; simp (disch := omega) only [go_sem, ↓set_get, ↓reduceIte, ↓o_bsl, ↓o_build, Nat.reduceEqDiff, Nat.reduceAdd, Nat.reduceMul, Int.reduceEq, Int.reduceNe, set_other, del_other, e2y, hpl, tk6]; (repeat' (first | exact hK | (refine And.intro ?_ ?_) | assumption | omega))))))
  (refine al_set ?_ ?_ ?_ ?_; rotate_left 2; (· intro K hK; refine S1 ?_; refine Or.inl (rPutReply_c hfin ?_); exact hK))
  rw [dPP_q]
  refine run ?_
  refine al_done ?_
  have hG : RpOk t ↔ (p.2 = true ∧ ppE p.1 = 0) ∧ ppS p.1 = t := by
    rw [href]
    constructor
    · rintro ⟨_, h2, h3, h4⟩
      exact ⟨⟨h2, by rw [ppE, if_pos h3]⟩, by rw [ppS, if_pos h3]; exact h4⟩
    · rintro ⟨⟨h2, h3⟩, h4⟩
      by_cases hP : POk p.1
      · rw [ppS, if_pos hP] at h4
        exact ⟨hrf, h2, hP, h4⟩
      · rw [ppE, if_neg hP] at h3; cases h3
  refine asc ?_; refine awp_rj (fun ρ' s' => s' = s2 ∧ ρ' 2 = .ptr c 0 ∧ ρ' 10 = .ptr y 0 ∧ ρ' 76 = .bool (decide (¬ RpOk t))) ?_ ?_
  · intro K' hJ
    have hd : decide (¬ RpOk t) = decide (¬ ((p.2 = true ∧ ppE p.1 = 0) ∧ ppS p.1 = t)) := decide_eq_decide.2 (not_congr hG)
    rw [hd] at hJ
    clear hG href heq hK none_K
    (repeat' (first | refine run1X g0 ?_ | (refine al_guard rfl (by simp only [↓set_get, Nat.reduceEqDiff, Bool.false_eq_true, ↓reduceIte, aenv0, aenvS, aenvN, one_ne, g0]; rfl) (fun hb => ?_) (fun hb => ?_) <;> (try simp only [ne_eq, Bool.not_eq_true, Bool.not_eq_false] at hb) <;> have hb2 := hb <;> (try simp only [decide_eq_true_eq, decide_eq_false_iff_not, beq_iff_eq, beq_eq_false_iff_ne, bne_iff_ne, ne_eq, Bool.not_eq_true', Bool.not_eq_false'] at hb2) <;> (try rw [hb]))))
    all_goals refine al_nil (hJ _ _ ⟨rfl, ?_, ?_, ?_⟩)
    all_goals simp only [↓set_get, Nat.reduceEqDiff, Bool.false_eq_true, ↓reduceIte, aenv0, aenvS, aenvN, one_ne, g2]
    all_goals (congr 1; rw [Bool.eq_iff_iff]; simp_all)
  rintro ρ1 s2 ⟨rfl, g2, g10, g76⟩
  by_cases hR : RpOk t
  · have hgr := heq hR
    rw [hgr, gpR, if_pos hR] at hK
    rw [decide_eq_false (fun h => h hR)] at g76
    have hsp : splice [.int .i64 0, .int .i64 0, .int .i64 0, .nil, .nil, .nil] 0 (repD p.1) = repD p.1 := rfl
    refine asc ?_; refine aiX g76 ?_ ?_
    · intro h; cases h
    · intro _
      refine rs ?_
      (repeat (first | (refine al_set ?_ ?_ ?_ ?_; rotate_left 2; (· intro K hK; simp (disch := omega) only [go_sem, ↓set_get, ↓reduceIte, ↓o_bsl, ↓o_build, Nat.reduceEqDiff, Nat.reduceAdd, Nat.reduceMul, Int.reduceEq, Int.reduceNe, set_other, del_other, g10, g2, e2y, e2c, hpl, tk6, hsp]; (repeat' (first | exact hK | (refine And.intro ?_ ?_) | assumption | omega)))) | (refine al_guard (b := true) rfl ?_ (fun _ => ?_) (fun h => absurd rfl h); · simp only [↓set_get, Nat.reduceEqDiff, Bool.false_eq_true, ↓reduceIte, aenv0, aenvS, aenvN, one_ne, g10, g2, e2y, e2c, hpl, tk6, hsp]; done) | (refine al_guard (b := false) rfl ?_ (fun _ => ?_) (fun h => absurd rfl h); · simp only [↓set_get, Nat.reduceEqDiff, Bool.false_eq_true, ↓reduceIte, aenv0, aenvS, aenvN, one_ne, g10, g2, e2y, e2c, hpl, tk6, hsp]; done) | (refine al_guard (b := true) rfl ?_ (fun h => Bool.noConfusion h) (fun _ => ?_); · simp only [↓set_get, Nat.reduceEqDiff, Bool.false_eq_true, ↓reduceIte, aenv0, aenvS, aenvN, one_ne, g10, g2, e2y, e2c, hpl, tk6, hsp]; done) | (refine al_guard (b := false) rfl ?_ (fun h => Bool.noConfusion h) (fun _ => ?_); · simp only [↓set_get, Nat.reduceEqDiff, Bool.false_eq_true, ↓reduceIte, aenv0, aenvS, aenvN, one_ne, g10, g2, e2y, e2c, hpl, tk6, hsp]; done) | (refine al_guard0 rfl ?_ ?_; · simp only [↓set_get, Nat.reduceEqDiff, Bool.false_eq_true, ↓reduceIte, aenv0, aenvS, aenvN, one_ne, g10, g2, e2y, e2c, hpl, tk6, hsp]; done) | (refine al_none ?_ ?_ ?_ ?_; rotate_left 2; (· intro K hK; simp (disch := omega) only [go_sem, ↓set_get, ↓reduceIte, ↓o_bsl, ↓o_build, Nat.reduceEqDiff, Nat.reduceAdd, Nat.reduceMul, Int.reduceEq, Int.reduceNe, set_other, del_other, g10, g2, e2y, e2c, hpl, tk6, hsp]; (repeat' (first | exact hK | (refine And.intro ?_ ?_) | assumption | omega))))))
      refine al_done (awp_ret (afin_cell s (hlec _ hle2) ?_))
      simp only [ares, aone, ↓set_get, Nat.reduceEqDiff, Bool.false_eq_true, ↓reduceIte, aenv0, aenvS, aenvN, one_ne, g2, load_ptr, tagg100, tsz100, set_same]
      exact ⟨_, _, rfl, by simp only [read_t, hpl, List.drop_zero, tk6]; exact ⟨by decide, hK⟩⟩
  · have hK := none_K hR
    rw [decide_eq_true hR] at g76
    refine asc ?_; refine aiX g76 ?_ ?_
    · intro _
      refine rs ?_
      (refine al_set ?_ ?_ ?_ ?_; rotate_left 2; (· intro K hK; refine S1 ?_; refine build100z ?_; exact hK))
      (repeat (first | (refine al_set ?_ ?_ ?_ ?_; rotate_left 2; (· intro K hK; simp (disch := omega) only [go_sem, ↓set_get, ↓reduceIte, ↓o_bsl, ↓o_build, Nat.reduceEqDiff, Nat.reduceAdd, Nat.reduceMul, Int.reduceEq, Int.reduceNe, set_other, del_other, g2, e2c]; (repeat' (first | exact hK | (refine And.intro ?_ ?_) | assumption | omega)))) | (refine al_guard (b := true) rfl ?_ (fun _ => ?_) (fun h => absurd rfl h); · simp only [↓set_get, Nat.reduceEqDiff, Bool.false_eq_true, ↓reduceIte, aenv0, aenvS, aenvN, one_ne, g2, e2c]; done) | (refine al_guard (b := false) rfl ?_ (fun _ => ?_) (fun h => absurd rfl h); · simp only [↓set_get, Nat.reduceEqDiff, Bool.false_eq_true, ↓reduceIte, aenv0, aenvS, aenvN, one_ne, g2, e2c]; done) | (refine al_guard (b := true) rfl ?_ (fun h => Bool.noConfusion h) (fun _ => ?_); · simp only [↓set_get, Nat.reduceEqDiff, Bool.false_eq_true, ↓reduceIte, aenv0, aenvS, aenvN, one_ne, g2, e2c]; done) | (refine al_guard (b := false) rfl ?_ (fun h => Bool.noConfusion h) (fun _ => ?_); · simp only [↓set_get, Nat.reduceEqDiff, Bool.false_eq_true, ↓reduceIte, aenv0, aenvS, aenvN, one_ne, g2, e2c]; done) | (refine al_guard0 rfl ?_ ?_; · simp only [↓set_get, Nat.reduceEqDiff, Bool.false_eq_true, ↓reduceIte, aenv0, aenvS, aenvN, one_ne, g2, e2c]; done) | (refine al_none ?_ ?_ ?_ ?_; rotate_left 2; (· intro K hK; simp (disch := omega) only [go_sem, ↓set_get, ↓reduceIte, ↓o_bsl, ↓o_build, Nat.reduceEqDiff, Nat.reduceAdd, Nat.reduceMul, Int.reduceEq, Int.reduceNe, set_other, del_other, g2, e2c]; (repeat' (first | exact hK | (refine And.intro ?_ ?_) | assumption | omega))))))
      refine al_done (awp_ret (afin_rx (rx_rep (r := zeroP) (x := c) (set_same _ _ _) .nil .nil .nil (.done ?_))))
      simp only [ares, aone, ↓set_get, Nat.reduceEqDiff, Bool.false_eq_true, ↓reduceIte, aenv0, aenvS, aenvN, one_ne, g2, load_ptr, tagg100, tsz100, set_same, set_set]
      exact ⟨_, _, rfl, by simp only [read_t, hpl, List.drop_zero, tk6]; exact ⟨by decide, s, hlec _ hle2, hK⟩⟩
    · intro h; cases h
end Go.Proofs.Try
