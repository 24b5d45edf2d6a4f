/- gossip: signed heads read, walked. -/
import Derived.Test.YtgbfchagmniiiaaGH
set_option maxRecDepth 8000
set_option linter.unusedSimpArgs false
set_option linter.unusedVariables false
namespace Go.Proofs.Try
open Go Go.Av
set_option pp.maxSteps 900
attribute [local irreducible] alist awp adraw apure
attribute [local go_sem] cellsOf_int cellsOf_bool cellsOf_str cellsOf_nilp cellsOf_nil cellsOf_e0 cellsOf_sl cellsOf_osl cellsOf_ptr cellsOf_eptr cellsOf_fn cellsOf_agg okc_int okc_bool okc_str okc_nilp okc_nil okc_e0 okc_sl okc_osl okc_ptr okc_eptr okc_fn okc_agg and_assoc splice_0n splice_0c splice_s load_ptr load_eptr read_t read_f store_p cells_inj set_same exists_and_left List.length_cons List.length_nil List.drop_zero List.drop_succ_cons List.take_succ_cons List.take_zero Option.isSome_some
variable {γ : Gl} {σ s : St} {K : D → St → Prop}
attribute [local go_sem] roD_len roD_33 roD_34 roD_35 roD_36 roD_h roD_a rosD_len headD_len headD_0 headD_a headD_r spl87 sgD_len sgD_0 sgD_33 sgD_34 sgD_35 sgD_a sgD_h sgD_r spl27 byt27 spl91 length_bytesD List.length_replicate splice_self sgsD_len headsD_len Int.toNat_natCast List.length_append

theorem gGet_c {t : List UInt8} (ht : t.length ≤ 140737488355328) (hK : K (dGetG t) s) : ACalls prog γ 76 [.str t] s K := by
  refine acalls_of_awp (by kernel_rfl) func76 rfl (by kernel_rfl) rfl rfl (by kernel_rfl) (Nat.le_of_ble_eq_true rfl) ?_
  refine rs ?_
  refine run ?_
  refine al_done ?_
  refine rs ?_
  refine run ?_
  (refine al_set ?_ ?_ ?_ ?_; rotate_left 2; (· intro K hK; refine S1 ?_; refine Or.inl (Count_c ht ?_); exact hK))
  cases hc : countB 71 t with
  | none =>
    have hK : K (.tup [.sl 0 [] none, .int .i64 10]) s := by simpa [dGetG, getG, hc] using hK
    simp only [dRead]
    refine run ?_
    refine al_done ?_
    refine rs ?_
    refine run ?_
    refine al_done ?_
    refine asc ?_; refine ai ?_ ?_
    · intro _
      refine rs ?_
      refine run ?_
      refine al_nil (rx_nil (t := 2) (by simp only [↓set_get, Nat.reduceEqDiff, Bool.false_eq_true, ↓reduceIte, aenv0, aenvS, aenvN, one_ne]) (.done ?_))
      refine awp_ret (afin_ret (.done ?_)); simp only [ares, aone, ↓set_get, Nat.reduceEqDiff, Bool.false_eq_true, ↓reduceIte, aenv0, aenvS, aenvN, one_ne]
      exact hK
    · intro h; cases h
  | some p =>
  obtain ⟨n, r⟩ := p
  obtain ⟨hrl, hnl⟩ := countB_len hc
  simp only [dRead]
  refine run ?_
  refine al_done ?_
  refine asc ?_; refine awp_rj (fun ρ' s' => s' = s ∧ ρ' 4 = .int .u64 (n : Nat) ∧ ρ' 5 = .str r ∧ ρ' 28 = .bool (decide (¬ (1 ≤ n ∧ n ≤ 3)))) ?_ ?_
  · intro K' hJ
    (repeat' (first | refine run1 ?_ | (refine al_guard rfl (by simp only [↓set_get, Nat.reduceEqDiff, Bool.false_eq_true, ↓reduceIte, aenv0, aenvS, aenvN, one_ne]; rfl) (fun hb => ?_) (fun hb => ?_) <;> (try simp only [ne_eq, Bool.not_eq_true, Bool.not_eq_false] at hb) <;> have hb2 := hb <;> (try simp only [decide_eq_true_eq, decide_eq_false_iff_not, beq_iff_eq, beq_eq_false_iff_ne, bne_iff_ne, ne_eq, Bool.not_eq_true', Bool.not_eq_false'] at hb2) <;> (try rw [hb]))))
    all_goals refine al_nil (hJ _ _ ⟨rfl, ?_, ?_, ?_⟩)
    all_goals simp only [↓set_get, Nat.reduceEqDiff, Bool.false_eq_true, ↓reduceIte, aenv0, aenvS, aenvN, one_ne]
    all_goals (first | exact bool_t (by omega) | exact bool_f (by omega) | exact bool_s (by (first | rw [decide_eq_true_eq] | rw [beq_iff_eq] | rw [bne_iff_ne]); omega))
  rintro ρ1 s ⟨rfl, g4, g5, g28⟩
  refine asc ?_; refine aiX g28 ?_ ?_
  · intro h
    have h : ¬ (1 ≤ n ∧ n ≤ 3) := of_decide_eq_true h
    have hK : K (.tup [.sl 0 [] none, .int .i64 10]) s := by simpa [dGetG, getG, hc, h] using hK
    refine rs ?_
    refine run ?_
    refine al_nil (rx_nil (t := 2) (by simp only [↓set_get, Nat.reduceEqDiff, Bool.false_eq_true, ↓reduceIte, aenv0, aenvS, aenvN, one_ne]) (.done ?_))
    refine awp_ret (afin_ret (.done ?_)); simp only [ares, aone, ↓set_get, Nat.reduceEqDiff, Bool.false_eq_true, ↓reduceIte, aenv0, aenvS, aenvN, one_ne]
    exact hK
  intro h
  have h : 1 ≤ n ∧ n ≤ 3 := Decidable.not_not.1 (of_decide_eq_false h)
  have hg : getG t = (match gN n r with | some (l, []) => some l | _ => none) := by rw [getG, hc]; simp only [if_pos h]; rfl
  refine rs ?_
  refine run ?_
  refine al_done ?_
  refine rs ?_
  refine runX g4 ?_
  refine al_done ?_
  refine asc ?_; refine awp_while (fun m ρ τ => ∃ (done : List SHead) (rest : List UInt8) (d : D), done.length + m = n ∧ rest.length ≤ r.length ∧ gN n r = (gN m rest).map (fun p => (done ++ p.1, p.2)) ∧ Own s 91 36 done.length (sgsD done) d τ ∧ ρ 5 = .str rest ∧ ρ 7 = d ∧ ρ 29 = .int .u64 (n : Nat) ∧ ρ 30 = .int .u64 (done.length : Nat)) n ?_ ?_
  · refine ⟨[], r, .nil, by simp, Nat.le_refl _, by cases gN n r <;> simp, own_nil _ _ _, ?_, ?_, ?_, ?_⟩
    all_goals simp only [↓set_get, Nat.reduceEqDiff, Bool.false_eq_true, ↓reduceIte, aenv0, aenvS, aenvN, one_ne, g5]
    rfl
  rintro m ρ τ ⟨done, rest, d, hlen, hrest, hu, hown, g5, g7, g29, g30⟩
  refine rs ?_
  refine runX (And.intro g29 g30) ?_
  refine al_done ?_
  refine asc ?_; refine ate ?_ ?_
  · intro hb2
    have hb2 : 0 < m := by have := of_decide_eq_true hb2
                           omega
    obtain ⟨m, rfl⟩ : ∃ j, m = j + 1 := ⟨m - 1, by omega⟩
    have e4 := q4_len rest
    refine asc ?_; refine awp_body ?_
    refine rs ?_
    refine runX g5 ?_
    (refine al_set ?_ ?_ ?_ ?_; rotate_left 2; (· intro K hK; refine S1 ?_; refine Or.inl (Cut_c (by omega) ?_); exact hK))
    rw [dCut_q]
    refine run ?_
    refine al_done ?_
    refine rs ?_
    refine run ?_
    (refine al_set ?_ ?_ ?_ ?_; rotate_left 2; (· intro K hK; refine S1 ?_; refine Or.inl (Get_c (by omega) ?_); exact hK))
    rw [dGet_q]
    refine run ?_
    (refine aF ?_; intro i hi; (try (have h_hi := hi; simp only [set_none] at h_hi)))
    refine run ?_
    refine al_done ?_
    rw [set_set]
    have hσi := own_fresh hown hi
    have hof := own_frame (o := .cells (sgD (gX (q4 rest).1)) 91) hown hi
    refine asc ?_; refine awp_rj (fun ρ' s' => s' = τ.set i (.cells (sgD (gX (q4 rest).1)) 91) ∧ ρ' 7 = d ∧ ρ' 9 = .str (q4 rest).2 ∧ ρ' 11 = .ptr i 0 ∧ ρ' 29 = .int .u64 (n : Nat) ∧ ρ' 30 = .int .u64 (done.length : Nat) ∧ ρ' 48 = .bool (decide (¬ okG rest))) ?_ ?_
    · intro K' hJ
      (repeat' (first | refine run1 ?_ | (refine al_guard rfl (by simp only [↓set_get, Nat.reduceEqDiff, Bool.false_eq_true, ↓reduceIte, aenv0, aenvS, aenvN, one_ne]; rfl) (fun hb => ?_) (fun hb => ?_) <;> (try simp only [ne_eq, Bool.not_eq_true, Bool.not_eq_false] at hb) <;> have hb2 := hb <;> (try simp only [decide_eq_true_eq, decide_eq_false_iff_not, beq_iff_eq, beq_eq_false_iff_ne, bne_iff_ne, ne_eq, Bool.not_eq_true', Bool.not_eq_false'] at hb2) <;> (try rw [hb]))))
      all_goals refine al_nil (hJ _ _ ⟨rfl, ?_, ?_, ?_, ?_, ?_, ?_⟩)
      all_goals simp only [↓set_get, Nat.reduceEqDiff, Bool.false_eq_true, ↓reduceIte, aenv0, aenvS, aenvN, one_ne, g7, g29, g30]
      all_goals (congr 1; rw [Bool.eq_iff_iff]; simp_all [okG, gE]; try omega)
    rintro ρ1 _ ⟨rfl, g7, g9, g11, g29, g30, g48⟩
    by_cases hok : okG rest
    · have h48 : decide (¬ okG rest) = false := decide_eq_false (fun h => h hok)
      have hgx : gX (q4 rest).1 = getX (q4 rest).1 := if_pos hok.2
      rw [hgx] at hof ⊢
      refine asc ?_; refine aiX g48 ?_ ?_
      · intro h; rw [h48] at h; cases h
      intro _
      have hcl := sgD_len (getX (q4 rest).1)
      refine awp_region ?_
      refine runX (And.intro g7 (And.intro g9 g11)) ?_
      (refine al_set ?_ ?_ ?_ ?_; rotate_left 2; (· intro K hK; refine S1 ?_; refine bsl_agg0 elt79 zc91 rfl hcl (by decide) ?_; exact hK))
      (refine al_rel ?_ ?_ ?_; rotate_left 1; (· intro K hK; simp (disch := (first | omega | (simp only [length_bytesD, List.length_append, List.length_cons, List.length_nil, List.length_map, List.length_replicate, List.length_take, List.length_drop]; omega))) only [go_sem, ↓set_get, ↓reduceIte, ↓o_bsl, ↓o_build, Nat.reduceEqDiff, Nat.reduceAdd, Nat.reduceMul, Int.reduceEq, Int.reduceNe,  xcells_sl, hcl]; refine own_app hof (m := 1) (by decide) hcl (by omega) ?_; exact hK))
      intro d' s' hown'
      obtain ⟨s3, hle3, hown3⟩ := own_unframe hown' hσi
      refine runX g9 ?_
      refine al_nil (.forget s3 hle3 (.done ?_))
      refine awp_region ?_
      refine runX g30 ?_
      refine al_nil ?_
      refine lq_next m (by omega) ⟨done ++ [getX (q4 rest).1], (q4 rest).2, d', by simp; omega, by omega, ?_, ?_, ?_, ?_, ?_, ?_⟩
      · rw [hu, gN, if_pos hok]; cases gN m (q4 rest).2 <;> simp
      · rw [List.length_append, sgsD, rows_append, rows_one]; exact hown3
      · simp only [↓set_get, Nat.reduceEqDiff, Bool.false_eq_true, ↓reduceIte, aenv0, aenvS, aenvN, one_ne]
      · simp only [↓set_get, Nat.reduceEqDiff, Bool.false_eq_true, ↓reduceIte, aenv0, aenvS, aenvN, one_ne]
      · simp only [↓set_get, Nat.reduceEqDiff, Bool.false_eq_true, ↓reduceIte, aenv0, aenvS, aenvN, one_ne, g29]
      · simp only [↓set_get, Nat.reduceEqDiff, Bool.false_eq_true, ↓reduceIte, aenv0, aenvS, aenvN, one_ne]; congr 1; simp
    · have h48 : decide (¬ okG rest) = true := decide_eq_true hok
      have hnone : gN n r = none := by rw [hu, gN, if_neg hok]; rfl
      rw [hnone] at hg
      have hK : K (.tup [.sl 0 [] none, .int .i64 10]) s := by simpa [dGetG, hg] using hK
      refine asc ?_; refine aiX g48 ?_ ?_
      · intro _
        refine rs ?_
        refine run ?_
        refine al_nil (rx_nil (t := 2) (by simp only [↓set_get, Nat.reduceEqDiff, Bool.false_eq_true, ↓reduceIte, aenv0, aenvS, aenvN, one_ne]) (.forget s ((own_le' hown).trans (le_set _ hi)) (.done ?_)))
        refine awp_ret (afin_ret (.done ?_)); simp only [ares, aone, ↓set_get, Nat.reduceEqDiff, Bool.false_eq_true, ↓reduceIte, aenv0, aenvS, aenvN, one_ne]
        exact hK
      · intro h; rw [h48] at h; cases h
  · intro hb2
    have hb2 : m = 0 := by have := of_decide_eq_false hb2
                           omega
    subst hb2
    have hsome : gN n r = some (done, rest) := by rw [hu, gN]; simp
    rw [hsome] at hg
    refine lq_exit ?_
    refine rs ?_
    refine runX g5 ?_
    refine al_done ?_
    cases rest with
    | nil =>
      have hK : K (.tup [.sl done.length (sgsD done) none, .int .i64 0]) s := by simpa [dGetG, hg] using hK
      refine asc ?_; refine ai ?_ ?_
      · intro h; simp at h
      intro _
      refine rs ?_
      refine runX g7 ?_
      refine al_nil (rx_own hown (t := 2) (by simp only [↓set_get, Nat.reduceEqDiff, Bool.false_eq_true, ↓reduceIte, aenv0, aenvS, aenvN, one_ne]) (.done ?_))
      refine awp_ret (afin_ret (.done ?_)); simp only [ares, aone, ↓set_get, Nat.reduceEqDiff, Bool.false_eq_true, ↓reduceIte, aenv0, aenvS, aenvN, one_ne]
      exact hK
    | cons u v =>
      have hK : K (.tup [.sl 0 [] none, .int .i64 10]) s := by simpa [dGetG, hg] using hK
      refine asc ?_; refine ai ?_ ?_
      · intro _
        refine rs ?_
        refine run ?_
        refine al_nil (rx_nil (t := 2) (by simp only [↓set_get, Nat.reduceEqDiff, Bool.false_eq_true, ↓reduceIte, aenv0, aenvS, aenvN, one_ne]) (.forget s (own_le' hown) (.done ?_)))
        refine awp_ret (afin_ret (.done ?_)); simp only [ares, aone, ↓set_get, Nat.reduceEqDiff, Bool.false_eq_true, ↓reduceIte, aenv0, aenvS, aenvN, one_ne]
        exact hK
      · intro h; simp at h
end Go.Proofs.Try
