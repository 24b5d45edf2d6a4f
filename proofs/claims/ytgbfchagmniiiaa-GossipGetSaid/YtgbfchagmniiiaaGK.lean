/- gossip: what is got of bytes, as the document has it; walked. -/
import Derived.Test.YtgbfchagmniiiaaGJ
set_option maxRecDepth 8000
set_option linter.unusedSimpArgs false
set_option linter.unusedVariables false
namespace Go.Proofs.Try
open Go Go.Av
set_option pp.maxSteps 900
attribute [local irreducible] alist awp adraw apure
attribute [local go_sem] cellsOf_int cellsOf_bool cellsOf_str cellsOf_nilp cellsOf_nil cellsOf_e0 cellsOf_sl cellsOf_osl cellsOf_ptr cellsOf_eptr cellsOf_fn cellsOf_agg okc_int okc_bool okc_str okc_nilp okc_nil okc_e0 okc_sl okc_osl okc_ptr okc_eptr okc_fn okc_agg and_assoc splice_0n splice_0c splice_s load_ptr load_eptr read_t read_f store_p cells_inj set_same exists_and_left List.length_cons List.length_nil List.drop_zero List.drop_succ_cons List.take_succ_cons List.take_zero Option.isSome_some
variable {γ : Gl} {σ s : St} {K : D → St → Prop}
attribute [local go_sem] roD_len roD_33 roD_34 roD_35 roD_36 roD_h roD_a rosD_len headD_len headD_0 headD_a headD_r spl87 sgD_len sgD_0 sgD_33 sgD_34 sgD_35 sgD_a sgD_h sgD_r spl27 byt27 spl91 length_bytesD List.length_replicate splice_self sgsD_len headsD_len Int.toNat_natCast List.length_append

theorem rG_c {t : List UInt8} (ht : t.length ≤ 140737488355328) (hK : K (dGetG t) s) : ACalls prog γ 77 [.str t] s K := by
  refine acalls_of_awp (by kernel_rfl) func77 rfl (by kernel_rfl) rfl rfl (by kernel_rfl) (Nat.le_of_ble_eq_true rfl) ?_
  refine rs ?_
  refine run ?_
  refine al_done ?_
  cases t with
  | nil =>
    have hK : K (.tup [.sl 0 [] none, .int .i64 10]) s := by
      have : getG [] = none := by rw [getG, countB]; rfl
      simpa [dGetG, this] using hK
    refine rs ?_
    refine run ?_
    refine al_done ?_
    refine asc ?_; refine ai ?_ ?_
    · intro _
      refine rs ?_
      refine run ?_
      refine al_nil (rx_nil (t := 2) (by simp only [↓set_get, Nat.reduceEqDiff, Bool.false_eq_true, ↓reduceIte, aenv0, aenvS, aenvN, one_ne]) (.done ?_))
      refine awp_ret (afin_ret (.done ?_)); simp only [ares, aone, ↓set_get, Nat.reduceEqDiff, Bool.false_eq_true, ↓reduceIte, aenv0, aenvS, aenvN, one_ne]
      exact hK
    · intro h; simp at h
  | cons c u =>
  have htl : ((c :: u).take (c :: u).length).drop 1 = u := by rw [List.take_length]; rfl
  have hul : u.length ≤ 140737488355328 := by rw [List.length_cons] at ht; omega
  have q1l := q1_len u
  refine rs ?_
  refine run ?_
  refine al_done ?_
  refine asc ?_; refine ai ?_ ?_
  · intro h
    simp at h
    omega
  intro _
  refine rs ?_
  refine run ?_
  (refine al_set ?_ ?_ ?_ ?_; rotate_left 2; (· intro K hK; refine S1 ?_; refine slice_str isStr9 (l := 1) (h := (c :: u).length) rfl rfl (by simp) (by simp) ?_; exact hK))
  rw [htl]
  refine run ?_
  (refine al_set ?_ ?_ ?_ ?_; rotate_left 2; (· intro K hK; refine S1 ?_; refine Or.inl (rRead_c hul ?_); exact hK))
  rw [dRead_q]
  refine run ?_
  refine al_done ?_
  refine rs ?_
  refine run ?_
  refine al_done ?_
  refine rs ?_
  refine run ?_
  refine al_done ?_
  obtain ⟨n, hn⟩ : ∃ n, (q1 u).1 = n := ⟨_, rfl⟩
  obtain ⟨r, hr⟩ : ∃ r, (q1 u).2 = r := ⟨_, rfl⟩
  obtain ⟨N, hN⟩ : ∃ N, min 3 n = N := ⟨_, rfl⟩
  have hrL : refL (c :: u) = rN N r := by rw [refL, List.tail_cons, hn, hr, hN]
  rw [hn, hr]
  rw [hn, hr] at q1l
  refine asc ?_; refine awp_while (fun m ρ τ => ∃ (done : List SHead) (rest : List UInt8) (d : D), done.length + m = N ∧ rest.length ≤ r.length ∧ rN N r = done ++ rN m rest ∧ Own s 91 36 done.length (sgsD done) d τ ∧ ρ 0 = .str (c :: u) ∧ ρ 4 = .int .u64 (n : Nat) ∧ ρ 5 = .str rest ∧ ρ 7 = d ∧ ρ 8 = .int .i64 (done.length : Nat)) N ?_ ?_
  · refine ⟨[], r, .nil, by simp, Nat.le_refl _, rfl, own_nil _ _ _, ?_, ?_, ?_, ?_, ?_⟩
    all_goals simp only [↓set_get, Nat.reduceEqDiff, Bool.false_eq_true, ↓reduceIte, aenv0, aenvS, aenvN, one_ne]
    rfl
  rintro m ρ τ ⟨done, rest, d, hlen, hrest, hu, hown, g0, g4, g5, g7, g8⟩
  have h3 : N ≤ 3 := by omega
  refine asc ?_; refine awp_rj (fun ρ' s' => s' = τ ∧ ρ' 0 = .str (c :: u) ∧ ρ' 4 = .int .u64 (n : Nat) ∧ ρ' 5 = .str rest ∧ ρ' 7 = d ∧ ρ' 8 = .int .i64 (done.length : Nat) ∧ ρ' 33 = .bool (decide (done.length < N))) ?_ ?_
  · intro K' hJ
    (repeat' (first | refine run1X (And.intro g4 g8) ?_ | (refine al_guard rfl (by simp only [↓set_get, Nat.reduceEqDiff, Bool.false_eq_true, ↓reduceIte, aenv0, aenvS, aenvN, one_ne, g4, g8]; rfl) (fun hb => ?_) (fun hb => ?_) <;> (try simp only [ne_eq, Bool.not_eq_true, Bool.not_eq_false] at hb) <;> have hb2 := hb <;> (try simp only [decide_eq_true_eq, decide_eq_false_iff_not, beq_iff_eq, beq_eq_false_iff_ne, bne_iff_ne, ne_eq, Bool.not_eq_true', Bool.not_eq_false'] at hb2) <;> (try rw [hb]))))
    all_goals refine al_nil (hJ _ _ ⟨rfl, ?_, ?_, ?_, ?_, ?_, ?_⟩)
    all_goals simp only [↓set_get, Nat.reduceEqDiff, Bool.false_eq_true, ↓reduceIte, aenv0, aenvS, aenvN, one_ne, g0, g4, g5, g7, g8]
    all_goals (first | exact bool_t (by omega) | exact bool_f (by omega) | exact bool_s (by (first | rw [decide_eq_true_eq] | rw [beq_iff_eq] | rw [bne_iff_ne]); omega))
  rintro ρ τ ⟨rfl, g0, g4, g5, g7, g8, g33⟩
  refine asc ?_; refine ateX g33 ?_ ?_
  · intro hb2
    have hb2 : 0 < m := by have := of_decide_eq_true hb2
                           omega
    obtain ⟨m, rfl⟩ : ∃ j, m = j + 1 := ⟨m - 1, by omega⟩
    have e4 := q4_len rest
    refine asc ?_; refine awp_body ?_
    refine rs ?_
    refine runX g5 ?_
    (refine al_set ?_ ?_ ?_ ?_; rotate_left 2; (· intro K hK; refine S1 ?_; refine Or.inl (rCut_c (by omega) ?_); exact hK))
    rw [dCut_q]
    refine run ?_
    refine al_done ?_
    refine rs ?_
    refine run ?_
    (refine al_set ?_ ?_ ?_ ?_; rotate_left 2; (· intro K hK; refine S1 ?_; refine Or.inl (rGet_c (by omega) ?_); exact hK))
    rw [dGet_q]
    refine run ?_
    (refine aF ?_; intro i hi; (try (have h_hi := hi; simp only [set_none] at h_hi)))
    refine run ?_
    refine al_done ?_
    rw [set_set]
    have hσi := own_fresh hown hi
    have hof := own_frame (o := .cells (sgD (gX (q4 rest).1)) 91) hown hi
    have hcl := sgD_len (gX (q4 rest).1)
    refine awp_region ?_
    refine runX g7 ?_
    (refine al_set ?_ ?_ ?_ ?_; rotate_left 2; (· intro K hK; refine S1 ?_; refine bsl_agg0 elt79 zc91 rfl hcl (by decide) ?_; exact hK))
    (refine al_rel ?_ ?_ ?_; rotate_left 1; (· intro K hK; simp (disch := (first | omega | (simp only [length_bytesD, List.length_append, List.length_cons, List.length_nil, List.length_map, List.length_replicate, List.length_take, List.length_drop]; omega))) only [go_sem, ↓set_get, ↓reduceIte, ↓o_bsl, ↓o_build, Nat.reduceEqDiff, Nat.reduceAdd, Nat.reduceMul, Int.reduceEq, Int.reduceNe,  xcells_sl, hcl]; refine own_app hof (m := 1) (by decide) hcl (by omega) ?_; exact hK))
    intro d' s' hown'
    obtain ⟨s3, hle3, hown3⟩ := own_unframe hown' hσi
    refine run ?_
    refine al_nil (.forget s3 hle3 (.done ?_))
    refine awp_region ?_
    refine runX g8 ?_
    refine al_nil ?_
    refine lq_next m (by omega) ⟨done ++ [gX (q4 rest).1], (q4 rest).2, d', by simp; omega, by omega, ?_, ?_, ?_, ?_, ?_, ?_, ?_⟩
    · rw [hu, rN]; simp
    · rw [List.length_append, sgsD, rows_append, rows_one]; exact hown3
    · simp only [↓set_get, Nat.reduceEqDiff, Bool.false_eq_true, ↓reduceIte, aenv0, aenvS, aenvN, one_ne, g0]
    · simp only [↓set_get, Nat.reduceEqDiff, Bool.false_eq_true, ↓reduceIte, aenv0, aenvS, aenvN, one_ne, g4]
    · simp only [↓set_get, Nat.reduceEqDiff, Bool.false_eq_true, ↓reduceIte, aenv0, aenvS, aenvN, one_ne]
    · simp only [↓set_get, Nat.reduceEqDiff, Bool.false_eq_true, ↓reduceIte, aenv0, aenvS, aenvN, one_ne]
    · simp only [↓set_get, Nat.reduceEqDiff, Bool.false_eq_true, ↓reduceIte, aenv0, aenvS, aenvN, one_ne]; congr 1; simp
  · intro hb2
    have hb2 : m = 0 := by have := of_decide_eq_false hb2
                           omega
    subst hb2
    rw [rN, List.append_nil] at hu
    rw [hu] at hrL
    have hK : K (if GPOk done ∧ gput done = c :: u then .tup [.sl done.length (sgsD done) none, .int .i64 0] else .tup [.sl 0 [] none, .int .i64 10]) s := by
      rw [dGetG, ref_getG, hrL] at hK
      split at hK
      · rename_i l e
        split at e
        · cases e; rw [if_pos (by assumption)]; exact hK
        · cases e
      · rename_i e
        split at e
        · cases e
        · rw [if_neg (by assumption)]; exact hK
    simp only [LQ, if_true]
    refine rx_own hown (t := 7) g7 (.done ?_)
    clear hown
    refine rs ?_
    refine run ?_
    (refine al_set ?_ ?_ ?_ ?_; rotate_left 2; (· intro K hK; refine S1 ?_; refine Or.inl (rGPut_c (by omega) ?_); exact hK))
    rw [dGP_q]
    refine run ?_
    refine al_done ?_
    refine asc ?_; refine awp_rj (fun ρ' s' => s' = s ∧ ρ' 7 = .sl done.length (sgsD done) none ∧ ρ' 63 = .bool (decide (¬ (GPOk done ∧ gput done = c :: u)))) ?_ ?_
    · intro K' hJ
      (repeat' (first | refine run1X g0 ?_ | (refine al_guard rfl (by simp only [↓set_get, Nat.reduceEqDiff, Bool.false_eq_true, ↓reduceIte, aenv0, aenvS, aenvN, one_ne, g0]; rfl) (fun hb => ?_) (fun hb => ?_) <;> (try simp only [ne_eq, Bool.not_eq_true, Bool.not_eq_false] at hb) <;> have hb2 := hb <;> (try simp only [decide_eq_true_eq, decide_eq_false_iff_not, beq_iff_eq, beq_eq_false_iff_ne, bne_iff_ne, ne_eq, Bool.not_eq_true', Bool.not_eq_false'] at hb2) <;> (try rw [hb]))))
      all_goals refine al_nil (hJ _ _ ⟨rfl, ?_, ?_⟩)
      all_goals simp only [↓set_get, Nat.reduceEqDiff, Bool.false_eq_true, ↓reduceIte, aenv0, aenvS, aenvN, one_ne]
      all_goals (congr 1; rw [Bool.eq_iff_iff]; simp_all [gpE, gpS]; try omega)
    rintro ρ1 s ⟨rfl, g7, g63⟩
    refine asc ?_; refine aiX g63 ?_ ?_
    · intro h
      rw [if_neg (of_decide_eq_true h)] at hK
      refine rs ?_
      refine run ?_
      refine al_nil (rx_nil (t := 2) (by simp only [↓set_get, Nat.reduceEqDiff, Bool.false_eq_true, ↓reduceIte, aenv0, aenvS, aenvN, one_ne]) (.done ?_))
      refine awp_ret (afin_ret (.done ?_)); simp only [ares, aone, ↓set_get, Nat.reduceEqDiff, Bool.false_eq_true, ↓reduceIte, aenv0, aenvS, aenvN, one_ne]
      exact hK
    · intro h
      rw [if_pos (Decidable.not_not.1 (of_decide_eq_false h))] at hK
      refine rs ?_
      refine runX g7 ?_
      refine rets ?_
      exact hK
theorem rK_c {t : List UInt8} (ht : t.length ≤ 140737488355328) (hK : K (dGetK t) s) : ACalls prog γ 79 [.str t] s K := by
  refine acalls_of_awp (by kernel_rfl) func79 rfl (by kernel_rfl) rfl rfl (by kernel_rfl) (Nat.le_of_ble_eq_true rfl) ?_
  refine rs ?_
  refine run ?_
  refine al_done ?_
  cases t with
  | nil =>
    have hK : K (.tup [.sl 0 [] none, .int .i64 10]) s := by
      have : getK [] = none := by rw [getK, countB]; rfl
      simpa [dGetK, this] using hK
    refine rs ?_
    refine run ?_
    refine al_done ?_
    refine asc ?_; refine ai ?_ ?_
    · intro _
      refine rs ?_
      refine run ?_
      refine al_nil (rx_nil (t := 2) (by simp only [↓set_get, Nat.reduceEqDiff, Bool.false_eq_true, ↓reduceIte, aenv0, aenvS, aenvN, one_ne]) (.done ?_))
      refine awp_ret (afin_ret (.done ?_)); simp only [ares, aone, ↓set_get, Nat.reduceEqDiff, Bool.false_eq_true, ↓reduceIte, aenv0, aenvS, aenvN, one_ne]
      exact hK
    · intro h; simp at h
  | cons c u =>
  have htl : ((c :: u).take (c :: u).length).drop 1 = u := by rw [List.take_length]; rfl
  have hul : u.length ≤ 140737488355328 := by rw [List.length_cons] at ht; omega
  have q1l := q1_len u
  refine rs ?_
  refine run ?_
  refine al_done ?_
  refine asc ?_; refine ai ?_ ?_
  · intro h
    simp at h
    omega
  intro _
  refine rs ?_
  refine run ?_
  (refine al_set ?_ ?_ ?_ ?_; rotate_left 2; (· intro K hK; refine S1 ?_; refine slice_str isStr9 (l := 1) (h := (c :: u).length) rfl rfl (by simp) (by simp) ?_; exact hK))
  rw [htl]
  refine run ?_
  (refine al_set ?_ ?_ ?_ ?_; rotate_left 2; (· intro K hK; refine S1 ?_; refine Or.inl (rRead_c hul ?_); exact hK))
  rw [dRead_q]
  refine run ?_
  refine al_done ?_
  refine rs ?_
  refine run ?_
  refine al_done ?_
  refine rs ?_
  refine run ?_
  refine al_done ?_
  obtain ⟨n, hn⟩ : ∃ n, (q1 u).1 = n := ⟨_, rfl⟩
  obtain ⟨r, hr⟩ : ∃ r, (q1 u).2 = r := ⟨_, rfl⟩
  obtain ⟨N, hN⟩ : ∃ N, min 64 n = N := ⟨_, rfl⟩
  have hrL : refK (c :: u) = kR N r := by rw [refK, List.tail_cons, hn, hr, hN]
  rw [hn, hr]
  rw [hn, hr] at q1l
  refine asc ?_; refine awp_while (fun m ρ τ => ∃ (done : List Head) (rest : List UInt8) (d : D), done.length + m = N ∧ rest.length ≤ r.length ∧ kR N r = done ++ kR m rest ∧ Own s 87 33 done.length (headsD done) d τ ∧ ρ 0 = .str (c :: u) ∧ ρ 4 = .int .u64 (n : Nat) ∧ ρ 5 = .str rest ∧ ρ 7 = d ∧ ρ 8 = .int .i64 (done.length : Nat)) N ?_ ?_
  · refine ⟨[], r, .nil, by simp, Nat.le_refl _, rfl, own_nil _ _ _, ?_, ?_, ?_, ?_, ?_⟩
    all_goals simp only [↓set_get, Nat.reduceEqDiff, Bool.false_eq_true, ↓reduceIte, aenv0, aenvS, aenvN, one_ne]
    rfl
  rintro m ρ τ ⟨done, rest, d, hlen, hrest, hu, hown, g0, g4, g5, g7, g8⟩
  have h3 : N ≤ 64 := by omega
  refine asc ?_; refine awp_rj (fun ρ' s' => s' = τ ∧ ρ' 0 = .str (c :: u) ∧ ρ' 4 = .int .u64 (n : Nat) ∧ ρ' 5 = .str rest ∧ ρ' 7 = d ∧ ρ' 8 = .int .i64 (done.length : Nat) ∧ ρ' 33 = .bool (decide (done.length < N))) ?_ ?_
  · intro K' hJ
    (repeat' (first | refine run1X (And.intro g4 g8) ?_ | (refine al_guard rfl (by simp only [↓set_get, Nat.reduceEqDiff, Bool.false_eq_true, ↓reduceIte, aenv0, aenvS, aenvN, one_ne, g4, g8]; rfl) (fun hb => ?_) (fun hb => ?_) <;> (try simp only [ne_eq, Bool.not_eq_true, Bool.not_eq_false] at hb) <;> have hb2 := hb <;> (try simp only [decide_eq_true_eq, decide_eq_false_iff_not, beq_iff_eq, beq_eq_false_iff_ne, bne_iff_ne, ne_eq, Bool.not_eq_true', Bool.not_eq_false'] at hb2) <;> (try rw [hb]))))
    all_goals refine al_nil (hJ _ _ ⟨rfl, ?_, ?_, ?_, ?_, ?_, ?_⟩)
    all_goals simp only [↓set_get, Nat.reduceEqDiff, Bool.false_eq_true, ↓reduceIte, aenv0, aenvS, aenvN, one_ne, g0, g4, g5, g7, g8]
    all_goals (first | exact bool_t (by omega) | exact bool_f (by omega) | exact bool_s (by (first | rw [decide_eq_true_eq] | rw [beq_iff_eq] | rw [bne_iff_ne]); omega))
  rintro ρ τ ⟨rfl, g0, g4, g5, g7, g8, g33⟩
  refine asc ?_; refine ateX g33 ?_ ?_
  · intro hb2
    have hb2 : 0 < m := by have := of_decide_eq_true hb2
                           omega
    obtain ⟨m, rfl⟩ : ∃ j, m = j + 1 := ⟨m - 1, by omega⟩
    have e1 := r1_len rest
    have e2 := r2_len rest
    have n1 := (q1_len rest).2
    have n2 := (q2_len (r1 rest)).2
    have d1 : dRead (readB rest) = .tup [.int .u64 (q1 rest).1, .str (r1 rest), .bool (readB rest).isSome] := dRead_q rest
    have d2 : dUnhash (unhashB (r1 rest)) = .tup [.agg (bytesD (q2 (r1 rest)).1), .str (r2 rest), .bool (unhashB (r1 rest)).isSome] := dUnhash_q _
    refine asc ?_; refine awp_body ?_
    refine rs ?_
    refine runX g5 ?_
    (refine al_set ?_ ?_ ?_ ?_; rotate_left 2; (· intro K hK; refine S1 ?_; refine Or.inl (rRead_c (by omega) ?_); exact hK))
    rw [d1]
    refine run ?_
    refine al_done ?_
    refine rs ?_
    refine run ?_
    (refine al_set ?_ ?_ ?_ ?_; rotate_left 2; (· intro K hK; refine S1 ?_; refine Or.inl (rUnhash_c (by omega) ?_); exact hK))
    rw [d2]
    refine run ?_
    (refine aF ?_; intro i hi; (try (have h_hi := hi; simp only [set_none] at h_hi)))
    refine run ?_
    refine al_done ?_
    rw [set_set]
    have hσi := own_fresh hown hi
    have hof := own_frame (o := .cells (bytesD (q2 (r1 rest)).1) 27) hown hi
    have hcl := headD_len (kX rest)
    have hkx : headD (kX rest) = .int .i64 ((((q1 rest).1 : Nat) : Int) % 65536) :: bytesD (q2 (r1 rest)).1 := by
      show D.int .i64 ((((q1 rest).1 % 65536 : Nat)) : Int) :: _ = _
      rw [Int.natCast_emod]; rfl
    have hbx : ∀ (s' : St) (K' : D → St → Prop), K' (.agg (headD (kX rest))) s' → abuild prog 87 [(0, .int .i64 ((((q1 rest).1 : Nat) : Int) % 65536)), (1, .agg (bytesD (q2 (r1 rest)).1))] s' K' := by
      intro s' K' h
      rw [hkx] at h
      exact build87 n2 h
    refine awp_region ?_
    refine runX g7 ?_
    (refine al_set ?_ ?_ ?_ ?_; rotate_left 2; (· intro K hK; refine S1 ?_; refine hbx _ _ ?_; exact hK))
    (refine al_set ?_ ?_ ?_ ?_; rotate_left 2; (· intro K hK; refine S1 ?_; refine bsl_agg0 elt78 zc87 rfl hcl (by decide) ?_; exact hK))
    (refine al_rel ?_ ?_ ?_; rotate_left 1; (· intro K hK; simp (disch := (first | omega | (simp only [length_bytesD, List.length_append, List.length_cons, List.length_nil, List.length_map, List.length_replicate, List.length_take, List.length_drop]; omega))) only [go_sem, ↓set_get, ↓reduceIte, ↓o_bsl, ↓o_build, Nat.reduceEqDiff, Nat.reduceAdd, Nat.reduceMul, Int.reduceEq, Int.reduceNe,  xcells_sl, hcl]; refine own_app hof (m := 1) (by decide) hcl (by omega) ?_; exact hK))
    intro d' s' hown'
    obtain ⟨s3, hle3, hown3⟩ := own_unframe hown' hσi
    refine run ?_
    refine al_nil (.forget s3 hle3 (.done ?_))
    refine awp_region ?_
    refine runX g8 ?_
    refine al_nil ?_
    refine lq_next m (by omega) ⟨done ++ [kX rest], r2 rest, d', by simp; omega, by omega, ?_, ?_, ?_, ?_, ?_, ?_, ?_⟩
    · rw [hu, kR]; simp
    · rw [List.length_append, headsD, rows_append, rows_one]; exact hown3
    · simp only [↓set_get, Nat.reduceEqDiff, Bool.false_eq_true, ↓reduceIte, aenv0, aenvS, aenvN, one_ne, g0]
    · simp only [↓set_get, Nat.reduceEqDiff, Bool.false_eq_true, ↓reduceIte, aenv0, aenvS, aenvN, one_ne, g4]
    · simp only [↓set_get, Nat.reduceEqDiff, Bool.false_eq_true, ↓reduceIte, aenv0, aenvS, aenvN, one_ne]
    · simp only [↓set_get, Nat.reduceEqDiff, Bool.false_eq_true, ↓reduceIte, aenv0, aenvS, aenvN, one_ne]
    · simp only [↓set_get, Nat.reduceEqDiff, Bool.false_eq_true, ↓reduceIte, aenv0, aenvS, aenvN, one_ne]; congr 1; simp
  · intro hb2
    have hb2 : m = 0 := by have := of_decide_eq_false hb2
                           omega
    subst hb2
    rw [kR, List.append_nil] at hu
    rw [hu] at hrL
    have hK : K (if GKOk done ∧ gknown done = c :: u then .tup [.sl done.length (headsD done) none, .int .i64 0] else .tup [.sl 0 [] none, .int .i64 10]) s := by
      rw [dGetK, ref_getK, hrL] at hK
      split at hK
      · rename_i l e
        split at e
        · cases e; rw [if_pos (by assumption)]; exact hK
        · cases e
      · rename_i e
        split at e
        · cases e
        · rw [if_neg (by assumption)]; exact hK
    simp only [LQ, if_true]
    refine rx_own hown (t := 7) g7 (.done ?_)
    clear hown
    refine rs ?_
    refine run ?_
    (refine al_set ?_ ?_ ?_ ?_; rotate_left 2; (· intro K hK; refine S1 ?_; refine Or.inl (rGPutKnown_c (by omega) ?_); exact hK))
    rw [dGK_q]
    refine run ?_
    refine al_done ?_
    refine asc ?_; refine awp_rj (fun ρ' s' => s' = s ∧ ρ' 7 = .sl done.length (headsD done) none ∧ ρ' 68 = .bool (decide (¬ (GKOk done ∧ gknown done = c :: u)))) ?_ ?_
    · intro K' hJ
      (repeat' (first | refine run1X g0 ?_ | (refine al_guard rfl (by simp only [↓set_get, Nat.reduceEqDiff, Bool.false_eq_true, ↓reduceIte, aenv0, aenvS, aenvN, one_ne, g0]; rfl) (fun hb => ?_) (fun hb => ?_) <;> (try simp only [ne_eq, Bool.not_eq_true, Bool.not_eq_false] at hb) <;> have hb2 := hb <;> (try simp only [decide_eq_true_eq, decide_eq_false_iff_not, beq_iff_eq, beq_eq_false_iff_ne, bne_iff_ne, ne_eq, Bool.not_eq_true', Bool.not_eq_false'] at hb2) <;> (try rw [hb]))))
      all_goals refine al_nil (hJ _ _ ⟨rfl, ?_, ?_⟩)
      all_goals simp only [↓set_get, Nat.reduceEqDiff, Bool.false_eq_true, ↓reduceIte, aenv0, aenvS, aenvN, one_ne]
      all_goals (congr 1; rw [Bool.eq_iff_iff]; simp_all [gkE, gkS]; try omega)
    rintro ρ1 s ⟨rfl, g7, g68⟩
    refine asc ?_; refine aiX g68 ?_ ?_
    · intro h
      rw [if_neg (of_decide_eq_true h)] at hK
      refine rs ?_
      refine run ?_
      refine al_nil (rx_nil (t := 2) (by simp only [↓set_get, Nat.reduceEqDiff, Bool.false_eq_true, ↓reduceIte, aenv0, aenvS, aenvN, one_ne]) (.done ?_))
      refine awp_ret (afin_ret (.done ?_)); simp only [ares, aone, ↓set_get, Nat.reduceEqDiff, Bool.false_eq_true, ↓reduceIte, aenv0, aenvS, aenvN, one_ne]
      exact hK
    · intro h
      rw [if_pos (Decidable.not_not.1 (of_decide_eq_false h))] at hK
      refine rs ?_
      refine runX g7 ?_
      refine rets ?_
      exact hK
end Go.Proofs.Try
