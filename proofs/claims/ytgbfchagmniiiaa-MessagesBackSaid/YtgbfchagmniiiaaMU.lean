/- messages: heads and entries read, as the document has it; walked. -/
import Derived.Test.YtgbfchagmniiiaaMT
set_option maxRecDepth 8000
set_option linter.unusedSimpArgs false
set_option linter.unusedVariables false
namespace Go.Proofs.Try
open Go Go.Av
set_option pp.maxSteps 900
attribute [local irreducible] alist awp adraw apure
attribute [local go_sem] cellsOf_int cellsOf_bool cellsOf_str cellsOf_nilp cellsOf_nil cellsOf_e0 cellsOf_sl cellsOf_osl cellsOf_ptr cellsOf_eptr cellsOf_fn cellsOf_agg okc_int okc_bool okc_str okc_nilp okc_nil okc_e0 okc_sl okc_osl okc_ptr okc_eptr okc_fn okc_agg and_assoc splice_0n splice_0c splice_s load_ptr load_eptr read_t read_f store_p cells_inj set_same exists_and_left List.length_cons List.length_nil List.drop_zero List.drop_succ_cons List.take_succ_cons List.take_zero Option.isSome_some
variable {γ : Gl} {σ s : St} {K : D → St → Prop}
attribute [local go_sem] List.length_append natc0 eq_self sgD_len sgD_a spl91 splice_self List.length_replicate length_bytesD sgsD_len bne_self_eq_false Int.toNat_natCast

theorem rHead_c {t : List UInt8} (ht : t.length ≤ 140737488355328) (hK : K (.tup [.agg (sgD (hdV t)), .str (q4 t).2, .bool (hdOk t)]) s) : ACalls prog γ 129 [.str t] s K := by
  have hq := q4_len t
  refine acalls_of_awp (by kernel_rfl) func129 rfl (by kernel_rfl) rfl rfl (by kernel_rfl) (Nat.le_of_ble_eq_true rfl) ?_
  refine rs ?_
  (refine aF ?_; intro c hc; (try (have h_hc := hc; simp only [set_none] at h_hc)))
  refine run ?_
  refine al_done ?_
  refine rs ?_
  refine run ?_
  (refine al_set ?_ ?_ ?_ ?_; rotate_left 2; (· intro K hK; refine S1 ?_; refine Or.inl (rCut_c ht ?_); exact hK))
  rw [dCut_q]
  refine run ?_
  refine al_done ?_
  refine rs ?_
  refine run ?_
  (refine al_set ?_ ?_ ?_ ?_; rotate_left 2; (· intro K hK; refine S1 ?_; refine Or.inl (rGet_c (by omega) ?_); exact hK))
  rw [dGet_q]
  refine run ?_
  (refine aF ?_; intro y hy; (try (have h_hy := hy; simp only [set_none] at h_hy)))
  refine run ?_
  rw [set_set]
  refine al_done ?_
  obtain ⟨kyc, hy0⟩ := keep_none hy
  have hle : ∀ v, s.le (((s.set c (.cells (D.int .i64 0 :: (List.replicate 32 (.int .u8 0) ++ [.int .i64 0, .str [], .nil])) 91)).set y (.cells (sgD (gX (q4 t).1)) 91)).set c v) := fun v => le_set2 (le_set2 (le_set _ hc) hy0) hc
  refine asc ?_; refine awp_rj (fun ρ' s' => s' = ((s.set c (.cells (D.int .i64 0 :: (List.replicate 32 (.int .u8 0) ++ [.int .i64 0, .str [], .nil])) 91)).set y (.cells (sgD (gX (q4 t).1)) 91)).set c (.cells (sgD (gX (q4 t).1)) 91) ∧ ρ' 2 = .ptr c 0 ∧ ρ' 3 = .str (q4 t).2 ∧ ρ' 4 = .bool (hdOk t)) ?_ ?_
  · intro K' hJ
    cases hk : (cutB t).isSome with
    | false =>
      have e : hdOk t = false := by rw [hdOk, hk]; rfl
      rw [e] at hJ
      refine runX hk ?_
      refine al_nil (hJ _ _ ⟨rfl, ?_, ?_, ?_⟩)
      all_goals simp only [↓set_get, Nat.reduceEqDiff, Bool.false_eq_true, ↓reduceIte, aenv0, aenvS, aenvN, one_ne]
    | true =>
      have e : (gE (q4 t).1 == 0) = hdOk t := by
        rw [hdOk, hk, Bool.true_and]
        unfold gE; split <;> simp_all
      refine runX (And.intro hk e) ?_
      refine al_nil (hJ _ _ ⟨rfl, ?_, ?_, ?_⟩)
      all_goals simp only [↓set_get, Nat.reduceEqDiff, Bool.false_eq_true, ↓reduceIte, aenv0, aenvS, aenvN, one_ne]
  rintro ρ1 _ ⟨rfl, g2, g3, g4⟩
  refine awp_ret (afin_cell s (hle _) ?_)
  simp only [ares, aone, ↓set_get, Nat.reduceEqDiff, Bool.false_eq_true, ↓reduceIte, aenv0, aenvS, aenvN, one_ne, g2, g3, g4, load_ptr, tagg91, tsz91, set_same]
  exact ⟨_, _, rfl, by simp only [read_t, sgD_len, List.drop_zero, sgD_a]; exact ⟨by decide, hK⟩⟩
theorem rEntries_c {t : List UInt8} (ht : t.length ≤ 140737488355328) (hK : K (.tup [.sl (enL t).length (txD (enL t)) none, .str (enT t), .bool (refEn t).isSome]) s) : ACalls prog γ 130 [.str t] s K := by
  have hq := q1_len t
  refine acalls_of_awp (by kernel_rfl) func130 rfl (by kernel_rfl) rfl rfl (by kernel_rfl) (Nat.le_of_ble_eq_true rfl) ?_
  refine rs ?_
  refine run ?_
  refine al_done ?_
  refine rs ?_
  refine run ?_
  (refine al_set ?_ ?_ ?_ ?_; rotate_left 2; (· intro K hK; refine S1 ?_; refine Or.inl (rRead_c ht ?_); exact hK))
  rw [dRead_q]
  refine run ?_
  refine al_done ?_
  refine asc ?_; refine awp_rj (fun ρ' s' => s' = s ∧ ρ' 5 = .int .u64 ((q1 t).1 : Nat) ∧ ρ' 6 = .str (q1 t).2 ∧ ρ' 24 = .bool (decide (¬ ((readB t).isSome = true ∧ (q1 t).1 ≤ 16)))) ?_ ?_
  · intro K' hJ
    (repeat' (first | refine run1 ?_ | (refine al_guard rfl (by simp only [↓set_get, Nat.reduceEqDiff, Bool.false_eq_true, ↓reduceIte, aenv0, aenvS, aenvN, one_ne]; rfl) (fun hb => ?_) (fun hb => ?_) <;> (try simp only [ne_eq, Bool.not_eq_true, Bool.not_eq_false] at hb) <;> have hb2 := hb <;> (try simp only [decide_eq_true_eq, decide_eq_false_iff_not, beq_iff_eq, beq_eq_false_iff_ne, bne_iff_ne, ne_eq, Bool.not_eq_true', Bool.not_eq_false'] at hb2) <;> (try rw [hb]))))
    all_goals refine al_nil (hJ _ _ ⟨rfl, ?_, ?_, ?_⟩)
    all_goals simp only [↓set_get, Nat.reduceEqDiff, Bool.false_eq_true, ↓reduceIte, aenv0, aenvS, aenvN, one_ne]
    all_goals (congr 1; rw [Bool.eq_iff_iff]; simp_all; try omega)
  rintro ρ s ⟨rfl, g5, g6, g24⟩
  have none_K : refEn t = none → K (.tup [.sl 0 [] none, .str [], .bool false]) s := fun h => by
    have h1 : enL t = [] := by rw [enL, h]; rfl
    have h2 : enT t = [] := by rw [enT, h]; rfl
    rw [h1, h2, h] at hK; exact hK
  by_cases hok : (readB t).isSome = true ∧ (q1 t).1 ≤ 16
  case neg =>
    rw [decide_eq_true hok] at g24
    have hK := none_K (by rw [refEn, if_neg hok])
    refine asc ?_; refine aiX g24 ?_ ?_
    · intro _
      refine rs ?_
      refine run ?_
      refine al_nil (rx_nil (t := 2) (by simp only [↓set_get, Nat.reduceEqDiff, Bool.false_eq_true, ↓reduceIte, aenv0, aenvS, aenvN, one_ne]) (.done ?_))
      refine awp_ret (afin_ret (.done ?_)); simp only [ares, aone, ↓set_get, Nat.reduceEqDiff, Bool.false_eq_true, ↓reduceIte, aenv0, aenvS, aenvN, one_ne]
      exact hK
    · intro h; cases h
  rw [decide_eq_false (fun h => h hok)] at g24
  obtain ⟨N, hN⟩ : ∃ N, (q1 t).1 = N := ⟨_, rfl⟩
  obtain ⟨r0, hr0⟩ : ∃ r, (q1 t).2 = r := ⟨_, rfl⟩
  have hRE : refEn t = rfE N r0 := by rw [refEn, if_pos hok, hN, hr0]
  have hN16 : N ≤ 16 := hN ▸ hok.2
  rw [hN] at g5
  rw [hr0] at g6 hq
  refine asc ?_; refine aiX g24 ?_ ?_
  · intro h; cases h
  intro _
  refine rs ?_
  refine run ?_
  refine al_done ?_
  refine rs ?_
  refine run ?_
  refine al_done ?_
  refine asc ?_; refine awp_while (fun m ρ τ => ∃ (done : List (List UInt8)) (rest : List UInt8) (d : D), done.length + m = N ∧ rest.length ≤ r0.length ∧ rfE N r0 = (rfE m rest).map (fun p => (done ++ p.1, p.2)) ∧ Own s 9 1 done.length (txD done) d τ ∧ ρ 5 = .int .u64 (N : Nat) ∧ ρ 6 = .str rest ∧ ρ 8 = d ∧ ρ 9 = .int .i64 (done.length : Nat)) N ?_ ?_
  · refine ⟨[], r0, .nil, by simp, Nat.le_refl _, by cases rfE N r0 <;> simp, own_nil _ _ _, ?_, ?_, ?_, ?_⟩
    all_goals simp only [↓set_get, Nat.reduceEqDiff, Bool.false_eq_true, ↓reduceIte, aenv0, aenvS, aenvN, one_ne, g5, g6]
    rfl
  rintro m ρ τ ⟨done, rest, d, hlen, hrest, hu, hown, g5, g6, g8, g9⟩
  refine rs ?_
  refine runX (And.intro g5 g9) ?_
  refine al_done ?_
  refine asc ?_; refine ate ?_ ?_
  · intro hb2
    have hb2 : 0 < m := by have := of_decide_eq_true hb2
                           omega
    obtain ⟨m, rfl⟩ : ∃ j, m = j + 1 := ⟨m - 1, by omega⟩
    have e4 := q4_len rest
    have hcl := txD_len done
    refine asc ?_; refine awp_body ?_
    refine rs ?_
    refine runX g6 ?_
    (refine al_set ?_ ?_ ?_ ?_; rotate_left 2; (· intro K hK; refine S1 ?_; refine Or.inl (rCut_c (by omega) ?_); exact hK))
    rw [dCut_q]
    refine run ?_
    refine al_done ?_
    refine asc ?_; refine awp_rj (fun ρ' s' => s' = τ ∧ ρ' 5 = .int .u64 (N : Nat) ∧ ρ' 8 = d ∧ ρ' 9 = .int .i64 (done.length : Nat) ∧ ρ' 10 = .str (q4 rest).1 ∧ ρ' 11 = .str (q4 rest).2 ∧ ρ' 43 = .bool (decide (¬ ((cutB rest).isSome = true ∧ (q4 rest).1.length ≤ 200)))) ?_ ?_
    · intro K' hJ
      (repeat' (first | refine run1 ?_ | (refine al_guard rfl (by simp only [↓set_get, Nat.reduceEqDiff, Bool.false_eq_true, ↓reduceIte, aenv0, aenvS, aenvN, one_ne]; rfl) (fun hb => ?_) (fun hb => ?_) <;> (try simp only [ne_eq, Bool.not_eq_true, Bool.not_eq_false] at hb) <;> have hb2 := hb <;> (try simp only [decide_eq_true_eq, decide_eq_false_iff_not, beq_iff_eq, beq_eq_false_iff_ne, bne_iff_ne, ne_eq, Bool.not_eq_true', Bool.not_eq_false'] at hb2) <;> (try rw [hb]))))
      all_goals refine al_nil (hJ _ _ ⟨rfl, ?_, ?_, ?_, ?_, ?_, ?_⟩)
      all_goals simp only [↓set_get, Nat.reduceEqDiff, Bool.false_eq_true, ↓reduceIte, aenv0, aenvS, aenvN, one_ne, g5, g8, g9]
      all_goals (congr 1; rw [Bool.eq_iff_iff]; simp_all; try omega)
    rintro ρ1 τ ⟨rfl, g5, g8, g9, g10, g11, g43⟩
    by_cases hk : (cutB rest).isSome = true ∧ (q4 rest).1.length ≤ 200
    · have e43 : decide (¬ ((cutB rest).isSome = true ∧ (q4 rest).1.length ≤ 200)) = false := decide_eq_false (fun h => h hk)
      refine asc ?_; refine aiX g43 ?_ ?_
      · intro h; rw [e43] at h; cases h
      intro _
      refine awp_region ?_
      refine runX (And.intro g8 (And.intro g10 g11)) ?_
      (refine al_set ?_ ?_ ?_ ?_; rotate_left 2; (· intro K hK; refine S1 ?_; refine bsl_t1 ?_; exact hK))
      (refine al_rel ?_ ?_ ?_; rotate_left 1; (· intro K hK; simp (disch := (first | omega | (simp only [length_bytesD, List.length_append, List.length_cons, List.length_nil, List.length_map, List.length_replicate, List.length_take, List.length_drop]; omega))) only [go_sem, ↓set_get, ↓reduceIte, ↓o_bsl, ↓o_build, Nat.reduceEqDiff, Nat.reduceAdd, Nat.reduceMul, Int.reduceEq, Int.reduceNe,  xcells_sl]; refine own_app hown (m := 1) (by decide) rfl (by omega) ?_; exact hK))
      intro d' s' hown'
      refine runX g11 ?_
      refine al_nil (.done ?_)
      refine awp_region ?_
      refine runX g9 ?_
      refine al_nil ?_
      refine lq_next m (by omega) ⟨done ++ [(q4 rest).1], (q4 rest).2, d', by simp; omega, by omega, ?_, ?_, ?_, ?_, ?_, ?_⟩
      · rw [hu, rfE, if_pos hk]; cases rfE m (q4 rest).2 <;> simp
      · rw [List.length_append, txD, List.map_append]; exact hown'
      · simp only [↓set_get, Nat.reduceEqDiff, Bool.false_eq_true, ↓reduceIte, aenv0, aenvS, aenvN, one_ne, g5]
      · simp only [↓set_get, Nat.reduceEqDiff, Bool.false_eq_true, ↓reduceIte, aenv0, aenvS, aenvN, one_ne]
      · simp only [↓set_get, Nat.reduceEqDiff, Bool.false_eq_true, ↓reduceIte, aenv0, aenvS, aenvN, one_ne]
      · simp only [↓set_get, Nat.reduceEqDiff, Bool.false_eq_true, ↓reduceIte, aenv0, aenvS, aenvN, one_ne]; congr 1; simp
    · have e43 : decide (¬ ((cutB rest).isSome = true ∧ (q4 rest).1.length ≤ 200)) = true := decide_eq_true hk
      have hnone : refEn t = none := by rw [hRE, hu, rfE, if_neg hk]; rfl
      have hK := none_K hnone
      refine asc ?_; refine aiX g43 ?_ ?_
      · intro _
        refine rs ?_
        refine run ?_
        refine al_nil (rx_nil (t := 2) (by simp only [↓set_get, Nat.reduceEqDiff, Bool.false_eq_true, ↓reduceIte, aenv0, aenvS, aenvN, one_ne]) (.forget s (own_le' hown) (.done ?_)))
        refine awp_ret (afin_ret (.done ?_)); simp only [ares, aone, ↓set_get, Nat.reduceEqDiff, Bool.false_eq_true, ↓reduceIte, aenv0, aenvS, aenvN, one_ne]
        exact hK
      · intro h; rw [e43] at h; cases h
  · intro hb2
    have hb2 : m = 0 := by have := of_decide_eq_false hb2
                           omega
    subst hb2
    have hsome : refEn t = some (done, rest) := by rw [hRE, hu, rfE]; simp
    have h1 : enL t = done := by rw [enL, hsome]; rfl
    have h2 : enT t = rest := by rw [enT, hsome]; rfl
    rw [h1, h2, hsome] at hK
    refine lq_exit ?_
    refine rs ?_
    refine runX (And.intro g6 g8) ?_
    refine al_nil (rx_own hown (t := 2) (by simp only [↓set_get, Nat.reduceEqDiff, Bool.false_eq_true, ↓reduceIte, aenv0, aenvS, aenvN, one_ne]) (.done ?_))
    refine awp_ret (afin_ret (.done ?_)); simp only [ares, aone, ↓set_get, Nat.reduceEqDiff, Bool.false_eq_true, ↓reduceIte, aenv0, aenvS, aenvN, one_ne]
    exact hK
end Go.Proofs.Try
