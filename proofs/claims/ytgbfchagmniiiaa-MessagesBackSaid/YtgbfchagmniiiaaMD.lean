/- messages: requests put; walked. -/
import Derived.Test.YtgbfchagmniiiaaMC
set_option maxRecDepth 8000
set_option linter.unusedSimpArgs false
set_option linter.unusedVariables false
namespace Go.Proofs.Try
open Go Go.Av
set_option pp.maxSteps 900
attribute [local irreducible] alist awp adraw apure
attribute [local go_sem] cellsOf_int cellsOf_bool cellsOf_str cellsOf_nilp cellsOf_nil cellsOf_e0 cellsOf_sl cellsOf_osl cellsOf_ptr cellsOf_eptr cellsOf_fn cellsOf_agg okc_int okc_bool okc_str okc_nilp okc_nil okc_e0 okc_sl okc_osl okc_ptr okc_eptr okc_fn okc_agg and_assoc splice_0n splice_0c splice_s load_ptr load_eptr read_t read_f store_p cells_inj set_same exists_and_left List.length_cons List.length_nil List.drop_zero List.drop_succ_cons List.take_succ_cons List.take_zero Option.isSome_some
variable {γ : Gl} {σ s : St} {K : D → St → Prop}
attribute [local go_sem] List.length_append natc0

theorem req_cell (r : Req) {i : Nat} (h : i ≤ 4) : (reqD r)[i]? = some (.int .i64 (r.at5 i)) := by
  match i, h with
  | 0, _ => rfl
  | 1, _ => rfl
  | 2, _ => rfl
  | 3, _ => rfl
  | 4, _ => rfl
theorem idx_le (k : Int) : ∀ i ∈ idx k, i ≤ 4 := by
  unfold idx
  split
  · decide
  · split <;> decide
theorem idx_len (k : Int) : (idx k).length ≤ 5 := by
  unfold idx
  split
  · decide
  · split <;> decide
theorem Num_g {n : Int} (h : goodN n) (hK : K (.str (numB n.toNat)) s) : ACalls prog γ 23 [.int .u64 n] s K := Num_c h.1 (by have := h.2; omega) hK
theorem PutRequest_c {r : Req} (hK : K (dPR r) s) : ACalls prog γ 69 [.agg (reqD r)] s K := by
  have hrl := reqD_len r
  have hc1 := req_cell r (i := 1) (by decide)
  refine acalls_of_awp (by kernel_rfl) func69 rfl (by kernel_rfl) rfl rfl (by kernel_rfl) (Nat.le_of_ble_eq_true rfl) ?_
  refine rs ?_
  (refine aF ?_; intro p hp; (try (have h_hp := hp; simp only [set_none] at h_hp)))
  refine run ?_
  refine al_done ?_
  obtain ⟨s1, hs1⟩ : ∃ x, s.set p (.cells (reqD r) 98) = x := ⟨_, rfl⟩
  have hpc : s1 p = some (.cells (reqD r) 98) := by rw [← hs1]; exact set_same _ _ _
  have hle : s.le s1 := by rw [← hs1]; exact le_set _ hp
  rw [hs1]
  clear hs1 hp
  refine asc ?_; refine awp_rj (fun ρ' s' => s' = s1 ∧ ρ' 1 = .ptr p 0 ∧ ρ' 14 = .bool (decide (¬ (1 ≤ r.kind ∧ r.kind ≤ 5)))) ?_ ?_
  · intro K' hJ
    have hc1 : (reqD r)[1]? = some (.int .i64 r.kind) := hc1
    (repeat' (first | refine run1X (And.intro hpc hc1) ?_ | (refine al_guard rfl (by simp only [↓set_get, Nat.reduceEqDiff, Bool.false_eq_true, ↓reduceIte, aenv0, aenvS, aenvN, one_ne, hpc, hc1]; rfl) (fun hb => ?_) (fun hb => ?_) <;> (try simp only [ne_eq, Bool.not_eq_true, Bool.not_eq_false] at hb) <;> have hb2 := hb <;> (try simp only [decide_eq_true_eq, decide_eq_false_iff_not, beq_iff_eq, beq_eq_false_iff_ne, bne_iff_ne, ne_eq, Bool.not_eq_true', Bool.not_eq_false'] at hb2) <;> (try rw [hb]))))
    all_goals refine al_nil (hJ _ _ ⟨rfl, ?_, ?_⟩)
    all_goals simp only [↓set_get, Nat.reduceEqDiff, Bool.false_eq_true, ↓reduceIte, aenv0, aenvS, aenvN, one_ne]
    all_goals (first | exact bool_t (by omega) | exact bool_f (by omega) | exact bool_s (by (first | rw [decide_eq_true_eq] | rw [beq_iff_eq] | rw [bne_iff_ne]); omega))
  rintro ρ1 s1 ⟨rfl, g1, g14⟩
  refine asc ?_; refine aiX g14 ?_ ?_
  · intro h
    rw [dPR, if_neg (fun hh => of_decide_eq_true h hh.1)] at hK
    refine rs ?_
    refine run ?_
    refine al_done (awp_ret (afin_ret (.forget s hle (.done ?_)))); simp only [ares, aone, ↓set_get, Nat.reduceEqDiff, Bool.false_eq_true, ↓reduceIte, aenv0, aenvS, aenvN, one_ne]
    exact hK
  intro h
  have hk15 := Decidable.not_not.1 (of_decide_eq_false h)
  refine rs ?_
  refine run ?_
  refine al_done ?_
  refine rs ?_
  refine runX g1 ?_
  (refine al_set ?_ ?_ ?_ ?_; rotate_left 2; (· intro K hK; refine S1X g1 ?_; refine Or.inl (Numbers_c hpc ?_); exact hK))
  refine run ?_
  refine al_done ?_
  have hil := idx_len r.kind
  obtain ⟨l, hl⟩ : ∃ l, idx r.kind = l := ⟨_, rfl⟩
  have hl4 : ∀ i ∈ l, i ≤ 4 := hl ▸ idx_le r.kind
  have hnl : nums r = l.map r.at5 := by rw [nums, hl]
  rw [hl] at hil ⊢
  have hpl : (ptrsD p l).length = l.length := List.length_map ..
  have hnn : (nums r).length = l.length := by rw [hnl, List.length_map]
  refine asc ?_; refine awp_while (fun m ρ τ => ∃ k : Nat, m = l.length - k ∧ k ≤ l.length ∧ τ = s1 ∧ (∀ n ∈ (nums r).take k, goodN n) ∧ ρ 4 = .str (81 :: nsB ((nums r).take k)) ∧ ρ 15 = .sl l.length (ptrsD p l) none ∧ ρ 16 = .int .i64 (l.length : Nat) ∧ ρ 17 = .int .i64 (k : Nat)) l.length ?_ ?_
  · refine ⟨0, rfl, Nat.zero_le _, rfl, (by simp), ?_, ?_, ?_, ?_⟩
    all_goals simp only [↓set_get, Nat.reduceEqDiff, Bool.false_eq_true, ↓reduceIte, aenv0, aenvS, aenvN, one_ne]
    all_goals rfl
  rintro m ρ s1 ⟨k, rfl, hk, rfl, hgood, g4, g15, g16, g17⟩
  refine rs ?_
  refine runX (And.intro g16 g17) ?_
  refine al_done ?_
  refine asc ?_; refine ate ?_ ?_
  · intro hb2
    have hb2 : k < l.length := by have := of_decide_eq_true hb2
                                  omega
    have hpt : (ptrsD p l)[k]? = some (.ptr p l[k]) := by rw [ptrsD, List.getElem?_map, List.getElem?_eq_getElem hb2]; rfl
    have hcell := req_cell r (hl4 _ (List.getElem_mem hb2))
    have hnk : (nums r).take (k + 1) = (nums r).take k ++ [r.at5 l[k]] := by
      rw [List.take_succ_eq_append_getElem (by omega)]
      congr 2
      simp only [hnl, List.getElem_map]
    have hmem : r.at5 l[k] ∈ nums r := by rw [hnl]; exact List.mem_map.2 ⟨_, List.getElem_mem hb2, rfl⟩
    obtain ⟨i, hi⟩ : ∃ i, l[k] = i := ⟨_, rfl⟩
    obtain ⟨v, hv⟩ : ∃ v, r.at5 i = v := ⟨_, rfl⟩
    rw [hi] at hpt hcell hnk hmem
    rw [hv] at hcell hnk hmem
    refine asc ?_; refine awp_body ?_
    refine rs ?_
    refine runX (And.intro g15 (And.intro g17 (And.intro hpt hpl))) ?_
    refine al_done ?_
    refine asc ?_; refine awp_rj (fun ρ' s' => s' = s1 ∧ ρ' 4 = .str (81 :: nsB ((nums r).take k)) ∧ ρ' 6 = .ptr p i ∧ ρ' 15 = .sl l.length (ptrsD p l) none ∧ ρ' 16 = .int .i64 (l.length : Nat) ∧ ρ' 17 = .int .i64 (k : Nat) ∧ ρ' 30 = .bool (decide (¬ goodN v))) ?_ ?_
    · intro K' hJ
      (repeat' (first | (refine al_set ?_ ?_ ?_ ?_; rotate_left 2; (· intro K hK; simp (disch := omega) only [go_sem, ↓set_get, ↓reduceIte, ↓o_bsl, ↓o_build, Nat.reduceEqDiff, Nat.reduceAdd, Nat.reduceMul, Int.reduceEq, Int.reduceNe, set_other, del_other, hpc, hcell]; (repeat' (first | exact hK | (refine And.intro ?_ ?_) | assumption | omega)))) | (refine al_guard (b := true) rfl ?_ (fun _ => ?_) (fun h => absurd rfl h); · simp only [↓set_get, Nat.reduceEqDiff, Bool.false_eq_true, ↓reduceIte, aenv0, aenvS, aenvN, one_ne, hpc, hcell]; done) | (refine al_guard (b := false) rfl ?_ (fun _ => ?_) (fun h => absurd rfl h); · simp only [↓set_get, Nat.reduceEqDiff, Bool.false_eq_true, ↓reduceIte, aenv0, aenvS, aenvN, one_ne, hpc, hcell]; done) | (refine al_guard (b := true) rfl ?_ (fun h => Bool.noConfusion h) (fun _ => ?_); · simp only [↓set_get, Nat.reduceEqDiff, Bool.false_eq_true, ↓reduceIte, aenv0, aenvS, aenvN, one_ne, hpc, hcell]; done) | (refine al_guard (b := false) rfl ?_ (fun h => Bool.noConfusion h) (fun _ => ?_); · simp only [↓set_get, Nat.reduceEqDiff, Bool.false_eq_true, ↓reduceIte, aenv0, aenvS, aenvN, one_ne, hpc, hcell]; done) | (refine al_guard0 rfl ?_ ?_; · simp only [↓set_get, Nat.reduceEqDiff, Bool.false_eq_true, ↓reduceIte, aenv0, aenvS, aenvN, one_ne, hpc, hcell]; done) | (refine al_none ?_ ?_ ?_ ?_; rotate_left 2; (· intro K hK; simp (disch := omega) only [go_sem, ↓set_get, ↓reduceIte, ↓o_bsl, ↓o_build, Nat.reduceEqDiff, Nat.reduceAdd, Nat.reduceMul, Int.reduceEq, Int.reduceNe, set_other, del_other, hpc, hcell]; (repeat' (first | exact hK | (refine And.intro ?_ ?_) | assumption | omega)))) | (refine al_guard rfl (by simp only [↓set_get, Nat.reduceEqDiff, Bool.false_eq_true, ↓reduceIte, aenv0, aenvS, aenvN, one_ne, hpc, hcell]; rfl) (fun hb => ?_) (fun hb => ?_) <;> (try simp only [ne_eq, Bool.not_eq_true, Bool.not_eq_false] at hb) <;> have hb2 := hb <;> (try simp only [decide_eq_true_eq, decide_eq_false_iff_not, beq_iff_eq, beq_eq_false_iff_ne, bne_iff_ne, ne_eq, Bool.not_eq_true', Bool.not_eq_false'] at hb2) <;> (try rw [hb]))))
      all_goals refine al_nil (hJ _ _ ⟨rfl, ?_, ?_, ?_, ?_, ?_, ?_⟩)
      all_goals simp only [↓set_get, Nat.reduceEqDiff, Bool.false_eq_true, ↓reduceIte, aenv0, aenvS, aenvN, one_ne, g4, g15, g16, g17]
      all_goals (first | exact bool_t (by unfold goodN; omega) | exact bool_f (by unfold goodN; omega) | exact bool_s (by unfold goodN; (first | rw [decide_eq_true_eq] | rw [beq_iff_eq] | rw [bne_iff_ne]); omega))
    rintro ρ s1 ⟨rfl, g4, g6, g15, g16, g17, g30⟩
    by_cases hg : goodN v
    · have e30 : decide (¬ goodN v) = false := decide_eq_false (fun h => h hg)
      rw [e30] at g30
      refine asc ?_; refine aiX g30 ?_ ?_
      · intro h; cases h
      intro _
      have hbl := nsB_len hgood
      have htl : ((nums r).take k).length ≤ 5 := by rw [List.length_take]; omega
      have hnum := length_numB (n := v.toNat) (by have := hg.1; have := hg.2; omega)
      have hg1 := hg.1
      have hg2 := hg.2
      refine awp_region ?_
      (repeat (first | (refine al_set ?_ ?_ ?_ ?_; rotate_left 2; (· intro K hK; simp (disch := omega) only [go_sem, ↓set_get, ↓reduceIte, ↓o_bsl, ↓o_build, Nat.reduceEqDiff, Nat.reduceAdd, Nat.reduceMul, Int.reduceEq, Int.reduceNe, set_other, del_other, g4, g6, hpc, hcell]; (repeat' (first | exact hK | (refine And.intro ?_ ?_) | assumption | omega)))) | (refine al_guard (b := true) rfl ?_ (fun _ => ?_) (fun h => absurd rfl h); · simp only [↓set_get, Nat.reduceEqDiff, Bool.false_eq_true, ↓reduceIte, aenv0, aenvS, aenvN, one_ne, g4, g6, hpc, hcell]; done) | (refine al_guard (b := false) rfl ?_ (fun _ => ?_) (fun h => absurd rfl h); · simp only [↓set_get, Nat.reduceEqDiff, Bool.false_eq_true, ↓reduceIte, aenv0, aenvS, aenvN, one_ne, g4, g6, hpc, hcell]; done) | (refine al_guard (b := true) rfl ?_ (fun h => Bool.noConfusion h) (fun _ => ?_); · simp only [↓set_get, Nat.reduceEqDiff, Bool.false_eq_true, ↓reduceIte, aenv0, aenvS, aenvN, one_ne, g4, g6, hpc, hcell]; done) | (refine al_guard (b := false) rfl ?_ (fun h => Bool.noConfusion h) (fun _ => ?_); · simp only [↓set_get, Nat.reduceEqDiff, Bool.false_eq_true, ↓reduceIte, aenv0, aenvS, aenvN, one_ne, g4, g6, hpc, hcell]; done) | (refine al_guard0 rfl ?_ ?_; · simp only [↓set_get, Nat.reduceEqDiff, Bool.false_eq_true, ↓reduceIte, aenv0, aenvS, aenvN, one_ne, g4, g6, hpc, hcell]; done) | (refine al_none ?_ ?_ ?_ ?_; rotate_left 2; (· intro K hK; simp (disch := omega) only [go_sem, ↓set_get, ↓reduceIte, ↓o_bsl, ↓o_build, Nat.reduceEqDiff, Nat.reduceAdd, Nat.reduceMul, Int.reduceEq, Int.reduceNe, set_other, del_other, g4, g6, hpc, hcell]; (repeat' (first | exact hK | (refine And.intro ?_ ?_) | assumption | omega))))))
      (refine al_set ?_ ?_ ?_ ?_; rotate_left 2; (· intro K hK; refine S1 ?_; refine Or.inl (Num_g hg ?_); exact hK))
      refine run ?_
      refine al_nil (.done ?_)
      refine awp_region ?_
      refine runX g17 ?_
      refine al_nil ?_
      refine lq_next (l.length - (k + 1)) (by omega) ⟨k + 1, rfl, by omega, rfl, ?_, ?_, ?_, ?_, ?_⟩
      · rw [hnk]
        intro n hn
        rcases List.mem_append.1 hn with hn | hn
        · exact hgood n hn
        · rw [List.mem_singleton] at hn; rw [hn]; exact hg
      · simp only [↓set_get, Nat.reduceEqDiff, Bool.false_eq_true, ↓reduceIte, aenv0, aenvS, aenvN, one_ne, hnk, nsB_add]
        all_goals rfl
      · simp only [↓set_get, Nat.reduceEqDiff, Bool.false_eq_true, ↓reduceIte, aenv0, aenvS, aenvN, one_ne, g15]
      · simp only [↓set_get, Nat.reduceEqDiff, Bool.false_eq_true, ↓reduceIte, aenv0, aenvS, aenvN, one_ne, g16]
      · simp only [↓set_get, Nat.reduceEqDiff, Bool.false_eq_true, ↓reduceIte, aenv0, aenvS, aenvN, one_ne]; rfl
    · have e30 : decide (¬ goodN v) = true := decide_eq_true hg
      rw [e30] at g30
      rw [dPR, if_neg (fun hh => hg (hh.2 v hmem))] at hK
      refine asc ?_; refine aiX g30 ?_ ?_
      · intro _
        refine rs ?_
        refine run ?_
        refine al_done (awp_ret (afin_ret (.forget s hle (.done ?_)))); simp only [ares, aone, ↓set_get, Nat.reduceEqDiff, Bool.false_eq_true, ↓reduceIte, aenv0, aenvS, aenvN, one_ne]
        exact hK
      · intro h; cases h
  · intro hb2
    have hb2 : k = l.length := by have := of_decide_eq_false hb2
                                  omega
    subst hb2
    rw [← hnn, List.take_length] at hgood
    rw [← hnn, List.take_length] at g4
    rw [dPR, if_pos ⟨hk15, hgood⟩] at hK
    refine lq_exit ?_
    refine rs ?_
    refine runX g4 ?_
    refine al_done (awp_ret (afin_ret (.forget s hle (.done ?_)))); simp only [ares, aone, ↓set_get, Nat.reduceEqDiff, Bool.false_eq_true, ↓reduceIte, aenv0, aenvS, aenvN, one_ne]
    exact hK
end Go.Proofs.Try
