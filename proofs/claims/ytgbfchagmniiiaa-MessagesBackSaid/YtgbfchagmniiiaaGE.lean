/- gossip: the statement on what is missing. -/
import Derived.Test.YtgbfchagmniiiaaGD
set_option maxRecDepth 8000
set_option linter.unusedSimpArgs false
set_option linter.unusedVariables false
namespace Go.Proofs.Try
open Go Go.Av
set_option pp.maxSteps 900
attribute [local irreducible] alist awp adraw apure
attribute [local go_sem] cellsOf_int cellsOf_bool cellsOf_str cellsOf_nilp cellsOf_nil cellsOf_e0 cellsOf_sl cellsOf_osl cellsOf_ptr cellsOf_eptr cellsOf_fn cellsOf_agg okc_int okc_bool okc_str okc_nilp okc_nil okc_e0 okc_sl okc_osl okc_ptr okc_eptr okc_fn okc_agg and_assoc splice_0n splice_0c splice_s load_ptr load_eptr read_t read_f store_p cells_inj set_same exists_and_left List.length_cons List.length_nil List.drop_zero List.drop_succ_cons List.take_succ_cons List.take_zero Option.isSome_some
variable {γ : Gl} {σ s : St} {K : D → St → Prop}
attribute [local go_sem] roD_len roD_33 roD_34 roD_35 roD_36 roD_h roD_a rosD_len headD_len headD_0 headD_a headD_r spl87 sgD_len sgD_0 sgD_33 sgD_34 sgD_35 sgD_a sgD_h sgD_r spl27 byt27 spl91 length_bytesD List.length_replicate splice_self sgsD_len headsD_len Int.toNat_natCast List.length_append

theorem miss_valid {H : List Head} : ∀ (L M : List SHead), (∀ x ∈ M, valid x) → ∀ x ∈ miss H M L, valid x
  | [], M, h => h
  | y :: L, M, h => by
    rw [miss]
    refine miss_valid L _ ?_
    split
    · rename_i hw
      intro x hx
      rcases List.mem_append.1 hx with hx | hx
      · exact h x hx
      · rw [List.mem_singleton] at hx; rw [hx]; exact hw.2.1
    · exact h
theorem miss_short {H : List Head} {L : List SHead} : Short (miss H [] L) := fun x hx => by
  have := (miss_valid L [] (fun x hx => by cases hx) x hx).2.2.2.2.2
  omega
theorem miss_len {H : List Head} : ∀ (L M : List SHead), M.length ≤ 3 → (miss H M L).length ≤ 3
  | [], M, h => h
  | y :: L, M, h => by
    rw [miss]
    refine miss_len L _ ?_
    split
    · rename_i hw
      have := hw.1
      rw [List.length_append, List.length_singleton]; omega
    · exact h

theorem GossipMissing_c {L : List Ro} {H : List Head} {b : UInt8} {t1 t2 : Option (Nat × Nat)} (hf : Fine L) (hK : K (.bool true) s) : ACalls prog γ 12 [.sl L.length (rosD L) t1, .sl H.length (headsD H) t2, .int .u8 (b.toNat : Nat)] s K := by
  have hmh := headsD_len H
  refine acalls_of_awp (by kernel_rfl) func12 rfl (by kernel_rfl) rfl rfl (by kernel_rfl) (Nat.le_of_ble_eq_true rfl) ?_
  refine rs ?_
  refine run ?_
  refine al_done ?_
  refine rs ?_
  refine run ?_
  (refine al_set ?_ ?_ ?_ ?_; rotate_left 2; (· intro K hK; refine S1 ?_; refine Or.inl (Sgd_c hf (by decide) ?_); exact hK))
  by_cases hg : SgOk L 8
  · rw [dSg, if_pos hg]
    have hL : L.length ≤ 8 := by have := hg.1; omega
    generalize hM : L.map signedO = M
    have hml : L.length = M.length := by rw [← hM, List.length_map]
    rw [hml] at hL
    rw [hml]
    have hmm := sgsD_len M
    refine run ?_
    refine al_done ?_
    refine rs ?_
    refine run ?_
    refine al_done ?_
    refine asc ?_; refine ai ?_ ?_
    · intro _
      refine rs ?_
      (refine al_set ?_ ?_ ?_ ?_; rotate_left 2; (· intro K hK; refine S1 ?_; refine Or.inl (talked_c ?_); exact hK))
      refine run ?_
      refine rets ?_
      exact hK
    intro h
    have h : H.length ≤ 20 := by have := of_decide_eq_false h
                                 omega
    refine rs ?_
    refine run ?_
    (refine al_rel ?_ ?_ ?_; rotate_left 1; (· intro K hK; simp (disch := (first | omega | (simp only [length_bytesD, List.length_append, List.length_cons, List.length_nil, List.length_map, List.length_replicate, List.length_take, List.length_drop]; omega))) only [go_sem, ↓set_get, ↓reduceIte, ↓o_bsl, ↓o_build, Nat.reduceEqDiff, Nat.reduceAdd, Nat.reduceMul, Int.reduceEq, Int.reduceNe,  xcells_sl, hmh]; refine own_new (m := H.length) hmh (by omega) ?_; exact hK))
    intro d' s' hown'
    refine run ?_
    refine al_done ?_
    refine rs ?_
    refine run ?_
    refine al_done ?_
    refine asc ?_; refine awp_while (fun n ρ τ => ∃ (k : Nat) (E : List Head) (d : D), n = M.length - k ∧ k ≤ M.length ∧ E.length ≤ 20 + k ∧ Own s 87 33 E.length (headsD E) d τ ∧ ρ 2 = .int .u8 (b.toNat : Nat) ∧ ρ 7 = .sl M.length (sgsD M) none ∧ ρ 9 = d ∧ ρ 10 = .int .i64 (k : Nat)) M.length ?_ ?_
    · refine ⟨0, H, d', rfl, Nat.zero_le _, by omega, hown', ?_, ?_, ?_, ?_⟩
      all_goals simp only [↓set_get, Nat.reduceEqDiff, Bool.false_eq_true, ↓reduceIte, aenv0, aenvS, aenvN, one_ne]
      rfl
    rintro n ρ τ ⟨k, E, d, rfl, hk, hE, hown, g2, g7, g9, g10⟩
    refine rs ?_
    refine runX (And.intro g7 g10) ?_
    refine al_done ?_
    refine asc ?_; refine ate ?_ ?_
    · intro hb2
      have hb2 : k < M.length := by have := of_decide_eq_true hb2
                                    omega
      have hah : ((sgsD M).drop (k * 36)).take 33 = headD M[k].head := by
        have : ((sgsD M).drop (k * 36)).take 33 = (((sgsD M).drop (k * 36)).take 36).take 33 := by rw [List.take_take]; rfl
        rw [this, show ((sgsD M).drop (k * 36)).take 36 = sgD M[k] from rows_at sgD_len M hb2, sgD_h]
      have hcl := headD_len M[k].head
      refine asc ?_; refine awp_body ?_
      refine rs ?_
      refine runX (And.intro g2 g10) ?_
      refine al_done ?_
      refine ac ?_ ?_
      · intro _
        refine awp_region ?_
        refine runX (And.intro g7 (And.intro g9 (And.intro g10 hah))) ?_
        (refine al_set ?_ ?_ ?_ ?_; rotate_left 2; (· intro K hK; refine S1 ?_; refine bsl_agg0 elt78 zc87 rfl hcl (by decide) ?_; exact hK))
        (refine al_rel ?_ ?_ ?_; rotate_left 1; (· intro K hK; simp (disch := (first | omega | (simp only [length_bytesD, List.length_append, List.length_cons, List.length_nil, List.length_map, List.length_replicate, List.length_take, List.length_drop]; omega))) only [go_sem, ↓set_get, ↓reduceIte, ↓o_bsl, ↓o_build, Nat.reduceEqDiff, Nat.reduceAdd, Nat.reduceMul, Int.reduceEq, Int.reduceNe,  xcells_sl, hcl]; refine own_app hown (m := 1) (by decide) hcl (by omega) ?_; exact hK))
        intro d2 s2 hown2
        refine run ?_
        refine al_nil (.done ?_)
        refine awp_region ?_
        refine runX g10 ?_
        refine al_nil ?_
        refine lq_next (M.length - (k + 1)) (by omega) ⟨k + 1, E ++ [M[k].head], d2, rfl, by omega, by simp; omega, ?_, ?_, ?_, ?_, ?_⟩
        · rw [List.length_append, headsD, rows_append, rows_one]; exact hown2
        all_goals simp only [↓set_get, Nat.reduceEqDiff, Bool.false_eq_true, ↓reduceIte, aenv0, aenvS, aenvN, one_ne, g2, g7]
        rfl
      · intro _
        refine awp_skip (Rx.done ?_)
        refine awp_region ?_
        refine runX g10 ?_
        refine al_nil ?_
        refine lq_next (M.length - (k + 1)) (by omega) ⟨k + 1, E, d, rfl, by omega, by omega, hown, ?_, ?_, ?_, ?_⟩
        all_goals simp only [↓set_get, Nat.reduceEqDiff, Bool.false_eq_true, ↓reduceIte, aenv0, aenvS, aenvN, one_ne, g2, g7, g9]
        rfl
    · intro hb2
      simp only [LQ, if_true]
      refine rx_own hown (t := 9) g9 (.done ?_)
      refine rs ?_
      refine runX g7 ?_
      (refine al_set ?_ ?_ ?_ ?_; rotate_left 2; (· intro K hK; refine S1 ?_; refine Or.inl (gMissing_c (by omega) (by omega) ?_); exact hK))
      refine runX g7 ?_
      (refine al_set ?_ ?_ ?_ ?_; rotate_left 2; (· intro K hK; refine S1 ?_; refine Or.inl (rMissing_c (by omega) (by omega) ?_); exact hK))
      have hm3 := miss_len (H := E) M [] (by decide)
      rw [dMiss]
      (refine al_set ?_ ?_ ?_ ?_; rotate_left 2; (· intro K hK; refine S1 ?_; refine Or.inl (SameL_c miss_short (by omega) ?_); exact hK))
      rw [decide_eq_true rfl]
      refine run ?_
      (refine al_set ?_ ?_ ?_ ?_; rotate_left 2; (· intro K hK; refine S1 ?_; refine Or.inl (talked_c ?_); exact hK))
      refine run ?_
      refine rets ?_
      exact hK
  · rw [dSg, if_neg hg]
    refine run ?_
    refine al_done ?_
    refine rs ?_
    refine run ?_
    refine al_done ?_
    refine asc ?_; refine ai ?_ ?_
    · intro _
      refine rs ?_
      (refine al_set ?_ ?_ ?_ ?_; rotate_left 2; (· intro K hK; refine S1 ?_; refine Or.inl (talked_c ?_); exact hK))
      refine run ?_
      refine rets ?_
      exact hK
    · intro h; cases h
end Go.Proofs.Try
