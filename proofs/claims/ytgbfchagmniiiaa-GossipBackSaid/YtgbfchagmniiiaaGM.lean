/- GossipGet, walked. -/
import Derived.Test.YtgbfchagmniiiaaGL
set_option maxRecDepth 8000
set_option linter.unusedSimpArgs false
set_option linter.unusedVariables false
namespace Go.Proofs.Try
open Go Go.Av
set_option pp.maxSteps 900
attribute [local irreducible] alist awp adraw apure
attribute [local go_sem] cellsOf_int cellsOf_bool cellsOf_str cellsOf_nilp cellsOf_nil cellsOf_e0 cellsOf_sl cellsOf_osl cellsOf_ptr cellsOf_eptr cellsOf_fn cellsOf_agg okc_int okc_bool okc_str okc_nilp okc_nil okc_e0 okc_sl okc_osl okc_ptr okc_eptr okc_fn okc_agg and_assoc splice_0n splice_0c splice_s load_ptr load_eptr read_t read_f store_p cells_inj set_same exists_and_left List.length_cons List.length_nil List.drop_zero List.drop_succ_cons List.take_succ_cons List.take_zero Option.isSome_some
variable {γ : Gl} {σ s : St} {K : D → St → Prop}
attribute [local go_sem] roD_len roD_33 roD_34 roD_35 roD_36 roD_h roD_a rosD_len headD_len headD_0 headD_a headD_r spl87 sgD_len sgD_0 sgD_33 sgD_34 sgD_35 sgD_a sgD_h sgD_r spl27 byt27 spl91 length_bytesD List.length_replicate splice_self sgsD_len headsD_len Int.toNat_natCast List.length_append bne_self_eq_false

theorem GossipGet_c {u : List UInt8} {L : List Ro} {a b c : Int} {t1 : Option (Nat × Nat)} (hf : Fine L) (hu : u.length ≤ 9223372036854775807) (ha : 0 ≤ a ∧ a < 65536) (hb : 0 ≤ b ∧ b < 65536) (hc : 0 ≤ c ∧ c < 65536) (hK : K (.bool true) s) : ACalls prog γ 15 [.str u, .sl L.length (rosD L) t1, .agg [.int .u16 a, .int .u16 b, .int .u16 c]] s K := by
  refine acalls_of_awp (by kernel_rfl) func15 rfl (by kernel_rfl) rfl rfl (by kernel_rfl) (Nat.le_of_ble_eq_true rfl) ?_
  refine rs ?_
  (refine aF ?_; intro p hp; (try (have h_hp := hp; simp only [set_none] at h_hp)))
  refine run ?_
  refine al_done ?_
  obtain ⟨σ1, hσ1⟩ : ∃ x, s.set p (.cells [.int .u16 a, .int .u16 b, .int .u16 c] 106) = x := ⟨_, rfl⟩
  have hpc : σ1 p = some (.cells [.int .u16 a, .int .u16 b, .int .u16 c] 106) := by rw [← hσ1]; exact set_same _ _ _
  have hle : s.le σ1 := by rw [← hσ1]; exact le_set _ hp
  rw [hσ1]
  clear hσ1 hp
  refine rs ?_
  refine run ?_
  (refine al_set ?_ ?_ ?_ ?_; rotate_left 2; (· intro K hK; refine S1 ?_; refine Or.inl (Sgd_c hf (by decide) ?_); exact hK))
  by_cases hg : SgOk L 3
  case neg =>
    rw [dSg, if_neg hg]
    refine run ?_
    refine al_done ?_
    refine rs ?_
    refine run ?_
    refine al_done ?_
    refine asc ?_; refine ai ?_ ?_
    · intro _
      refine rs ?_
      (refine al_set ?_ ?_ ?_ ?_; rotate_left 2; (· intro K hK; refine S1 ?_; refine Or.inl (talked_c ?_); exact hK))
      refine run ?_
      refine al_done (awp_ret (afin_ret (.forget s hle (.done ?_)))); simp only [ares, aone, ↓set_get, Nat.reduceEqDiff, Bool.false_eq_true, ↓reduceIte, aenv0, aenvS, aenvN, one_ne]
      exact hK
    · intro h; cases h
  rw [dSg, if_pos hg]
  have hL : L.length ≤ 3 := by have := hg.1; omega
  generalize hM : L.map signedO = M
  have hml : L.length = M.length := by rw [← hM, List.length_map]
  rw [hml] at hL
  rw [hml]
  have hmm := sgsD_len M
  refine run ?_
  refine al_done ?_
  refine rs ?_
  refine run ?_
  refine al_done ?_
  refine asc ?_; refine ai ?_ ?_
  · intro _
    refine rs ?_
    (refine al_set ?_ ?_ ?_ ?_; rotate_left 2; (· intro K hK; refine S1 ?_; refine Or.inl (talked_c ?_); exact hK))
    refine run ?_
    refine al_done (awp_ret (afin_ret (.forget s hle (.done ?_)))); simp only [ares, aone, ↓set_get, Nat.reduceEqDiff, Bool.false_eq_true, ↓reduceIte, aenv0, aenvS, aenvN, one_ne]
    exact hK
  intro h
  have hu5 : u.length ≤ 500 := by have := of_decide_eq_false h
                                  omega
  refine rs ?_
  refine run ?_
  refine al_done ?_
  refine rs ?_
  refine run ?_
  refine al_done ?_
  refine asc ?_; refine awp_while (fun n ρ τ => ∃ (k : Nat) (d : D), n = M.length - k ∧ k ≤ M.length ∧ Own σ1 87 33 ((M.take k).map SHead.head).length (headsD ((M.take k).map SHead.head)) d τ ∧ ρ 0 = .str u ∧ ρ 5 = .ptr p 0 ∧ ρ 7 = .sl M.length (sgsD M) none ∧ ρ 9 = d ∧ ρ 10 = .int .i64 (k : Nat)) M.length ?_ ?_
  · refine ⟨0, .nil, rfl, Nat.zero_le _, own_nil _ _ _, ?_, ?_, ?_, ?_, ?_⟩
    all_goals simp only [↓set_get, Nat.reduceEqDiff, Bool.false_eq_true, ↓reduceIte, aenv0, aenvS, aenvN, one_ne]
    rfl
  rintro n ρ τ ⟨k, d, rfl, hk, hown, g0, g5, g7, g9, g10⟩
  refine rs ?_
  refine runX (And.intro g7 g10) ?_
  refine al_done ?_
  refine asc ?_; refine ate ?_ ?_
  · intro hb3
    have hb3 : k < M.length := by have := of_decide_eq_true hb3
                                  omega
    have hah : ((sgsD M).drop (k * 36)).take 33 = headD M[k].head := by
      have : ((sgsD M).drop (k * 36)).take 33 = (((sgsD M).drop (k * 36)).take 36).take 33 := by rw [List.take_take]; rfl
      rw [this, show ((sgsD M).drop (k * 36)).take 36 = sgD M[k] from rows_at sgD_len M hb3, sgD_h]
    have hcl := headD_len M[k].head
    have hlen : ((M.take k).map SHead.head).length = k := by rw [List.length_map, List.length_take]; omega
    refine asc ?_; refine awp_body ?_
    refine awp_region ?_
    refine runX (And.intro g7 (And.intro g9 (And.intro g10 hah))) ?_
    (refine al_set ?_ ?_ ?_ ?_; rotate_left 2; (· intro K hK; refine S1 ?_; refine bsl_agg0 elt78 zc87 rfl hcl (by decide) ?_; exact hK))
    (refine al_rel ?_ ?_ ?_; rotate_left 1; (· intro K hK; simp (disch := (first | omega | (simp only [length_bytesD, List.length_append, List.length_cons, List.length_nil, List.length_map, List.length_replicate, List.length_take, List.length_drop]; omega))) only [go_sem, ↓set_get, ↓reduceIte, ↓o_bsl, ↓o_build, Nat.reduceEqDiff, Nat.reduceAdd, Nat.reduceMul, Int.reduceEq, Int.reduceNe,  xcells_sl, hcl]; refine own_app hown (m := 1) (by decide) hcl (by omega) ?_; exact hK))
    intro d2 s2 hown2
    refine run ?_
    refine al_nil (.done ?_)
    refine awp_region ?_
    refine runX g10 ?_
    refine al_nil ?_
    refine lq_next (M.length - (k + 1)) (by omega) ⟨k + 1, d2, rfl, by omega, ?_, ?_, ?_, ?_, ?_, ?_⟩
    · rw [List.take_succ_eq_append_getElem hb3, List.map_append, List.length_append, headsD, rows_append]
      have : rowsD headD ([M[k]].map SHead.head) = headD M[k].head := by rw [List.map_cons, List.map_nil, rows_one]
      rw [this]; exact hown2
    all_goals simp only [↓set_get, Nat.reduceEqDiff, Bool.false_eq_true, ↓reduceIte, aenv0, aenvS, aenvN, one_ne, g0, g5, g7]
    rfl
  intro hb3
  have hb3 : k = M.length := by have := of_decide_eq_false hb3
                                omega
  subst hb3
  rw [List.take_length] at hown
  obtain ⟨H, hH⟩ : ∃ H, M.map SHead.head = H := ⟨_, rfl⟩
  have hHl : H.length ≤ 3 := by rw [← hH, List.length_map]; exact hL
  rw [hH] at hown
  simp only [LQ, if_true]
  refine rx_own hown (t := 9) (by simp only [↓set_get, Nat.reduceEqDiff, Bool.false_eq_true, ↓reduceIte, aenv0, aenvS, aenvN, one_ne, g9]) (.done ?_)
  clear hown
  have al := gpS_len M
  have bl := gkS_len H
  refine rs ?_
  refine runX g7 ?_
  (refine al_set ?_ ?_ ?_ ?_; rotate_left 2; (· intro K hK; refine S1 ?_; refine Or.inl (rGPut_c (by omega) ?_); exact hK))
  rw [dGP_q]
  generalize gpE M = e1
  generalize gpS M = A at al ⊢
  refine run ?_
  refine al_done ?_
  refine rs ?_
  refine run ?_
  (refine al_set ?_ ?_ ?_ ?_; rotate_left 2; (· intro K hK; refine S1 ?_; refine Or.inl (rGPutKnown_c (by omega) ?_); exact hK))
  rw [dGK_q]
  generalize gkE H = e2
  generalize gkS H = B at bl ⊢
  refine run ?_
  refine al_done ?_
  obtain ⟨ka, hka, hka2⟩ : ∃ k : Nat, a % ((A.length : Int) + 1) = (k : Nat) ∧ k ≤ A.length := by
    obtain ⟨x, rfl⟩ : ∃ x : Nat, a = (x : Nat) := ⟨a.toNat, by omega⟩
    exact ⟨x % (A.length + 1), (Int.natCast_emod x (A.length + 1)).symm, Nat.le_of_lt_succ (Nat.mod_lt _ (by omega))⟩
  obtain ⟨kb, hkb, hkb2⟩ : ∃ k : Nat, a % ((B.length : Int) + 1) = (k : Nat) ∧ k ≤ B.length := by
    obtain ⟨x, rfl⟩ : ∃ x : Nat, a = (x : Nat) := ⟨a.toNat, by omega⟩
    exact ⟨x % (B.length + 1), (Int.natCast_emod x (B.length + 1)).symm, Nat.le_of_lt_succ (Nat.mod_lt _ (by omega))⟩
  refine asc ?_; refine awp_pure (by kernel_rfl) ?_
  refine runPX (And.intro g0 (And.intro g5 (And.intro hpc (And.intro hka hkb)))) ?_
  (refine ap_set ?_ ?_ ?_; rotate_left 1; (· intro K hK; refine S0 ?_; refine slice_str isStr9 (l := 0) (h := ka) rfl (bound_at (by omega) (by omega)) (by omega) (by omega) ?_; exact hK))
  refine runPX (And.intro g0 (And.intro g5 (And.intro hpc (And.intro hka hkb)))) ?_
  (refine ap_set ?_ ?_ ?_; rotate_left 1; (· intro K hK; refine S0 ?_; refine slice_str isStr9 (l := 0) (h := kb) rfl (bound_at (by omega) (by omega)) (by omega) (by omega) ?_; exact hK))
  refine runPX (And.intro g0 (And.intro g5 (And.intro hpc (And.intro hka hkb)))) ?_
  (refine ap_set ?_ ?_ ?_; rotate_left 1; (· intro K hK; refine S0 ?_; refine Or.inl (turned_c (by omega) ha hb hc ?_); exact hK))
  refine runPX (And.intro g0 (And.intro g5 (And.intro hpc (And.intro hka hkb)))) ?_
  (refine ap_set ?_ ?_ ?_; rotate_left 1; (· intro K hK; refine S0 ?_; refine Or.inl (turned_c (by omega) ha hb hc ?_); exact hK))
  refine runPX (And.intro g0 (And.intro g5 (And.intro hpc (And.intro hka hkb)))) ?_
  (refine ap_set ?_ ?_ ?_; rotate_left 1; (· intro K hK; refine S0 ?_; refine bsl9 ?_; exact hK))
  obtain ⟨T, hT⟩ : ∃ T, [u, A, B, A ++ u, B ++ u, A.take ka, B.take kb, turnT A a b c, turnT B a b c] = T := ⟨_, rfl⟩
  have hT9 : T.length = 9 := by rw [← hT]; rfl
  have hTl : ∀ t ∈ T, t.length ≤ 200000 := by
    rw [← hT]
    intro t ht
    have l1 := turnT_len A a b c
    have l2 := turnT_len B a b c
    simp only [List.mem_cons, List.not_mem_nil, or_false] at ht
    rcases ht with rfl | rfl | rfl | rfl | rfl | rfl | rfl | rfl | rfl
    all_goals try simp only [List.length_append, List.length_take]
    all_goals omega
  rw [hT]
  clear hT
  refine runP ?_
  refine ap_done ?_
  refine rs ?_
  refine run ?_
  refine al_done ?_
  refine asc ?_; refine awp_while (fun n ρ τ => ∃ k : Nat, n = 9 - k ∧ k ≤ 9 ∧ τ = σ1 ∧ ρ 15 = .sl 9 (T.map D.str) none ∧ ρ 16 = .int .i64 (k : Nat)) 9 ?_ ?_
  · refine ⟨0, rfl, Nat.zero_le _, rfl, ?_, ?_⟩
    all_goals simp only [↓set_get, Nat.reduceEqDiff, Bool.false_eq_true, ↓reduceIte, aenv0, aenvS, aenvN, one_ne]
    rfl
  rintro n ρ τ ⟨k, rfl, hk, rfl, g15, g16⟩
  refine rs ?_
  refine runX (And.intro g15 g16) ?_
  refine al_done ?_
  refine asc ?_; refine ate ?_ ?_
  · intro hb2
    have hb2 : k < 9 := by have := of_decide_eq_true hb2
                           omega
    have hkT : k < T.length := by omega
    have hct : (T.map D.str)[k]? = some (.str T[k]) := by rw [List.getElem?_map, List.getElem?_eq_getElem hkT]; rfl
    have htl := hTl _ (List.getElem_mem hkT)
    generalize hx : T[k] = x at hct htl
    obtain ⟨v1, v2⟩ := gl_ok x
    have v3 := kl_ok x
    have hsh : Short (gl x) := fun y hy => by have := (v2 y hy).2.2.2.2.2; omega
    have hmT : (T.map D.str).length = 9 := by rw [List.length_map, hT9]
    refine asc ?_; refine awp_body ?_
    refine rs ?_
    refine runX (And.intro g15 (And.intro g16 (And.intro hct hmT))) ?_
    (refine al_set ?_ ?_ ?_ ?_; rotate_left 2; (· intro K hK; refine S1 ?_; refine Or.inl (gGet_c (by omega) ?_); exact hK))
    rw [dGetG_q]
    refine run ?_
    refine al_done ?_
    refine rs ?_
    refine runX (And.intro g15 (And.intro g16 (And.intro hct hmT))) ?_
    (refine al_set ?_ ?_ ?_ ?_; rotate_left 2; (· intro K hK; refine S1 ?_; refine Or.inl (rG_c (by omega) ?_); exact hK))
    rw [dGetG_q]
    refine run ?_
    refine al_done ?_
    refine rs ?_
    refine runX (And.intro g15 (And.intro g16 (And.intro hct hmT))) ?_
    (refine al_set ?_ ?_ ?_ ?_; rotate_left 2; (· intro K hK; refine S1 ?_; refine Or.inl (gGetKnown_c (by omega) ?_); exact hK))
    rw [dGetK_q]
    refine run ?_
    refine al_done ?_
    refine rs ?_
    refine runX (And.intro g15 (And.intro g16 (And.intro hct hmT))) ?_
    (refine al_set ?_ ?_ ?_ ?_; rotate_left 2; (· intro K hK; refine S1 ?_; refine Or.inl (rK_c (by omega) ?_); exact hK))
    rw [dGetK_q]
    refine run ?_
    refine al_done ?_
    refine rs ?_
    refine run ?_
    (refine al_set ?_ ?_ ?_ ?_; rotate_left 2; (· intro K hK; refine S1 ?_; refine Or.inl (SameL_c hsh (by omega) ?_); exact hK))
    rw [decide_eq_true rfl]
    refine run ?_
    (refine al_set ?_ ?_ ?_ ?_; rotate_left 2; (· intro K hK; refine S1 ?_; refine Or.inl (Heads_c (by omega) ?_); exact hK))
    rw [decide_eq_true rfl]
    refine run ?_
    refine al_done ?_
    refine ac ?_ ?_
    · intro h; cases h
    intro _
    refine awp_skip (.done ?_)
    refine awp_region ?_
    refine runX g16 ?_
    refine al_nil ?_
    refine lq_next (9 - (k + 1)) (by omega) ⟨k + 1, rfl, by omega, rfl, ?_, ?_⟩
    all_goals simp only [↓set_get, Nat.reduceEqDiff, Bool.false_eq_true, ↓reduceIte, aenv0, aenvS, aenvN, one_ne, g15]
    rfl
  · intro _
    refine lq_exit ?_
    refine rs ?_
    (refine al_set ?_ ?_ ?_ ?_; rotate_left 2; (· intro K hK; refine S1 ?_; refine Or.inl (talked_c ?_); exact hK))
    refine run ?_
    refine al_done (awp_ret (afin_ret (.forget s hle (.done ?_)))); simp only [ares, aone, ↓set_get, Nat.reduceEqDiff, Bool.false_eq_true, ↓reduceIte, aenv0, aenvS, aenvN, one_ne]
    exact hK
end Go.Proofs.Try
