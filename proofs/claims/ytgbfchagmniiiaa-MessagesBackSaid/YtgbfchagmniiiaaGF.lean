/- Rough heads: the signed ones of a list, as a row of one's own. -/
import Derived.Test.YtgbfchagmniiiaaGE
set_option maxRecDepth 8000
set_option linter.unusedSimpArgs false
set_option linter.unusedVariables false
namespace Go.Proofs.Try
open Go Go.Av
set_option pp.maxSteps 900
attribute [local irreducible] alist awp adraw apure
attribute [local go_sem] cellsOf_int cellsOf_bool cellsOf_str cellsOf_nilp cellsOf_nil cellsOf_e0 cellsOf_sl cellsOf_osl cellsOf_ptr cellsOf_eptr cellsOf_fn cellsOf_agg okc_int okc_bool okc_str okc_nilp okc_nil okc_e0 okc_sl okc_osl okc_ptr okc_eptr okc_fn okc_agg and_assoc splice_0n splice_0c splice_s load_ptr load_eptr read_t read_f store_p cells_inj set_same exists_and_left List.length_cons List.length_nil List.drop_zero List.drop_succ_cons List.take_succ_cons List.take_zero Option.isSome_some
variable {γ : Gl} {σ s : St} {K : D → St → Prop}
theorem newo_app {e : TypeId} {sz bytes n m : Nat} {cs ds : List D} {d : D} {t : St} (h : NewO s e sz n cs d t) (hm : 0 < m) (hl : cs.length = n * sz) (hd : ds.length = m * sz) (hb : (n + m) * bytes ≤ 140737488355328) (hk : ∀ d' t', NewO s e sz (n + m) (cs ++ ds) d' t' → K d' t') : aapp t e sz bytes d m ds K := by
  rcases h with ⟨rfl, rfl, rfl, rfl⟩ | ⟨id, h0, rfl, rfl⟩
  · exact app_nilo hm (by rw [Nat.zero_add] at hb; exact hb) fun id hid => hk _ _ (.inr ⟨id, hid, by rw [Nat.zero_add], rfl⟩)
  · refine app_osl (set_same _ _ _) hl hb fun i hi => ?_
    rw [del_set _ h0]
    exact hk _ _ (.inr ⟨i, (fresh_ne hi).2, rfl, rfl⟩)
attribute [local go_sem] roD_len roD_33 roD_34 roD_35 roD_36 roD_h roD_a rosD_len headD_len headD_0 headD_a headD_r spl87 sgD_len sgD_0 sgD_33 sgD_34 sgD_35 sgD_a sgD_h sgD_r spl27 byt27 spl91 length_bytesD List.length_replicate splice_self sgsD_len headsD_len Int.toNat_natCast List.length_append

theorem newo_nil (s : St) (e : TypeId) (sz : Nat) : NewO s e sz 0 [] .nil s := .inl ⟨rfl, rfl, rfl, rfl⟩
theorem newo_le {e : TypeId} {sz n : Nat} {cs : List D} {d : D} {t : St} (h : NewO s e sz n cs d t) : s.le t := by
  rcases h with ⟨_, _, _, rfl⟩ | ⟨id, h0, _, rfl⟩
  · exact St.le.refl _
  · exact le_set _ h0
theorem Sgd_o {L : List Ro} {m : Int} {tk : Option (Nat × Nat)} (hf : Fine L) (hm : m ≤ 1000) (hK1 : ¬ SgOk L m → K (.tup [.nil, .bool false]) s) (hK2 : SgOk L m → ∀ d t, NewO s 91 36 L.length (sgsD (L.map signedO)) d t → K (.tup [d, .bool true]) t) : ACalls prog γ 57 [.sl L.length (rosD L) tk, .int .i64 m] s K := by
  have hml := rosD_len L
  refine acalls_of_awp (by kernel_rfl) func57 rfl (by kernel_rfl) rfl rfl (by kernel_rfl) (Nat.le_of_ble_eq_true rfl) ?_
  refine rs ?_
  refine run ?_
  refine al_done ?_
  refine rs ?_
  refine run ?_
  refine al_done ?_
  refine asc ?_; refine ai ?_ ?_
  · intro h
    have h : ¬ (L.length : Int) ≤ m := by have := of_decide_eq_true h
                                          omega
    have hK := hK1 (fun hh => h hh.1)
    refine rs ?_
    refine run ?_
    refine al_nil (.done ?_)
    refine awp_ret (afin_ret (.done ?_)); simp only [ares, aone, ↓set_get, Nat.reduceEqDiff, Bool.false_eq_true, ↓reduceIte, aenv0, aenvS, aenvN, one_ne]
    exact hK
  intro h
  have h : (L.length : Int) ≤ m := by have := of_decide_eq_false h
                                      omega
  refine rs ?_
  refine run ?_
  refine al_done ?_
  refine rs ?_
  refine run ?_
  refine al_done ?_
  refine asc ?_; refine awp_while (fun n ρ t => ∃ (k : Nat) (d : D), n = L.length - k ∧ k ≤ L.length ∧ (∀ x ∈ L.take k, ¬ greatR x) ∧ NewO s 91 36 k (sgsD ((L.take k).map signedO)) d t ∧ ρ 0 = .sl L.length (rosD L) tk ∧ ρ 6 = d ∧ ρ 7 = .int .i64 (k : Nat)) L.length ?_ ?_
  · refine ⟨0, .nil, rfl, Nat.zero_le _, fun x hx => by simp at hx, newo_nil _ _ _, ?_, ?_, ?_⟩
    all_goals simp only [↓set_get, Nat.reduceEqDiff, Bool.false_eq_true, ↓reduceIte, aenv0, aenvS, aenvN, one_ne]
    rfl
  rintro n ρ t ⟨k, d, rfl, hk, hv, hown, h0, h6, h7⟩
  refine rs ?_
  refine runX (And.intro h0 h7) ?_
  refine al_done ?_
  refine asc ?_; refine ate ?_ ?_
  · intro hb2
    have hb2 : k < L.length := by have := of_decide_eq_true hb2
                                  omega
    have hat : ((rosD L).drop (k * 37)).take 37 = roD L[k] := rows_at roD_len L hb2
    have hfk := hf _ (List.getElem_mem hb2)
    refine asc ?_; refine awp_body ?_
    refine rs ?_
    refine runX (And.intro h0 (And.intro h7 hat)) ?_
    (refine al_set ?_ ?_ ?_ ?_; rotate_left 2; (· intro K hK; refine S1 ?_; refine Or.inl (Great_c hfk ?_); exact hK))
    refine run ?_
    refine al_done ?_
    by_cases hg : greatR L[k]
    · have hK := hK1 (fun hh => hh.2 _ (List.getElem_mem hb2) hg)
      refine asc ?_; refine ai ?_ ?_
      · intro _
        refine rs ?_
        refine run ?_
        refine al_nil (.forget s (newo_le hown) (.done ?_))
        refine awp_ret (afin_ret (.done ?_)); simp only [ares, aone, ↓set_get, Nat.reduceEqDiff, Bool.false_eq_true, ↓reduceIte, aenv0, aenvS, aenvN, one_ne]
        exact hK
      · intro h; simp [hg] at h
    · refine asc ?_; refine ai ?_ ?_
      · intro h; simp [hg] at h
      intro _
      have hs3 : L[k].sig.length ≤ 300 := by unfold greatR at hg; omega
      have hcl := sgD_len (signedO L[k])
      have hml2 : (sgsD ((L.take k).map signedO)).length = k * 36 := by rw [sgsD_len, List.length_map, List.length_take]; congr 1; omega
      refine awp_region ?_
      refine runX (And.intro h0 (And.intro h6 (And.intro h7 hat))) ?_
      (refine al_set ?_ ?_ ?_ ?_; rotate_left 2; (· intro K hK; refine S1 ?_; refine Or.inl (Signed_c hs3 ?_); exact hK))
      (refine al_set ?_ ?_ ?_ ?_; rotate_left 2; (· intro K hK; refine S1 ?_; refine bsl_agg0 elt79 zc91 rfl (sgD_len _) (by decide) ?_; exact hK))
      (refine al_rel ?_ ?_ ?_; rotate_left 1; (· intro K hK; simp (disch := (first | omega | (simp only [length_bytesD, List.length_append, List.length_cons, List.length_nil, List.length_map, List.length_replicate, List.length_take, List.length_drop]; omega))) only [go_sem, ↓set_get, ↓reduceIte, ↓o_bsl, ↓o_build, Nat.reduceEqDiff, Nat.reduceAdd, Nat.reduceMul, Int.reduceEq, Int.reduceNe,  xcells_sl, hcl, h6]; refine newo_app hown (m := 1) (by decide) hml2 hcl (by omega) ?_; exact hK))
      intro d' s' hown'
      refine run ?_
      refine al_nil (.done ?_)
      refine awp_region ?_
      refine runX h7 ?_
      refine al_nil ?_
      refine lq_next (L.length - (k + 1)) (by omega) ⟨k + 1, d', rfl, by omega, ?_, ?_, ?_, ?_, ?_⟩
      · intro x hx
        rw [List.take_succ_eq_append_getElem hb2, List.mem_append, List.mem_singleton] at hx
        rcases hx with hx | rfl
        · exact hv x hx
        · exact hg
      · rw [List.take_succ_eq_append_getElem hb2, List.map_append, sgsD, rows_append]
        have : rowsD sgD (List.map signedO [L[k]]) = sgD (signedO L[k]) := by rw [List.map_cons, List.map_nil, rows_one]
        rw [this]; exact hown'
      · simp only [↓set_get, Nat.reduceEqDiff, Bool.false_eq_true, ↓reduceIte, aenv0, aenvS, aenvN, one_ne, h0]
      · simp only [↓set_get, Nat.reduceEqDiff, Bool.false_eq_true, ↓reduceIte, aenv0, aenvS, aenvN, one_ne]
      · simp only [↓set_get, Nat.reduceEqDiff, Bool.false_eq_true, ↓reduceIte, aenv0, aenvS, aenvN, one_ne]; rfl
  · intro hb2
    have hb2 : k = L.length := by have := of_decide_eq_false hb2
                                  omega
    subst hb2
    rw [List.take_length] at hown hv
    have hK := hK2 ⟨h, hv⟩ _ _ hown
    refine lq_exit ?_
    refine rs ?_
    refine runX h6 ?_
    refine al_nil (.done ?_)
    refine awp_ret (afin_ret (.done ?_)); simp only [ares, aone, ↓set_get, Nat.reduceEqDiff, Bool.false_eq_true, ↓reduceIte, aenv0, aenvS, aenvN, one_ne]
    exact hK
end Go.Proofs.Try
