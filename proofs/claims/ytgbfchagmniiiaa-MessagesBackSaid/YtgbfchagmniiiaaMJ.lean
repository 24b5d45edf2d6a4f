/- messages: replies held against each other: signed heads; walked. -/
import Derived.Test.YtgbfchagmniiiaaMI
set_option maxRecDepth 8000
set_option linter.unusedSimpArgs false
set_option linter.unusedVariables false
namespace Go.Proofs.Try
open Go Go.Av
set_option pp.maxSteps 900
attribute [local irreducible] alist awp adraw apure
attribute [local go_sem] cellsOf_int cellsOf_bool cellsOf_str cellsOf_nilp cellsOf_nil cellsOf_e0 cellsOf_sl cellsOf_osl cellsOf_ptr cellsOf_eptr cellsOf_fn cellsOf_agg okc_int okc_bool okc_str okc_nilp okc_nil okc_e0 okc_sl okc_osl okc_ptr okc_eptr okc_fn okc_agg and_assoc splice_0n splice_0c splice_s load_ptr load_eptr read_t read_f store_p cells_inj set_same exists_and_left List.length_cons List.length_nil List.drop_zero List.drop_succ_cons List.take_succ_cons List.take_zero Option.isSome_some
variable {γ : Gl} {σ s : St} {K : D → St → Prop}
attribute [local go_sem] List.length_append natc0 eq_self sgD_len sgD_a spl91 splice_self List.length_replicate length_bytesD sgsD_len bne_self_eq_false Int.toNat_natCast sgD_h sgD_33 sgD_34 sgD_35 headD_a headD_len


theorem SameS_c {x y : SHead} (hx : x.path.length ≤ 1000000) (hK : K (.bool (decide (x = y))) s) : ACalls prog γ 110 [.agg (sgD x), .agg (sgD y)] s K := by
  refine acalls_of_awp (by kernel_rfl) func110 rfl (by kernel_rfl) rfl rfl (by kernel_rfl) (Nat.le_of_ble_eq_true rfl) ?_
  refine rs ?_
  (refine aF ?_; intro p hp; (try (have h_hp := hp; simp only [set_none] at h_hp)))
  (refine aF ?_; intro q hq; (try (have h_hq := hq; simp only [set_none] at h_hq)))
  refine run ?_
  refine al_done ?_
  obtain ⟨k1, k2⟩ := keep_none hq
  obtain ⟨s1, hs1⟩ : ∃ z, (s.set p (.cells (sgD x) 91)).set q (.cells (sgD y) 91) = z := ⟨_, rfl⟩
  have hpc : s1 p = some (.cells (sgD x) 91) := by rw [← hs1, set_other _ (Ne.symm k1)]; exact set_same _ _ _
  have hqc : s1 q = some (.cells (sgD y) 91) := by rw [← hs1]; exact set_same _ _ _
  have hle : s.le s1 := by rw [← hs1]; exact (le_set _ hp).trans (le_set _ hq)
  rw [hs1]
  clear hs1 hp hq
  refine asc ?_; refine awp_rj (fun ρ' s' => s' = s1 ∧ ρ' 4 = .bool (decide (x = y))) ?_ ?_
  · intro K' hJ
    (repeat' (first | refine run1X (And.intro hpc hqc) ?_ | (refine al_set ?_ ?_ ?_ ?_; rotate_left 2; (· intro K hK; refine S1X (And.intro hpc hqc) ?_; refine abin_head ?_; exact hK)) | (refine al_set ?_ ?_ ?_ ?_; rotate_left 2; (· intro K hK; refine S1X (And.intro hpc hqc) ?_; refine Or.inl (EqH_c x.hp y.hp hx ?_); exact hK)) | (refine al_guard rfl (by simp only [↓set_get, Nat.reduceEqDiff, Bool.false_eq_true, ↓reduceIte, aenv0, aenvS, aenvN, one_ne, hpc, hqc]; rfl) (fun hb => ?_) (fun hb => ?_) <;> (try simp only [ne_eq, Bool.not_eq_true, Bool.not_eq_false] at hb) <;> have hb2 := hb <;> (try simp only [decide_eq_true_eq, decide_eq_false_iff_not, beq_iff_eq, beq_eq_false_iff_ne, bne_iff_ne, ne_eq, Bool.not_eq_true', Bool.not_eq_false'] at hb2) <;> (try rw [hb]))))
    all_goals refine al_nil (hJ _ _ ⟨rfl, ?_⟩)
    all_goals simp only [↓set_get, Nat.reduceEqDiff, Bool.false_eq_true, ↓reduceIte, aenv0, aenvS, aenvN, one_ne]
    all_goals (congr 1; rw [Bool.eq_iff_iff]; simp_all [sh_iff, heq_d])
  rintro ρ1 _ ⟨rfl, g4⟩
  refine awp_ret (afin_ret (.forget s hle (.done ?_))); simp only [ares, aone, g4]
  exact hK
theorem EqF_c {L M : List SHead} {t1 t2 : Option (Nat × Nat)} (hs : Short L) (hL : L.length ≤ 1000000) (hK : K (.bool (decide (L = M))) s) : ACalls prog γ 112 [.sl L.length (sgsD L) t1, .sl M.length (sgsD M) t2, .fn 110 []] s K := by
  have hml := sgsD_len L
  have hmm := sgsD_len M
  refine acalls_of_awp (by kernel_rfl) func112 rfl (by kernel_rfl) rfl rfl (by kernel_rfl) (Nat.le_of_ble_eq_true rfl) ?_
  refine rs ?_
  refine run ?_
  refine al_done ?_
  refine rs ?_
  refine run ?_
  refine al_done ?_
  refine asc ?_; refine ai ?_ ?_
  · intro h
    have h : ¬ L = M := by rintro rfl; simp at h
    rw [decide_eq_false h] at hK
    refine rs ?_
    refine run ?_
    refine rets ?_
    exact hK
  intro h
  have h : L.length = M.length := by have : ¬ ((L.length : Int) ≠ M.length) := by simpa using h
                                     omega
  refine rs ?_
  refine run ?_
  refine al_done ?_
  refine asc ?_; refine awp_while (fun n ρ t => ∃ k : Nat, n = L.length - k ∧ k ≤ L.length ∧ t = s ∧ (∀ j (hj : j < k) (h1 : j < L.length) (h2 : j < M.length), L[j] = M[j]) ∧ ρ 1 = .sl M.length (sgsD M) t2 ∧ ρ 2 = .fn 110 [] ∧ ρ 15 = .sl L.length (sgsD L) t1 ∧ ρ 16 = .int .i64 (L.length : Nat) ∧ ρ 17 = .int .i64 (k : Nat)) L.length ?_ ?_
  · refine ⟨0, rfl, Nat.zero_le _, rfl, fun j hj => by omega, ?_, ?_, ?_, ?_, ?_⟩
    all_goals simp only [↓set_get, Nat.reduceEqDiff, Bool.false_eq_true, ↓reduceIte, aenv0, aenvS, aenvN, one_ne]
    rfl
  rintro n ρ s ⟨k, rfl, hk, rfl, hq, g1, g2, g15, g16, g17⟩
  refine rs ?_
  refine runX (And.intro g16 g17) ?_
  refine al_done ?_
  refine asc ?_; refine ate ?_ ?_
  · intro hb2
    have hb2 : k < L.length := by have := of_decide_eq_true hb2
                                  omega
    have hb3 : k < M.length := by omega
    have hat : ((sgsD L).drop (k * 36)).take 36 = sgD L[k] := rows_at sgD_len L hb2
    have hbt : ((sgsD M).drop (k * 36)).take 36 = sgD M[k] := rows_at sgD_len M hb3
    have hsk := hs _ (List.getElem_mem hb2)
    refine asc ?_; refine awp_body ?_
    refine rs ?_
    refine runX (And.intro g15 (And.intro g17 hat)) ?_
    (refine aF ?_; intro p hp; (try (have h_hp := hp; simp only [set_none] at h_hp)))
    refine runX g17 ?_
    rw [set_set]
    refine al_done ?_
    refine rs ?_
    refine runX (And.intro g1 hbt) ?_
    (refine aF ?_; intro q hqn; (try (have h_hqn := hqn; simp only [set_none] at h_hqn)))
    refine run ?_
    rw [set_set]
    refine al_done ?_
    obtain ⟨k1, k2⟩ := keep_none hqn
    obtain ⟨s1, hs1⟩ : ∃ z, (s.set p (.cells (sgD L[k]) 91)).set q (.cells (sgD M[k]) 91) = z := ⟨_, rfl⟩
    have hpc : s1 p = some (.cells (sgD L[k]) 91) := by rw [← hs1, set_other _ (Ne.symm k1)]; exact set_same _ _ _
    have hqc : s1 q = some (.cells (sgD M[k]) 91) := by rw [← hs1]; exact set_same _ _ _
    have hle : s.le s1 := by rw [← hs1]; exact (le_set _ hp).trans (le_set _ hqn)
    rw [hs1]
    clear hs1 hp hqn
    refine rs ?_
    refine runX (And.intro g2 (And.intro hpc hqc)) ?_
    (refine al_set ?_ ?_ ?_ ?_; rotate_left 2; (· intro K hK; refine S1 ?_; refine Or.inl (SameS_c hsk ?_); exact hK))
    refine run ?_
    refine al_done ?_
    refine ac ?_ ?_
    · intro hne
      have hne : ¬ L = M := by
        rintro rfl; simp at hne
      rw [decide_eq_false hne] at hK
      refine rs ?_
      refine run ?_
      refine al_done (awp_ret (afin_ret (.forget s hle (.done ?_)))); simp only [ares, aone, ↓set_get, Nat.reduceEqDiff, Bool.false_eq_true, ↓reduceIte, aenv0, aenvS, aenvN, one_ne]
      exact hK
    · intro he
      have he : L[k] = M[k] := by simpa using he
      refine awp_skip (.forget s hle (.done ?_))
      refine awp_region ?_
      refine runX g17 ?_
      refine al_nil ?_
      refine lq_next (L.length - (k + 1)) (by omega) ⟨k + 1, rfl, by omega, rfl, ?_, ?_, ?_, ?_, ?_, ?_⟩
      · intro j hj h1 h2
        rcases Nat.lt_or_ge j k with hjk | hjk
        · exact hq j hjk h1 h2
        · have : j = k := by omega
          subst this; exact he
      · simp only [↓set_get, Nat.reduceEqDiff, Bool.false_eq_true, ↓reduceIte, aenv0, aenvS, aenvN, one_ne, g1]
      · simp only [↓set_get, Nat.reduceEqDiff, Bool.false_eq_true, ↓reduceIte, aenv0, aenvS, aenvN, one_ne, g2]
      · simp only [↓set_get, Nat.reduceEqDiff, Bool.false_eq_true, ↓reduceIte, aenv0, aenvS, aenvN, one_ne, g15]
      · simp only [↓set_get, Nat.reduceEqDiff, Bool.false_eq_true, ↓reduceIte, aenv0, aenvS, aenvN, one_ne, g16]
      · simp only [↓set_get, Nat.reduceEqDiff, Bool.false_eq_true, ↓reduceIte, aenv0, aenvS, aenvN, one_ne]; rfl
  · intro hb2
    have hb2 : k = L.length := by have := of_decide_eq_false hb2
                                  omega
    subst hb2
    have he : L = M := List.ext_getElem h fun j h1 h2 => hq j h1 h1 h2
    rw [decide_eq_true he] at hK
    refine lq_exit ?_
    refine rs ?_
    refine run ?_
    refine rets ?_
    exact hK
def repEq (a b : Rep) : Prop := ((a.id = b.id ∧ a.kind = b.kind) ∧ a.code = b.code) ∧ (a.heads = b.heads ∧ a.entries = b.entries) ∧ a.proof = b.proof
instance (a b : Rep) : Decidable (repEq a b) := by unfold repEq; infer_instance
def FinS (r : Rep) : Prop := (r.heads.length ≤ 1000000 ∧ Short r.heads) ∧ r.entries.length ≤ 1000000 ∧ r.proof.length ≤ 1000000
theorem Same17_c {a b : Rep} (hf : FinS a) (hK : K (.bool (decide (repEq a b))) s) : ACalls prog γ 73 [.agg (repD a), .agg (repD b)] s K := by
  have hrl := repD_len a
  have hrl2 := repD_len b
  have c0 : ∀ r : Rep, (repD r)[0]? = some (.int .i64 r.id) := fun r => rfl
  have c1 : ∀ r : Rep, (repD r)[1]? = some (.int .i64 r.kind) := fun r => rfl
  have c2 : ∀ r : Rep, (repD r)[2]? = some (.int .i64 r.code) := fun r => rfl
  have c3 : ∀ r : Rep, (repD r)[3]? = some (.sl r.heads.length (sgsD r.heads) none) := fun r => rfl
  have c4 : ∀ r : Rep, (repD r)[4]? = some (.sl r.entries.length (txD r.entries) none) := fun r => rfl
  have c5 : ∀ r : Rep, (repD r)[5]? = some (.sl r.proof.length (bytesD r.proof.flatten) none) := fun r => rfl
  obtain ⟨⟨hH, hS⟩, hE, hP⟩ := hf
  refine acalls_of_awp (by kernel_rfl) func73 rfl (by kernel_rfl) rfl rfl (by kernel_rfl) (Nat.le_of_ble_eq_true rfl) ?_
  refine rs ?_
  (refine aF ?_; intro p hp; (try (have h_hp := hp; simp only [set_none] at h_hp)))
  (refine aF ?_; intro q hq; (try (have h_hq := hq; simp only [set_none] at h_hq)))
  refine run ?_
  refine al_done ?_
  obtain ⟨k1, k2⟩ := keep_none hq
  obtain ⟨s1, hs1⟩ : ∃ z, (s.set p (.cells (repD a) 100)).set q (.cells (repD b) 100) = z := ⟨_, rfl⟩
  have hpc : s1 p = some (.cells (repD a) 100) := by rw [← hs1, set_other _ (Ne.symm k1)]; exact set_same _ _ _
  have hqc : s1 q = some (.cells (repD b) 100) := by rw [← hs1]; exact set_same _ _ _
  have hle : s.le s1 := by rw [← hs1]; exact (le_set _ hp).trans (le_set _ hq)
  rw [hs1]
  clear hs1 hp hq
  refine rs ?_
  refine run ?_
  refine al_done ?_
  refine asc ?_; refine awp_rj (fun ρ' s' => s' = s1 ∧ ρ' 4 = .bool (decide (repEq a b))) ?_ ?_
  · intro K' hJ
    (repeat' (first | refine run1X (And.intro hpc (And.intro hqc (And.intro c0 (And.intro c1 (And.intro c2 (And.intro c3 (And.intro c4 c5))))))) ?_ | (refine al_set ?_ ?_ ?_ ?_; rotate_left 2; (· intro K hK; refine S1X (And.intro hpc (And.intro hqc (And.intro c0 (And.intro c1 (And.intro c2 (And.intro c3 (And.intro c4 c5))))))) ?_; refine Or.inl (EqF_c hS hH ?_); exact hK)) | (refine al_set ?_ ?_ ?_ ?_; rotate_left 2; (· intro K hK; refine S1X (And.intro hpc (And.intro hqc (And.intro c0 (And.intro c1 (And.intro c2 (And.intro c3 (And.intro c4 c5))))))) ?_; refine Or.inl (EqS_c hE ?_); exact hK)) | (refine al_set ?_ ?_ ?_ ?_; rotate_left 2; (· intro K hK; refine S1X (And.intro hpc (And.intro hqc (And.intro c0 (And.intro c1 (And.intro c2 (And.intro c3 (And.intro c4 c5))))))) ?_; refine Or.inl (EqH_c a.hp b.hp hP ?_); exact hK)) | (refine al_guard rfl (by simp only [↓set_get, Nat.reduceEqDiff, Bool.false_eq_true, ↓reduceIte, aenv0, aenvS, aenvN, one_ne, hpc, hqc, c0, c1, c2, c3, c4, c5]; rfl) (fun hb => ?_) (fun hb => ?_) <;> (try simp only [ne_eq, Bool.not_eq_true, Bool.not_eq_false] at hb) <;> have hb2 := hb <;> (try simp only [decide_eq_true_eq, decide_eq_false_iff_not, beq_iff_eq, beq_eq_false_iff_ne, bne_iff_ne, ne_eq, Bool.not_eq_true', Bool.not_eq_false'] at hb2) <;> (try rw [hb]))))
    all_goals refine al_nil (hJ _ _ ⟨rfl, ?_⟩)
    all_goals simp only [↓set_get, Nat.reduceEqDiff, Bool.false_eq_true, ↓reduceIte, aenv0, aenvS, aenvN, one_ne]
    all_goals (congr 1; rw [Bool.eq_iff_iff]; simp_all [repEq])
  rintro ρ1 _ ⟨rfl, g4⟩
  refine awp_ret (afin_ret (.forget s hle (.done ?_))); simp only [ares, aone, g4]
  exact hK
end Go.Proofs.Try
