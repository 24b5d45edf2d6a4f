/- messages: replies held against each other, as the document has it; too great ones; walked. -/
import Derived.Test.YtgbfchagmniiiaaMJ
set_option maxRecDepth 8000
set_option linter.unusedSimpArgs false
set_option linter.unusedVariables false
namespace Go.Proofs.Try
open Go Go.Av
set_option pp.maxSteps 900
attribute [local irreducible] alist awp adraw apure
attribute [local go_sem] cellsOf_int cellsOf_bool cellsOf_str cellsOf_nilp cellsOf_nil cellsOf_e0 cellsOf_sl cellsOf_osl cellsOf_ptr cellsOf_eptr cellsOf_fn cellsOf_agg okc_int okc_bool okc_str okc_nilp okc_nil okc_e0 okc_sl okc_osl okc_ptr okc_eptr okc_fn okc_agg and_assoc splice_0n splice_0c splice_s load_ptr load_eptr read_t read_f store_p cells_inj set_same exists_and_left List.length_cons List.length_nil List.drop_zero List.drop_succ_cons List.take_succ_cons List.take_zero Option.isSome_some
variable {γ : Gl} {σ s : St} {K : D → St → Prop}
attribute [local go_sem] List.length_append natc0 eq_self sgD_len sgD_a spl91 splice_self List.length_replicate length_bytesD sgsD_len bne_self_eq_false Int.toNat_natCast sgD_h sgD_33 sgD_34 sgD_35 headD_a headD_len


def likeR (a b : Rep) : Prop := ((a.id = b.id ∧ a.kind = b.kind) ∧ a.code = b.code) ∧ (a.heads.length = b.heads.length ∧ a.entries.length = b.entries.length) ∧ a.proof.length = b.proof.length
instance (a b : Rep) : Decidable (likeR a b) := by unfold likeR; infer_instance
theorem rSame17_c {a b : Rep} (hf : FinS a) (hK : K (.bool (decide (repEq a b))) s) : ACalls prog γ 74 [.agg (repD a), .agg (repD b)] s K := by
  have hrl := repD_len a
  have hrl2 := repD_len b
  have c0 : ∀ r : Rep, (repD r)[0]? = some (.int .i64 r.id) := fun r => rfl
  have c1 : ∀ r : Rep, (repD r)[1]? = some (.int .i64 r.kind) := fun r => rfl
  have c2 : ∀ r : Rep, (repD r)[2]? = some (.int .i64 r.code) := fun r => rfl
  have c3 : ∀ r : Rep, (repD r)[3]? = some (.sl r.heads.length (sgsD r.heads) none) := fun r => rfl
  have c4 : ∀ r : Rep, (repD r)[4]? = some (.sl r.entries.length (txD r.entries) none) := fun r => rfl
  have c5 : ∀ r : Rep, (repD r)[5]? = some (.sl r.proof.length (bytesD r.proof.flatten) none) := fun r => rfl
  obtain ⟨⟨hH, hS⟩, hE, hP⟩ := hf
  refine acalls_of_awp (by kernel_rfl) func74 rfl (by kernel_rfl) rfl rfl (by kernel_rfl) (Nat.le_of_ble_eq_true rfl) ?_
  refine rs ?_
  (refine aF ?_; intro p hp; (try (have h_hp := hp; simp only [set_none] at h_hp)))
  (refine aF ?_; intro q hq; (try (have h_hq := hq; simp only [set_none] at h_hq)))
  refine run ?_
  refine al_done ?_
  obtain ⟨k1, k2⟩ := keep_none hq
  obtain ⟨s1, hs1⟩ : ∃ z, (s.set p (.cells (repD a) 100)).set q (.cells (repD b) 100) = z := ⟨_, rfl⟩
  have hpc : s1 p = some (.cells (repD a) 100) := by rw [← hs1, set_other _ (Ne.symm k1)]; exact set_same _ _ _
  have hqc : s1 q = some (.cells (repD b) 100) := by rw [← hs1]; exact set_same _ _ _
  have hle : s.le s1 := by rw [← hs1]; exact (le_set _ hp).trans (le_set _ hq)
  rw [hs1]
  clear hs1 hp hq
  refine asc ?_; refine awp_rj (fun ρ' s' => s' = s1 ∧ ρ' 2 = .ptr p 0 ∧ ρ' 3 = .ptr q 0 ∧ ρ' 53 = .bool (decide (¬ likeR a b))) ?_ ?_
  · intro K' hJ
    (repeat' (first | refine run1X (And.intro hpc (And.intro hqc (And.intro c0 (And.intro c1 (And.intro c2 (And.intro c3 (And.intro c4 c5))))))) ?_ | (refine al_guard rfl (by simp only [↓set_get, Nat.reduceEqDiff, Bool.false_eq_true, ↓reduceIte, aenv0, aenvS, aenvN, one_ne, hpc, hqc, c0, c1, c2, c3, c4, c5]; rfl) (fun hb => ?_) (fun hb => ?_) <;> (try simp only [ne_eq, Bool.not_eq_true, Bool.not_eq_false] at hb) <;> have hb2 := hb <;> (try simp only [decide_eq_true_eq, decide_eq_false_iff_not, beq_iff_eq, beq_eq_false_iff_ne, bne_iff_ne, ne_eq, Bool.not_eq_true', Bool.not_eq_false'] at hb2) <;> (try rw [hb]))))
    all_goals refine al_nil (hJ _ _ ⟨rfl, ?_, ?_, ?_⟩)
    all_goals simp only [↓set_get, Nat.reduceEqDiff, Bool.false_eq_true, ↓reduceIte, aenv0, aenvS, aenvN, one_ne]
    all_goals (congr 1; rw [Bool.eq_iff_iff]; simp_all [likeR])
    all_goals omega
  rintro ρ1 s1 ⟨rfl, g2, g3, g53⟩
  have hno : ¬ repEq a b → decide (repEq a b) = false := fun h => decide_eq_false h
  refine asc ?_; refine aiX g53 ?_ ?_
  · intro h
    have h := of_decide_eq_true h
    rw [hno (fun e => h ⟨e.1, ⟨congrArg List.length e.2.1.1, congrArg List.length e.2.1.2⟩, congrArg List.length e.2.2⟩)] at hK
    refine rs ?_
    refine run ?_
    refine al_done (awp_ret (afin_ret (.forget s hle (.done ?_)))); simp only [ares, aone, ↓set_get, Nat.reduceEqDiff, Bool.false_eq_true, ↓reduceIte, aenv0, aenvS, aenvN, one_ne]
    exact hK
  intro h
  have hlk : likeR a b := Decidable.not_not.1 (of_decide_eq_false h)
  obtain ⟨hl1, ⟨hlH, hlE⟩, hlP⟩ := hlk
  refine rs ?_
  refine run ?_
  refine al_done ?_
  refine asc ?_; refine awp_while (fun n ρ t => ∃ k : Nat, n = a.heads.length - k ∧ k ≤ a.heads.length ∧ t = s1 ∧ (∀ j (hj : j < k) (h1 : j < a.heads.length) (h2 : j < b.heads.length), a.heads[j] = b.heads[j]) ∧ ρ 2 = .ptr p 0 ∧ ρ 3 = .ptr q 0 ∧ ρ 5 = .int .i64 (k : Nat)) a.heads.length ?_ ?_
  · refine ⟨0, rfl, Nat.zero_le _, rfl, fun j hj => by omega, ?_, ?_, ?_⟩
    all_goals simp only [↓set_get, Nat.reduceEqDiff, Bool.false_eq_true, ↓reduceIte, aenv0, aenvS, aenvN, one_ne, g2, g3]
    rfl
  rintro n ρ s1 ⟨k, rfl, hk, rfl, hq5, g2, g3, g5⟩
  refine rs ?_
  refine runX (And.intro g2 (And.intro g5 (And.intro hpc c3))) ?_
  refine al_done ?_
  refine asc ?_
  refine ate ?_ ?_
  · intro hb2
    have hb2 : k < a.heads.length := Int.ofNat_lt.1 (of_decide_eq_true hb2)
    have hb3 : k < b.heads.length := by omega
    have hat : ((sgsD a.heads).drop (k * 36)).take 36 = sgD a.heads[k] := rows_at sgD_len a.heads hb2
    have hbt : ((sgsD b.heads).drop (k * 36)).take 36 = sgD b.heads[k] := rows_at sgD_len b.heads hb3
    have hsk := hS _ (List.getElem_mem hb2)
    refine asc ?_; refine awp_body ?_
    refine asc ?_; refine awp_pure (by kernel_rfl) ?_
    refine runPX (And.intro g2 (And.intro g3 (And.intro g5 (And.intro hpc (And.intro hqc (And.intro c3 (And.intro hat hbt))))))) ?_
    (refine ap_set ?_ ?_ ?_; rotate_left 1; (· intro K hK; refine S0 ?_; refine Or.inl (rSame_c hsk ?_); exact hK))
    refine runP ?_
    refine ap_done ?_
    refine ac ?_ ?_
    · intro hne
      have hne : ¬ a.heads = b.heads := by
        intro e
        have : a.heads[k] = b.heads[k] := by simp only [e]
        rw [this] at hne
        simp at hne
      rw [hno (fun e => hne e.2.1.1)] at hK
      refine rs ?_
      refine run ?_
      refine al_done (awp_ret (afin_ret (.forget s hle (.done ?_)))); simp only [ares, aone, ↓set_get, Nat.reduceEqDiff, Bool.false_eq_true, ↓reduceIte, aenv0, aenvS, aenvN, one_ne]
      exact hK
    · intro he
      have he : a.heads[k] = b.heads[k] := by simpa using he
      refine awp_skip (Rx.done ?_)
      refine awp_region ?_
      refine runX g5 ?_
      refine al_nil ?_
      refine lq_next (a.heads.length - (k + 1)) (by omega) ⟨k + 1, rfl, by omega, rfl, ?_, ?_, ?_, ?_⟩
      · intro j hj h1 h2
        rcases Nat.lt_or_ge j k with hjk | hjk
        · exact hq5 j hjk h1 h2
        · have : j = k := by omega
          subst this; exact he
      · simp only [↓set_get, Nat.reduceEqDiff, Bool.false_eq_true, ↓reduceIte, aenv0, aenvS, aenvN, one_ne, g2]
      · simp only [↓set_get, Nat.reduceEqDiff, Bool.false_eq_true, ↓reduceIte, aenv0, aenvS, aenvN, one_ne, g3]
      · simp only [↓set_get, Nat.reduceEqDiff, Bool.false_eq_true, ↓reduceIte, aenv0, aenvS, aenvN, one_ne]; rfl
  intro hb2
  have hb2 : k = a.heads.length := Nat.le_antisymm hk (Nat.le_of_not_lt (fun h => of_decide_eq_false hb2 (Int.ofNat_lt.2 h)))
  subst hb2
  have he5 : a.heads = b.heads := List.ext_getElem hlH fun j h1 h2 => hq5 j h1 h1 h2
  clear hq5
  refine lq_exit ?_
  refine rs ?_
  refine run ?_
  refine al_done ?_
  refine asc ?_; refine awp_while (fun n ρ t => ∃ k : Nat, n = a.entries.length - k ∧ k ≤ a.entries.length ∧ t = s1 ∧ (∀ j (hj : j < k) (h1 : j < a.entries.length) (h2 : j < b.entries.length), a.entries[j] = b.entries[j]) ∧ ρ 2 = .ptr p 0 ∧ ρ 3 = .ptr q 0 ∧ ρ 6 = .int .i64 (k : Nat)) a.entries.length ?_ ?_
  · refine ⟨0, rfl, Nat.zero_le _, rfl, fun j hj => by omega, ?_, ?_, ?_⟩
    all_goals simp only [↓set_get, Nat.reduceEqDiff, Bool.false_eq_true, ↓reduceIte, aenv0, aenvS, aenvN, one_ne, g2, g3]
    rfl
  rintro n ρ s1 ⟨k, rfl, hk, rfl, hq6, g2, g3, g6⟩
  refine rs ?_
  refine runX (And.intro g2 (And.intro g6 (And.intro hpc c4))) ?_
  refine al_done ?_
  refine asc ?_
  refine ate ?_ ?_
  · intro hb2
    have hb2 : k < a.entries.length := Int.ofNat_lt.1 (of_decide_eq_true hb2)
    have hb3 : k < b.entries.length := by omega
    have hat := txD_at a.entries hb2
    have hbt := txD_at b.entries hb3
    have hml := txD_len a.entries
    have hmm := txD_len b.entries
    refine asc ?_; refine awp_body ?_
    refine asc ?_; refine awp_pure (by kernel_rfl) ?_
    refine runPX (And.intro g2 (And.intro g3 (And.intro g6 (And.intro hpc (And.intro hqc (And.intro c4 (And.intro hat (And.intro hbt (And.intro hml hmm))))))))) ?_
    refine ap_done ?_
    refine ac ?_ ?_
    · intro hne
      have hne : ¬ a.entries = b.entries := by
        intro e
        have : a.entries[k] = b.entries[k] := by simp only [e]
        rw [this] at hne
        simp at hne
      rw [hno (fun e => hne e.2.1.2)] at hK
      refine rs ?_
      refine run ?_
      refine al_done (awp_ret (afin_ret (.forget s hle (.done ?_)))); simp only [ares, aone, ↓set_get, Nat.reduceEqDiff, Bool.false_eq_true, ↓reduceIte, aenv0, aenvS, aenvN, one_ne]
      exact hK
    · intro he
      have he : a.entries[k] = b.entries[k] := by simpa using he
      refine awp_skip (Rx.done ?_)
      refine awp_region ?_
      refine runX g6 ?_
      refine al_nil ?_
      refine lq_next (a.entries.length - (k + 1)) (by omega) ⟨k + 1, rfl, by omega, rfl, ?_, ?_, ?_, ?_⟩
      · intro j hj h1 h2
        rcases Nat.lt_or_ge j k with hjk | hjk
        · exact hq6 j hjk h1 h2
        · have : j = k := by omega
          subst this; exact he
      · simp only [↓set_get, Nat.reduceEqDiff, Bool.false_eq_true, ↓reduceIte, aenv0, aenvS, aenvN, one_ne, g2]
      · simp only [↓set_get, Nat.reduceEqDiff, Bool.false_eq_true, ↓reduceIte, aenv0, aenvS, aenvN, one_ne, g3]
      · simp only [↓set_get, Nat.reduceEqDiff, Bool.false_eq_true, ↓reduceIte, aenv0, aenvS, aenvN, one_ne]; rfl
  intro hb2
  have hb2 : k = a.entries.length := Nat.le_antisymm hk (Nat.le_of_not_lt (fun h => of_decide_eq_false hb2 (Int.ofNat_lt.2 h)))
  subst hb2
  have he6 : a.entries = b.entries := List.ext_getElem hlE fun j h1 h2 => hq6 j h1 h1 h2
  clear hq6
  refine lq_exit ?_
  refine rs ?_
  refine run ?_
  refine al_done ?_
  refine asc ?_; refine awp_while (fun n ρ t => ∃ k : Nat, n = a.proof.length - k ∧ k ≤ a.proof.length ∧ t = s1 ∧ (∀ j (hj : j < k) (h1 : j < a.proof.length) (h2 : j < b.proof.length), a.proof[j] = b.proof[j]) ∧ ρ 2 = .ptr p 0 ∧ ρ 3 = .ptr q 0 ∧ ρ 7 = .int .i64 (k : Nat)) a.proof.length ?_ ?_
  · refine ⟨0, rfl, Nat.zero_le _, rfl, fun j hj => by omega, ?_, ?_, ?_⟩
    all_goals simp only [↓set_get, Nat.reduceEqDiff, Bool.false_eq_true, ↓reduceIte, aenv0, aenvS, aenvN, one_ne, g2, g3]
    rfl
  rintro n ρ s1 ⟨k, rfl, hk, rfl, hq7, g2, g3, g7⟩
  refine rs ?_
  refine runX (And.intro g2 (And.intro g7 (And.intro hpc c5))) ?_
  refine al_done ?_
  refine asc ?_
  refine ate ?_ ?_
  · intro hb2
    have hb2 : k < a.proof.length := Int.ofNat_lt.1 (of_decide_eq_true hb2)
    have hb3 : k < b.proof.length := by omega
    have hat : ((bytesD a.proof.flatten).drop (k * 32)).take 32 = bytesD a.proof[k] := cells_at a.hp hb2
    have hbt : ((bytesD b.proof.flatten).drop (k * 32)).take 32 = bytesD b.proof[k] := cells_at b.hp hb3
    have hml : a.proof.flatten.length = a.proof.length * 32 := flat_len a.hp
    have hmm : b.proof.flatten.length = b.proof.length * 32 := flat_len b.hp
    have ha := a.hp a.proof[k] (List.getElem_mem hb2)
    have hbb := b.hp b.proof[k] (List.getElem_mem hb3)
    refine asc ?_; refine awp_body ?_
    refine asc ?_; refine awp_pure (by kernel_rfl) ?_
    refine runPX (And.intro g2 (And.intro g3 (And.intro g7 (And.intro hpc (And.intro hqc (And.intro c5 (And.intro hat (And.intro hbt (And.intro hml hmm))))))))) ?_
    (refine ap_set ?_ ?_ ?_; rotate_left 1; (· intro K hK; refine S0 ?_; refine abin_h32 ha hbb ?_; exact hK))
    refine runP ?_
    refine ap_done ?_
    refine ac ?_ ?_
    · intro hne
      have hne : ¬ a.proof = b.proof := by
        intro e
        have : a.proof[k] = b.proof[k] := by simp only [e]
        rw [this] at hne
        simp at hne
      rw [hno (fun e => hne e.2.2)] at hK
      refine rs ?_
      refine run ?_
      refine al_done (awp_ret (afin_ret (.forget s hle (.done ?_)))); simp only [ares, aone, ↓set_get, Nat.reduceEqDiff, Bool.false_eq_true, ↓reduceIte, aenv0, aenvS, aenvN, one_ne]
      exact hK
    · intro he
      have he : a.proof[k] = b.proof[k] := by simpa using he
      refine awp_skip (Rx.done ?_)
      refine awp_region ?_
      refine runX g7 ?_
      refine al_nil ?_
      refine lq_next (a.proof.length - (k + 1)) (by omega) ⟨k + 1, rfl, by omega, rfl, ?_, ?_, ?_, ?_⟩
      · intro j hj h1 h2
        rcases Nat.lt_or_ge j k with hjk | hjk
        · exact hq7 j hjk h1 h2
        · have : j = k := by omega
          subst this; exact he
      · simp only [↓set_get, Nat.reduceEqDiff, Bool.false_eq_true, ↓reduceIte, aenv0, aenvS, aenvN, one_ne, g2]
      · simp only [↓set_get, Nat.reduceEqDiff, Bool.false_eq_true, ↓reduceIte, aenv0, aenvS, aenvN, one_ne, g3]
      · simp only [↓set_get, Nat.reduceEqDiff, Bool.false_eq_true, ↓reduceIte, aenv0, aenvS, aenvN, one_ne]; rfl
  intro hb2
  have hb2 : k = a.proof.length := Nat.le_antisymm hk (Nat.le_of_not_lt (fun h => of_decide_eq_false hb2 (Int.ofNat_lt.2 h)))
  subst hb2
  have he7 : a.proof = b.proof := List.ext_getElem hlP fun j h1 h2 => hq7 j h1 h1 h2
  clear hq7
  refine lq_exit ?_
  refine rs ?_
  refine run ?_
  have hyes : decide (repEq a b) = true := decide_eq_true ⟨hl1, ⟨he5, he6⟩, he7⟩
  rw [hyes] at hK
  refine al_done (awp_ret (afin_ret (.forget s hle (.done ?_)))); simp only [ares, aone, ↓set_get, Nat.reduceEqDiff, Bool.false_eq_true, ↓reduceIte, aenv0, aenvS, aenvN, one_ne]
  exact hK
end Go.Proofs.Try
