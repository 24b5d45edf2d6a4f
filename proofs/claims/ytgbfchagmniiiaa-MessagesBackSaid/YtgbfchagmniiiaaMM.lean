/- messages: the examples; MessagesPut; walked. -/
import Derived.Test.YtgbfchagmniiiaaMH
import Derived.Test.YtgbfchagmniiiaaMK
import Derived.Test.YtgbfchagmniiiaaML
set_option maxRecDepth 8000
set_option linter.unusedSimpArgs false
set_option linter.unusedVariables false
namespace Go.Proofs.Try
open Go Go.Av
set_option pp.maxSteps 900
attribute [local irreducible] alist awp adraw apure
attribute [local go_sem] cellsOf_int cellsOf_bool cellsOf_str cellsOf_nilp cellsOf_nil cellsOf_e0 cellsOf_sl cellsOf_osl cellsOf_ptr cellsOf_eptr cellsOf_fn cellsOf_agg okc_int okc_bool okc_str okc_nilp okc_nil okc_e0 okc_sl okc_osl okc_ptr okc_eptr okc_fn okc_agg and_assoc splice_0n splice_0c splice_s load_ptr load_eptr read_t read_f store_p cells_inj set_same exists_and_left List.length_cons List.length_nil List.drop_zero List.drop_succ_cons List.take_succ_cons List.take_zero Option.isSome_some
variable {γ : Gl} {σ s : St} {K : D → St → Prop}
attribute [local go_sem] List.length_append natc0 eq_self sgD_len sgD_a spl91 splice_self List.length_replicate length_bytesD sgsD_len bne_self_eq_false Int.toNat_natCast sgD_h sgD_33 sgD_34 sgD_35 headD_a headD_len


def small17 (r : Rep) : Prop := ((∀ x ∈ r.entries, x.length ≤ 300) ∧ (∀ h ∈ r.heads, h.path.length ≤ 10 ∧ h.sig.length ≤ 17000)) ∧ (r.entries.length ≤ 20 ∧ r.proof.length ≤ 80) ∧ r.heads.length ≤ 3
instance (r : Rep) : Decidable (small17 r) := by unfold small17; infer_instance
def Fine17 (r : Rep) : Prop := r.entries.length ≤ 9223372036854775807 ∧ r.heads.length ≤ 9223372036854775807
theorem sgs_cell (L : List SHead) {k o : Nat} (h : k < L.length) (ho : o < 36) : (sgsD L)[k * 36 + o]? = (sgD L[k])[o]? := rows_cell sgD_len L h ho
theorem Great17_c {r : Rep} (hf : Fine17 r) (hK : K (.bool (decide (¬ small17 r))) s) : ACalls prog γ 67 [.agg (repD r)] s K := by
  have hrl := repD_len r
  have c3 : (repD r)[3]? = some (.sl r.heads.length (sgsD r.heads) none) := rfl
  have c4 : (repD r)[4]? = some (.sl r.entries.length (txD r.entries) none) := rfl
  have c5 : (repD r)[5]? = some (.sl r.proof.length (bytesD r.proof.flatten) none) := rfl
  obtain ⟨hE, hH⟩ := hf
  have hml := txD_len r.entries
  have hmm := sgsD_len r.heads
  refine acalls_of_awp (by kernel_rfl) func67 rfl (by kernel_rfl) rfl rfl (by kernel_rfl) (Nat.le_of_ble_eq_true rfl) ?_
  refine rs ?_
  (refine aF ?_; intro p hp; (try (have h_hp := hp; simp only [set_none] at h_hp)))
  refine run ?_
  refine al_done ?_
  obtain ⟨s1, hs1⟩ : ∃ x, s.set p (.cells (repD r) 100) = x := ⟨_, rfl⟩
  have hpc : s1 p = some (.cells (repD r) 100) := by rw [← hs1]; exact set_same _ _ _
  have hle : s.le s1 := by rw [← hs1]; exact le_set _ hp
  rw [hs1]
  clear hs1 hp
  refine rs ?_
  refine run ?_
  refine al_done ?_
  refine asc ?_; refine awp_while (fun n ρ t => ∃ k : Nat, n = r.entries.length - k ∧ k ≤ r.entries.length ∧ t = s1 ∧ (∀ x ∈ r.entries.take k, x.length ≤ 300) ∧ ρ 1 = .ptr p 0 ∧ ρ 3 = .int .i64 (k : Nat)) r.entries.length ?_ ?_
  · refine ⟨0, rfl, Nat.zero_le _, rfl, (by simp), ?_, ?_⟩
    all_goals simp only [↓set_get, Nat.reduceEqDiff, Bool.false_eq_true, ↓reduceIte, aenv0, aenvS, aenvN, one_ne]
    rfl
  rintro n ρ s1 ⟨k, rfl, hk, rfl, hv, g1, g3⟩
  refine rs ?_
  refine runX (And.intro g1 (And.intro g3 (And.intro hpc c4))) ?_
  refine al_done ?_
  refine asc ?_; refine ate ?_ ?_
  · intro hb2
    have hb2 : k < r.entries.length := Int.ofNat_lt.1 (of_decide_eq_true hb2)
    have hat := txD_at r.entries hb2
    refine asc ?_; refine awp_body ?_
    refine rs ?_
    refine runX (And.intro g1 (And.intro g3 (And.intro hpc (And.intro c4 (And.intro hat hml))))) ?_
    refine al_done ?_
    refine ac ?_ ?_
    · intro h
      have h := of_decide_eq_true h
      have hno : ¬ small17 r := fun hh => by have := hh.1.1 _ (List.getElem_mem hb2); omega
      rw [decide_eq_true hno] at hK
      refine rs ?_
      refine run ?_
      refine al_done (awp_ret (afin_ret (.forget s hle (.done ?_)))); simp only [ares, aone, ↓set_get, Nat.reduceEqDiff, Bool.false_eq_true, ↓reduceIte, aenv0, aenvS, aenvN, one_ne]
      exact hK
    · intro h
      have h := of_decide_eq_false h
      refine awp_skip (.done ?_)
      refine awp_region ?_
      refine runX g3 ?_
      refine al_nil ?_
      refine lq_next (r.entries.length - (k + 1)) (by omega) ⟨k + 1, rfl, by omega, rfl, ?_, ?_, ?_⟩
      · rw [List.take_succ_eq_append_getElem hb2]
        intro x hx
        rcases List.mem_append.1 hx with hx | hx
        · exact hv x hx
        · rw [List.mem_singleton] at hx; rw [hx]; omega
      · simp only [↓set_get, Nat.reduceEqDiff, Bool.false_eq_true, ↓reduceIte, aenv0, aenvS, aenvN, one_ne, g1]
      · simp only [↓set_get, Nat.reduceEqDiff, Bool.false_eq_true, ↓reduceIte, aenv0, aenvS, aenvN, one_ne]; rfl
  intro hb2
  have hb2 : k = r.entries.length := Nat.le_antisymm hk (Nat.le_of_not_lt (fun h => of_decide_eq_false hb2 (Int.ofNat_lt.2 h)))
  subst hb2
  rw [List.take_length] at hv
  refine lq_exit ?_
  refine rs ?_
  refine run ?_
  refine al_done ?_
  refine asc ?_; refine awp_while (fun n ρ t => ∃ k : Nat, n = r.heads.length - k ∧ k ≤ r.heads.length ∧ t = s1 ∧ (∀ x ∈ r.heads.take k, x.path.length ≤ 10 ∧ x.sig.length ≤ 17000) ∧ ρ 1 = .ptr p 0 ∧ ρ 4 = .int .i64 (k : Nat)) r.heads.length ?_ ?_
  · refine ⟨0, rfl, Nat.zero_le _, rfl, (by simp), ?_, ?_⟩
    all_goals simp only [↓set_get, Nat.reduceEqDiff, Bool.false_eq_true, ↓reduceIte, aenv0, aenvS, aenvN, one_ne, g1]
    rfl
  rintro n ρ s1 ⟨k, rfl, hk, rfl, hw, g1, g4⟩
  refine rs ?_
  refine runX (And.intro g1 (And.intro g4 (And.intro hpc c3))) ?_
  refine al_done ?_
  refine asc ?_; refine ate ?_ ?_
  · intro hb2
    have hb2 : k < r.heads.length := Int.ofNat_lt.1 (of_decide_eq_true hb2)
    have hc34 : (sgsD r.heads)[k * 36 + 33 + 1]? = some (.str r.heads[k].sig) := (sgs_cell r.heads hb2 (o := 34) (by decide)).trans (sgD_34 _)
    have hc35 : (sgsD r.heads)[k * 36 + 33 + 2]? = some (.sl r.heads[k].path.length (bytesD r.heads[k].path.flatten) none) := (sgs_cell r.heads hb2 (o := 35) (by decide)).trans (sgD_35 _)
    refine asc ?_; refine awp_body ?_
    refine asc ?_; refine awp_rj (fun ρ' s' => s' = s1 ∧ ρ' 1 = .ptr p 0 ∧ ρ' 4 = .int .i64 (k : Nat) ∧ ρ' 45 = .bool (decide (¬ (r.heads[k].path.length ≤ 10 ∧ r.heads[k].sig.length ≤ 17000)))) ?_ ?_
    · intro K' hJ
      (repeat' (first | refine run1X (And.intro g1 (And.intro g4 (And.intro hpc (And.intro c3 (And.intro hc34 (And.intro hc35 hmm)))))) ?_ | (refine al_guard rfl (by simp only [↓set_get, Nat.reduceEqDiff, Bool.false_eq_true, ↓reduceIte, aenv0, aenvS, aenvN, one_ne, g1, g4, hpc, c3, hc34, hc35, hmm]; rfl) (fun hb => ?_) (fun hb => ?_) <;> (try simp only [ne_eq, Bool.not_eq_true, Bool.not_eq_false] at hb) <;> have hb2 := hb <;> (try simp only [decide_eq_true_eq, decide_eq_false_iff_not, beq_iff_eq, beq_eq_false_iff_ne, bne_iff_ne, ne_eq, Bool.not_eq_true', Bool.not_eq_false'] at hb2) <;> (try rw [hb]))))
      all_goals refine al_nil (hJ _ _ ⟨rfl, ?_, ?_, ?_⟩)
      all_goals simp only [↓set_get, Nat.reduceEqDiff, Bool.false_eq_true, ↓reduceIte, aenv0, aenvS, aenvN, one_ne, g1, g4]
      all_goals (first | exact bool_t (by omega) | exact bool_f (by omega) | exact bool_s (by (first | rw [decide_eq_true_eq] | rw [beq_iff_eq] | rw [bne_iff_ne]); omega))
    rintro ρ s1 ⟨rfl, g1, g4, g45⟩
    refine acX g45 ?_ ?_
    · intro h
      have h := of_decide_eq_true h
      have hno : ¬ small17 r := fun hh => h (hh.1.2 _ (List.getElem_mem hb2))
      rw [decide_eq_true hno] at hK
      refine rs ?_
      refine run ?_
      refine al_done (awp_ret (afin_ret (.forget s hle (.done ?_)))); simp only [ares, aone, ↓set_get, Nat.reduceEqDiff, Bool.false_eq_true, ↓reduceIte, aenv0, aenvS, aenvN, one_ne]
      exact hK
    · intro h
      have h := Decidable.not_not.1 (of_decide_eq_false h)
      refine awp_skip (.done ?_)
      refine awp_region ?_
      refine runX g4 ?_
      refine al_nil ?_
      refine lq_next (r.heads.length - (k + 1)) (by omega) ⟨k + 1, rfl, by omega, rfl, ?_, ?_, ?_⟩
      · rw [List.take_succ_eq_append_getElem hb2]
        intro x hx
        rcases List.mem_append.1 hx with hx | hx
        · exact hw x hx
        · rw [List.mem_singleton] at hx; rw [hx]; exact h
      · simp only [↓set_get, Nat.reduceEqDiff, Bool.false_eq_true, ↓reduceIte, aenv0, aenvS, aenvN, one_ne, g1]
      · simp only [↓set_get, Nat.reduceEqDiff, Bool.false_eq_true, ↓reduceIte, aenv0, aenvS, aenvN, one_ne]; rfl
  intro hb2
  have hb2 : k = r.heads.length := Nat.le_antisymm hk (Nat.le_of_not_lt (fun h => of_decide_eq_false hb2 (Int.ofNat_lt.2 h)))
  subst hb2
  rw [List.take_length] at hw
  have hsm : small17 r ↔ (r.entries.length ≤ 20 ∧ r.proof.length ≤ 80) ∧ r.heads.length ≤ 3 := ⟨fun h => h.2, fun h => ⟨⟨hv, hw⟩, h⟩⟩
  refine lq_exit ?_
  refine asc ?_; refine awp_rj (fun ρ' s' => s' = s1 ∧ ρ' 2 = .bool (decide (¬ small17 r))) ?_ ?_
  · intro K' hJ
    (repeat' (first | refine run1X (And.intro g1 (And.intro hpc (And.intro c3 (And.intro c4 c5)))) ?_ | (refine al_guard rfl (by simp only [↓set_get, Nat.reduceEqDiff, Bool.false_eq_true, ↓reduceIte, aenv0, aenvS, aenvN, one_ne, g1, hpc, c3, c4, c5]; rfl) (fun hb => ?_) (fun hb => ?_) <;> (try simp only [ne_eq, Bool.not_eq_true, Bool.not_eq_false] at hb) <;> have hb2 := hb <;> (try simp only [decide_eq_true_eq, decide_eq_false_iff_not, beq_iff_eq, beq_eq_false_iff_ne, bne_iff_ne, ne_eq, Bool.not_eq_true', Bool.not_eq_false'] at hb2) <;> (try rw [hb]))))
    all_goals refine al_nil (hJ _ _ ⟨rfl, ?_⟩)
    all_goals simp only [↓set_get, Nat.reduceEqDiff, Bool.false_eq_true, ↓reduceIte, aenv0, aenvS, aenvN, one_ne]
    all_goals first
      | exact bool_t (by rw [hsm]; omega)
      | exact bool_f (by rw [hsm]; omega)
      | exact bool_s (by rw [hsm, decide_eq_true_eq]; omega)
  rintro ρ _ ⟨rfl, g2⟩
  refine awp_ret (afin_ret (.forget s hle (.done ?_))); simp only [ares, aone, g2]
  exact hK
theorem small_fin {r : Rep} (h : small17 r) (hb : I64 r.id ∧ I64 r.kind ∧ I64 r.code) : Fin r := by
  obtain ⟨⟨a, b⟩, ⟨c, d⟩, e⟩ := h
  exact ⟨⟨by omega, by omega, by omega⟩, fun x hx => by have := a x hx; omega, hb⟩
theorem small_finS {r : Rep} (h : small17 r) : FinS r := by
  obtain ⟨⟨a, b⟩, ⟨c, d⟩, e⟩ := h
  exact ⟨⟨by omega, fun x hx => by have := (b x hx).1; omega⟩, by omega, by omega⟩
end Go.Proofs.Try
