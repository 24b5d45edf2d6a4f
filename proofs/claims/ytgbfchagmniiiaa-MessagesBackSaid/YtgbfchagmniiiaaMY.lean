/- messages: MessagesForm walked. -/
import Derived.Test.YtgbfchagmniiiaaMX
set_option maxRecDepth 8000
set_option linter.unusedSimpArgs false
set_option linter.unusedVariables false
namespace Go.Proofs.Try
open Go Go.Av
set_option pp.maxSteps 900
attribute [local irreducible] alist awp adraw apure
attribute [local go_sem] cellsOf_int cellsOf_bool cellsOf_str cellsOf_nilp cellsOf_nil cellsOf_e0 cellsOf_sl cellsOf_osl cellsOf_ptr cellsOf_eptr cellsOf_fn cellsOf_agg okc_int okc_bool okc_str okc_nilp okc_nil okc_e0 okc_sl okc_osl okc_ptr okc_eptr okc_fn okc_agg and_assoc splice_0n splice_0c splice_s load_ptr load_eptr read_t read_f store_p cells_inj set_same exists_and_left List.length_cons List.length_nil List.drop_zero List.drop_succ_cons List.take_succ_cons List.take_zero Option.isSome_some
variable {γ : Gl} {σ s : St} {K : D → St → Prop}
attribute [local go_sem] List.length_append natc0 eq_self bne_self_eq_false

theorem POk_fin {r : Rep} (h : POk r) (hc : canonP r) : Fin r := by
  obtain ⟨h0, h⟩ := h
  obtain ⟨h1, h5⟩ := BOk_kind h
  obtain ⟨i, k, c, hs, es, pr, hp⟩ := r
  simp only [canonP] at h1 h5 hc h0
  have hb : big = 1073741824 := rfl
  have hi : I64 i := ⟨by have := h0.1; omega, by have := h0.2; omega⟩
  have hk : I64 k := ⟨by omega, by omega⟩
  have z0 : I64 0 := ⟨by decide, by decide⟩
  have h0 : ∀ x ∈ ([] : List (List UInt8)), x.length ≤ 1000 := fun x hx => nomatch hx
  rcases kind_cases h1 h5 with rfl | rfl | rfl | rfl | rfl
  · obtain ⟨_, c1, c2, c3⟩ := hc
    have c1 := c1 (by decide) (by decide)
    have c2 := c2 (by decide)
    have c3 := c3 (by decide) (by decide)
    subst c1; subst c2; subst c3
    have hB : 1 ≤ c ∧ c ≤ 255 := h
    exact ⟨⟨Nat.zero_le _, Nat.zero_le _, Nat.zero_le _⟩, h0, hi, hk, ⟨by show _ ≤ c; omega, by show c ≤ _; omega⟩⟩
  · obtain ⟨c0, _, c2, c3⟩ := hc
    have c0 := c0 (by decide)
    have c2 := c2 (by decide)
    have c3 := c3 (by decide) (by decide)
    subst c0; subst c2; subst c3
    have hB : allV hs ∧ hs.length = 1 := h
    exact ⟨⟨by show hs.length ≤ _; omega, Nat.zero_le _, Nat.zero_le _⟩, h0, hi, hk, z0⟩
  · obtain ⟨c0, c1, _, _⟩ := hc
    have c0 := c0 (by decide)
    have c1 := c1 (by decide) (by decide)
    subst c0; subst c1
    have hB : (shortE es ∧ es.length ≤ 16) ∧ pr.length ≤ 64 := h
    exact ⟨⟨Nat.zero_le _, by show es.length ≤ _; omega, by show pr.length ≤ _; omega⟩, fun x hx => by have := hB.1.1 x hx; omega, hi, hk, z0⟩
  · obtain ⟨c0, c1, c2, _⟩ := hc
    have c0 := c0 (by decide)
    have c1 := c1 (by decide) (by decide)
    have c2 := c2 (by decide)
    subst c0; subst c1; subst c2
    have hB : pr.length ≤ 64 := h
    exact ⟨⟨Nat.zero_le _, Nat.zero_le _, by show pr.length ≤ _; omega⟩, h0, hi, hk, z0⟩
  · obtain ⟨c0, _, c2, c3⟩ := hc
    have c0 := c0 (by decide)
    have c2 := c2 (by decide)
    have c3 := c3 (by decide) (by decide)
    subst c0; subst c2; subst c3
    have hB : allV hs ∧ hs.length = 2 := h
    exact ⟨⟨by show hs.length ≤ _; omega, Nat.zero_le _, Nat.zero_le _⟩, h0, hi, hk, z0⟩
theorem Rq_no_Rp {t : List UInt8} (h : RqOk t) : ¬ RpOk t := by
  obtain ⟨_, _, c⟩ := getR_some h
  rw [c, putR]; exact RpOk_Q _
theorem sameZ_c {a : Rep} (hf : FinS a) (hK : K (.bool (decide (repEq a zeroP))) s) : ACalls prog γ 73 [.agg (repD a), .agg [.int .i64 0, .int .i64 0, .int .i64 0, .nil, .nil, .nil]] s K := by
  refine acalls_wk (args' := [.agg (repD a), .agg (repD zeroP)]) rfl ?_ (Same17_c hf hK)
  intro k d d' e e'
  match k, e, e' with
  | 0, e, e' => cases e; cases e'; exact .refl _
  | 1, e, e' =>
    cases e; cases e'
    refine .agg _ _ rfl fun j x y h h' => ?_
    match j, h, h' with
    | 0, h, h' => cases h; cases h'; exact .refl _
    | 1, h, h' => cases h; cases h'; exact .refl _
    | 2, h, h' => cases h; cases h'; exact .refl _
    | 3, h, h' => cases h; cases h'; exact .nil
    | 4, h, h' => cases h; cases h'; exact .nil
    | 5, h, h' => cases h; cases h'; exact .nil
    | j + 6, h, h' => simp at h
  | k + 2, e, e' => simp at e
theorem MessagesForm_c {t : List UInt8} (ht0 : t.length ≤ 9223372036854775807) (hK : K (.bool true) s) : ACalls prog γ 19 [.str t] s K := by
  have hrl : ∀ r : Req, (reqD r).length = 5 := fun r => rfl
  have hpl : ∀ r : Rep, (repD r).length = 6 := fun r => rfl
  have tk5 : ∀ r : Req, (reqD r).take 5 = reqD r := fun r => rfl
  have tk6 : ∀ r : Rep, (repD r).take 6 = repD r := fun r => rfl
  have hs5 : ∀ r : Req, splice [.int .i64 0, .int .i64 0, .int .i64 0, .int .i64 0, .int .i64 0] 0 (reqD r) = reqD r := fun r => rfl
  have hs6 : ∀ r : Rep, splice [.int .i64 0, .int .i64 0, .int .i64 0, .nil, .nil, .nil] 0 (repD r) = repD r := fun r => rfl
  have h10 : ((10 : Int) == 0) = false := rfl
  refine acalls_of_awp (by kernel_rfl) func19 rfl (by kernel_rfl) rfl rfl (by kernel_rfl) (Nat.le_of_ble_eq_true rfl) ?_
  refine rs ?_
  refine run ?_
  refine al_done ?_
  refine rs ?_
  refine run ?_
  refine al_done ?_
  refine asc ?_; refine ai ?_ ?_
  · intro _
    refine rs ?_
    (refine al_set ?_ ?_ ?_ ?_; rotate_left 2; (· intro K hK; refine S1 ?_; refine Or.inl (Spoken_c ?_); exact hK))
    refine run ?_
    refine al_done (awp_ret (afin_ret (.done ?_))); simp only [ares, aone, ↓set_get, Nat.reduceEqDiff, Bool.false_eq_true, ↓reduceIte, aenv0, aenvS, aenvN, one_ne]
    exact hK
  intro hb
  have ht : t.length ≤ 140737488355328 := by have := of_decide_eq_false hb; omega
  refine rs ?_
  refine run ?_
  (refine al_set ?_ ?_ ?_ ?_; rotate_left 2; (· intro K hK; refine S1 ?_; refine Or.inl (GetRequest_c ht ?_); exact hK))
  refine run ?_
  (refine aF ?_; intro x hx; (try (have h_hx := hx; simp only [set_none] at h_hx)))
  refine runX (And.intro hrl (And.intro tk5 hs5)) ?_
  refine al_done ?_
  rw [set_set]
  refine rs ?_
  refine run ?_
  (refine al_set ?_ ?_ ?_ ?_; rotate_left 2; (· intro K hK; refine S1 ?_; refine Or.inl (GetReply_c ht ?_); exact hK))
  refine run ?_
  (refine aF ?_; intro z hz; (try (have h_hz := hz; simp only [set_none] at h_hz)))
  refine runX (And.intro hpl (And.intro tk6 hs6)) ?_
  refine al_done ?_
  rw [set_set]
  obtain ⟨s1, hs1⟩ : ∃ v, (s.set x (.cells (reqD (getR t)) 98)).set z (.cells (repD (getP t)) 100) = v := ⟨_, rfl⟩
  obtain ⟨kzx, hz0⟩ := keep_none hz
  have hxc : s1 x = some (.cells (reqD (getR t)) 98) := by rw [← hs1, set_other _ (Ne.symm kzx)]; exact set_same _ _ _
  have hzc : s1 z = some (.cells (repD (getP t)) 100) := by rw [← hs1]; exact set_same _ _ _
  have hle : s.le s1 := by rw [← hs1]; exact (le_set _ hx).trans (le_set _ hz)
  rw [hs1]
  clear hs1
  by_cases hq : RqOk t
  · obtain ⟨r1, r2, r3⟩ := getR_some hq
    have hp := Rq_no_Rp hq
    have e1 : grE t = 0 := if_pos hq
    have e2 : gpR t = 10 := if_neg hp
    have e3 : prS (getR t) = t := by rw [prS, if_pos r1]; exact r3.symm
    have e4 : prE (getR t) = 0 := if_pos r1
    refine rs ?_
    refine runX (And.intro e1 (And.intro e2 h10)) ?_
    refine al_done ?_
    refine asc ?_; refine ai ?_ ?_
    · intro h; cases h
    intro _
    refine rs ?_
    refine runX (And.intro e1 h10) ?_
    refine al_done ?_
    refine asc ?_; refine ai ?_ ?_
    · intro _
      refine rs ?_
      refine runX (And.intro hxc (And.intro hrl tk5)) ?_
      (refine al_set ?_ ?_ ?_ ?_; rotate_left 2; (· intro K hK; refine S1 ?_; refine Or.inl (PutRequest_c ?_); exact hK))
      rw [dPR_q, e3, e4]
      refine run ?_
      refine al_done ?_
      refine rs ?_
      refine run ?_
      (refine al_set ?_ ?_ ?_ ?_; rotate_left 2; (· intro K hK; refine S1 ?_; refine Or.inl (Spoken_c ?_); exact hK))
      refine run ?_
      refine al_done (awp_ret (afin_ret (.forget s hle (.done ?_)))); simp only [ares, aone, ↓set_get, Nat.reduceEqDiff, Bool.false_eq_true, ↓reduceIte, aenv0, aenvS, aenvN, one_ne]
      exact hK
    · intro h; cases h
  have e1 : grE t = 10 := if_neg hq
  have g1 : getR t = zeroQ := by rw [getR, if_neg hq]
  by_cases hp : RpOk t
  · obtain ⟨_, r1, r2, r3⟩ := getP_some hp
    have e2 : gpR t = 0 := if_pos hp
    have e3 : ppS (getP t) = t := by rw [ppS, if_pos r1]; exact r3.symm
    have e4 : ppE (getP t) = 0 := if_pos r1
    have hfin := POk_fin r1 r2
    refine rs ?_
    refine runX (And.intro e1 (And.intro e2 h10)) ?_
    refine al_done ?_
    refine asc ?_; refine ai ?_ ?_
    · intro h; cases h
    intro _
    refine rs ?_
    refine runX (And.intro e1 h10) ?_
    refine al_done ?_
    refine asc ?_; refine ai ?_ ?_
    · intro h; cases h
    intro _
    refine rs ?_
    refine runX (And.intro e2 h10) ?_
    refine al_done ?_
    refine asc ?_; refine ai ?_ ?_
    · intro _
      refine rs ?_
      refine runX (And.intro hzc (And.intro hpl tk6)) ?_
      (refine al_set ?_ ?_ ?_ ?_; rotate_left 2; (· intro K hK; refine S1 ?_; refine Or.inl (PutReply_c hfin ?_); exact hK))
      rw [dPP_q, e3, e4]
      refine run ?_
      refine al_done ?_
      refine rs ?_
      refine run ?_
      (refine al_set ?_ ?_ ?_ ?_; rotate_left 2; (· intro K hK; refine S1 ?_; refine Or.inl (Spoken_c ?_); exact hK))
      refine run ?_
      refine al_done (awp_ret (afin_ret (.forget s hle (.done ?_)))); simp only [ares, aone, ↓set_get, Nat.reduceEqDiff, Bool.false_eq_true, ↓reduceIte, aenv0, aenvS, aenvN, one_ne]
      exact hK
    · intro h; cases h
  have e2 : gpR t = 10 := if_neg hp
  have g2 : getP t = zeroP := by rw [getP, if_neg hp]
  rw [g1] at hxc
  rw [g2] at hzc
  refine rs ?_
  refine runX (And.intro e1 (And.intro e2 h10)) ?_
  refine al_done ?_
  refine asc ?_; refine ai ?_ ?_
  · intro h; cases h
  intro _
  refine rs ?_
  refine runX (And.intro e1 h10) ?_
  refine al_done ?_
  refine asc ?_; refine ai ?_ ?_
  · intro h; cases h
  intro _
  refine rs ?_
  refine runX (And.intro e2 h10) ?_
  refine al_done ?_
  refine asc ?_; refine ai ?_ ?_
  · intro h; cases h
  intro _
  have hself : decide (repEq zeroP zeroP) = true := decide_eq_true (repEq_self _)
  have hfz : FinS zeroP := ⟨⟨Nat.zero_le _, fun x hx => nomatch hx⟩, Nat.zero_le _, Nat.zero_le _⟩
  refine rs ?_
  refine runX (And.intro e1 (And.intro e2 (And.intro h10 (And.intro hxc (And.intro hzc (And.intro hrl (And.intro tk5 (And.intro hpl tk6)))))))) ?_
  (refine al_set ?_ ?_ ?_ ?_; rotate_left 2; (· intro K hK; refine S1 ?_; refine build98z ?_; exact hK))
  refine run ?_
  (refine al_set ?_ ?_ ?_ ?_; rotate_left 2; (· intro K hK; refine S1 ?_; refine abin_req ?_; exact hK))
  rw [qeq_self]
  refine runX (And.intro hxc (And.intro hzc (And.intro hrl (And.intro tk5 (And.intro hpl tk6))))) ?_
  (refine al_set ?_ ?_ ?_ ?_; rotate_left 2; (· intro K hK; refine S1 ?_; refine build100z ?_; exact hK))
  refine run ?_
  (refine al_set ?_ ?_ ?_ ?_; rotate_left 2; (· intro K hK; refine S1 ?_; refine Or.inl (sameZ_c hfz ?_); exact hK))
  rw [hself]
  refine run ?_
  (refine al_set ?_ ?_ ?_ ?_; rotate_left 2; (· intro K hK; refine S1 ?_; refine Or.inl (Spoken_c ?_); exact hK))
  refine run ?_
  refine al_done (awp_ret (afin_ret (.forget s hle (.done ?_)))); simp only [ares, aone, ↓set_get, Nat.reduceEqDiff, Bool.false_eq_true, ↓reduceIte, aenv0, aenvS, aenvN, one_ne]
  exact hK
end Go.Proofs.Try
