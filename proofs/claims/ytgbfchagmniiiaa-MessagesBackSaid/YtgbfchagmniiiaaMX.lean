/- messages: MessagesGet walked. -/
import Derived.Test.YtgbfchagmniiiaaMN
import Derived.Test.YtgbfchagmniiiaaMW
set_option maxRecDepth 8000
set_option linter.unusedSimpArgs false
set_option linter.unusedVariables false
namespace Go.Proofs.Try
open Go Go.Av
set_option pp.maxSteps 900
attribute [local irreducible] alist awp adraw apure
attribute [local go_sem] cellsOf_int cellsOf_bool cellsOf_str cellsOf_nilp cellsOf_nil cellsOf_e0 cellsOf_sl cellsOf_osl cellsOf_ptr cellsOf_eptr cellsOf_fn cellsOf_agg okc_int okc_bool okc_str okc_nilp okc_nil okc_e0 okc_sl okc_osl okc_ptr okc_eptr okc_fn okc_agg and_assoc splice_0n splice_0c splice_s load_ptr load_eptr read_t read_f store_p cells_inj set_same exists_and_left List.length_cons List.length_nil List.drop_zero List.drop_succ_cons List.take_succ_cons List.take_zero Option.isSome_some
variable {γ : Gl} {σ s : St} {K : D → St → Prop}
attribute [local go_sem] List.length_append natc0 eq_self bne_self_eq_false

theorem BOk_finS {r : Rep} (h : BOk r) (hc : canonP r) : FinS r := by
  obtain ⟨h1, h5⟩ := BOk_kind h
  obtain ⟨i, k, c, hs, es, pr, hp⟩ := r
  simp only [canonP] at h1 h5 hc
  have hV : ∀ L : List SHead, allV L → Short L := fun L hL x hx => by have := (hL x hx).2.2.2.2.2; omega
  have h0 : Short ([] : List SHead) := fun x hx => nomatch hx
  rcases kind_cases h1 h5 with rfl | rfl | rfl | rfl | rfl
  · obtain ⟨_, c1, c2, c3⟩ := hc
    have c1 := c1 (by decide) (by decide)
    have c2 := c2 (by decide)
    have c3 := c3 (by decide) (by decide)
    subst c1; subst c2; subst c3
    exact ⟨⟨Nat.zero_le _, h0⟩, Nat.zero_le _, Nat.zero_le _⟩
  · obtain ⟨c0, _, c2, c3⟩ := hc
    have c2 := c2 (by decide)
    have c3 := c3 (by decide) (by decide)
    subst c2; subst c3
    have hB : allV hs ∧ hs.length = 1 := h
    exact ⟨⟨by show hs.length ≤ _; omega, hV _ hB.1⟩, Nat.zero_le _, Nat.zero_le _⟩
  · obtain ⟨c0, c1, _, _⟩ := hc
    have c1 := c1 (by decide) (by decide)
    subst c1
    have hB : (shortE es ∧ es.length ≤ 16) ∧ pr.length ≤ 64 := h
    exact ⟨⟨Nat.zero_le _, h0⟩, by show es.length ≤ _; omega, by show pr.length ≤ _; omega⟩
  · obtain ⟨c0, c1, c2, _⟩ := hc
    have c1 := c1 (by decide) (by decide)
    have c2 := c2 (by decide)
    subst c1; subst c2
    have hB : pr.length ≤ 64 := h
    exact ⟨⟨Nat.zero_le _, h0⟩, Nat.zero_le _, by show pr.length ≤ _; omega⟩
  · obtain ⟨c0, _, c2, c3⟩ := hc
    have c2 := c2 (by decide)
    have c3 := c3 (by decide) (by decide)
    subst c2; subst c3
    have hB : allV hs ∧ hs.length = 2 := h
    exact ⟨⟨by show hs.length ≤ _; omega, hV _ hB.1⟩, Nat.zero_le _, Nat.zero_le _⟩
theorem getP_finS (t : List UInt8) : FinS (getP t) := by
  by_cases h : RpOk t
  · obtain ⟨_, a, b, _⟩ := getP_some h
    exact BOk_finS a.2 b
  · rw [getP, if_neg h]; exact ⟨⟨Nat.zero_le _, fun x hx => nomatch hx⟩, Nat.zero_le _, Nat.zero_le _⟩
theorem repEq_self (a : Rep) : repEq a a := ⟨⟨⟨rfl, rfl⟩, rfl⟩, ⟨rfl, rfl⟩, rfl⟩
theorem MessagesGet_c {t : List UInt8} (ht0 : t.length ≤ 9223372036854775807) (hK : K (.bool true) s) : ACalls prog γ 17 [.str t] s K := by
  have hrl : ∀ r : Req, (reqD r).length = 5 := fun r => rfl
  have hpl : ∀ r : Rep, (repD r).length = 6 := fun r => rfl
  have tk5 : ∀ r : Req, (reqD r).take 5 = reqD r := fun r => rfl
  have tk6 : ∀ r : Rep, (repD r).take 6 = repD r := fun r => rfl
  have hs5 : ∀ r : Req, splice [.int .i64 0, .int .i64 0, .int .i64 0, .int .i64 0, .int .i64 0] 0 (reqD r) = reqD r := fun r => rfl
  have hs6 : ∀ r : Rep, splice [.int .i64 0, .int .i64 0, .int .i64 0, .nil, .nil, .nil] 0 (repD r) = repD r := fun r => rfl
  have hfs := getP_finS t
  have hself : decide (repEq (getP t) (getP t)) = true := decide_eq_true (repEq_self _)
  refine acalls_of_awp (by kernel_rfl) func17 rfl (by kernel_rfl) rfl rfl (by kernel_rfl) (Nat.le_of_ble_eq_true rfl) ?_
  refine rs ?_
  refine run ?_
  refine al_done ?_
  refine rs ?_
  refine run ?_
  refine al_done ?_
  refine asc ?_; refine ai ?_ ?_
  · intro _
    refine rs ?_
    (refine al_set ?_ ?_ ?_ ?_; rotate_left 2; (· intro K hK; refine S1 ?_; refine Or.inl (Spoken_c ?_); exact hK))
    refine run ?_
    refine al_done (awp_ret (afin_ret (.done ?_))); simp only [ares, aone, ↓set_get, Nat.reduceEqDiff, Bool.false_eq_true, ↓reduceIte, aenv0, aenvS, aenvN, one_ne]
    exact hK
  intro hb
  have ht : t.length ≤ 140737488355328 := by have := of_decide_eq_false hb; omega
  refine rs ?_
  refine run ?_
  (refine al_set ?_ ?_ ?_ ?_; rotate_left 2; (· intro K hK; refine S1 ?_; refine Or.inl (GetRequest_c ht ?_); exact hK))
  refine run ?_
  (refine aF ?_; intro x hx; (try (have h_hx := hx; simp only [set_none] at h_hx)))
  refine runX (And.intro hrl (And.intro tk5 hs5)) ?_
  refine al_done ?_
  rw [set_set]
  refine rs ?_
  refine run ?_
  (refine al_set ?_ ?_ ?_ ?_; rotate_left 2; (· intro K hK; refine S1 ?_; refine Or.inl (rGetRequest_c ht ?_); exact hK))
  refine run ?_
  (refine aF ?_; intro y hy; (try (have h_hy := hy; simp only [set_none] at h_hy)))
  refine runX (And.intro hrl (And.intro tk5 hs5)) ?_
  refine al_done ?_
  rw [set_set]
  refine rs ?_
  refine run ?_
  (refine al_set ?_ ?_ ?_ ?_; rotate_left 2; (· intro K hK; refine S1 ?_; refine Or.inl (GetReply_c ht ?_); exact hK))
  refine run ?_
  (refine aF ?_; intro z hz; (try (have h_hz := hz; simp only [set_none] at h_hz)))
  refine runX (And.intro hpl (And.intro tk6 hs6)) ?_
  refine al_done ?_
  rw [set_set]
  refine rs ?_
  refine run ?_
  (refine al_set ?_ ?_ ?_ ?_; rotate_left 2; (· intro K hK; refine S1 ?_; refine Or.inl (rGetReply_c ht ?_); exact hK))
  refine run ?_
  (refine aF ?_; intro w hw; (try (have h_hw := hw; simp only [set_none] at h_hw)))
  refine runX (And.intro hpl (And.intro tk6 hs6)) ?_
  refine al_done ?_
  rw [set_set]
  obtain ⟨s1, hs1⟩ : ∃ v, (((s.set x (.cells (reqD (getR t)) 98)).set y (.cells (reqD (getR t)) 98)).set z (.cells (repD (getP t)) 100)).set w (.cells (repD (getP t)) 100) = v := ⟨_, rfl⟩
  obtain ⟨kyx, hy0⟩ := keep_none hy
  obtain ⟨kzy, hz1⟩ := keep_none hz
  obtain ⟨kzx, hz0⟩ := keep_none hz1
  obtain ⟨kwz, hw2⟩ := keep_none hw
  obtain ⟨kwy, hw1⟩ := keep_none hw2
  obtain ⟨kwx, hw0⟩ := keep_none hw1
  have hxc : s1 x = some (.cells (reqD (getR t)) 98) := by rw [← hs1, set_other _ (Ne.symm kwx), set_other _ (Ne.symm kzx), set_other _ (Ne.symm kyx)]; exact set_same _ _ _
  have hyc : s1 y = some (.cells (reqD (getR t)) 98) := by rw [← hs1, set_other _ (Ne.symm kwy), set_other _ (Ne.symm kzy)]; exact set_same _ _ _
  have hzc : s1 z = some (.cells (repD (getP t)) 100) := by rw [← hs1, set_other _ (Ne.symm kwz)]; exact set_same _ _ _
  have hwc : s1 w = some (.cells (repD (getP t)) 100) := by rw [← hs1]; exact set_same _ _ _
  have hle : s.le s1 := by rw [← hs1]; exact (((le_set _ hx).trans (le_set _ hy)).trans (le_set _ hz)).trans (le_set _ hw)
  rw [hs1]
  refine rs ?_
  refine runX (And.intro hxc (And.intro hyc (And.intro hzc (And.intro hwc (And.intro hrl (And.intro tk5 (And.intro hpl tk6))))))) ?_
  (refine al_set ?_ ?_ ?_ ?_; rotate_left 2; (· intro K hK; refine S1 ?_; refine abin_req ?_; exact hK))
  rw [qeq_self]
  refine runX (And.intro hxc (And.intro hyc (And.intro hzc (And.intro hwc (And.intro hrl (And.intro tk5 (And.intro hpl tk6))))))) ?_
  (refine al_set ?_ ?_ ?_ ?_; rotate_left 2; (· intro K hK; refine S1 ?_; refine Or.inl (rSame17_c hfs ?_); exact hK))
  rw [hself]
  refine run ?_
  (refine al_set ?_ ?_ ?_ ?_; rotate_left 2; (· intro K hK; refine S1 ?_; refine Or.inl (Spoken_c ?_); exact hK))
  refine run ?_
  refine al_done (awp_ret (afin_ret (.forget s hle (.done ?_)))); simp only [ares, aone, ↓set_get, Nat.reduceEqDiff, Bool.false_eq_true, ↓reduceIte, aenv0, aenvS, aenvN, one_ne]
  exact hK
end Go.Proofs.Try
