/- messages: MessagesBack walked. -/
import Derived.Test.YtgbfchagmniiiaaMY
set_option maxRecDepth 8000
set_option linter.unusedSimpArgs false
set_option linter.unusedVariables false
namespace Go.Proofs.Try
open Go Go.Av
set_option pp.maxSteps 900
attribute [local irreducible] alist awp adraw apure
attribute [local go_sem] cellsOf_int cellsOf_bool cellsOf_str cellsOf_nilp cellsOf_nil cellsOf_e0 cellsOf_sl cellsOf_osl cellsOf_ptr cellsOf_eptr cellsOf_fn cellsOf_agg okc_int okc_bool okc_str okc_nilp okc_nil okc_e0 okc_sl okc_osl okc_ptr okc_eptr okc_fn okc_agg and_assoc splice_0n splice_0c splice_s load_ptr load_eptr read_t read_f store_p cells_inj set_same exists_and_left List.length_cons List.length_nil List.drop_zero List.drop_succ_cons List.take_succ_cons List.take_zero Option.isSome_some
variable {γ : Gl} {σ s : St} {K : D → St → Prop}
attribute [local go_sem] List.length_append natc0 eq_self bne_self_eq_false

theorem drop_ne' {t : List UInt8} {k : Nat} (h : k < t.length) : t.drop k ≠ [] := by
  intro e
  have := congrArg List.length e
  rw [List.length_drop, List.length_nil] at this; omega
theorem MessagesBack_c {r : Req} {a : Rep} {c : Nat} (hr : ReqB r) (hfa : Fine17 a) (hia : I64 a.id ∧ I64 a.kind ∧ I64 a.code) (hc : c < 65536) (hK : K (.bool true) s) : ACalls prog γ 18 [.agg (reqD r), .agg (repD a), .int .u16 (c : Nat)] s K := by
  have hrl : ∀ r : Req, (reqD r).length = 5 := fun r => rfl
  have hpl : ∀ r : Rep, (repD r).length = 6 := fun r => rfl
  have tk5 : ∀ r : Req, (reqD r).take 5 = reqD r := fun r => rfl
  have tk6 : ∀ r : Rep, (repD r).take 6 = repD r := fun r => rfl
  have hs5 : ∀ r : Req, splice [.int .i64 0, .int .i64 0, .int .i64 0, .int .i64 0, .int .i64 0] 0 (reqD r) = reqD r := fun r => rfl
  have hs6 : ∀ r : Rep, splice [.int .i64 0, .int .i64 0, .int .i64 0, .nil, .nil, .nil] 0 (repD r) = repD r := fun r => rfl
  have q0 : ∀ r : Req, (reqD r)[0]? = some (.int .i64 r.id) := fun r => rfl
  have q1 : ∀ r : Req, (reqD r)[1]? = some (.int .i64 r.kind) := fun r => rfl
  have p0 : ∀ r : Rep, (repD r)[0]? = some (.int .i64 r.id) := fun r => rfl
  have p1 : ∀ r : Rep, (repD r)[1]? = some (.int .i64 r.kind) := fun r => rfl
  refine acalls_of_awp (by kernel_rfl) func18 rfl (by kernel_rfl) rfl rfl (by kernel_rfl) (Nat.le_of_ble_eq_true rfl) ?_
  refine rs ?_
  (refine aF ?_; intro x hx; (try (have h_hx := hx; simp only [set_none] at h_hx)))
  (refine aF ?_; intro y hy; (try (have h_hy := hy; simp only [set_none] at h_hy)))
  refine run ?_
  refine al_done ?_
  obtain ⟨kyx, hy0⟩ := keep_none hy
  obtain ⟨s1, hs1⟩ : ∃ v, (s.set x (.cells (reqD r) 98)).set y (.cells (repD a) 100) = v := ⟨_, rfl⟩
  have hxc : s1 x = some (.cells (reqD r) 98) := by rw [← hs1, set_other _ (Ne.symm kyx)]; exact set_same _ _ _
  have hyc : s1 y = some (.cells (repD a) 100) := by rw [← hs1]; exact set_same _ _ _
  have hle : s.le s1 := by rw [← hs1]; exact (le_set _ hx).trans (le_set _ hy)
  rw [hs1]
  clear hs1 hx hy hy0
  refine rs ?_
  refine runX (And.intro hyc (And.intro hpl tk6)) ?_
  (refine al_set ?_ ?_ ?_ ?_; rotate_left 2; (· intro K hK; refine S1 ?_; refine Or.inl (Great17_c hfa ?_); exact hK))
  refine run ?_
  refine al_done ?_
  refine asc ?_; refine ai ?_ ?_
  · intro _
    refine rs ?_
    (refine al_set ?_ ?_ ?_ ?_; rotate_left 2; (· intro K hK; refine S1 ?_; refine Or.inl (Spoken_c ?_); exact hK))
    refine run ?_
    refine al_done (awp_ret (afin_ret (.forget s hle (.done ?_)))); simp only [ares, aone, ↓set_get, Nat.reduceEqDiff, Bool.false_eq_true, ↓reduceIte, aenv0, aenvS, aenvN, one_ne]
    exact hK
  intro h
  have ha : small17 a := Decidable.not_not.1 (of_decide_eq_false h)
  have ffa := small_fin ha hia
  refine rs ?_
  refine runX (And.intro hxc (And.intro hrl tk5)) ?_
  (refine al_set ?_ ?_ ?_ ?_; rotate_left 2; (· intro K hK; refine S1 ?_; refine Or.inl (PutRequest_c ?_); exact hK))
  rw [dPR_q]
  refine run ?_
  refine al_done ?_
  refine rs ?_
  refine run ?_
  refine al_done ?_
  refine asc ?_; refine aij (fun ρ' s' => s' = s1 ∧ ρ' 2 = .int .u16 (c : Nat) ∧ ρ' 4 = .ptr y 0) ?_ ?_ ?_
  · intro he K' hJ
    have hR : ROk r := by
      by_cases h : ROk r
      · exact h
      · simp [prE, h] at he
    have hS : prS r = putR r := if_pos hR
    obtain ⟨t1, t2⟩ := trim_ROk hR
    obtain ⟨t3, _, t4, t5⟩ := trim_ok r
    obtain ⟨r1, r2⟩ := RqOk_put t1 t3
    rw [t2] at r1 r2
    have hlen := putR_len hR
    have hpos : 0 < (putR r).length := by simp [putR]
    rw [hS]
    obtain ⟨k, hk, hkl⟩ : ∃ k : Nat, (c : Int) % ((putR r).length : Int) = (k : Nat) ∧ k < (putR r).length := ⟨c % (putR r).length, (Int.natCast_emod _ _).symm, Nat.mod_lt _ hpos⟩
    have f1 : grE (putR r) = 0 := if_pos r1
    have f2 : prS (trim r) = putR r := by rw [prS, if_pos t1, t2]
    have f3 : prE (trim r) = 0 := if_pos t1
    have f4 : grE ((putR r).take k) = 10 := if_neg (RqOk_cut hR (drop_ne' hkl) (List.take_append_drop k (putR r)))
    have f5 : grE (putR r ++ [0]) = 10 := if_neg (RqOk_more hR (by decide) (by decide))
    have f6 : gpR (putR r) = 10 := if_neg (Rq_no_Rp r1)
    have hne : ((putR r).length : Int) ≠ 0 := by omega
    have hb0 : (((putR r).length : Int) == 0) = false := by rw [beq_eq_false_iff_ne]; exact hne
    refine rs ?_
    refine runX hb0 ?_
    refine al_done ?_
    refine asc ?_; refine ai ?_ ?_
    · intro h; cases h
    intro _
    refine rs ?_
    refine run ?_
    (refine al_set ?_ ?_ ?_ ?_; rotate_left 2; (· intro K hK; refine S1 ?_; refine Or.inl (GetRequest_c (by omega) ?_); exact hK))
    rw [r2, f1]
    refine run ?_
    (refine aF ?_; intro p hp; (try (have h_hp := hp; simp only [set_none] at h_hp)))
    refine runX (And.intro hrl (And.intro tk5 hs5)) ?_
    refine al_done ?_
    rw [set_set]
    obtain ⟨s2, hs2⟩ : ∃ v, s1.set p (.cells (reqD (trim r)) 98) = v := ⟨_, rfl⟩
    have e2p : s2 p = some (.cells (reqD (trim r)) 98) := by rw [← hs2]; exact set_same _ _ _
    have e2x : s2 x = some (.cells (reqD r) 98) := by rw [← hs2, set_other _ (keep_ne hxc hp)]; exact hxc
    have hle2 : s1.le s2 := by rw [← hs2]; exact le_set _ hp
    rw [hs2]
    clear hs2
    refine rs ?_
    (repeat (first | (refine al_set ?_ ?_ ?_ ?_; rotate_left 2; (· intro K hK; simp (disch := omega) only [go_sem, ↓set_get, ↓reduceIte, ↓o_bsl, ↓o_build, Nat.reduceEqDiff, Nat.reduceAdd, Nat.reduceMul, Int.reduceEq, Int.reduceNe, set_other, del_other, e2p, hrl, tk5]; (repeat' (first | exact hK | (refine And.intro ?_ ?_) | assumption | omega)))) | (refine al_guard (b := true) rfl ?_ (fun _ => ?_) (fun h => absurd rfl h); · simp only [↓set_get, Nat.reduceEqDiff, Bool.false_eq_true, ↓reduceIte, aenv0, aenvS, aenvN, one_ne, e2p, hrl, tk5]; done) | (refine al_guard (b := false) rfl ?_ (fun _ => ?_) (fun h => absurd rfl h); · simp only [↓set_get, Nat.reduceEqDiff, Bool.false_eq_true, ↓reduceIte, aenv0, aenvS, aenvN, one_ne, e2p, hrl, tk5]; done) | (refine al_guard (b := true) rfl ?_ (fun h => Bool.noConfusion h) (fun _ => ?_); · simp only [↓set_get, Nat.reduceEqDiff, Bool.false_eq_true, ↓reduceIte, aenv0, aenvS, aenvN, one_ne, e2p, hrl, tk5]; done) | (refine al_guard (b := false) rfl ?_ (fun h => Bool.noConfusion h) (fun _ => ?_); · simp only [↓set_get, Nat.reduceEqDiff, Bool.false_eq_true, ↓reduceIte, aenv0, aenvS, aenvN, one_ne, e2p, hrl, tk5]; done) | (refine al_guard0 rfl ?_ ?_; · simp only [↓set_get, Nat.reduceEqDiff, Bool.false_eq_true, ↓reduceIte, aenv0, aenvS, aenvN, one_ne, e2p, hrl, tk5]; done) | (refine al_none ?_ ?_ ?_ ?_; rotate_left 2; (· intro K hK; simp (disch := omega) only [go_sem, ↓set_get, ↓reduceIte, ↓o_bsl, ↓o_build, Nat.reduceEqDiff, Nat.reduceAdd, Nat.reduceMul, Int.reduceEq, Int.reduceNe, set_other, del_other, e2p, hrl, tk5]; (repeat' (first | exact hK | (refine And.intro ?_ ?_) | assumption | omega))))))
    (refine al_set ?_ ?_ ?_ ?_; rotate_left 2; (· intro K hK; refine S1 ?_; refine Or.inl (PutRequest_c ?_); exact hK))
    rw [dPR_q, f2, f3]
    refine run ?_
    refine al_done ?_
    refine rs ?_
    refine runX (And.intro hk hb0) ?_
    (refine al_set ?_ ?_ ?_ ?_; rotate_left 2; (· intro K hK; refine S1 ?_; refine slice_str isStr9 (l := 0) (h := k) rfl (bound_at (by omega) (by omega)) (by omega) (by omega) ?_; exact hK))
    refine run ?_
    (refine al_set ?_ ?_ ?_ ?_; rotate_left 2; (· intro K hK; refine S1 ?_; refine Or.inl (GetRequest_c (by rw [List.length_take]; omega) ?_); exact hK))
    rw [f4]
    refine run ?_
    (refine aF ?_; intro q hq; (try (have h_hq := hq; simp only [set_none] at h_hq)))
    refine runX (And.intro hrl (And.intro tk5 hs5)) ?_
    refine al_nil (.forget s2 (le_set2 (le_set _ hq) hq) (.done ?_))
    refine rs ?_
    refine run ?_
    (refine al_set ?_ ?_ ?_ ?_; rotate_left 2; (· intro K hK; refine S1 ?_; refine Or.inl (GetRequest_c (by rw [List.length_append, List.length_singleton]; omega) ?_); exact hK))
    rw [f5]
    refine run ?_
    (refine aF ?_; intro q hq; (try (have h_hq := hq; simp only [set_none] at h_hq)))
    refine runX (And.intro hrl (And.intro tk5 hs5)) ?_
    refine al_nil (.forget s2 (le_set2 (le_set _ hq) hq) (.done ?_))
    refine rs ?_
    refine run ?_
    (refine al_set ?_ ?_ ?_ ?_; rotate_left 2; (· intro K hK; refine S1 ?_; refine Or.inl (GetReply_c (by omega) ?_); exact hK))
    rw [f6]
    refine run ?_
    (refine aF ?_; intro q hq; (try (have h_hq := hq; simp only [set_none] at h_hq)))
    refine runX (And.intro hpl (And.intro tk6 hs6)) ?_
    refine al_nil (.forget s2 (le_set2 (le_set _ hq) hq) (.done ?_))
    refine rs ?_
    have hbb : (!(putR r == putR r)) = false := by simp
    (repeat (first | (refine al_set ?_ ?_ ?_ ?_; rotate_left 2; (· intro K hK; simp (disch := omega) only [go_sem, ↓set_get, ↓reduceIte, ↓o_bsl, ↓o_build, Nat.reduceEqDiff, Nat.reduceAdd, Nat.reduceMul, Int.reduceEq, Int.reduceNe, set_other, del_other, e2p, e2x, q0, q1, t4, t5, hrl, hbb]; (repeat' (first | exact hK | (refine And.intro ?_ ?_) | assumption | omega)))) | (refine al_guard (b := true) rfl ?_ (fun _ => ?_) (fun h => absurd rfl h); · simp only [↓set_get, Nat.reduceEqDiff, Bool.false_eq_true, ↓reduceIte, aenv0, aenvS, aenvN, one_ne, e2p, e2x, q0, q1, t4, t5, hrl, hbb]; done) | (refine al_guard (b := false) rfl ?_ (fun _ => ?_) (fun h => absurd rfl h); · simp only [↓set_get, Nat.reduceEqDiff, Bool.false_eq_true, ↓reduceIte, aenv0, aenvS, aenvN, one_ne, e2p, e2x, q0, q1, t4, t5, hrl, hbb]; done) | (refine al_guard (b := true) rfl ?_ (fun h => Bool.noConfusion h) (fun _ => ?_); · simp only [↓set_get, Nat.reduceEqDiff, Bool.false_eq_true, ↓reduceIte, aenv0, aenvS, aenvN, one_ne, e2p, e2x, q0, q1, t4, t5, hrl, hbb]; done) | (refine al_guard (b := false) rfl ?_ (fun h => Bool.noConfusion h) (fun _ => ?_); · simp only [↓set_get, Nat.reduceEqDiff, Bool.false_eq_true, ↓reduceIte, aenv0, aenvS, aenvN, one_ne, e2p, e2x, q0, q1, t4, t5, hrl, hbb]; done) | (refine al_guard0 rfl ?_ ?_; · simp only [↓set_get, Nat.reduceEqDiff, Bool.false_eq_true, ↓reduceIte, aenv0, aenvS, aenvN, one_ne, e2p, e2x, q0, q1, t4, t5, hrl, hbb]; done) | (refine al_none ?_ ?_ ?_ ?_; rotate_left 2; (· intro K hK; simp (disch := omega) only [go_sem, ↓set_get, ↓reduceIte, ↓o_bsl, ↓o_build, Nat.reduceEqDiff, Nat.reduceAdd, Nat.reduceMul, Int.reduceEq, Int.reduceNe, set_other, del_other, e2p, e2x, q0, q1, t4, t5, hrl, hbb]; (repeat' (first | exact hK | (refine And.intro ?_ ?_) | assumption | omega))))))
    refine al_done ?_
    refine ac ?_ ?_
    · intro h; cases h
    intro _
    refine awp_skip (hJ _ _ (.forget s1 hle2 (.done ⟨rfl, ?_, ?_⟩)))
    all_goals simp only [↓set_get, Nat.reduceEqDiff, Bool.false_eq_true, ↓reduceIte, aenv0, aenvS, aenvN, one_ne]
  · intro _
    refine ⟨rfl, ?_, ?_⟩
    all_goals simp only [↓set_get, Nat.reduceEqDiff, Bool.false_eq_true, ↓reduceIte, aenv0, aenvS, aenvN, one_ne]
  rintro ρ1 s1 ⟨rfl, g2, g4⟩
  refine rs ?_
  refine runX (And.intro g4 (And.intro hyc (And.intro hpl tk6))) ?_
  (refine al_set ?_ ?_ ?_ ?_; rotate_left 2; (· intro K hK; refine S1 ?_; refine Or.inl (PutReply_c ffa ?_); exact hK))
  rw [dPP_q]
  by_cases hP : POk a
  case neg =>
    have e1 : ppE a = 2 := if_neg hP
    have e2 : ppS a = [] := if_neg hP
    have h20 : ((2 : Int) != 0) = true := rfl
    rw [e1, e2]
    refine run ?_
    refine al_done ?_
    refine rs ?_
    refine runX h20 ?_
    refine al_done ?_
    refine asc ?_; refine ai ?_ ?_
    · intro _
      refine rs ?_
      refine run ?_
      (refine al_set ?_ ?_ ?_ ?_; rotate_left 2; (· intro K hK; refine S1 ?_; refine Or.inl (Spoken_c ?_); exact hK))
      refine run ?_
      refine al_done (awp_ret (afin_ret (.forget s hle (.done ?_)))); simp only [ares, aone, ↓set_get, Nat.reduceEqDiff, Bool.false_eq_true, ↓reduceIte, aenv0, aenvS, aenvN, one_ne]
      exact hK
    · intro h; cases h
  have e1 : ppE a = 0 := if_pos hP
  have e2 : ppS a = putP a := if_pos hP
  obtain ⟨t1, t2, t3⟩ := trimP_ok hP
  obtain ⟨r1, r2⟩ := RpOk_put t1 t2
  rw [t3] at r1 r2
  have hlen := putP_len hP
  have hpos : 0 < (putP a).length := by simp [putP]
  obtain ⟨k, hk, hkl⟩ : ∃ k : Nat, (c : Int) % ((putP a).length : Int) = (k : Nat) ∧ k < (putP a).length := ⟨c % (putP a).length, (Int.natCast_emod _ _).symm, Nat.mod_lt _ hpos⟩
  have f1 : gpR (putP a) = 0 := if_pos r1
  have f2 : ppS (trimP a) = putP a := by rw [ppS, if_pos t1, t3]
  have f3 : ppE (trimP a) = 0 := if_pos t1
  have f4 : gpR ((putP a).take k) = 10 := if_neg (RpOk_cut hP (drop_ne' hkl) (List.take_append_drop k (putP a)))
  have f5 : gpR (putP a ++ [0]) = 10 := if_neg (RpOk_more hP (by decide) (by decide))
  have f6 : grE (putP a) = 10 := if_neg (fun h => Rq_no_Rp h r1)
  have hfin := POk_fin t1 t2
  have t4 : (trimP a).id = a.id := rfl
  have t5 : (trimP a).kind = a.kind := rfl
  have hne : ((putP a).length : Int) ≠ 0 := by omega
  have hb0 : (((putP a).length : Int) == 0) = false := by rw [beq_eq_false_iff_ne]; exact hne
  rw [e1, e2]
  refine run ?_
  refine al_done ?_
  refine rs ?_
  refine run ?_
  refine al_done ?_
  refine asc ?_; refine ai ?_ ?_
  · intro h; cases h
  intro _
  refine rs ?_
  refine runX hb0 ?_
  refine al_done ?_
  refine asc ?_; refine ai ?_ ?_
  · intro h; cases h
  intro _
  refine rs ?_
  refine run ?_
  (refine al_set ?_ ?_ ?_ ?_; rotate_left 2; (· intro K hK; refine S1 ?_; refine Or.inl (GetReply_c (by omega) ?_); exact hK))
  rw [r2, f1]
  refine run ?_
  (refine aF ?_; intro p hp; (try (have h_hp := hp; simp only [set_none] at h_hp)))
  refine runX (And.intro hpl (And.intro tk6 hs6)) ?_
  refine al_done ?_
  rw [set_set]
  obtain ⟨s2, hs2⟩ : ∃ v, s1.set p (.cells (repD (trimP a)) 100) = v := ⟨_, rfl⟩
  have e2p : s2 p = some (.cells (repD (trimP a)) 100) := by rw [← hs2]; exact set_same _ _ _
  have e2y : s2 y = some (.cells (repD a) 100) := by rw [← hs2, set_other _ (keep_ne hyc hp)]; exact hyc
  have hle2 : s.le s2 := by rw [← hs2]; exact hle.trans (le_set _ hp)
  rw [hs2]
  clear hs2
  refine rs ?_
  (repeat (first | (refine al_set ?_ ?_ ?_ ?_; rotate_left 2; (· intro K hK; simp (disch := omega) only [go_sem, ↓set_get, ↓reduceIte, ↓o_bsl, ↓o_build, Nat.reduceEqDiff, Nat.reduceAdd, Nat.reduceMul, Int.reduceEq, Int.reduceNe, set_other, del_other, e2p, hpl, tk6]; (repeat' (first | exact hK | (refine And.intro ?_ ?_) | assumption | omega)))) | (refine al_guard (b := true) rfl ?_ (fun _ => ?_) (fun h => absurd rfl h); · simp only [↓set_get, Nat.reduceEqDiff, Bool.false_eq_true, ↓reduceIte, aenv0, aenvS, aenvN, one_ne, e2p, hpl, tk6]; done) | (refine al_guard (b := false) rfl ?_ (fun _ => ?_) (fun h => absurd rfl h); · simp only [↓set_get, Nat.reduceEqDiff, Bool.false_eq_true, ↓reduceIte, aenv0, aenvS, aenvN, one_ne, e2p, hpl, tk6]; done) | (refine al_guard (b := true) rfl ?_ (fun h => Bool.noConfusion h) (fun _ => ?_); · simp only [↓set_get, Nat.reduceEqDiff, Bool.false_eq_true, ↓reduceIte, aenv0, aenvS, aenvN, one_ne, e2p, hpl, tk6]; done) | (refine al_guard (b := false) rfl ?_ (fun h => Bool.noConfusion h) (fun _ => ?_); · simp only [↓set_get, Nat.reduceEqDiff, Bool.false_eq_true, ↓reduceIte, aenv0, aenvS, aenvN, one_ne, e2p, hpl, tk6]; done) | (refine al_guard0 rfl ?_ ?_; · simp only [↓set_get, Nat.reduceEqDiff, Bool.false_eq_true, ↓reduceIte, aenv0, aenvS, aenvN, one_ne, e2p, hpl, tk6]; done) | (refine al_none ?_ ?_ ?_ ?_; rotate_left 2; (· intro K hK; simp (disch := omega) only [go_sem, ↓set_get, ↓reduceIte, ↓o_bsl, ↓o_build, Nat.reduceEqDiff, Nat.reduceAdd, Nat.reduceMul, Int.reduceEq, Int.reduceNe, set_other, del_other, e2p, hpl, tk6]; (repeat' (first | exact hK | (refine And.intro ?_ ?_) | assumption | omega))))))
  (refine al_set ?_ ?_ ?_ ?_; rotate_left 2; (· intro K hK; refine S1 ?_; refine Or.inl (PutReply_c hfin ?_); exact hK))
  rw [dPP_q, f2, f3]
  refine run ?_
  refine al_done ?_
  refine rs ?_
  refine runX (And.intro hk (And.intro hb0 g2)) ?_
  (refine al_set ?_ ?_ ?_ ?_; rotate_left 2; (· intro K hK; refine S1 ?_; refine slice_str isStr9 (l := 0) (h := k) rfl (bound_at (by omega) (by omega)) (by omega) (by omega) ?_; exact hK))
  refine run ?_
  (refine al_set ?_ ?_ ?_ ?_; rotate_left 2; (· intro K hK; refine S1 ?_; refine Or.inl (GetReply_c (by rw [List.length_take]; omega) ?_); exact hK))
  rw [f4]
  refine run ?_
  (refine aF ?_; intro q hq; (try (have h_hq := hq; simp only [set_none] at h_hq)))
  refine runX (And.intro hpl (And.intro tk6 hs6)) ?_
  refine al_nil (.forget s2 (le_set2 (le_set _ hq) hq) (.done ?_))
  refine rs ?_
  refine run ?_
  (refine al_set ?_ ?_ ?_ ?_; rotate_left 2; (· intro K hK; refine S1 ?_; refine Or.inl (GetReply_c (by rw [List.length_append, List.length_singleton]; omega) ?_); exact hK))
  rw [f5]
  refine run ?_
  (refine aF ?_; intro q hq; (try (have h_hq := hq; simp only [set_none] at h_hq)))
  refine runX (And.intro hpl (And.intro tk6 hs6)) ?_
  refine al_nil (.forget s2 (le_set2 (le_set _ hq) hq) (.done ?_))
  refine rs ?_
  refine run ?_
  (refine al_set ?_ ?_ ?_ ?_; rotate_left 2; (· intro K hK; refine S1 ?_; refine Or.inl (GetRequest_c (by omega) ?_); exact hK))
  rw [f6]
  refine run ?_
  (refine aF ?_; intro q hq; (try (have h_hq := hq; simp only [set_none] at h_hq)))
  refine runX (And.intro hrl (And.intro tk5 hs5)) ?_
  refine al_nil (.forget s2 (le_set2 (le_set _ hq) hq) (.done ?_))
  refine rs ?_
  have hbb : (putP a == putP a) = true := by simp
  have h00 : ((0 : Int) == 0) = true := rfl
  have h10 : ((10 : Int) == 10) = true := rfl
  have hbi : (a.id == a.id) = true := by simp
  have hbk : (a.kind == a.kind) = true := by simp
  (repeat (first | (refine al_set ?_ ?_ ?_ ?_; rotate_left 2; (· intro K hK; simp (disch := omega) only [go_sem, ↓set_get, ↓reduceIte, ↓o_bsl, ↓o_build, Nat.reduceEqDiff, Nat.reduceAdd, Nat.reduceMul, Int.reduceEq, Int.reduceNe, set_other, del_other, e2p, e2y, g4, p0, p1, t4, t5, hpl, hbb, hbi, hbk, h00, h10]; (repeat' (first | exact hK | (refine And.intro ?_ ?_) | assumption | omega)))) | (refine al_guard (b := true) rfl ?_ (fun _ => ?_) (fun h => absurd rfl h); · simp only [↓set_get, Nat.reduceEqDiff, Bool.false_eq_true, ↓reduceIte, aenv0, aenvS, aenvN, one_ne, e2p, e2y, g4, p0, p1, t4, t5, hpl, hbb, hbi, hbk, h00, h10]; done) | (refine al_guard (b := false) rfl ?_ (fun _ => ?_) (fun h => absurd rfl h); · simp only [↓set_get, Nat.reduceEqDiff, Bool.false_eq_true, ↓reduceIte, aenv0, aenvS, aenvN, one_ne, e2p, e2y, g4, p0, p1, t4, t5, hpl, hbb, hbi, hbk, h00, h10]; done) | (refine al_guard (b := true) rfl ?_ (fun h => Bool.noConfusion h) (fun _ => ?_); · simp only [↓set_get, Nat.reduceEqDiff, Bool.false_eq_true, ↓reduceIte, aenv0, aenvS, aenvN, one_ne, e2p, e2y, g4, p0, p1, t4, t5, hpl, hbb, hbi, hbk, h00, h10]; done) | (refine al_guard (b := false) rfl ?_ (fun h => Bool.noConfusion h) (fun _ => ?_); · simp only [↓set_get, Nat.reduceEqDiff, Bool.false_eq_true, ↓reduceIte, aenv0, aenvS, aenvN, one_ne, e2p, e2y, g4, p0, p1, t4, t5, hpl, hbb, hbi, hbk, h00, h10]; done) | (refine al_guard0 rfl ?_ ?_; · simp only [↓set_get, Nat.reduceEqDiff, Bool.false_eq_true, ↓reduceIte, aenv0, aenvS, aenvN, one_ne, e2p, e2y, g4, p0, p1, t4, t5, hpl, hbb, hbi, hbk, h00, h10]; done) | (refine al_none ?_ ?_ ?_ ?_; rotate_left 2; (· intro K hK; simp (disch := omega) only [go_sem, ↓set_get, ↓reduceIte, ↓o_bsl, ↓o_build, Nat.reduceEqDiff, Nat.reduceAdd, Nat.reduceMul, Int.reduceEq, Int.reduceNe, set_other, del_other, e2p, e2y, g4, p0, p1, t4, t5, hpl, hbb, hbi, hbk, h00, h10]; (repeat' (first | exact hK | (refine And.intro ?_ ?_) | assumption | omega))))))
  (refine al_set ?_ ?_ ?_ ?_; rotate_left 2; (· intro K hK; refine S1 ?_; refine Or.inl (Spoken_c ?_); exact hK))
  refine run ?_
  refine al_done (awp_ret (afin_ret (.forget s hle2 (.done ?_)))); simp only [ares, aone, ↓set_get, Nat.reduceEqDiff, Bool.false_eq_true, ↓reduceIte, aenv0, aenvS, aenvN, one_ne]
  exact hK
end Go.Proofs.Try
