/- codec: texts and hashes cut off, walked. -/
import Derived.Test.YtgbfchagmniiiaaC4
set_option maxRecDepth 8000
set_option linter.unusedSimpArgs false
set_option linter.unusedVariables false
namespace Go.Proofs.Try
open Go Go.Av
set_option pp.maxSteps 900
attribute [local irreducible] alist awp adraw apure
variable {γ : Gl} {σ : St} {K : D → St → Prop}

theorem readB_len {s : List UInt8} {m : Nat} {r : List UInt8} (h : readB s = some (m, r)) : r.length < s.length ∧ m < 18446744073709551616 := by
  obtain ⟨h1, h2⟩ := readB_some h
  have := length_numB_pos m
  rw [h2, List.length_append]
  exact ⟨by omega, h1⟩

theorem Cut_c {s : List UInt8} (hs : s.length ≤ 140737488355328) (hK : K (dCut (cutB s)) σ) : ACalls prog γ 31 [.str s] σ K := by
  refine acalls_of_awp (by kernel_rfl) func31 rfl (by kernel_rfl) rfl rfl (by kernel_rfl) (Nat.le_of_ble_eq_true rfl) ?_
  refine rs ?_
  refine runM ?_
  refine al_done ?_
  refine rs ?_
  refine runM ?_
  (refine al_set ?_ ?_ ?_ ?_; rotate_left 2; (· intro K hK; refine S0 ?_; refine Or.inl (Read_c hs ?_); exact hK))
  cases hr : readB s with
  | none =>
    (repeat (refine al_set ?_ ?_ ?_ ?_; rotate_left 2; · intro K hK; simp (disch := omega) only [go_sem, ↓set_get, ↓reduceIte, ↓o_bsl, ↓o_build, Nat.reduceEqDiff, Nat.reduceAdd, Nat.reduceMul, Int.reduceEq, Int.reduceNe, hr, dRead]; (repeat' (first | exact hK | (refine And.intro ?_ ?_) | assumption | omega))))
    refine al_done ?_
    refine rs ?_
    refine runM ?_
    refine al_done ?_
    refine asc ?_; refine ai ?_ ?_
    · intro _
      refine rs ?_
      refine runM ?_
      refine rets ?_
      rw [cutB, hr] at hK; exact hK
    · intro h; cases h
  | some p =>
    obtain ⟨n, r⟩ := p
    obtain ⟨hrl, hn⟩ := readB_len hr
    (repeat (refine al_set ?_ ?_ ?_ ?_; rotate_left 2; · intro K hK; simp (disch := omega) only [go_sem, ↓set_get, ↓reduceIte, ↓o_bsl, ↓o_build, Nat.reduceEqDiff, Nat.reduceAdd, Nat.reduceMul, Int.reduceEq, Int.reduceNe, hr, dRead]; (repeat' (first | exact hK | (refine And.intro ?_ ?_) | assumption | omega))))
    refine al_done ?_
    refine rs ?_
    refine runM ?_
    refine al_done ?_
    refine asc ?_; refine ai ?_ ?_
    · intro h; cases h
    · intro _
      refine rs ?_
      refine runM ?_
      (refine al_set ?_ ?_ ?_ ?_; rotate_left 2; (· intro K hK; refine S0 ?_; refine Or.inl (take_c (by omega) (by omega) (by omega) ?_); exact hK))
      have hc : cutB s = takeB r n := by rw [cutB, hr]; rfl
      rw [hc] at hK
      cases ht : takeB r n with
      | none =>
        (repeat (refine al_set ?_ ?_ ?_ ?_; rotate_left 2; · intro K hK; simp (disch := omega) only [go_sem, ↓set_get, ↓reduceIte, ↓o_bsl, ↓o_build, Nat.reduceEqDiff, Nat.reduceAdd, Nat.reduceMul, Int.reduceEq, Int.reduceNe, Int.toNat_natCast, ht, dCut]; (repeat' (first | exact hK | (refine And.intro ?_ ?_) | assumption | omega))))
        refine rets ?_
        rw [ht] at hK; exact hK
      | some q =>
        obtain ⟨t, u⟩ := q
        (repeat (refine al_set ?_ ?_ ?_ ?_; rotate_left 2; · intro K hK; simp (disch := omega) only [go_sem, ↓set_get, ↓reduceIte, ↓o_bsl, ↓o_build, Nat.reduceEqDiff, Nat.reduceAdd, Nat.reduceMul, Int.reduceEq, Int.reduceNe, Int.toNat_natCast, ht, dCut]; (repeat' (first | exact hK | (refine And.intro ?_ ?_) | assumption | omega))))
        refine rets ?_
        rw [ht] at hK; exact hK

theorem rCut_c {s : List UInt8} (hs : s.length ≤ 140737488355328) (hK : K (dCut (cutB s)) σ) : ACalls prog γ 32 [.str s] σ K := by
  refine acalls_of_awp (by kernel_rfl) func32 rfl (by kernel_rfl) rfl rfl (by kernel_rfl) (Nat.le_of_ble_eq_true rfl) ?_
  refine rs ?_
  refine runM ?_
  refine al_done ?_
  refine rs ?_
  refine runM ?_
  (refine al_set ?_ ?_ ?_ ?_; rotate_left 2; (· intro K hK; refine S0 ?_; refine Or.inl (rRead_c hs ?_); exact hK))
  cases hr : readB s with
  | none =>
    (repeat (refine al_set ?_ ?_ ?_ ?_; rotate_left 2; · intro K hK; simp (disch := omega) only [go_sem, ↓set_get, ↓reduceIte, ↓o_bsl, ↓o_build, Nat.reduceEqDiff, Nat.reduceAdd, Nat.reduceMul, Int.reduceEq, Int.reduceNe, hr, dRead]; (repeat' (first | exact hK | (refine And.intro ?_ ?_) | assumption | omega))))
    refine al_done ?_
    refine rs ?_
    (repeat (first | (refine al_set ?_ ?_ ?_ ?_; rotate_left 2; · intro K hK; simp (disch := omega) only [go_sem, ↓set_get, ↓reduceIte, ↓o_bsl, ↓o_build, Nat.reduceEqDiff, Nat.reduceAdd, Nat.reduceMul, Int.reduceEq, Int.reduceNe, Bool.not_false]; (repeat' (first | exact hK | (refine And.intro ?_ ?_) | assumption | omega))) | (refine al_guard (b := true) rfl ?_ (fun _ => ?_) (fun h => absurd rfl h); · simp only [↓set_get, Nat.reduceEqDiff, Bool.false_eq_true, ↓reduceIte, aenv0, aenvS, aenvN, one_ne, Bool.not_false]; done) | (refine al_guard (b := false) rfl ?_ (fun _ => ?_) (fun h => absurd rfl h); · simp only [↓set_get, Nat.reduceEqDiff, Bool.false_eq_true, ↓reduceIte, aenv0, aenvS, aenvN, one_ne, Bool.not_false]; done) | (refine al_guard (b := true) rfl ?_ (fun h => Bool.noConfusion h) (fun _ => ?_); · simp only [↓set_get, Nat.reduceEqDiff, Bool.false_eq_true, ↓reduceIte, aenv0, aenvS, aenvN, one_ne, Bool.not_false]; done) | (refine al_guard (b := false) rfl ?_ (fun h => Bool.noConfusion h) (fun _ => ?_); · simp only [↓set_get, Nat.reduceEqDiff, Bool.false_eq_true, ↓reduceIte, aenv0, aenvS, aenvN, one_ne, Bool.not_false]; done) | (refine al_guard0 rfl ?_ ?_; · simp only [↓set_get, Nat.reduceEqDiff, Bool.false_eq_true, ↓reduceIte, aenv0, aenvS, aenvN, one_ne, Bool.not_false]; done)))
    refine al_done ?_
    refine asc ?_; refine ai ?_ ?_
    · intro _
      refine rs ?_
      refine runM ?_
      refine rets ?_
      rw [cutB, hr] at hK; exact hK
    · intro h; cases h
  | some p =>
    obtain ⟨n, r⟩ := p
    obtain ⟨hrl, hn⟩ := readB_len hr
    have hc : cutB s = takeB r n := by rw [cutB, hr]; rfl
    rw [hc, takeB] at hK
    (repeat (refine al_set ?_ ?_ ?_ ?_; rotate_left 2; · intro K hK; simp (disch := omega) only [go_sem, ↓set_get, ↓reduceIte, ↓o_bsl, ↓o_build, Nat.reduceEqDiff, Nat.reduceAdd, Nat.reduceMul, Int.reduceEq, Int.reduceNe, hr, dRead]; (repeat' (first | exact hK | (refine And.intro ?_ ?_) | assumption | omega))))
    refine al_done ?_
    refine rs ?_
    (repeat (first | (refine al_set ?_ ?_ ?_ ?_; rotate_left 2; · intro K hK; simp (disch := omega) only [go_sem, ↓set_get, ↓reduceIte, ↓o_bsl, ↓o_build, Nat.reduceEqDiff, Nat.reduceAdd, Nat.reduceMul, Int.reduceEq, Int.reduceNe, Bool.not_true]; (repeat' (first | exact hK | (refine And.intro ?_ ?_) | assumption | omega))) | (refine al_guard (b := true) rfl ?_ (fun _ => ?_) (fun h => absurd rfl h); · simp only [↓set_get, Nat.reduceEqDiff, Bool.false_eq_true, ↓reduceIte, aenv0, aenvS, aenvN, one_ne, Bool.not_true]; done) | (refine al_guard (b := false) rfl ?_ (fun _ => ?_) (fun h => absurd rfl h); · simp only [↓set_get, Nat.reduceEqDiff, Bool.false_eq_true, ↓reduceIte, aenv0, aenvS, aenvN, one_ne, Bool.not_true]; done) | (refine al_guard (b := true) rfl ?_ (fun h => Bool.noConfusion h) (fun _ => ?_); · simp only [↓set_get, Nat.reduceEqDiff, Bool.false_eq_true, ↓reduceIte, aenv0, aenvS, aenvN, one_ne, Bool.not_true]; done) | (refine al_guard (b := false) rfl ?_ (fun h => Bool.noConfusion h) (fun _ => ?_); · simp only [↓set_get, Nat.reduceEqDiff, Bool.false_eq_true, ↓reduceIte, aenv0, aenvS, aenvN, one_ne, Bool.not_true]; done) | (refine al_guard0 rfl ?_ ?_; · simp only [↓set_get, Nat.reduceEqDiff, Bool.false_eq_true, ↓reduceIte, aenv0, aenvS, aenvN, one_ne, Bool.not_true]; done)))
    refine al_done ?_
    refine asc ?_; refine ai ?_ ?_
    · intro h
      have h : r.length < n := by have := of_decide_eq_true h
                                  omega
      rw [if_pos h] at hK
      refine rs ?_
      refine runM ?_
      refine rets ?_
      exact hK
    · intro h
      have h : ¬ r.length < n := by have := of_decide_eq_false h
                                    omega
      rw [if_neg h] at hK
      refine asc ?_; refine awp_pure (by kernel_rfl) ?_
      refine runPM ?_
      (refine ap_set ?_ ?_ ?_; rotate_left 1; (· intro K hK; refine S0 ?_; refine slice_str isStr9 (l := 0) (h := n) rfl (bound_at (by omega) (by omega)) (by omega) (by omega) ?_; exact hK))
      refine runPM ?_
      (refine ap_set ?_ ?_ ?_; rotate_left 1; (· intro K hK; refine S0 ?_; refine slice_str isStr9 (l := n) (h := r.length) (bound_at (by omega) (by omega)) rfl (by omega) (by omega) ?_; exact hK))
      refine runPM ?_
      refine ap_done ?_
      refine awp_ret (afin_ret (.done ?_)); simp only [ares, aone, ↓set_get, Nat.reduceEqDiff, Bool.false_eq_true, ↓reduceIte, aenv0, aenvS, aenvN, one_ne]
      simpa [dCut] using hK

theorem no_c {s : List UInt8} (hs : s.length ≤ 140737488355328) (hn : readB s = none) (hK : K (.bool true) σ) : ACalls prog γ 85 [.str s] σ K := by
  refine acalls_of_awp (by kernel_rfl) func85 rfl (by kernel_rfl) rfl rfl (by kernel_rfl) (Nat.le_of_ble_eq_true rfl) ?_
  refine rs ?_
  refine runM ?_
  refine al_done ?_
  refine rs ?_
  refine runM ?_
  (refine al_set ?_ ?_ ?_ ?_; rotate_left 2; (· intro K hK; refine S0 ?_; refine Or.inl (Read_c hs ?_); exact hK))
  (repeat (refine al_set ?_ ?_ ?_ ?_; rotate_left 2; · intro K hK; simp (disch := omega) only [go_sem, ↓set_get, ↓reduceIte, ↓o_bsl, ↓o_build, Nat.reduceEqDiff, Nat.reduceAdd, Nat.reduceMul, Int.reduceEq, Int.reduceNe, hn, dRead]; (repeat' (first | exact hK | (refine And.intro ?_ ?_) | assumption | omega))))
  refine al_done ?_
  refine rs ?_
  (repeat (first | (refine al_set ?_ ?_ ?_ ?_; rotate_left 2; · intro K hK; simp (disch := omega) only [go_sem, ↓set_get, ↓reduceIte, ↓o_bsl, ↓o_build, Nat.reduceEqDiff, Nat.reduceAdd, Nat.reduceMul, Int.reduceEq, Int.reduceNe, beq_self_eq_true, Bool.not_false]; (repeat' (first | exact hK | (refine And.intro ?_ ?_) | assumption | omega))) | (refine al_guard (b := true) rfl ?_ (fun _ => ?_) (fun h => absurd rfl h); · simp only [↓set_get, Nat.reduceEqDiff, Bool.false_eq_true, ↓reduceIte, aenv0, aenvS, aenvN, one_ne, beq_self_eq_true, Bool.not_false]; done) | (refine al_guard (b := false) rfl ?_ (fun _ => ?_) (fun h => absurd rfl h); · simp only [↓set_get, Nat.reduceEqDiff, Bool.false_eq_true, ↓reduceIte, aenv0, aenvS, aenvN, one_ne, beq_self_eq_true, Bool.not_false]; done) | (refine al_guard (b := true) rfl ?_ (fun h => Bool.noConfusion h) (fun _ => ?_); · simp only [↓set_get, Nat.reduceEqDiff, Bool.false_eq_true, ↓reduceIte, aenv0, aenvS, aenvN, one_ne, beq_self_eq_true, Bool.not_false]; done) | (refine al_guard (b := false) rfl ?_ (fun h => Bool.noConfusion h) (fun _ => ?_); · simp only [↓set_get, Nat.reduceEqDiff, Bool.false_eq_true, ↓reduceIte, aenv0, aenvS, aenvN, one_ne, beq_self_eq_true, Bool.not_false]; done) | (refine al_guard0 rfl ?_ ?_; · simp only [↓set_get, Nat.reduceEqDiff, Bool.false_eq_true, ↓reduceIte, aenv0, aenvS, aenvN, one_ne, beq_self_eq_true, Bool.not_false]; done)))
  refine rets ?_
  exact hK
end Go.Proofs.Try
