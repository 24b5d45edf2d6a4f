/- The chapter's examples, walked. -/
import Derived.Test.YtgbfchagmniiiaaC8
set_option maxRecDepth 8000
set_option linter.unusedSimpArgs false
set_option linter.unusedVariables false
namespace Go.Proofs.Try
open Go Go.Av
set_option pp.maxSteps 900
attribute [local irreducible] alist awp adraw apure
variable {γ : Gl} {σ : St} {K : D → St → Prop}

/-- A nil slice may be handed in as an empty one. -/
theorem acalls_nil {f : FuncId} (h : ACalls prog γ f [.sl 0 [] none] σ K) : ACalls prog γ f [.nil] σ K :=
  ⟨h.1, fun B w0 g w vals hγ hv hR => h.2 B w0 g w vals hγ ⟨hv.1, fun k v d e e' => by
    cases k with
    | zero =>
      simp only [List.getElem?_cons_zero, Option.some.injEq] at e'
      subst e'
      exact Wk.nil.sound (hv.2 0 v .nil e rfl)
    | succ k => simp at e'⟩ hR⟩

theorem numB0 : numB 0 = [0] := numB_small (by decide)
theorem numB127 : numB 127 = [127] := numB_small (by decide)
theorem numB300 : numB 300 = [130, 44] := by rw [numB_great (by decide), aheadB_small (by decide)]; rfl
theorem numB2 : numB 2 = [2] := numB_small (by decide)

theorem coded_c (hK : K (.bool true) σ) : ACalls prog γ 20 [] σ K := by
  have r1 : readB [130, 44, 120] = some (300, [120]) := by decide
  have c2 : cutB [2, 97, 98, 99] = some ([97, 98], [99]) := by decide
  have c3 : cutB [3, 97, 98] = none := by decide
  have u4 : unhashesB [0, 120] = some ([], [120]) := by decide
  have n5 : readB [128, 5] = none := by decide
  have n6 : readB [130] = none := by decide
  refine acalls_of_awp (by kernel_rfl) func20 rfl (by kernel_rfl) rfl rfl (by kernel_rfl) (Nat.le_of_ble_eq_true rfl) ?_
  refine rs ?_
  refine runM ?_
  refine al_done ?_
  refine rs ?_
  (refine al_set ?_ ?_ ?_ ?_; rotate_left 2; (· intro K hK; refine S0 ?_; refine Or.inl (Read_c (by decide) ?_); exact hK))
  have c300 : ((300 : Nat) : Int) = 300 := rfl
  (repeat (refine al_set ?_ ?_ ?_ ?_; rotate_left 2; · intro K hK; simp (disch := omega) only [go_sem, ↓set_get, ↓reduceIte, ↓o_bsl, ↓o_build, Nat.reduceEqDiff, Nat.reduceAdd, Nat.reduceMul, Int.reduceEq, Int.reduceNe, r1, dRead, c300]; (repeat' (first | exact hK | (refine And.intro ?_ ?_) | assumption | omega))))
  refine al_done ?_
  refine rs ?_
  (refine al_set ?_ ?_ ?_ ?_; rotate_left 2; (· intro K hK; refine S0 ?_; refine Or.inl (Cut_c (by decide) ?_); exact hK))
  (repeat (refine al_set ?_ ?_ ?_ ?_; rotate_left 2; · intro K hK; simp (disch := omega) only [go_sem, ↓set_get, ↓reduceIte, ↓o_bsl, ↓o_build, Nat.reduceEqDiff, Nat.reduceAdd, Nat.reduceMul, Int.reduceEq, Int.reduceNe, c2, dCut]; (repeat' (first | exact hK | (refine And.intro ?_ ?_) | assumption | omega))))
  refine al_done ?_
  refine rs ?_
  (refine al_set ?_ ?_ ?_ ?_; rotate_left 2; (· intro K hK; refine S0 ?_; refine Or.inl (Cut_c (by decide) ?_); exact hK))
  (repeat (refine al_set ?_ ?_ ?_ ?_; rotate_left 2; · intro K hK; simp (disch := omega) only [go_sem, ↓set_get, ↓reduceIte, ↓o_bsl, ↓o_build, Nat.reduceEqDiff, Nat.reduceAdd, Nat.reduceMul, Int.reduceEq, Int.reduceNe, c3, dCut]; (repeat' (first | exact hK | (refine And.intro ?_ ?_) | assumption | omega))))
  refine al_done ?_
  refine rs ?_
  (refine al_set ?_ ?_ ?_ ?_; rotate_left 2; (· intro K hK; refine S0 ?_; refine Or.inl (Unhashes_c (by decide) ?_); exact hK))
  (repeat (refine al_set ?_ ?_ ?_ ?_; rotate_left 2; · intro K hK; simp (disch := omega) only [go_sem, ↓set_get, ↓reduceIte, ↓o_bsl, ↓o_build, Nat.reduceEqDiff, Nat.reduceAdd, Nat.reduceMul, Int.reduceEq, Int.reduceNe, u4, dUnhs, List.length_nil, List.flatten_nil, bytesD_nil]; (repeat' (first | exact hK | (refine And.intro ?_ ?_) | assumption | omega))))
  refine al_done ?_
  refine rs ?_
  simp only [List.append_eq, List.cons_append, List.nil_append]
  (refine al_set ?_ ?_ ?_ ?_; rotate_left 2; (· intro K hK; refine S0 ?_; refine Or.inl (Num_c (by decide) (by decide) ?_); exact hK))
  (repeat (first | (refine al_set ?_ ?_ ?_ ?_; rotate_left 2; · intro K hK; simp (disch := omega) only [go_sem, ↓set_get, ↓reduceIte, ↓o_bsl, ↓o_build, Nat.reduceEqDiff, Nat.reduceAdd, Nat.reduceMul, Int.reduceEq, Int.reduceNe, Int.reduceToNat, numB0, beq_self_eq_true]; (repeat' (first | exact hK | (refine And.intro ?_ ?_) | assumption | omega))) | (refine al_guard (b := true) rfl ?_ (fun _ => ?_) (fun h => absurd rfl h); · simp only [↓set_get, Nat.reduceEqDiff, Bool.false_eq_true, ↓reduceIte, aenv0, aenvS, aenvN, one_ne, Int.reduceToNat, numB0, beq_self_eq_true]; done) | (refine al_guard (b := false) rfl ?_ (fun _ => ?_) (fun h => absurd rfl h); · simp only [↓set_get, Nat.reduceEqDiff, Bool.false_eq_true, ↓reduceIte, aenv0, aenvS, aenvN, one_ne, Int.reduceToNat, numB0, beq_self_eq_true]; done) | (refine al_guard (b := true) rfl ?_ (fun h => Bool.noConfusion h) (fun _ => ?_); · simp only [↓set_get, Nat.reduceEqDiff, Bool.false_eq_true, ↓reduceIte, aenv0, aenvS, aenvN, one_ne, Int.reduceToNat, numB0, beq_self_eq_true]; done) | (refine al_guard (b := false) rfl ?_ (fun h => Bool.noConfusion h) (fun _ => ?_); · simp only [↓set_get, Nat.reduceEqDiff, Bool.false_eq_true, ↓reduceIte, aenv0, aenvS, aenvN, one_ne, Int.reduceToNat, numB0, beq_self_eq_true]; done) | (refine al_guard0 rfl ?_ ?_; · simp only [↓set_get, Nat.reduceEqDiff, Bool.false_eq_true, ↓reduceIte, aenv0, aenvS, aenvN, one_ne, Int.reduceToNat, numB0, beq_self_eq_true]; done)))
  (refine al_set ?_ ?_ ?_ ?_; rotate_left 2; (· intro K hK; refine S0 ?_; refine Or.inl (Num_c (by decide) (by decide) ?_); exact hK))
  (repeat (first | (refine al_set ?_ ?_ ?_ ?_; rotate_left 2; · intro K hK; simp (disch := omega) only [go_sem, ↓set_get, ↓reduceIte, ↓o_bsl, ↓o_build, Nat.reduceEqDiff, Nat.reduceAdd, Nat.reduceMul, Int.reduceEq, Int.reduceNe, Int.reduceToNat, numB127, beq_self_eq_true]; (repeat' (first | exact hK | (refine And.intro ?_ ?_) | assumption | omega))) | (refine al_guard (b := true) rfl ?_ (fun _ => ?_) (fun h => absurd rfl h); · simp only [↓set_get, Nat.reduceEqDiff, Bool.false_eq_true, ↓reduceIte, aenv0, aenvS, aenvN, one_ne, Int.reduceToNat, numB127, beq_self_eq_true]; done) | (refine al_guard (b := false) rfl ?_ (fun _ => ?_) (fun h => absurd rfl h); · simp only [↓set_get, Nat.reduceEqDiff, Bool.false_eq_true, ↓reduceIte, aenv0, aenvS, aenvN, one_ne, Int.reduceToNat, numB127, beq_self_eq_true]; done) | (refine al_guard (b := true) rfl ?_ (fun h => Bool.noConfusion h) (fun _ => ?_); · simp only [↓set_get, Nat.reduceEqDiff, Bool.false_eq_true, ↓reduceIte, aenv0, aenvS, aenvN, one_ne, Int.reduceToNat, numB127, beq_self_eq_true]; done) | (refine al_guard (b := false) rfl ?_ (fun h => Bool.noConfusion h) (fun _ => ?_); · simp only [↓set_get, Nat.reduceEqDiff, Bool.false_eq_true, ↓reduceIte, aenv0, aenvS, aenvN, one_ne, Int.reduceToNat, numB127, beq_self_eq_true]; done) | (refine al_guard0 rfl ?_ ?_; · simp only [↓set_get, Nat.reduceEqDiff, Bool.false_eq_true, ↓reduceIte, aenv0, aenvS, aenvN, one_ne, Int.reduceToNat, numB127, beq_self_eq_true]; done)))
  (refine al_set ?_ ?_ ?_ ?_; rotate_left 2; (· intro K hK; refine S0 ?_; refine Or.inl (Num_c (by decide) (by decide) ?_); exact hK))
  (repeat (first | (refine al_set ?_ ?_ ?_ ?_; rotate_left 2; · intro K hK; simp (disch := omega) only [go_sem, ↓set_get, ↓reduceIte, ↓o_bsl, ↓o_build, Nat.reduceEqDiff, Nat.reduceAdd, Nat.reduceMul, Int.reduceEq, Int.reduceNe, Int.reduceToNat, numB300, beq_self_eq_true]; (repeat' (first | exact hK | (refine And.intro ?_ ?_) | assumption | omega))) | (refine al_guard (b := true) rfl ?_ (fun _ => ?_) (fun h => absurd rfl h); · simp only [↓set_get, Nat.reduceEqDiff, Bool.false_eq_true, ↓reduceIte, aenv0, aenvS, aenvN, one_ne, Int.reduceToNat, numB300, beq_self_eq_true]; done) | (refine al_guard (b := false) rfl ?_ (fun _ => ?_) (fun h => absurd rfl h); · simp only [↓set_get, Nat.reduceEqDiff, Bool.false_eq_true, ↓reduceIte, aenv0, aenvS, aenvN, one_ne, Int.reduceToNat, numB300, beq_self_eq_true]; done) | (refine al_guard (b := true) rfl ?_ (fun h => Bool.noConfusion h) (fun _ => ?_); · simp only [↓set_get, Nat.reduceEqDiff, Bool.false_eq_true, ↓reduceIte, aenv0, aenvS, aenvN, one_ne, Int.reduceToNat, numB300, beq_self_eq_true]; done) | (refine al_guard (b := false) rfl ?_ (fun h => Bool.noConfusion h) (fun _ => ?_); · simp only [↓set_get, Nat.reduceEqDiff, Bool.false_eq_true, ↓reduceIte, aenv0, aenvS, aenvN, one_ne, Int.reduceToNat, numB300, beq_self_eq_true]; done) | (refine al_guard0 rfl ?_ ?_; · simp only [↓set_get, Nat.reduceEqDiff, Bool.false_eq_true, ↓reduceIte, aenv0, aenvS, aenvN, one_ne, Int.reduceToNat, numB300, beq_self_eq_true]; done)))
  (refine al_set ?_ ?_ ?_ ?_; rotate_left 2; (· intro K hK; refine S0 ?_; refine Or.inl (no_c (by decide) n5 ?_); exact hK))
  refine runG ?_
  (refine al_set ?_ ?_ ?_ ?_; rotate_left 2; (· intro K hK; refine S0 ?_; refine Or.inl (no_c (by decide) n6 ?_); exact hK))
  refine runG ?_
  (refine al_set ?_ ?_ ?_ ?_; rotate_left 2; (· intro K hK; refine S0 ?_; refine Or.inl (Text_c (by decide) ?_); exact hK))
  (repeat (first | (refine al_set ?_ ?_ ?_ ?_; rotate_left 2; · intro K hK; simp (disch := omega) only [go_sem, ↓set_get, ↓reduceIte, ↓o_bsl, ↓o_build, Nat.reduceEqDiff, Nat.reduceAdd, Nat.reduceMul, Int.reduceEq, Int.reduceNe, numB2, beq_self_eq_true, List.length_cons, List.length_nil, Bool.not_false]; (repeat' (first | exact hK | (refine And.intro ?_ ?_) | assumption | omega))) | (refine al_guard (b := true) rfl ?_ (fun _ => ?_) (fun h => absurd rfl h); · simp only [↓set_get, Nat.reduceEqDiff, Bool.false_eq_true, ↓reduceIte, aenv0, aenvS, aenvN, one_ne, numB2, beq_self_eq_true, List.length_cons, List.length_nil, Bool.not_false]; done) | (refine al_guard (b := false) rfl ?_ (fun _ => ?_) (fun h => absurd rfl h); · simp only [↓set_get, Nat.reduceEqDiff, Bool.false_eq_true, ↓reduceIte, aenv0, aenvS, aenvN, one_ne, numB2, beq_self_eq_true, List.length_cons, List.length_nil, Bool.not_false]; done) | (refine al_guard (b := true) rfl ?_ (fun h => Bool.noConfusion h) (fun _ => ?_); · simp only [↓set_get, Nat.reduceEqDiff, Bool.false_eq_true, ↓reduceIte, aenv0, aenvS, aenvN, one_ne, numB2, beq_self_eq_true, List.length_cons, List.length_nil, Bool.not_false]; done) | (refine al_guard (b := false) rfl ?_ (fun h => Bool.noConfusion h) (fun _ => ?_); · simp only [↓set_get, Nat.reduceEqDiff, Bool.false_eq_true, ↓reduceIte, aenv0, aenvS, aenvN, one_ne, numB2, beq_self_eq_true, List.length_cons, List.length_nil, Bool.not_false]; done) | (refine al_guard0 rfl ?_ ?_; · simp only [↓set_get, Nat.reduceEqDiff, Bool.false_eq_true, ↓reduceIte, aenv0, aenvS, aenvN, one_ne, numB2, beq_self_eq_true, List.length_cons, List.length_nil, Bool.not_false]; done)))
  (refine al_set ?_ ?_ ?_ ?_; rotate_left 2; · intro K hK; simp (disch := omega) only [go_sem, ↓set_get, ↓reduceIte, ↓o_bsl, ↓o_build, Nat.reduceEqDiff, Nat.reduceAdd, Nat.reduceMul, Int.reduceEq, Int.reduceNe]; refine Or.inl (acalls_nil (Hashes_c (hs := []) (fun x hx => (by cases hx)) (by decide) ?_)); exact hK)
  have h0 : hashesB [] = [0] := by rw [hashesB, if_neg (by decide)]; simp [numB0]
  have c0 : ((0 : Nat) : Int) = 0 := rfl
  (repeat (first | (refine al_set ?_ ?_ ?_ ?_; rotate_left 2; · intro K hK; simp (disch := omega) only [go_sem, ↓set_get, ↓reduceIte, ↓o_bsl, ↓o_build, Nat.reduceEqDiff, Nat.reduceAdd, Nat.reduceMul, Int.reduceEq, Int.reduceNe, h0, beq_self_eq_true, c0]; (repeat' (first | exact hK | (refine And.intro ?_ ?_) | assumption | omega))) | (refine al_guard (b := true) rfl ?_ (fun _ => ?_) (fun h => absurd rfl h); · simp only [↓set_get, Nat.reduceEqDiff, Bool.false_eq_true, ↓reduceIte, aenv0, aenvS, aenvN, one_ne, h0, beq_self_eq_true, c0]; done) | (refine al_guard (b := false) rfl ?_ (fun _ => ?_) (fun h => absurd rfl h); · simp only [↓set_get, Nat.reduceEqDiff, Bool.false_eq_true, ↓reduceIte, aenv0, aenvS, aenvN, one_ne, h0, beq_self_eq_true, c0]; done) | (refine al_guard (b := true) rfl ?_ (fun h => Bool.noConfusion h) (fun _ => ?_); · simp only [↓set_get, Nat.reduceEqDiff, Bool.false_eq_true, ↓reduceIte, aenv0, aenvS, aenvN, one_ne, h0, beq_self_eq_true, c0]; done) | (refine al_guard (b := false) rfl ?_ (fun h => Bool.noConfusion h) (fun _ => ?_); · simp only [↓set_get, Nat.reduceEqDiff, Bool.false_eq_true, ↓reduceIte, aenv0, aenvS, aenvN, one_ne, h0, beq_self_eq_true, c0]; done) | (refine al_guard0 rfl ?_ ?_; · simp only [↓set_get, Nat.reduceEqDiff, Bool.false_eq_true, ↓reduceIte, aenv0, aenvS, aenvN, one_ne, h0, beq_self_eq_true, c0]; done)))
  refine rets ?_
  exact hK
end Go.Proofs.Try
