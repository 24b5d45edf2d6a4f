/- codec: lists of hashes read, walked. -/
import Derived.Test.YtgbfchagmniiiaaC7
import Derived.Test.YtgbfchagmniiiaaSp5
set_option maxRecDepth 8000
set_option linter.unusedSimpArgs false
set_option linter.unusedVariables false
namespace Go.Proofs.Try
open Go Go.Av
set_option pp.maxSteps 900
attribute [local irreducible] alist awp adraw apure
variable {γ : Gl} {σ : St} {K : D → St → Prop}

theorem Unhashes_c {s : List UInt8} (hs : s.length ≤ 140737488355328) (hK : K (dUnhs (unhashesB s)) σ) : ACalls prog γ 35 [.str s] σ K := by
  refine acalls_of_awp (by kernel_rfl) func35 rfl (by kernel_rfl) rfl rfl (by kernel_rfl) (Nat.le_of_ble_eq_true rfl) ?_
  refine rs ?_
  refine runM ?_
  refine al_done ?_
  refine rs ?_
  refine runM ?_
  (refine al_set ?_ ?_ ?_ ?_; rotate_left 2; (· intro K hK; refine S0 ?_; refine Or.inl (Read_c hs ?_); exact hK))
  unfold unhashesB at hK
  cases hr : readB s with
  | none =>
    rw [hr] at hK
    (repeat (refine al_set ?_ ?_ ?_ ?_; rotate_left 2; · intro K hK; simp (disch := omega) only [go_sem, ↓set_get, ↓reduceIte, ↓o_bsl, ↓o_build, Nat.reduceEqDiff, Nat.reduceAdd, Nat.reduceMul, Int.reduceEq, Int.reduceNe, hr, dRead]; (repeat' (first | exact hK | (refine And.intro ?_ ?_) | assumption | omega))))
    refine al_done ?_
    refine rs ?_
    (repeat (first | (refine al_set ?_ ?_ ?_ ?_; rotate_left 2; · intro K hK; simp (disch := omega) only [go_sem, ↓set_get, ↓reduceIte, ↓o_bsl, ↓o_build, Nat.reduceEqDiff, Nat.reduceAdd, Nat.reduceMul, Int.reduceEq, Int.reduceNe, Bool.not_false]; (repeat' (first | exact hK | (refine And.intro ?_ ?_) | assumption | omega))) | (refine al_guard (b := true) rfl ?_ (fun _ => ?_) (fun h => absurd rfl h); · simp only [↓set_get, Nat.reduceEqDiff, Bool.false_eq_true, ↓reduceIte, aenv0, aenvS, aenvN, one_ne, Bool.not_false]; done) | (refine al_guard (b := false) rfl ?_ (fun _ => ?_) (fun h => absurd rfl h); · simp only [↓set_get, Nat.reduceEqDiff, Bool.false_eq_true, ↓reduceIte, aenv0, aenvS, aenvN, one_ne, Bool.not_false]; done) | (refine al_guard (b := true) rfl ?_ (fun h => Bool.noConfusion h) (fun _ => ?_); · simp only [↓set_get, Nat.reduceEqDiff, Bool.false_eq_true, ↓reduceIte, aenv0, aenvS, aenvN, one_ne, Bool.not_false]; done) | (refine al_guard (b := false) rfl ?_ (fun h => Bool.noConfusion h) (fun _ => ?_); · simp only [↓set_get, Nat.reduceEqDiff, Bool.false_eq_true, ↓reduceIte, aenv0, aenvS, aenvN, one_ne, Bool.not_false]; done) | (refine al_guard0 rfl ?_ ?_; · simp only [↓set_get, Nat.reduceEqDiff, Bool.false_eq_true, ↓reduceIte, aenv0, aenvS, aenvN, one_ne, Bool.not_false]; done)))
    refine al_done ?_
    refine asc ?_; refine ai ?_ ?_
    · intro _
      refine rs ?_
      refine runM ?_
      refine al_nil (rx_nil (t := 2) (by simp only [↓set_get, Nat.reduceEqDiff, Bool.false_eq_true, ↓reduceIte, aenv0, aenvS, aenvN, one_ne]) (.done ?_))
      refine awp_ret (afin_ret (.done ?_)); simp only [ares, aone, ↓set_get, Nat.reduceEqDiff, Bool.false_eq_true, ↓reduceIte, aenv0, aenvS, aenvN, one_ne]
      exact hK
    · intro h; cases h
  | some p =>
    obtain ⟨n, r⟩ := p
    obtain ⟨hrl, hn⟩ := readB_len hr
    rw [hr] at hK
    simp only at hK
    (repeat (refine al_set ?_ ?_ ?_ ?_; rotate_left 2; · intro K hK; simp (disch := omega) only [go_sem, ↓set_get, ↓reduceIte, ↓o_bsl, ↓o_build, Nat.reduceEqDiff, Nat.reduceAdd, Nat.reduceMul, Int.reduceEq, Int.reduceNe, hr, dRead]; (repeat' (first | exact hK | (refine And.intro ?_ ?_) | assumption | omega))))
    refine al_done ?_
    refine rs ?_
    (repeat (first | (refine al_set ?_ ?_ ?_ ?_; rotate_left 2; · intro K hK; simp (disch := omega) only [go_sem, ↓set_get, ↓reduceIte, ↓o_bsl, ↓o_build, Nat.reduceEqDiff, Nat.reduceAdd, Nat.reduceMul, Int.reduceEq, Int.reduceNe, Bool.not_true]; (repeat' (first | exact hK | (refine And.intro ?_ ?_) | assumption | omega))) | (refine al_guard (b := true) rfl ?_ (fun _ => ?_) (fun h => absurd rfl h); · simp only [↓set_get, Nat.reduceEqDiff, Bool.false_eq_true, ↓reduceIte, aenv0, aenvS, aenvN, one_ne, Bool.not_true]; done) | (refine al_guard (b := false) rfl ?_ (fun _ => ?_) (fun h => absurd rfl h); · simp only [↓set_get, Nat.reduceEqDiff, Bool.false_eq_true, ↓reduceIte, aenv0, aenvS, aenvN, one_ne, Bool.not_true]; done) | (refine al_guard (b := true) rfl ?_ (fun h => Bool.noConfusion h) (fun _ => ?_); · simp only [↓set_get, Nat.reduceEqDiff, Bool.false_eq_true, ↓reduceIte, aenv0, aenvS, aenvN, one_ne, Bool.not_true]; done) | (refine al_guard (b := false) rfl ?_ (fun h => Bool.noConfusion h) (fun _ => ?_); · simp only [↓set_get, Nat.reduceEqDiff, Bool.false_eq_true, ↓reduceIte, aenv0, aenvS, aenvN, one_ne, Bool.not_true]; done) | (refine al_guard0 rfl ?_ ?_; · simp only [↓set_get, Nat.reduceEqDiff, Bool.false_eq_true, ↓reduceIte, aenv0, aenvS, aenvN, one_ne, Bool.not_true]; done)))
    refine al_done ?_
    refine asc ?_; refine ai ?_ ?_
    · intro h
      have h : 64 < n := by have := of_decide_eq_true h
                            omega
      rw [if_pos h] at hK
      refine rs ?_
      refine runM ?_
      refine al_nil (rx_nil (t := 2) (by simp only [↓set_get, Nat.reduceEqDiff, Bool.false_eq_true, ↓reduceIte, aenv0, aenvS, aenvN, one_ne]) (.done ?_))
      refine awp_ret (afin_ret (.done ?_)); simp only [ares, aone, ↓set_get, Nat.reduceEqDiff, Bool.false_eq_true, ↓reduceIte, aenv0, aenvS, aenvN, one_ne]
      exact hK
    · intro h
      have h : ¬ 64 < n := by have := of_decide_eq_false h
                              omega
      rw [if_neg h] at hK
      refine asc ?_; refine awp_while (fun m ρ t => ∃ (done : List (List UInt8)) (rest : List UInt8) (d : D), All32 done ∧ done.length + m = n ∧ rest.length ≤ r.length ∧ unhN n r = (unhN m rest).map (fun p => (done ++ p.1, p.2)) ∧ Own σ 27 32 done.length (bytesD done.flatten) d t ∧ ρ 2 = d ∧ ρ 3 = .str rest ∧ ρ 5 = .int .u64 (m : Nat)) n ?_ ?_
      · refine ⟨[], r, .nil, fun x hx => (by cases hx), by simp, Nat.le_refl _, ?_, own_nil _ _ _, ?_, ?_, ?_⟩
        · cases unhN n r <;> simp
        · simp only [↓set_get, Nat.reduceEqDiff, Bool.false_eq_true, ↓reduceIte, aenv0, aenvS, aenvN, one_ne]
        · simp only [↓set_get, Nat.reduceEqDiff, Bool.false_eq_true, ↓reduceIte, aenv0, aenvS, aenvN, one_ne]
        · simp only [↓set_get, Nat.reduceEqDiff, Bool.false_eq_true, ↓reduceIte, aenv0, aenvS, aenvN, one_ne]
      · rintro m ρ t ⟨done, rest, d, a, hlen, hrest, hu, hown, h2, h3, h5⟩
        refine rs ?_
        refine runMX h5 ?_
        refine al_done ?_
        refine asc ?_; refine ate ?_ ?_
        · intro hb
          have hb : 0 < m := by have := of_decide_eq_true hb
                                omega
          obtain ⟨m, rfl⟩ : ∃ j, m = j + 1 := ⟨m - 1, by omega⟩
          refine asc ?_; refine awp_body ?_
          refine rs ?_
          refine runMX h3 ?_
          (refine al_set ?_ ?_ ?_ ?_; rotate_left 2; (· intro K hK; refine S0 ?_; refine Or.inl (Unhash_c (by omega) ?_); exact hK))
          by_cases h32 : rest.length < 32
          · have ht : unhashB rest = none := by rw [unhashB, takeB, if_pos h32]
            have hnone : unhN n r = none := by rw [hu, unhN, if_pos h32]; rfl
            rw [hnone] at hK
            (repeat (refine al_set ?_ ?_ ?_ ?_; rotate_left 2; · intro K hK; simp (disch := omega) only [go_sem, ↓set_get, ↓reduceIte, ↓o_bsl, ↓o_build, Nat.reduceEqDiff, Nat.reduceAdd, Nat.reduceMul, Int.reduceEq, Int.reduceNe, ht, dUnhash]; (repeat' (first | exact hK | (refine And.intro ?_ ?_) | assumption | omega))))
            (refine al_fresh ?_ ?_ ?_ ?_ ?_; rotate_left 3; (· intro K hK; refine S2 ?_; refine alloc_z zc27 ?_; exact hK))
            intro i hi
            (refine al_none ?_ ?_ ?_ ?_; rotate_left 2; (· intro K hK; refine S0 ?_; refine store_ptr tagg27 tsz27 (by rw [show cellsOf (D.agg (bytesD zero32)) = bytesD zero32 from rfl]; rfl) rfl (set_same _ _ _) (by simp) ?_; exact hK))
            rw [set_set]
            refine runM ?_
            refine al_done ?_
            refine rs ?_
            (repeat (refine al_set ?_ ?_ ?_ ?_; rotate_left 2; · intro K hK; simp (disch := omega) only [go_sem, ↓set_get, ↓reduceIte, ↓o_bsl, ↓o_build, Nat.reduceEqDiff, Nat.reduceAdd, Nat.reduceMul, Int.reduceEq, Int.reduceNe, Bool.not_false]; (repeat' (first | exact hK | (refine And.intro ?_ ?_) | assumption | omega))))
            refine al_done ?_
            refine asc ?_; refine ai ?_ ?_
            · intro _
              refine rs ?_
              refine runM ?_
              refine al_nil (rx_nil (t := 2) (by simp only [↓set_get, Nat.reduceEqDiff, Bool.false_eq_true, ↓reduceIte, aenv0, aenvS, aenvN, one_ne]) (.forget σ (St.le.trans (own_le hown) (le_set _ hi)) (.done ?_)))
              refine awp_ret (afin_ret (.done ?_)); simp only [ares, aone, ↓set_get, Nat.reduceEqDiff, Bool.false_eq_true, ↓reduceIte, aenv0, aenvS, aenvN, one_ne]
              exact hK
            · intro h; cases h
          · have ht : unhashB rest = some (rest.take 32, rest.drop 32) := by rw [unhashB, takeB, if_neg h32]
            have hl32 : (rest.take 32).length = 32 := by rw [List.length_take]; omega
            have hcl : (bytesD (rest.take 32)).length = 32 := by rw [length_bytesD]; exact hl32
            have hw : List.take 32 (List.drop 0 (bytesD (rest.take 32))) = bytesD (rest.take 32) := by rw [List.drop_zero, List.take_of_length_le (by omega)]
            have hu2 : unhN n r = (unhN m (rest.drop 32)).map (fun p => ((done ++ [rest.take 32]) ++ p.1, p.2)) := by
              rw [hu, unhN, if_neg h32]; cases unhN m (rest.drop 32) <;> simp
            (repeat (refine al_set ?_ ?_ ?_ ?_; rotate_left 2; · intro K hK; simp (disch := omega) only [go_sem, ↓set_get, ↓reduceIte, ↓o_bsl, ↓o_build, Nat.reduceEqDiff, Nat.reduceAdd, Nat.reduceMul, Int.reduceEq, Int.reduceNe, ht, dUnhash]; (repeat' (first | exact hK | (refine And.intro ?_ ?_) | assumption | omega))))
            (refine al_fresh ?_ ?_ ?_ ?_ ?_; rotate_left 3; (· intro K hK; refine S2 ?_; refine alloc_z zc27 ?_; exact hK))
            intro i hi
            (refine al_none ?_ ?_ ?_ ?_; rotate_left 2; (· intro K hK; refine S0 ?_; refine store_ptr tagg27 tsz27 hcl rfl (set_same _ _ _) (by simp) ?_; exact hK))
            rw [set_set, show cellsOf (D.agg (bytesD (rest.take 32))) = bytesD (rest.take 32) from rfl, splice_whole (by rw [hcl]; rfl)]
            have hσi := own_fresh hown hi
            have hof := own_frame (o := .cells (bytesD (rest.take 32)) 27) hown hi
            refine runM ?_
            refine al_done ?_
            refine rs ?_
            (repeat (refine al_set ?_ ?_ ?_ ?_; rotate_left 2; · intro K hK; simp (disch := omega) only [go_sem, ↓set_get, ↓reduceIte, ↓o_bsl, ↓o_build, Nat.reduceEqDiff, Nat.reduceAdd, Nat.reduceMul, Int.reduceEq, Int.reduceNe, Bool.not_true]; (repeat' (first | exact hK | (refine And.intro ?_ ?_) | assumption | omega))))
            refine al_done ?_
            refine asc ?_; refine ai ?_ ?_
            · intro h; cases h
            · intro _
              refine awp_region ?_
              refine runMX h2 ?_
              (refine al_set ?_ ?_ ?_ ?_; rotate_left 2; (· intro K hK; refine S0 ?_; refine loadA_ptr tagg27 tsz27 (set_same _ _ _) (by omega) ?_; exact hK))
              rw [hw]
              (refine al_set ?_ ?_ ?_ ?_; rotate_left 2; (· intro K hK; refine S0 ?_; refine bsl_agg0 elt23 zc27 rfl hcl (by decide) ?_; exact hK))
              (refine al_rel ?_ ?_ ?_; rotate_left 1; (· intro K hK; simp (disch := (first | omega | (simp only [length_bytesD, List.length_append, List.length_cons, List.length_nil, List.length_map, List.length_replicate, List.length_take, List.length_drop]; omega))) only [go_sem, ↓set_get, ↓reduceIte, ↓o_bsl, ↓o_build, Nat.reduceEqDiff, Nat.reduceAdd, Nat.reduceMul, Int.reduceEq, Int.reduceNe,  xcells_sl, hcl, h2]; refine own_app hof (by decide) hcl (by omega) ?_; exact hK))
              intro d' s' hown'
              obtain ⟨s3, hle3, hown3⟩ := own_unframe hown' hσi
              refine runM ?_
              refine al_nil (.forget s3 hle3 (.done ?_))
              refine awp_region ?_
              refine runMX h5 ?_
              refine al_nil ?_
              refine lq_next m (by omega) ⟨done ++ [rest.take 32], rest.drop 32, d', a.snoc hl32, by simp; omega, by rw [List.length_drop]; omega, hu2, ?_, ?_, ?_, ?_⟩
              · rw [List.length_append, List.flatten_append, bytesD_append]; simpa using hown3
              · simp only [↓set_get, Nat.reduceEqDiff, Bool.false_eq_true, ↓reduceIte, aenv0, aenvS, aenvN, one_ne]
              · simp only [↓set_get, Nat.reduceEqDiff, Bool.false_eq_true, ↓reduceIte, aenv0, aenvS, aenvN, one_ne]
              · simp only [↓set_get, Nat.reduceEqDiff, Bool.false_eq_true, ↓reduceIte, aenv0, aenvS, aenvN, one_ne]; congr 1; omega
        · intro hb
          have hb : m = 0 := by have := of_decide_eq_false hb
                                omega
          subst hb
          have hsome : unhN n r = some (done, rest) := by rw [hu, unhN]; simp
          rw [hsome] at hK
          refine lq_exit ?_
          refine rs ?_
          refine runMX (And.intro h2 h3) ?_
          refine al_nil (rx_own hown (t := 2) (by simp only [↓set_get, Nat.reduceEqDiff, Bool.false_eq_true, ↓reduceIte, aenv0, aenvS, aenvN, one_ne]) (.done ?_))
          refine awp_ret (afin_ret (.done ?_)); simp only [ares, aone, ↓set_get, Nat.reduceEqDiff, Bool.false_eq_true, ↓reduceIte, aenv0, aenvS, aenvN, one_ne]
          exact hK

theorem rUnhashes_c {s : List UInt8} (hs : s.length ≤ 140737488355328) (hK : K (dUnhs (unhashesB s)) σ) : ACalls prog γ 36 [.str s] σ K := by
  refine acalls_of_awp (by kernel_rfl) func36 rfl (by kernel_rfl) rfl rfl (by kernel_rfl) (Nat.le_of_ble_eq_true rfl) ?_
  refine rs ?_
  refine runM ?_
  refine al_done ?_
  refine rs ?_
  refine runM ?_
  (refine al_set ?_ ?_ ?_ ?_; rotate_left 2; (· intro K hK; refine S0 ?_; refine Or.inl (rRead_c hs ?_); exact hK))
  unfold unhashesB at hK
  cases hr : readB s with
  | none =>
    rw [hr] at hK
    (repeat (refine al_set ?_ ?_ ?_ ?_; rotate_left 2; · intro K hK; simp (disch := omega) only [go_sem, ↓set_get, ↓reduceIte, ↓o_bsl, ↓o_build, Nat.reduceEqDiff, Nat.reduceAdd, Nat.reduceMul, Int.reduceEq, Int.reduceNe, hr, dRead]; (repeat' (first | exact hK | (refine And.intro ?_ ?_) | assumption | omega))))
    refine al_done ?_
    refine rs ?_
    (repeat (first | (refine al_set ?_ ?_ ?_ ?_; rotate_left 2; · intro K hK; simp (disch := omega) only [go_sem, ↓set_get, ↓reduceIte, ↓o_bsl, ↓o_build, Nat.reduceEqDiff, Nat.reduceAdd, Nat.reduceMul, Int.reduceEq, Int.reduceNe, Bool.not_false]; (repeat' (first | exact hK | (refine And.intro ?_ ?_) | assumption | omega))) | (refine al_guard (b := true) rfl ?_ (fun _ => ?_) (fun h => absurd rfl h); · simp only [↓set_get, Nat.reduceEqDiff, Bool.false_eq_true, ↓reduceIte, aenv0, aenvS, aenvN, one_ne, Bool.not_false]; done) | (refine al_guard (b := false) rfl ?_ (fun _ => ?_) (fun h => absurd rfl h); · simp only [↓set_get, Nat.reduceEqDiff, Bool.false_eq_true, ↓reduceIte, aenv0, aenvS, aenvN, one_ne, Bool.not_false]; done) | (refine al_guard (b := true) rfl ?_ (fun h => Bool.noConfusion h) (fun _ => ?_); · simp only [↓set_get, Nat.reduceEqDiff, Bool.false_eq_true, ↓reduceIte, aenv0, aenvS, aenvN, one_ne, Bool.not_false]; done) | (refine al_guard (b := false) rfl ?_ (fun h => Bool.noConfusion h) (fun _ => ?_); · simp only [↓set_get, Nat.reduceEqDiff, Bool.false_eq_true, ↓reduceIte, aenv0, aenvS, aenvN, one_ne, Bool.not_false]; done) | (refine al_guard0 rfl ?_ ?_; · simp only [↓set_get, Nat.reduceEqDiff, Bool.false_eq_true, ↓reduceIte, aenv0, aenvS, aenvN, one_ne, Bool.not_false]; done)))
    refine al_done ?_
    refine asc ?_; refine ai ?_ ?_
    · intro _
      refine rs ?_
      refine runM ?_
      refine al_nil (rx_nil (t := 2) (by simp only [↓set_get, Nat.reduceEqDiff, Bool.false_eq_true, ↓reduceIte, aenv0, aenvS, aenvN, one_ne]) (.done ?_))
      refine awp_ret (afin_ret (.done ?_)); simp only [ares, aone, ↓set_get, Nat.reduceEqDiff, Bool.false_eq_true, ↓reduceIte, aenv0, aenvS, aenvN, one_ne]
      exact hK
    · intro h; cases h
  | some p =>
    obtain ⟨n, r⟩ := p
    obtain ⟨hrl, hn⟩ := readB_len hr
    rw [hr] at hK
    simp only at hK
    (repeat (refine al_set ?_ ?_ ?_ ?_; rotate_left 2; · intro K hK; simp (disch := omega) only [go_sem, ↓set_get, ↓reduceIte, ↓o_bsl, ↓o_build, Nat.reduceEqDiff, Nat.reduceAdd, Nat.reduceMul, Int.reduceEq, Int.reduceNe, hr, dRead]; (repeat' (first | exact hK | (refine And.intro ?_ ?_) | assumption | omega))))
    refine al_done ?_
    refine asc ?_; refine awp_rj (fun ρ' s' => s' = σ ∧ ρ' 5 = .int .u64 (n : Nat) ∧ ρ' 6 = .str r ∧ ρ' 32 = .bool (decide (64 < n ∨ r.length < 32 * n))) ?_ ?_
    · intro K' hJ
      by_cases h64 : 64 < n
      · have e1 : decide ((n : Int) > 64) = true := by simp; omega
        (repeat (first | (refine al_set ?_ ?_ ?_ ?_; rotate_left 2; · intro K hK; simp (disch := omega) only [go_sem, ↓set_get, ↓reduceIte, ↓o_bsl, ↓o_build, Nat.reduceEqDiff, Nat.reduceAdd, Nat.reduceMul, Int.reduceEq, Int.reduceNe, Bool.not_true, e1]; (repeat' (first | exact hK | (refine And.intro ?_ ?_) | assumption | omega))) | (refine al_guard (b := true) rfl ?_ (fun _ => ?_) (fun h => absurd rfl h); · simp only [↓set_get, Nat.reduceEqDiff, Bool.false_eq_true, ↓reduceIte, aenv0, aenvS, aenvN, one_ne, Bool.not_true, e1]; done) | (refine al_guard (b := false) rfl ?_ (fun _ => ?_) (fun h => absurd rfl h); · simp only [↓set_get, Nat.reduceEqDiff, Bool.false_eq_true, ↓reduceIte, aenv0, aenvS, aenvN, one_ne, Bool.not_true, e1]; done) | (refine al_guard (b := true) rfl ?_ (fun h => Bool.noConfusion h) (fun _ => ?_); · simp only [↓set_get, Nat.reduceEqDiff, Bool.false_eq_true, ↓reduceIte, aenv0, aenvS, aenvN, one_ne, Bool.not_true, e1]; done) | (refine al_guard (b := false) rfl ?_ (fun h => Bool.noConfusion h) (fun _ => ?_); · simp only [↓set_get, Nat.reduceEqDiff, Bool.false_eq_true, ↓reduceIte, aenv0, aenvS, aenvN, one_ne, Bool.not_true, e1]; done) | (refine al_guard0 rfl ?_ ?_; · simp only [↓set_get, Nat.reduceEqDiff, Bool.false_eq_true, ↓reduceIte, aenv0, aenvS, aenvN, one_ne, Bool.not_true, e1]; done)))
        refine al_nil (hJ _ _ ?_)
        simp only [↓set_get, Nat.reduceEqDiff, Bool.false_eq_true, ↓reduceIte, aenv0, aenvS, aenvN, one_ne, h64, true_and, true_or, decide_true]
      · have e1 : decide ((n : Int) > 64) = false := by simp; omega
        (repeat (first | (refine al_set ?_ ?_ ?_ ?_; rotate_left 2; · intro K hK; simp (disch := omega) only [go_sem, ↓set_get, ↓reduceIte, ↓o_bsl, ↓o_build, Nat.reduceEqDiff, Nat.reduceAdd, Nat.reduceMul, Int.reduceEq, Int.reduceNe, Bool.not_true, e1]; (repeat' (first | exact hK | (refine And.intro ?_ ?_) | assumption | omega))) | (refine al_guard (b := true) rfl ?_ (fun _ => ?_) (fun h => absurd rfl h); · simp only [↓set_get, Nat.reduceEqDiff, Bool.false_eq_true, ↓reduceIte, aenv0, aenvS, aenvN, one_ne, Bool.not_true, e1]; done) | (refine al_guard (b := false) rfl ?_ (fun _ => ?_) (fun h => absurd rfl h); · simp only [↓set_get, Nat.reduceEqDiff, Bool.false_eq_true, ↓reduceIte, aenv0, aenvS, aenvN, one_ne, Bool.not_true, e1]; done) | (refine al_guard (b := true) rfl ?_ (fun h => Bool.noConfusion h) (fun _ => ?_); · simp only [↓set_get, Nat.reduceEqDiff, Bool.false_eq_true, ↓reduceIte, aenv0, aenvS, aenvN, one_ne, Bool.not_true, e1]; done) | (refine al_guard (b := false) rfl ?_ (fun h => Bool.noConfusion h) (fun _ => ?_); · simp only [↓set_get, Nat.reduceEqDiff, Bool.false_eq_true, ↓reduceIte, aenv0, aenvS, aenvN, one_ne, Bool.not_true, e1]; done) | (refine al_guard0 rfl ?_ ?_; · simp only [↓set_get, Nat.reduceEqDiff, Bool.false_eq_true, ↓reduceIte, aenv0, aenvS, aenvN, one_ne, Bool.not_true, e1]; done)))
        refine al_nil (hJ _ _ ?_)
        simp only [↓set_get, Nat.reduceEqDiff, Bool.false_eq_true, ↓reduceIte, aenv0, aenvS, aenvN, one_ne, h64, true_and, false_or, D.bool.injEq, decide_eq_decide]
        omega
    rintro ρ1 t1 ⟨rfl, g5, g6, g32⟩
    refine asc ?_; refine aiX g32 ?_ ?_
    · intro h
      have h : 64 < n ∨ r.length < 32 * n := of_decide_eq_true h
      have hK : K (dUnhs none) t1 := by
        split at hK
        · exact hK
        · rw [unhN_short n r (by omega)] at hK; exact hK
      refine rs ?_
      refine runM ?_
      refine al_nil (rx_nil (t := 2) (by simp only [↓set_get, Nat.reduceEqDiff, Bool.false_eq_true, ↓reduceIte, aenv0, aenvS, aenvN, one_ne]) (.done ?_))
      refine awp_ret (afin_ret (.done ?_)); simp only [ares, aone, ↓set_get, Nat.reduceEqDiff, Bool.false_eq_true, ↓reduceIte, aenv0, aenvS, aenvN, one_ne]
      exact hK
    · intro h
      have h : ¬ (64 < n ∨ r.length < 32 * n) := of_decide_eq_false h
      rw [if_neg (by omega)] at hK
      refine rs ?_
      refine runM ?_
      refine al_done ?_
      refine rs ?_
      refine runM ?_
      refine al_done ?_
      refine asc ?_; refine awp_while (fun m ρ t => ∃ (done : List (List UInt8)) (rest : List UInt8) (d : D), All32 done ∧ done.length + m = n ∧ rest.length ≤ r.length ∧ 32 * m ≤ rest.length ∧ unhN n r = (unhN m rest).map (fun p => (done ++ p.1, p.2)) ∧ Own t1 27 32 done.length (bytesD done.flatten) d t ∧ ρ 8 = d ∧ ρ 6 = .str rest ∧ ρ 5 = .int .u64 (n : Nat) ∧ ρ 9 = .int .i64 (done.length : Nat)) n ?_ ?_
      · refine ⟨[], r, .nil, fun x hx => (by cases hx), by simp, Nat.le_refl _, by omega, ?_, own_nil _ _ _, ?_, ?_, ?_, ?_⟩
        · cases unhN n r <;> simp
        · simp only [↓set_get, Nat.reduceEqDiff, Bool.false_eq_true, ↓reduceIte, aenv0, aenvS, aenvN, one_ne]
        · simp only [↓set_get, Nat.reduceEqDiff, Bool.false_eq_true, ↓reduceIte, aenv0, aenvS, aenvN, one_ne, g6]
        · simp only [↓set_get, Nat.reduceEqDiff, Bool.false_eq_true, ↓reduceIte, aenv0, aenvS, aenvN, one_ne, g5]
        · simp only [↓set_get, Nat.reduceEqDiff, Bool.false_eq_true, ↓reduceIte, aenv0, aenvS, aenvN, one_ne]; rfl
      · rintro m ρ t ⟨done, rest, d, a, hlen, hrest, hmr, hu, hown, h8, h6, h5, h9⟩
        refine rs ?_
        refine runMX (And.intro h5 h9) ?_
        refine al_done ?_
        refine asc ?_; refine ate ?_ ?_
        · intro hb
          have hb : done.length < n := by have := of_decide_eq_true hb
                                          omega
          obtain ⟨m, rfl⟩ : ∃ j, m = j + 1 := ⟨m - 1, by omega⟩
          have h32 : ¬ rest.length < 32 := by omega
          have ht : unhashB rest = some (rest.take 32, rest.drop 32) := by rw [unhashB, takeB, if_neg h32]
          have hl32 : (rest.take 32).length = 32 := by rw [List.length_take]; omega
          have hcl : (bytesD (rest.take 32)).length = 32 := by rw [length_bytesD]; exact hl32
          have hw : List.take 32 (List.drop 0 (bytesD (rest.take 32))) = bytesD (rest.take 32) := by rw [List.drop_zero, List.take_of_length_le (by omega)]
          have hu2 : unhN n r = (unhN m (rest.drop 32)).map (fun p => ((done ++ [rest.take 32]) ++ p.1, p.2)) := by
            rw [hu, unhN, if_neg h32]; cases unhN m (rest.drop 32) <;> simp
          refine asc ?_; refine awp_body ?_
          refine rs ?_
          refine runMX h6 ?_
          (refine al_set ?_ ?_ ?_ ?_; rotate_left 2; (· intro K hK; refine S0 ?_; refine Or.inl (rUnhash_c (by omega) ?_); exact hK))
          (repeat (refine al_set ?_ ?_ ?_ ?_; rotate_left 2; · intro K hK; simp (disch := omega) only [go_sem, ↓set_get, ↓reduceIte, ↓o_bsl, ↓o_build, Nat.reduceEqDiff, Nat.reduceAdd, Nat.reduceMul, Int.reduceEq, Int.reduceNe, ht, dUnhash]; (repeat' (first | exact hK | (refine And.intro ?_ ?_) | assumption | omega))))
          (refine al_fresh ?_ ?_ ?_ ?_ ?_; rotate_left 3; (· intro K hK; refine S2 ?_; refine alloc_z zc27 ?_; exact hK))
          intro i hi
          (refine al_none ?_ ?_ ?_ ?_; rotate_left 2; (· intro K hK; refine S0 ?_; refine store_ptr tagg27 tsz27 hcl rfl (set_same _ _ _) (by simp) ?_; exact hK))
          rw [set_set, show cellsOf (D.agg (bytesD (rest.take 32))) = bytesD (rest.take 32) from rfl, splice_whole (by rw [hcl]; rfl)]
          have hσi := own_fresh hown hi
          have hof := own_frame (o := .cells (bytesD (rest.take 32)) 27) hown hi
          refine runM ?_
          refine al_done ?_
          refine awp_region ?_
          refine runMX h8 ?_
          (refine al_set ?_ ?_ ?_ ?_; rotate_left 2; (· intro K hK; refine S0 ?_; refine loadA_ptr tagg27 tsz27 (set_same _ _ _) (by omega) ?_; exact hK))
          rw [hw]
          (refine al_set ?_ ?_ ?_ ?_; rotate_left 2; (· intro K hK; refine S0 ?_; refine bsl_agg0 elt23 zc27 rfl hcl (by decide) ?_; exact hK))
          (refine al_rel ?_ ?_ ?_; rotate_left 1; (· intro K hK; simp (disch := (first | omega | (simp only [length_bytesD, List.length_append, List.length_cons, List.length_nil, List.length_map, List.length_replicate, List.length_take, List.length_drop]; omega))) only [go_sem, ↓set_get, ↓reduceIte, ↓o_bsl, ↓o_build, Nat.reduceEqDiff, Nat.reduceAdd, Nat.reduceMul, Int.reduceEq, Int.reduceNe,  xcells_sl, hcl, h8]; refine own_app hof (by decide) hcl (by omega) ?_; exact hK))
          intro d' s' hown'
          obtain ⟨s3, hle3, hown3⟩ := own_unframe hown' hσi
          refine runM ?_
          refine al_nil (.forget s3 hle3 (.done ?_))
          refine awp_region ?_
          refine runMX h9 ?_
          refine al_nil ?_
          refine lq_next m (by omega) ⟨done ++ [rest.take 32], rest.drop 32, d', a.snoc hl32, by simp; omega, by rw [List.length_drop]; omega, by rw [List.length_drop]; omega, hu2, ?_, ?_, ?_, ?_, ?_⟩
          · rw [List.length_append, List.flatten_append, bytesD_append]; simpa using hown3
          · simp only [↓set_get, Nat.reduceEqDiff, Bool.false_eq_true, ↓reduceIte, aenv0, aenvS, aenvN, one_ne]
          · simp only [↓set_get, Nat.reduceEqDiff, Bool.false_eq_true, ↓reduceIte, aenv0, aenvS, aenvN, one_ne]
          · simp only [↓set_get, Nat.reduceEqDiff, Bool.false_eq_true, ↓reduceIte, aenv0, aenvS, aenvN, one_ne, h5]
          · simp only [↓set_get, Nat.reduceEqDiff, Bool.false_eq_true, ↓reduceIte, aenv0, aenvS, aenvN, one_ne, List.length_append, List.length_cons, List.length_nil]; rfl
        · intro hb
          have hb : m = 0 := by have := of_decide_eq_false hb
                                omega
          subst hb
          have hsome : unhN n r = some (done, rest) := by rw [hu, unhN]; simp
          rw [hsome] at hK
          refine lq_exit ?_
          refine rs ?_
          refine runMX (And.intro h8 h6) ?_
          refine al_nil (rx_own hown (t := 2) (by simp only [↓set_get, Nat.reduceEqDiff, Bool.false_eq_true, ↓reduceIte, aenv0, aenvS, aenvN, one_ne]) (.done ?_))
          refine awp_ret (afin_ret (.done ?_)); simp only [ares, aone, ↓set_get, Nat.reduceEqDiff, Bool.false_eq_true, ↓reduceIte, aenv0, aenvS, aenvN, one_ne]
          exact hK

theorem guard27 : prog.eqGuardType prog.depth 27 = false := by kernel_rfl
theorem kinds27 : kinds prog 20 27 = some (List.replicate 32 (.int .u8)) := by kernel_rfl
/-- Are two lists the same? -/
theorem Same_c {hs gs : List (List UInt8)} {tk tk' : Option (Nat × Nat)} (a : All32 hs) (b : All32 gs) (hb0 : hs.length ≤ 4398046511104) (hK : K (.bool (decide (hs = gs))) σ) : ACalls prog γ 37 [.sl hs.length (bytesD hs.flatten) tk, .sl gs.length (bytesD gs.flatten) tk'] σ K := by
  refine acalls_of_awp (by kernel_rfl) func37 rfl (by kernel_rfl) rfl rfl (by kernel_rfl) (Nat.le_of_ble_eq_true rfl) ?_
  refine rs ?_
  refine runM ?_
  refine al_done ?_
  refine rs ?_
  refine runM ?_
  refine al_done ?_
  refine asc ?_; refine ai ?_ ?_
  · intro h
    have h : ¬ hs = gs := by rintro rfl; simp at h
    refine rs ?_
    refine runM ?_
    refine rets ?_
    simpa [h] using hK
  · intro h
    have h : hs.length = gs.length := by have : ¬ ((hs.length : Int) ≠ gs.length) := by simpa using h
                                         omega
    refine rs ?_
    refine runM ?_
    refine al_done ?_
    refine asc ?_; refine awp_while (fun m ρ t => t = σ ∧ ∃ k : Nat, m = hs.length - k ∧ k ≤ hs.length ∧ (∀ j (hj : j < k) (h1 : j < hs.length) (h2 : j < gs.length), hs[j] = gs[j]) ∧ ρ 0 = .sl hs.length (bytesD hs.flatten) tk ∧ ρ 1 = .sl gs.length (bytesD gs.flatten) tk' ∧ ρ 5 = .int .i64 (k : Nat)) hs.length ?_ ?_
    · refine ⟨rfl, 0, rfl, by omega, fun j hj => by omega, ?_, ?_, ?_⟩
      · simp only [↓set_get, Nat.reduceEqDiff, Bool.false_eq_true, ↓reduceIte, aenv0, aenvS, aenvN, one_ne]
      · simp only [↓set_get, Nat.reduceEqDiff, Bool.false_eq_true, ↓reduceIte, aenv0, aenvS, aenvN, one_ne]
      · simp only [↓set_get, Nat.reduceEqDiff, Bool.false_eq_true, ↓reduceIte, aenv0, aenvS, aenvN, one_ne]; rfl
    · rintro m ρ t ⟨rfl, k, rfl, hk, heq, h0, h1, h5⟩
      refine rs ?_
      refine runMX (And.intro h0 h5) ?_
      refine al_done ?_
      refine asc ?_; refine ate ?_ ?_
      · intro hb
        have hb : k < hs.length := by have := of_decide_eq_true hb
                                      omega
        have hb' : k < gs.length := by omega
        have l1 := a hs[k] (List.getElem_mem hb)
        have l2 := b gs[k] (List.getElem_mem hb')
        refine asc ?_; refine awp_body ?_
        refine asc ?_; refine awp_pure (by kernel_rfl) ?_
        (repeat (refine ap_set ?_ ?_ ?_; rotate_left 1; · intro K hK; simp (disch := omega) only [go_sem, ↓set_get, ↓reduceIte, ↓o_bsl, ↓o_build, Nat.reduceEqDiff, Nat.reduceAdd, Nat.reduceMul, Int.reduceEq, Int.reduceNe, h0, h1, h5, Int.toNat_natCast]; (repeat' (first | exact hK | (refine And.intro ?_ ?_) | assumption | omega))))
        (refine ap_set ?_ ?_ ?_; rotate_left 1; (· intro K hK; refine S0 ?_; refine loadA_e tagg27 tsz27 (by rw [cells_len a]; omega) ?_; exact hK))
        rw [cells_at a hb]
        (repeat (refine ap_set ?_ ?_ ?_; rotate_left 1; · intro K hK; simp (disch := omega) only [go_sem, ↓set_get, ↓reduceIte, ↓o_bsl, ↓o_build, Nat.reduceEqDiff, Nat.reduceAdd, Nat.reduceMul, Int.reduceEq, Int.reduceNe, h0, h1, h5, Int.toNat_natCast]; (repeat' (first | exact hK | (refine And.intro ?_ ?_) | assumption | omega))))
        (refine ap_set ?_ ?_ ?_; rotate_left 1; (· intro K hK; refine S0 ?_; refine loadA_e tagg27 tsz27 (by rw [cells_len b]; omega) ?_; exact hK))
        rw [cells_at b hb']
        (refine ap_set ?_ ?_ ?_; rotate_left 1; (· intro K hK; refine S0 ?_; refine abin_agg tagg27 guard27 kinds27 (fits_bytes 32 _ l1) (fits_bytes 32 _ l2) (eqL_bytes _ _ (by omega)) ?_; exact hK))
        refine ap_done ?_
        refine ac ?_ ?_
        · intro hne
          have hne : ¬ hs = gs := by
            rintro rfl; simp at hne
          refine rs ?_
          refine runM ?_
          refine rets ?_
          simpa [hne] using hK
        · intro he
          have he : hs[k] = gs[k] := by simpa using he
          refine awp_skip (Rx.done ?_)
          refine awp_region ?_
          refine runMX h5 ?_
          refine al_nil ?_
          refine lq_next (hs.length - (k + 1)) (by omega) ⟨rfl, k + 1, rfl, by omega, ?_, ?_, ?_, ?_⟩
          · intro j hj h1 h2
            rcases Nat.lt_or_ge j k with hjk | hjk
            · exact heq j hjk h1 h2
            · have : j = k := by omega
              subst this; exact he
          · simp only [↓set_get, Nat.reduceEqDiff, Bool.false_eq_true, ↓reduceIte, aenv0, aenvS, aenvN, one_ne, h0]
          · simp only [↓set_get, Nat.reduceEqDiff, Bool.false_eq_true, ↓reduceIte, aenv0, aenvS, aenvN, one_ne, h1]
          · simp only [↓set_get, Nat.reduceEqDiff, Bool.false_eq_true, ↓reduceIte, aenv0, aenvS, aenvN, one_ne]; rfl
      · intro hb
        have hb : k = hs.length := by have := of_decide_eq_false hb
                                      omega
        subst hb
        have he : hs = gs := List.ext_getElem h fun j h1 h2 => heq j h1 h1 h2
        refine lq_exit ?_
        refine rs ?_
        refine runM ?_
        refine rets ?_
        simpa [he] using hK
end Go.Proofs.Try
