/- codec: lists of hashes put, walked. -/
import Derived.Test.YtgbfchagmniiiaaB1
import Derived.Test.YtgbfchagmniiiaaSp4
set_option maxRecDepth 8000
set_option linter.unusedSimpArgs false
set_option linter.unusedVariables false
namespace Go.Proofs.Try
open Go Go.Av
set_option pp.maxSteps 900
attribute [local irreducible] alist awp adraw apure
variable {γ : Gl} {σ : St} {K : D → St → Prop}

theorem rHashes_c {hs : List (List UInt8)} {tk : Option (Nat × Nat)} (a : All32 hs) (hb : hs.length ≤ 4398046511104) (hK : K (.str (hashesB hs)) σ) : ACalls prog γ 28 [.sl hs.length (bytesD hs.flatten) tk] σ K := by
  refine acalls_of_awp (by kernel_rfl) func28 rfl (by kernel_rfl) rfl rfl (by kernel_rfl) (Nat.le_of_ble_eq_true rfl) ?_
  refine rs ?_
  refine runM ?_
  refine al_done ?_
  refine rs ?_
  refine runM ?_
  refine al_done ?_
  refine asc ?_; refine ai ?_ ?_
  · intro h
    have h : 64 < hs.length := by have := of_decide_eq_true h
                                  omega
    refine rs ?_
    refine runM ?_
    refine rets ?_
    rw [hashesB, if_pos h] at hK; exact hK
  · intro h
    have h : ¬ 64 < hs.length := by have := of_decide_eq_false h
                                    omega
    rw [hashesB, if_neg h] at hK
    have hn10 := length_numB (n := hs.length) (by omega)
    refine rs ?_
    refine runM ?_
    (refine al_set ?_ ?_ ?_ ?_; rotate_left 2; (· intro K hK; refine S0 ?_; refine Or.inl (rNum_c (by omega) (by omega) ?_); exact hK))
    refine runM ?_
    refine al_done ?_
    refine rs ?_
    refine runM ?_
    refine al_done ?_
    refine asc ?_; refine awp_while (fun m ρ t => t = σ ∧ ∃ k : Nat, m = hs.length - k ∧ k ≤ hs.length ∧ ρ 0 = .sl hs.length (bytesD hs.flatten) tk ∧ ρ 4 = .int .i64 (k : Nat) ∧ ρ 3 = .str (numB hs.length ++ (hs.take k).flatten)) hs.length ?_ ?_
    · refine ⟨rfl, 0, rfl, by omega, ?_, ?_, ?_⟩
      · simp only [↓set_get, Nat.reduceEqDiff, Bool.false_eq_true, ↓reduceIte, aenv0, aenvS, aenvN, one_ne]
      · simp only [↓set_get, Nat.reduceEqDiff, Bool.false_eq_true, ↓reduceIte, aenv0, aenvS, aenvN, one_ne]; rfl
      · simp only [↓set_get, Nat.reduceEqDiff, Bool.false_eq_true, ↓reduceIte, aenv0, aenvS, aenvN, one_ne, Int.toNat_natCast, List.take_zero, List.flatten_nil, List.append_nil]
    · rintro m ρ t ⟨rfl, k, rfl, hk, h0, h4, h3⟩
      refine rs ?_
      refine runMX (And.intro h0 h4) ?_
      refine al_done ?_
      refine asc ?_; refine ate ?_ ?_
      · intro hb2
        have hb2 : k < hs.length := by have := of_decide_eq_true hb2
                                       omega
        have hfl := flat_take_len a k
        have h32 := a hs[k] (List.getElem_mem hb2)
        refine asc ?_; refine awp_body ?_
        refine awp_region ?_
        (repeat (refine al_set ?_ ?_ ?_ ?_; rotate_left 2; · intro K hK; simp (disch := omega) only [go_sem, ↓set_get, ↓reduceIte, ↓o_bsl, ↓o_build, Nat.reduceEqDiff, Nat.reduceAdd, Nat.reduceMul, Int.reduceEq, Int.reduceNe, h0, h3, h4, Int.toNat_natCast]; (repeat' (first | exact hK | (refine And.intro ?_ ?_) | assumption | omega))))
        (refine al_set ?_ ?_ ?_ ?_; rotate_left 2; (· intro K hK; refine S0 ?_; refine loadA_e tagg27 tsz27 (by rw [cells_len a]; omega) ?_; exact hK))
        rw [cells_at a hb2]
        (refine al_set ?_ ?_ ?_ ?_; rotate_left 2; (· intro K hK; refine S0 ?_; refine Or.inl (rHash_c h32 ?_); exact hK))
        (refine al_set ?_ ?_ ?_ ?_; rotate_left 2; (· intro K hK; refine S0 ?_; refine And.intro (by rw [List.length_append]; omega) ?_; exact hK))
        refine runM ?_
        refine al_done ?_
        refine awp_region ?_
        refine runMX h4 ?_
        refine al_nil ?_
        refine lq_next (hs.length - (k + 1)) (by omega) ⟨rfl, k + 1, rfl, by omega, ?_, ?_, ?_⟩
        · simp only [↓set_get, Nat.reduceEqDiff, Bool.false_eq_true, ↓reduceIte, aenv0, aenvS, aenvN, one_ne, h0]
        · simp only [↓set_get, Nat.reduceEqDiff, Bool.false_eq_true, ↓reduceIte, aenv0, aenvS, aenvN, one_ne]; rfl
        · simp only [↓set_get, Nat.reduceEqDiff, Bool.false_eq_true, ↓reduceIte, aenv0, aenvS, aenvN, one_ne]; rw [flat_next hb2, List.append_assoc]
      · intro hb2
        have hb2 : k = hs.length := by have := of_decide_eq_false hb2
                                       omega
        subst hb2
        refine lq_exit ?_
        refine rs ?_
        refine runMX h3 ?_
        refine rets ?_
        rw [List.take_length]; exact hK

theorem Bld.frame {s : St} {id i : Nat} {l : List UInt8} {o : Ob} (h : Bld σ id l s) (hi : s i = none) : Bld (σ.set i o) id l (s.set i o) := by
  obtain ⟨h0, p, hp, ⟨rfl, rfl⟩ | ⟨t, h1, h2, rfl⟩⟩ := h
  · have hne : i ≠ id := by rintro rfl; rw [set_same] at hi; cases hi
    exact ⟨by rw [set_other _ (Ne.symm hne)]; exact h0, p, hp, .inl ⟨rfl, set_comm _ _ hne⟩⟩
  · have hne : i ≠ id := by rintro rfl; rw [set_same] at hi; cases hi
    rw [set_other _ hne] at hi
    have hnt : i ≠ t := by rintro rfl; rw [set_same] at hi; cases hi
    refine ⟨by rw [set_other _ (Ne.symm hne)]; exact h0, p, hp, .inr ⟨t, by rw [set_other _ (Ne.symm hnt)]; exact h1, h2, ?_⟩⟩
    rw [set_comm _ _ hne, set_comm _ _ hnt]
theorem Bld.unframe {s : St} {id i : Nat} {l : List UInt8} {o : Ob} (h : Bld (σ.set i o) id l s) (hi : σ i = none) : ∃ s', s'.le s ∧ Bld σ id l s' := by
  obtain ⟨h0, p, hp, h⟩ := h
  obtain ⟨hne, h0⟩ := fresh_ne h0
  rcases h with ⟨rfl, rfl⟩ | ⟨t, h1, h2, rfl⟩
  · refine ⟨σ.set id (.cells [p, .nil] 122), ?_, h0, p, hp, .inl ⟨rfl, rfl⟩⟩
    rw [set_comm _ _ hne]
    exact le_set _ (by rw [set_other _ (Ne.symm hne)]; exact hi)
  · obtain ⟨hnt, h1⟩ := fresh_ne h1
    refine ⟨(σ.set t (.tok 5 (bytesD l))).set id (.cells [p, .sl l.length (bytesD l) (some (t, 1))] 122), ?_, h0, p, hp, .inr ⟨t, h1, h2, rfl⟩⟩
    rw [set_comm _ _ hnt, set_comm _ _ hne]
    exact le_set _ (by rw [set_other _ (Ne.symm hne), set_other _ (Ne.symm hnt)]; exact hi)

theorem Hashes_c {hs : List (List UInt8)} {tk : Option (Nat × Nat)} (a : All32 hs) (hb : hs.length ≤ 4398046511104) (hK : K (.str (hashesB hs)) σ) : ACalls prog γ 27 [.sl hs.length (bytesD hs.flatten) tk] σ K := by
  refine acalls_of_awp (by kernel_rfl) func27 rfl (by kernel_rfl) rfl rfl (by kernel_rfl) (Nat.le_of_ble_eq_true rfl) ?_
  refine rs ?_
  refine runM ?_
  refine al_done ?_
  refine rs ?_
  refine runM ?_
  refine al_done ?_
  refine asc ?_; refine ai ?_ ?_
  · intro h
    have h : 64 < hs.length := by have := of_decide_eq_true h
                                  omega
    refine rs ?_
    refine runM ?_
    refine rets ?_
    rw [hashesB, if_pos h] at hK; exact hK
  · intro h
    have h : ¬ 64 < hs.length := by have := of_decide_eq_false h
                                    omega
    rw [hashesB, if_neg h] at hK
    have hn10 := length_numB (n := hs.length) (by omega)
    refine rs ?_
    (refine al_fresh ?_ ?_ ?_ ?_ ?_; rotate_left 3; (· intro K hK; refine S2 ?_; refine alloc_z zc122 ?_; exact hK))
    intro id hid
    refine al_done ?_
    have hb0 : Bld σ id [] (σ.set id (.cells [.nilp, .nil] 122)) := ⟨hid, .nilp, .inl rfl, .inl ⟨rfl, rfl⟩⟩
    refine rs ?_
    refine runM ?_
    (refine al_set ?_ ?_ ?_ ?_; rotate_left 2; (· intro K hK; refine S0 ?_; refine Or.inl (Num_c (by omega) (by omega) ?_); exact hK))
    (refine al_rel (fun d s => d = .tup [.int .i64 (((numB hs.length).length : Nat) : Int), .nili] ∧ Bld σ id (numB hs.length) s) ?_ ?_; · intro K hK; simp (disch := omega) only [go_sem, ↓set_get, ↓reduceIte, ↓o_bsl, ↓o_build, Nat.reduceEqDiff, Nat.reduceAdd, Nat.reduceMul, Int.reduceEq, Int.reduceNe]; refine Or.inl (WriteString_c hb0 (by rw [Int.toNat_natCast]; simp; omega) ?_); intro s' hs'; exact hK _ _ ⟨by rw [Int.toNat_natCast], by rw [Int.toNat_natCast] at hs'; exact hs'⟩)
    rintro d1 s1 ⟨rfl, hb1⟩
    refine al_done ?_
    refine rs ?_
    refine runM ?_
    refine al_done ?_
    refine asc ?_; refine awp_while (fun m ρ t => ∃ k : Nat, m = hs.length - k ∧ k ≤ hs.length ∧ Bld σ id (numB hs.length ++ (hs.take k).flatten) t ∧ ρ 3 = .ptr id 0 ∧ ρ 14 = .sl hs.length (bytesD hs.flatten) tk ∧ ρ 15 = .int .i64 (hs.length : Nat) ∧ ρ 16 = .int .i64 (k : Nat)) hs.length ?_ ?_
    · refine ⟨0, rfl, by omega, ?_, ?_, ?_, ?_, ?_⟩
      · simpa using hb1
      · simp only [↓set_get, Nat.reduceEqDiff, Bool.false_eq_true, ↓reduceIte, aenv0, aenvS, aenvN, one_ne]
      · simp only [↓set_get, Nat.reduceEqDiff, Bool.false_eq_true, ↓reduceIte, aenv0, aenvS, aenvN, one_ne]
      · simp only [↓set_get, Nat.reduceEqDiff, Bool.false_eq_true, ↓reduceIte, aenv0, aenvS, aenvN, one_ne]
      · simp only [↓set_get, Nat.reduceEqDiff, Bool.false_eq_true, ↓reduceIte, aenv0, aenvS, aenvN, one_ne]; rfl
    · rintro m ρ t ⟨k, rfl, hk, hbk, h3, h14, h15, h16⟩
      refine rs ?_
      refine runMX (And.intro h15 h16) ?_
      refine al_done ?_
      refine asc ?_; refine ate ?_ ?_
      · intro hb2
        have hb2 : k < hs.length := by have := of_decide_eq_true hb2
                                       omega
        have hfl := flat_take_len a k
        have h32 := a hs[k] (List.getElem_mem hb2)
        have hcl : (bytesD hs[k]).length = 32 := by rw [length_bytesD]; exact h32
        have hw : List.take 32 (List.drop 0 (bytesD hs[k])) = bytesD hs[k] := by rw [List.drop_zero, List.take_of_length_le (by omega)]
        refine asc ?_; refine awp_body ?_
        refine rs ?_
        (repeat (refine al_set ?_ ?_ ?_ ?_; rotate_left 2; · intro K hK; simp (disch := omega) only [go_sem, ↓set_get, ↓reduceIte, ↓o_bsl, ↓o_build, Nat.reduceEqDiff, Nat.reduceAdd, Nat.reduceMul, Int.reduceEq, Int.reduceNe, h14, h16, Int.toNat_natCast]; (repeat' (first | exact hK | (refine And.intro ?_ ?_) | assumption | omega))))
        (refine al_set ?_ ?_ ?_ ?_; rotate_left 2; (· intro K hK; refine S0 ?_; refine loadA_e tagg27 tsz27 (by rw [cells_len a]; omega) ?_; exact hK))
        rw [cells_at a hb2]
        (refine al_fresh ?_ ?_ ?_ ?_ ?_; rotate_left 3; (· intro K hK; refine S2 ?_; refine alloc_z zc27 ?_; exact hK))
        intro i hi
        rw [zero_cells]
        refine runM ?_
        (refine al_none ?_ ?_ ?_ ?_; rotate_left 2; (· intro K hK; refine S0 ?_; refine store_ptr tagg27 tsz27 hcl rfl (set_same _ _ _) (by decide) ?_; exact hK))
        rw [set_set, show cellsOf (D.agg (bytesD hs[k])) = bytesD hs[k] from rfl, splice_whole (by rw [hcl]; rfl)]
        have hσi : σ i = none := by
          cases hq : σ i with
          | none => rfl
          | some o => have := hbk.le i o hq; rw [hi] at this; cases this
        have hbf := hbk.frame (o := .cells (bytesD hs[k]) 27) hi
        refine al_done ?_
        refine awp_region ?_
        (refine al_set ?_ ?_ ?_ ?_; rotate_left 2; (· intro K hK; refine S0 ?_; refine loadA_ptr tagg27 tsz27 (set_same _ _ _) (by omega) ?_; exact hK))
        rw [hw]
        (refine al_set ?_ ?_ ?_ ?_; rotate_left 2; (· intro K hK; refine S0 ?_; refine Or.inl (Hash_c h32 ?_); exact hK))
        (refine al_rel (fun d s => d = .tup [.int .i64 ((hs[k].length : Nat) : Int), .nili] ∧ Bld (σ.set i (.cells (bytesD hs[k]) 27)) id (numB hs.length ++ (hs.take k).flatten ++ hs[k]) s) ?_ ?_; · intro K hK; simp (disch := omega) only [go_sem, ↓set_get, ↓reduceIte, ↓o_bsl, ↓o_build, Nat.reduceEqDiff, Nat.reduceAdd, Nat.reduceMul, Int.reduceEq, Int.reduceNe, h3]; refine Or.inl (WriteString_c hbf (by rw [List.length_append]; omega) ?_); intro s' hs'; exact hK _ _ ⟨rfl, hs'⟩)
        rintro d2 s2 ⟨rfl, hbn⟩
        obtain ⟨s3, hle3, hb3⟩ := hbn.unframe hσi
        refine al_nil (.forget s3 hle3 (.done ?_))
        refine awp_region ?_
        refine runMX h16 ?_
        refine al_nil ?_
        refine lq_next (hs.length - (k + 1)) (by omega) ⟨k + 1, rfl, by omega, ?_, ?_, ?_, ?_, ?_⟩
        · rw [flat_next hb2, ← List.append_assoc]; exact hb3
        · simp only [↓set_get, Nat.reduceEqDiff, Bool.false_eq_true, ↓reduceIte, aenv0, aenvS, aenvN, one_ne, h3]
        · simp only [↓set_get, Nat.reduceEqDiff, Bool.false_eq_true, ↓reduceIte, aenv0, aenvS, aenvN, one_ne, h14]
        · simp only [↓set_get, Nat.reduceEqDiff, Bool.false_eq_true, ↓reduceIte, aenv0, aenvS, aenvN, one_ne, h15]
        · simp only [↓set_get, Nat.reduceEqDiff, Bool.false_eq_true, ↓reduceIte, aenv0, aenvS, aenvN, one_ne]; rfl
      · intro hb2
        have hb2 : k = hs.length := by have := of_decide_eq_false hb2
                                       omega
        subst hb2
        rw [List.take_length] at hbk
        have hfl := flat_len a
        have hp := length_numB_pos hs.length
        refine lq_exit ?_
        refine rs ?_
        (refine al_rel (fun d s => d = .str (numB hs.length ++ hs.flatten) ∧ s = σ) ?_ ?_; · intro K hK; simp (disch := omega) only [go_sem, ↓set_get, ↓reduceIte, ↓o_bsl, ↓o_build, Nat.reduceEqDiff, Nat.reduceAdd, Nat.reduceMul, Int.reduceEq, Int.reduceNe, h3]; refine Or.inl (String_c hbk (by rw [List.length_append]; omega) (by rw [List.length_append]; omega) (hK _ _ ⟨rfl, rfl⟩)))
        rintro d3 s3 ⟨rfl, rfl⟩
        refine runM ?_
        refine rets ?_
        exact hK
end Go.Proofs.Try
