/- codec: hashes that stand ahead, walked. -/
import Derived.Test.YtgbfchagmniiiaaC5
set_option maxRecDepth 8000
set_option linter.unusedSimpArgs false
set_option linter.unusedVariables false
namespace Go.Proofs.Try
open Go Go.Av
set_option pp.maxSteps 900
attribute [local irreducible] alist awp adraw apure
variable {γ : Gl} {σ : St} {K : D → St → Prop}

theorem zero_cells : List.replicate 32 (D.int .u8 0) = bytesD zero32 := rfl

theorem Unhash_c {s : List UInt8} (hs : s.length ≤ 140737488355328) (hK : K (dUnhash (unhashB s)) σ) : ACalls prog γ 33 [.str s] σ K := by
  refine acalls_of_awp (by kernel_rfl) func33 rfl (by kernel_rfl) rfl rfl (by kernel_rfl) (Nat.le_of_ble_eq_true rfl) ?_
  refine rs ?_
  (refine al_fresh ?_ ?_ ?_ ?_ ?_; rotate_left 3; (· intro K hK; refine S2 ?_; refine alloc_z zc27 ?_; exact hK))
  intro id hid
  refine runM ?_
  refine al_done ?_
  refine rs ?_
  refine runM ?_
  (refine al_set ?_ ?_ ?_ ?_; rotate_left 2; (· intro K hK; refine S0 ?_; refine Or.inl (take_c hs (by omega) (by omega) ?_); exact hK))
  by_cases h32 : s.length < 32
  · have ht : takeB s 32 = none := by rw [takeB, if_pos h32]
    rw [unhashB, ht] at hK
    (repeat (refine al_set ?_ ?_ ?_ ?_; rotate_left 2; · intro K hK; simp (disch := omega) only [go_sem, ↓set_get, ↓reduceIte, ↓o_bsl, ↓o_build, Nat.reduceEqDiff, Nat.reduceAdd, Nat.reduceMul, Int.reduceEq, Int.reduceNe, Int.reduceToNat, ht, dCut]; (repeat' (first | exact hK | (refine And.intro ?_ ?_) | assumption | omega))))
    refine al_done ?_
    refine rs ?_
    (refine al_set ?_ ?_ ?_ ?_; rotate_left 2; (· intro K hK; refine S0 ?_; refine slice_ptr0 arr27 (by decide) (by decide) (set_same _ _ _) (by simp) ?_; exact hK))
    refine runM ?_
    (refine al_set ?_ ?_ ?_ ?_; rotate_left 2; (· intro K hK; refine S0 ?_; refine copy_str elt45 (set_same _ _ _) (m := 0) rfl (by simp) ?_; exact hK))
    refine al_done ?_
    simp only [set_set, List.take_zero, bytesD_nil, splice_none]
    refine rs ?_
    (refine al_set ?_ ?_ ?_ ?_; rotate_left 2; (· intro K hK; refine S0 ?_; refine loadA_ptr tagg27 tsz27 (set_same _ _ _) (by simp) ?_; exact hK))
    refine runM ?_
    (refine al_none ?_ ?_ ?_ ?_; rotate_left 2; (· intro K hK; refine S0 ?_; refine store_ptr tagg27 tsz27 (by simp [cellsOf]) rfl (set_same _ _ _) (by simp) ?_; exact hK))
    refine runM ?_
    refine al_done (awp_ret ?_)
    simp only [set_set]
    refine afin_cell σ (le_set _ hid) ?_
    simp only [ares, aone, ↓set_get, Nat.reduceEqDiff, Bool.false_eq_true, ↓reduceIte, aenv0, aenvS, aenvN, one_ne]
    have hw : List.take 32 (List.drop 0 (List.replicate 32 (D.int .u8 0))) = bytesD zero32 := rfl
    rw [hw, show cellsOf (D.agg (bytesD zero32)) = bytesD zero32 from rfl, zero_cells, splice_whole rfl]
    refine loadA_ptr tagg27 tsz27 (set_same _ _ _) (by decide) ?_
    exact hK
  · have ht : takeB s 32 = some (s.take 32, s.drop 32) := by rw [takeB, if_neg h32]
    rw [unhashB, ht] at hK
    have hl32 : (s.take 32).length = 32 := by simp; omega
    (repeat (refine al_set ?_ ?_ ?_ ?_; rotate_left 2; · intro K hK; simp (disch := omega) only [go_sem, ↓set_get, ↓reduceIte, ↓o_bsl, ↓o_build, Nat.reduceEqDiff, Nat.reduceAdd, Nat.reduceMul, Int.reduceEq, Int.reduceNe, Int.reduceToNat, ht, dCut]; (repeat' (first | exact hK | (refine And.intro ?_ ?_) | assumption | omega))))
    refine al_done ?_
    refine rs ?_
    (refine al_set ?_ ?_ ?_ ?_; rotate_left 2; (· intro K hK; refine S0 ?_; refine slice_ptr0 arr27 (by decide) (by decide) (set_same _ _ _) (by simp) ?_; exact hK))
    refine runM ?_
    (refine al_set ?_ ?_ ?_ ?_; rotate_left 2; (· intro K hK; refine S0 ?_; refine copy_str elt45 (set_same _ _ _) (m := 32) (by omega) (by simp) ?_; exact hK))
    refine al_done ?_
    simp only [set_set, List.take_take, Nat.min_self]
    rw [splice_whole (by rw [length_bytesD]; simp; omega)]
    refine rs ?_
    (refine al_set ?_ ?_ ?_ ?_; rotate_left 2; (· intro K hK; refine S0 ?_; refine loadA_ptr tagg27 tsz27 (set_same _ _ _) (by rw [length_bytesD]; omega) ?_; exact hK))
    refine runM ?_
    (refine al_none ?_ ?_ ?_ ?_; rotate_left 2; (· intro K hK; refine S0 ?_; refine store_ptr tagg27 tsz27 (by simp [cellsOf, length_bytesD]; omega) rfl (set_same _ _ _) (by rw [length_bytesD]; omega) ?_; exact hK))
    refine runM ?_
    refine al_done (awp_ret ?_)
    simp only [set_set]
    refine afin_cell σ (le_set _ hid) ?_
    simp only [ares, aone, ↓set_get, Nat.reduceEqDiff, Bool.false_eq_true, ↓reduceIte, aenv0, aenvS, aenvN, one_ne]
    have hw : List.take 32 (List.drop 0 (bytesD (s.take 32))) = bytesD (s.take 32) := by rw [List.drop_zero, List.take_of_length_le (by rw [length_bytesD]; omega)]
    rw [hw, show cellsOf (D.agg (bytesD (s.take 32))) = bytesD (s.take 32) from rfl, splice_whole rfl]
    refine loadA_ptr tagg27 tsz27 (set_same _ _ _) (by rw [length_bytesD]; omega) ?_
    rw [hw]
    exact hK

theorem rUnhash_c {s : List UInt8} (hs : s.length ≤ 140737488355328) (hK : K (dUnhash (unhashB s)) σ) : ACalls prog γ 34 [.str s] σ K := by
  refine acalls_of_awp (by kernel_rfl) func34 rfl (by kernel_rfl) rfl rfl (by kernel_rfl) (Nat.le_of_ble_eq_true rfl) ?_
  refine rs ?_
  (refine al_fresh ?_ ?_ ?_ ?_ ?_; rotate_left 3; (· intro K hK; refine S2 ?_; refine alloc_z zc27 ?_; exact hK))
  intro id hid
  refine runM ?_
  refine al_done ?_
  refine rs ?_
  (refine al_fresh ?_ ?_ ?_ ?_ ?_; rotate_left 3; (· intro K hK; refine S2 ?_; refine alloc_z zc27 ?_; exact hK))
  intro id2 hid2
  obtain ⟨hne, hid2'⟩ := fresh_ne hid2
  rw [zero_cells]
  refine al_done ?_
  refine rs ?_
  refine runM ?_
  refine al_done ?_
  have hle : ∀ a b, σ.le ((σ.set id a).set id2 b) := fun a b => St.le.trans (le_set _ hid) (le_set _ (by rw [set_other _ hne]; exact hid2'))
  refine asc ?_; refine ai ?_ ?_
  · intro hb
    have hb : s.length < 32 := by have := of_decide_eq_true hb
                                  omega
    have ht : takeB s 32 = none := by rw [takeB, if_pos hb]
    rw [unhashB, ht] at hK
    refine rs ?_
    (refine al_set ?_ ?_ ?_ ?_; rotate_left 2; (· intro K hK; refine S0 ?_; refine loadA_ptr tagg27 tsz27 (set_same _ _ _) (by decide) ?_; exact hK))
    (refine al_none ?_ ?_ ?_ ?_; rotate_left 2; (· intro K hK; refine S0 ?_; refine store_ptr tagg27 tsz27 (by decide) rfl (by rw [set_other _ (Ne.symm hne)]; exact set_same _ _ _) (by decide) ?_; exact hK))
    refine runM ?_
    refine al_done (awp_ret ?_)
    refine afin_cell σ ?_ ?_
    · exact fun j x e => by
        simp only [St.set]
        split
        · rename_i hj; subst hj; rw [hid] at e; cases e
        · split
          · rename_i hj; subst hj; rw [hid2'] at e; cases e
          · exact e
    · simp only [ares, aone, ↓set_get, Nat.reduceEqDiff, Bool.false_eq_true, ↓reduceIte, aenv0, aenvS, aenvN, one_ne]
      refine loadA_ptr tagg27 tsz27 (set_same _ _ _) (by decide) ?_
      exact hK
  · intro hb
    have hb : ¬ s.length < 32 := by have := of_decide_eq_false hb
                                    omega
    have ht : takeB s 32 = some (s.take 32, s.drop 32) := by rw [takeB, if_neg hb]
    rw [unhashB, ht] at hK
    refine rs ?_
    refine runM ?_
    refine al_done ?_
    refine asc ?_; refine awp_while (fun m ρ t => ∃ k : Nat, m = 32 - k ∧ k ≤ 32 ∧ t = (σ.set id (.cells (bytesD zero32) 27)).set id2 (.cells (bytesD (s.take k ++ zero32.drop k)) 27) ∧ ρ 0 = .str s ∧ ρ 2 = .ptr id 0 ∧ ρ 5 = .ptr id2 0 ∧ ρ 6 = .int .i64 (k : Nat)) 32 ?_ ?_
    · refine ⟨0, rfl, by omega, rfl, ?_, ?_, ?_, ?_⟩
      · simp only [↓set_get, Nat.reduceEqDiff, Bool.false_eq_true, ↓reduceIte, aenv0, aenvS, aenvN, one_ne]
      · simp only [↓set_get, Nat.reduceEqDiff, Bool.false_eq_true, ↓reduceIte, aenv0, aenvS, aenvN, one_ne]
      · simp only [↓set_get, Nat.reduceEqDiff, Bool.false_eq_true, ↓reduceIte, aenv0, aenvS, aenvN, one_ne]
      · simp only [↓set_get, Nat.reduceEqDiff, Bool.false_eq_true, ↓reduceIte, aenv0, aenvS, aenvN, one_ne]; rfl
    · rintro m ρ t ⟨k, rfl, hk, rfl, h0, h2, h5, h6⟩
      have hlen : (bytesD (s.take k ++ zero32.drop k)).length = 32 := by
        rw [length_bytesD, List.length_append, List.length_take, List.length_drop, show zero32.length = 32 from rfl]; omega
      refine rs ?_
      refine runMX h6 ?_
      refine al_done ?_
      refine asc ?_; refine ate ?_ ?_
      · intro hb2
        have hb2 : k < 32 := by have := of_decide_eq_true hb2
                                omega
        have hks : k < s.length := by omega
        refine asc ?_; refine awp_body ?_
        refine awp_region ?_
        (repeat (refine al_set ?_ ?_ ?_ ?_; rotate_left 2; · intro K hK; simp (disch := omega) only [go_sem, ↓set_get, ↓reduceIte, ↓o_bsl, ↓o_build, Nat.reduceEqDiff, Nat.reduceAdd, Nat.reduceMul, Int.reduceEq, Int.reduceNe, h0, h2, h5, h6, Int.toNat_natCast]; (repeat' (first | exact hK | (refine And.intro ?_ ?_) | assumption | omega))))
        (refine al_set ?_ ?_ ?_ ?_; rotate_left 2; (· intro K hK; refine S0 ?_; refine index_str isStr9 (by omega) (by rw [Int.toNat_natCast]; exact List.getElem?_eq_getElem hks) ?_; exact hK))
        (repeat (refine al_set ?_ ?_ ?_ ?_; rotate_left 2; · intro K hK; simp (disch := omega) only [go_sem, ↓set_get, ↓reduceIte, ↓o_bsl, ↓o_build, Nat.reduceEqDiff, Nat.reduceAdd, Nat.reduceMul, Int.reduceEq, Int.reduceNe, h0, h2, h5, h6, Int.toNat_natCast]; (repeat' (first | exact hK | (refine And.intro ?_ ?_) | assumption | omega))))
        (refine al_none ?_ ?_ ?_ ?_; rotate_left 2; (· intro K hK; refine S0 ?_; refine store_ptr tagg5 tsz5 rfl rfl (set_same _ _ _) (by omega) ?_; exact hK))
        refine al_done ?_
        rw [set_set]
        refine awp_region ?_
        refine runMX h6 ?_
        refine al_nil ?_
        refine lq_next (32 - (k + 1)) (by omega) ⟨k + 1, rfl, by omega, ?_, ?_, ?_, ?_, ?_⟩
        · congr 2
          exact splice_next hks hb2
        · simp only [↓set_get, Nat.reduceEqDiff, Bool.false_eq_true, ↓reduceIte, aenv0, aenvS, aenvN, one_ne, h0]
        · simp only [↓set_get, Nat.reduceEqDiff, Bool.false_eq_true, ↓reduceIte, aenv0, aenvS, aenvN, one_ne, h2]
        · simp only [↓set_get, Nat.reduceEqDiff, Bool.false_eq_true, ↓reduceIte, aenv0, aenvS, aenvN, one_ne, h5]
        · simp only [↓set_get, Nat.reduceEqDiff, Bool.false_eq_true, ↓reduceIte, aenv0, aenvS, aenvN, one_ne]; rfl
      · intro hb2
        have hb2 : k = 32 := by have := of_decide_eq_false hb2
                                omega
        subst hb2
        have hz : s.take 32 ++ zero32.drop 32 = s.take 32 := by simp [zero32]
        rw [hz] at hlen
        refine lq_exit ?_
        rw [hz]
        refine asc ?_; refine awp_draw [true, true, true, false, true, true] (by kernel_rfl) ?_
        (refine pa_set ?_ ?_ ?_; rotate_left 1; (· intro K hK; refine S0X h5 ?_; refine loadA_ptr tagg27 tsz27 (set_same _ _ _) (by omega) ?_; exact hK))
        refine runDMX h0 ?_
        (refine pa_set ?_ ?_ ?_; rotate_left 1; (· intro K hK; refine S0 ?_; refine slice_str isStr9 (l := 32) (h := s.length) rfl rfl (by omega) (by omega) ?_; exact hK))
        refine runDM ?_
        refine pa_nil ?_
        have hw : List.take 32 (List.drop 0 (bytesD (s.take 32))) = bytesD (s.take 32) := by rw [List.drop_zero, List.take_of_length_le (by omega)]
        refine pt_skip (pt_skip (pt_skip ?_))
        refine pt_none ?_ ?_ ?_ ?_ ?_; rotate_left 2
        · intro K hK; simp (disch := omega) only [go_sem, ↓set_get, ↓reduceIte, ↓o_bsl, ↓o_build, Nat.reduceEqDiff, Nat.reduceAdd, Nat.reduceMul, Int.reduceEq, Int.reduceNe, h2]
          refine store_ptr tagg27 tsz27 (by rw [hw]; exact hlen) rfl (by rw [set_other _ (Ne.symm hne)]; exact set_same _ _ _) (by decide) ?_
          exact hK
        · have hs2 : ∀ o, (((σ.set id (.cells (bytesD zero32) 27)).set id2 (.cells (bytesD (s.take 32)) 27)).set id o) id2 = some (.cells (bytesD (s.take 32)) 27) := fun o => by
            rw [set_other _ hne]; exact set_same _ _ _
          (repeat' (first | exact seen_nil | refine seen_skip (by decide +kernel) ?_ | refine seen_cons ?_ ?_))
          all_goals (simp only [go_sem, ↓set_get, ↓reduceIte, ↓o_bsl, ↓o_build, Nat.reduceEqDiff, Nat.reduceAdd, Nat.reduceMul, Int.reduceEq, Int.reduceNe, h0]; first | exact St.le.refl _ | exact loadA_ptr tagg27 tsz27 (hs2 _) (by omega) ⟨rfl, St.le.refl _⟩ | exact slice_str isStr9 (l := 32) (h := s.length) rfl rfl (by omega) (by omega) ⟨rfl, St.le.refl _⟩)
        refine pt_skip (pt_skip (pt_done ?_))
        refine awp_ret ?_
        refine afin_cell σ ?_ ?_
        · exact fun j x e => by
            simp only [St.set]
            split
            · rename_i hj; subst hj; rw [hid] at e; cases e
            · split
              · rename_i hj; subst hj; rw [hid2'] at e; cases e
              · exact e
        · simp only [ares, aone, ↓set_get, Nat.reduceEqDiff, Bool.false_eq_true, ↓reduceIte, aenv0, aenvS, aenvN, one_ne, h2]
          rw [hw, show cellsOf (D.agg (bytesD (s.take 32))) = bytesD (s.take 32) from rfl, splice_whole (by rw [hlen]; rfl)]
          refine loadA_ptr tagg27 tsz27 (set_same _ _ _) (by omega) ?_
          rw [hw]
          simpa [dUnhash] using hK
end Go.Proofs.Try
