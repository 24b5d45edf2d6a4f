/- strings.Builder, walked. -/
import Derived.Test.YtgbfchagmniiiaaC6
set_option maxRecDepth 8000
set_option linter.unusedSimpArgs false
set_option linter.unusedVariables false
namespace Go.Proofs.Try
open Go Go.Av
set_option pp.maxSteps 900
attribute [local irreducible] alist awp adraw apure
variable {γ : Gl} {σ : St} {K : D → St → Prop}

theorem uns120 : isUns prog 120 173 = true := by kernel_rfl
theorem back120 : unsBack prog 173 120 122 = true := by kernel_rfl
theorem ptrI120 : isPtrI prog 120 = true := by kernel_rfl
theorem noEsc131 : noEsc prog 131 = true := by kernel_rfl
theorem ptrE165 : ptrE prog 165 = some 5 := by kernel_rfl
theorem cells5 : prog.cellsOf 5 = 1 := by kernel_rfl
theorem set_eq {s : St} {i : Nat} {o : Ob} (h : s i = some o) : s.set i o = s := by
  funext j; simp only [St.set]; split
  · rename_i hj; subst hj; exact h.symm
  · rfl

theorem copyCheck_c {s : St} {id : Nat} {p d : D} (hp : p = .nilp ∨ p = .ptr id 0) (hs : s id = some (.cells [p, d] 122)) (hK : K (.tup []) (s.set id (.cells [.ptr id 0, d] 122))) : ACalls prog γ 125 [.ptr id 0] s K := by
  refine acalls_of_awp (by kernel_rfl) func125 rfl (by kernel_rfl) rfl rfl (by kernel_rfl) (Nat.le_of_ble_eq_true rfl) ?_
  rcases hp with rfl | rfl
  · refine rs ?_
    refine runM ?_
    (refine al_set ?_ ?_ ?_ ?_; rotate_left 2; (· intro K hK; refine S0 ?_; refine load1_ptr tagg120 hs rfl ?_; exact hK))
    refine runM ?_
    refine al_done ?_
    refine ac ?_ ?_
    · intro _
      refine awp_region ?_
      refine runM ?_
      (refine al_set ?_ ?_ ?_ ?_; rotate_left 2; (· intro K hK; refine S0 ?_; refine conv_uns uns120 hs (Nat.zero_lt_succ _) ?_; exact hK))
      (refine al_set ?_ ?_ ?_ ?_; rotate_left 2; · intro K hK; simp (disch := omega) only [go_sem, ↓set_get, ↓reduceIte, ↓o_bsl, ↓o_build, Nat.reduceEqDiff, Nat.reduceAdd, Nat.reduceMul, Int.reduceEq, Int.reduceNe]; refine Or.inr ⟨noEsc131, _, rfl, ?_⟩; exact hK)
      (refine al_set ?_ ?_ ?_ ?_; rotate_left 2; (· intro K hK; refine S0 ?_; refine conv_back back120 hs (Nat.zero_lt_succ _) (by rw [tsz122]; exact Nat.le_refl _) ?_; exact hK))
      refine runM ?_
      (refine al_none ?_ ?_ ?_ ?_; rotate_left 2; (· intro K hK; refine S0 ?_; refine store_ptr tagg120 tsz120 rfl rfl hs (Nat.le_of_ble_eq_true rfl) ?_; exact hK))
      refine al_nil ?_
      refine afin_nrm (.done ?_)
      exact hK
    · intro h; cases h
  · refine rs ?_
    refine runM ?_
    (refine al_set ?_ ?_ ?_ ?_; rotate_left 2; (· intro K hK; refine S0 ?_; refine load1_ptr tagg120 hs rfl ?_; exact hK))
    refine runM ?_
    refine al_done ?_
    refine ac ?_ ?_
    · intro h; cases h
    · intro _
      refine rs ?_
      refine runM ?_
      (refine al_set ?_ ?_ ?_ ?_; rotate_left 2; (· intro K hK; refine S0 ?_; refine load1_ptr tagg120 hs rfl ?_; exact hK))
      refine runMX ptrI120 ?_
      refine al_done ?_
      refine ac ?_ ?_
      · intro h; cases h
      · intro _
        refine awp_skip ?_
        refine afin_nrm (.done ?_)
        rw [set_eq hs] at hK
        exact hK

/-- A builder of its own: its block id holds the bytes l. -/
def Bld (σ : St) (id : Nat) (l : List UInt8) (s : St) : Prop :=
  σ id = none ∧ ∃ p, (p = .nilp ∨ p = .ptr id 0) ∧
    ((l = [] ∧ s = σ.set id (.cells [p, .nil] 122)) ∨
     ∃ t, σ t = none ∧ t ≠ id ∧ s = (σ.set t (.tok 5 (bytesD l))).set id (.cells [p, .sl l.length (bytesD l) (some (t, 1))] 122))

theorem Bld.le {σ : St} {id : Nat} {l : List UInt8} {s : St} (h : Bld σ id l s) : σ.le s := by
  obtain ⟨h0, p, _, ⟨_, rfl⟩ | ⟨t, h1, h2, rfl⟩⟩ := h
  · exact le_set _ h0
  · exact St.le.trans (le_set _ h1) (le_set _ (by rw [set_other _ (Ne.symm h2)]; exact h0))

theorem WriteString_c {s : St} {id : Nat} {l x : List UInt8} (hb : Bld σ id l s) (hl : l.length + x.length ≤ 140737488355328) (hK : ∀ s', Bld σ id (l ++ x) s' → K (.tup [.int .i64 (x.length : Nat), .nili]) s') : ACalls prog γ 87 [.ptr id 0, .str x] s K := by
  obtain ⟨hid, p, hp, hb⟩ := hb
  refine acalls_of_awp (by kernel_rfl) func87 rfl (by kernel_rfl) rfl rfl (by kernel_rfl) (Nat.le_of_ble_eq_true rfl) ?_
  refine rs ?_
  refine runM ?_
  refine al_done ?_
  refine rs ?_
  refine runM ?_
  rcases hb with ⟨rfl, rfl⟩ | ⟨t, ht, hne, rfl⟩
  · (refine al_set ?_ ?_ ?_ ?_; rotate_left 2; (· intro K hK; refine S0 ?_; refine Or.inl (copyCheck_c hp (set_same _ _ _) ?_); exact hK))
    rw [set_set]
    refine al_done ?_
    refine rs ?_
    refine runM ?_
    (refine al_set ?_ ?_ ?_ ?_; rotate_left 2; (· intro K hK; refine S0 ?_; refine load1_ptr tagg45 (set_same _ _ _) rfl ?_; exact hK))
    refine runM ?_
    by_cases hx : x.length = 0
    · have : x = [] := List.eq_nil_of_length_eq_zero hx
      subst this
      (refine al_set ?_ ?_ ?_ ?_; rotate_left 2; (· intro K hK; simp (disch := omega) only [go_sem, ↓set_get, ↓reduceIte, ↓o_bsl, ↓o_build, Nat.reduceEqDiff, Nat.reduceAdd, Nat.reduceMul, Int.reduceEq, Int.reduceNe,  xcells_str, List.length_nil]; refine app_nil0 ?_; exact hK))
      refine runM ?_
      (refine al_none ?_ ?_ ?_ ?_; rotate_left 2; (· intro K hK; refine S0 ?_; refine store_ptr tagg45 tsz45 rfl rfl (set_same _ _ _) (Nat.le_of_ble_eq_true rfl) ?_; exact hK))
      rw [set_set]
      refine al_done ?_
      refine rs ?_
      (repeat (refine al_set ?_ ?_ ?_ ?_; rotate_left 2; · intro K hK; simp (disch := omega) only [go_sem, ↓set_get, ↓reduceIte, ↓o_bsl, ↓o_build, Nat.reduceEqDiff, Nat.reduceAdd, Nat.reduceMul, Int.reduceEq, Int.reduceNe, List.length_nil]; (repeat' (first | exact hK | (refine And.intro ?_ ?_) | assumption | omega))))
      refine rets ?_
      exact hK _ ⟨hid, .ptr id 0, .inr rfl, .inl ⟨rfl, rfl⟩⟩
    · (refine al_fresh ?_ ?_ ?_ ?_ ?_; rotate_left 3; (· intro K hK; simp (disch := (first | omega | (simp only [length_bytesD, List.length_append, List.length_cons, List.length_nil, List.length_map, List.length_replicate, List.length_take, List.length_drop]; omega))) only [go_sem, ↓set_get, ↓reduceIte, ↓o_bsl, ↓o_build, Nat.reduceEqDiff, Nat.reduceAdd, Nat.reduceMul, Int.reduceEq, Int.reduceNe,  xcells_str]; refine app_nil (by omega) (by simp at hl; omega) ?_; exact hK))
      intro t ht
      obtain ⟨hne, ht⟩ := fresh_ne ht
      refine runM ?_
      (refine al_none ?_ ?_ ?_ ?_; rotate_left 2; (· intro K hK; refine S0 ?_; refine store_ptr tagg45 tsz45 rfl rfl (by rw [set_other _ (Ne.symm hne)]; exact set_same _ _ _) (Nat.le_of_ble_eq_true rfl) ?_; exact hK))
      refine al_done ?_
      refine rs ?_
      refine runM ?_
      refine rets ?_
      refine hK _ ⟨hid, .ptr id 0, .inr rfl, .inr ⟨t, ht, hne, ?_⟩⟩
      rw [set_comm _ _ hne, set_set]; rfl
  · (refine al_set ?_ ?_ ?_ ?_; rotate_left 2; (· intro K hK; refine S0 ?_; refine Or.inl (copyCheck_c hp (set_same _ _ _) ?_); exact hK))
    rw [set_set]
    refine al_done ?_
    refine rs ?_
    refine runM ?_
    (refine al_set ?_ ?_ ?_ ?_; rotate_left 2; (· intro K hK; refine S0 ?_; refine load1_ptr tagg45 (set_same _ _ _) rfl ?_; exact hK))
    refine runM ?_
    rw [set_comm _ _ (Ne.symm hne)]
    (refine al_fresh ?_ ?_ ?_ ?_ ?_; rotate_left 3; (· intro K hK; simp (disch := (first | omega | (simp only [length_bytesD, List.length_append, List.length_cons, List.length_nil, List.length_map, List.length_replicate, List.length_take, List.length_drop]; omega))) only [go_sem, ↓set_get, ↓reduceIte, ↓o_bsl, ↓o_build, Nat.reduceEqDiff, Nat.reduceAdd, Nat.reduceMul, Int.reduceEq, Int.reduceNe,  xcells_str]; refine app_tok (by rw [set_other _ hne]; exact ht) (by omega) ?_; exact hK))
    intro t2 ht2
    obtain ⟨hne2, ht2⟩ := fresh_ne ht2
    refine runM ?_
    (refine al_none ?_ ?_ ?_ ?_; rotate_left 2; (· intro K hK; refine S0 ?_; refine store_ptr tagg45 tsz45 rfl rfl (by rw [set_other _ (Ne.symm hne2)]; exact set_same _ _ _) (Nat.le_of_ble_eq_true rfl) ?_; exact hK))
    refine al_done ?_
    refine rs ?_
    refine runM ?_
    refine rets ?_
    refine hK _ ⟨hid, .ptr id 0, .inr rfl, .inr ⟨t2, ht2, hne2, ?_⟩⟩
    rw [set_comm _ _ hne2, set_set, ← bytesD_append, ← List.length_append]; rfl

theorem String_c {s : St} {id : Nat} {l : List UInt8} (hb : Bld σ id l s) (h0 : 0 < l.length) (hl : l.length ≤ 140737488355328) (hK : K (.str l) σ) : ACalls prog γ 88 [.ptr id 0] s K := by
  obtain ⟨hid, p, hp, ⟨rfl, rfl⟩ | ⟨t, ht, hne, rfl⟩⟩ := hb
  · simp at h0
  · refine acalls_of_awp (by kernel_rfl) func88 rfl (by kernel_rfl) rfl rfl (by kernel_rfl) (Nat.le_of_ble_eq_true rfl) ?_
    refine rs ?_
    refine runM ?_
    refine al_done ?_
    refine asc ?_; refine awp_draw [true, true, true, true, true, true, true, true, true, true, false, false] (by kernel_rfl) ?_
    refine runDM ?_
    (refine pa_set ?_ ?_ ?_; rotate_left 1; (· intro K hK; refine S0 ?_; refine load1_ptr tagg45 (set_same _ _ _) rfl ?_; exact hK))
    (refine pa_set ?_ ?_ ?_; rotate_left 1; (· intro K hK; refine S0 ?_; refine sldata_sl h0 ?_; exact hK))
    refine runDM ?_
    (refine pa_set ?_ ?_ ?_; rotate_left 1; (· intro K hK; refine S0 ?_; refine load1_ptr tagg45 (set_same _ _ _) rfl ?_; exact hK))
    refine runDM ?_
    refine pa_nil ?_
    refine pt_skip (pt_skip (pt_skip (pt_skip (pt_skip (pt_skip (pt_skip (pt_skip (pt_skip (pt_skip ?_)))))))))
    have hobj : ∀ o, (((σ.set t (.tok 5 (bytesD l))).set id o).del t) id = some o := fun o => by
      simp only [St.del, if_neg (Ne.symm hne), St.set, if_true]
    have hobs : ∀ s : St, s id = some (.cells [p, .sl l.length (bytesD l) (some (t, 1))] 122) → True := fun _ _ => trivial
    refine pt_set ?_ ?_ ?_ ?_ ?_; rotate_left 2
    · intro K hK; simp (disch := omega) only [go_sem, ↓set_get, ↓reduceIte, ↓o_bsl, ↓o_build, Nat.reduceEqDiff, Nat.reduceAdd, Nat.reduceMul, Int.reduceEq, Int.reduceNe]
      refine ustr_tok ptrE165 cells5 (by rw [set_other _ hne]; exact set_same _ _ _) rfl h0 (by omega) ?_
      exact hK
    · exact seen_none (by kernel_rfl)
    · refine pt_set ?_ ?_ ?_ ?_ ?_; rotate_left 2
      · intro K hK; simp only [go_sem, ↓set_get, ↓reduceIte, ↓o_bsl, ↓o_build, Nat.reduceEqDiff, Nat.reduceAdd, Nat.reduceMul, Int.reduceEq, Int.reduceNe]; exact hK
      · exact seen_none (by kernel_rfl)
      refine pt_done ?_
      refine awp_ret (afin_ret (.forget σ ?_ (.done ?_)))
      · intro j x e
        have h1 : j ≠ t := by rintro rfl; rw [ht] at e; cases e
        have h2 : j ≠ id := by rintro rfl; rw [hid] at e; cases e
        simp only [St.del, St.set, if_neg h1, if_neg h2]; exact e
      · simp only [ares, aone, ↓set_get, Nat.reduceEqDiff, Bool.false_eq_true, ↓reduceIte, aenv0, aenvS, aenvN, one_ne]
        exact hK
end Go.Proofs.Try
