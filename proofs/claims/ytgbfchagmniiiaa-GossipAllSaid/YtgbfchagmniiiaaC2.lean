/- codec: hashes, walked. -/
import Derived.Test.YtgbfchagmniiiaaC1
set_option maxRecDepth 8000
set_option linter.unusedSimpArgs false
set_option linter.unusedVariables false
namespace Go.Proofs.Try
open Go Go.Av
set_option pp.maxSteps 900
attribute [local irreducible] alist awp adraw apure
variable {γ : Gl} {σ : St} {K : D → St → Prop}

theorem Hash_c {h : List UInt8} (hh : h.length = 32) (hK : K (.str h) σ) : ACalls prog γ 21 [.agg (bytesD h)] σ K := by
  refine acalls_of_awp (by kernel_rfl) func21 rfl (by kernel_rfl) rfl rfl (by kernel_rfl) (Nat.le_of_ble_eq_true rfl) ?_
  refine rs ?_
  (refine al_fresh ?_ ?_ ?_ ?_ ?_; rotate_left 3; (· intro K hK; refine S2 ?_; refine box_agg ?_; exact hK))
  intro id hid
  refine runM ?_
  refine al_done ?_
  refine rs ?_
  (refine al_set ?_ ?_ ?_ ?_; rotate_left 2; (· intro K hK; refine S0 ?_; refine slice_ptr0 arr27 (by decide) (by decide) (set_same _ _ _) (by rw [length_bytesD]; omega) ?_; exact hK))
  (refine al_set ?_ ?_ ?_ ?_; rotate_left 2; (· intro K hK; refine S0 ?_; refine conv_osl isStr9 elt45 int5 (set_same _ _ _) (by rw [List.drop_zero, List.take_of_length_le (by rw [length_bytesD]; omega)]) (by omega) ?_; exact hK))
  refine runM ?_
  refine al_nil (rx_drop hid (.done ?_))
  refine awp_ret (afin_ret (.done ?_)); simp only [ares, aone, ↓set_get, Nat.reduceEqDiff, Bool.false_eq_true, ↓reduceIte, aenv0, aenvS, aenvN, one_ne]
  exact hK

theorem rHash_c {h : List UInt8} (hh : h.length = 32) (hK : K (.str h) σ) : ACalls prog γ 22 [.agg (bytesD h)] σ K := by
  refine acalls_of_awp (by kernel_rfl) func22 rfl (by kernel_rfl) rfl rfl (by kernel_rfl) (Nat.le_of_ble_eq_true rfl) ?_
  refine rs ?_
  (refine al_fresh ?_ ?_ ?_ ?_ ?_; rotate_left 3; (· intro K hK; refine S2 ?_; refine box_agg ?_; exact hK))
  intro id hid
  refine runM ?_
  refine al_done ?_
  refine rs ?_
  refine runM ?_
  refine al_done ?_
  refine rs ?_
  refine runM ?_
  refine al_done ?_
  have hs1 : (σ.set id (.cells (bytesD h) 27)) id = some (.cells (bytesD h) 27) := set_same _ _ _
  refine asc ?_; refine awp_while (fun n ρ s => ∃ k d, n = 32 - k ∧ k ≤ 32 ∧ ρ 1 = .ptr id 0 ∧ ρ 4 = .int .i64 (k : Nat) ∧ ρ 3 = d ∧ Own (σ.set id (.cells (bytesD h) 27)) 5 1 k (bytesD (h.take k)) d s) 32 ?_ ?_
  · refine ⟨0, .nil, rfl, by omega, ?_, ?_, ?_, ?_⟩
    · simp only [↓set_get, Nat.reduceEqDiff, Bool.false_eq_true, ↓reduceIte, aenv0, aenvS, aenvN, one_ne]
    · simp only [↓set_get, Nat.reduceEqDiff, Bool.false_eq_true, ↓reduceIte, aenv0, aenvS, aenvN, one_ne]; rfl
    · simp only [↓set_get, Nat.reduceEqDiff, Bool.false_eq_true, ↓reduceIte, aenv0, aenvS, aenvN, one_ne]
    · exact own_nil _ _ _
  · rintro n ρ s ⟨k, d, rfl, hk, h1, h4, h3, hown⟩
    refine rs ?_
    refine runMX (And.intro h1 (And.intro h4 h3)) ?_
    refine al_done ?_
    refine asc ?_; refine ate ?_ ?_
    · intro hb
      have hb : k < 32 := by have : (k : Int) < 32 := by simpa using hb
                             omega
      refine asc ?_; refine awp_body ?_
      refine awp_region ?_
      (repeat (refine al_set ?_ ?_ ?_ ?_; rotate_left 2; · intro K hK; simp (disch := omega) only [go_sem, ↓set_get, ↓reduceIte, ↓o_bsl, ↓o_build, Nat.reduceEqDiff, Nat.reduceAdd, Nat.reduceMul, Int.reduceEq, Int.reduceNe, h1, h4, h3, Int.toNat_natCast]; (repeat' (first | exact hK | (refine And.intro ?_ ?_) | assumption | omega))))
      (refine al_set ?_ ?_ ?_ ?_; rotate_left 2; (· intro K hK; refine S0 ?_; refine load1_ptr tagg5 (own_get hown hs1) (by rw [getElem?_bytesD, List.getElem?_eq_getElem (by omega), Option.map_some]) ?_; exact hK))
      (refine al_set ?_ ?_ ?_ ?_; rotate_left 2; (· intro K hK; refine S0 ?_; refine bsl_int0 elt45 zc5 ?_; exact hK))
      (refine al_rel ?_ ?_ ?_; rotate_left 1; (· intro K hK; simp (disch := (first | omega | (simp only [length_bytesD, List.length_append, List.length_cons, List.length_nil, List.length_map, List.length_replicate, List.length_take, List.length_drop]; omega))) only [go_sem, ↓set_get, ↓reduceIte, ↓o_bsl, ↓o_build, Nat.reduceEqDiff, Nat.reduceAdd, Nat.reduceMul, Int.reduceEq, Int.reduceNe,  xcells_sl, h3]; refine own_app hown (by decide) rfl (by omega) ?_; exact hK))
      intro d' s' hown'
      refine runM ?_
      refine al_done ?_
      refine awp_region ?_
      refine runMX h4 ?_
      refine al_nil ?_
      refine lq_next (32 - (k + 1)) (by omega) ?_
      refine ⟨k + 1, d', rfl, by omega, ?_, ?_, ?_, ?_⟩
      · simp only [↓set_get, Nat.reduceEqDiff, Bool.false_eq_true, ↓reduceIte, aenv0, aenvS, aenvN, one_ne, h1]
      · simp only [↓set_get, Nat.reduceEqDiff, Bool.false_eq_true, ↓reduceIte, aenv0, aenvS, aenvN, one_ne]; rfl
      · simp only [↓set_get, Nat.reduceEqDiff, Bool.false_eq_true, ↓reduceIte, aenv0, aenvS, aenvN, one_ne]
      · rw [List.take_add_one, List.getElem?_eq_getElem (by omega), bytesD_append]; exact hown'
    · intro hb
      have hb : k = 32 := by have : ¬ (k : Int) < 32 := by simpa using hb
                             omega
      subst hb
      refine lq_exit ?_
      refine rs ?_
      refine runMX (And.intro h1 (And.intro h4 h3)) ?_
      rw [List.take_of_length_le (by omega)] at hown
      (refine al_set ?_ ?_ ?_ ?_; rotate_left 2; (· intro K hK; refine S0X h3 ?_; refine conv_own hown isStr9 elt45 int5 ?_; exact hK))
      refine runM ?_
      refine al_nil (rx_own hown (t := 3) (by simp only [↓set_get, Nat.reduceEqDiff, Bool.false_eq_true, ↓reduceIte, aenv0, aenvS, aenvN, one_ne, h3]) (rx_drop hid (.done ?_)))
      refine awp_ret (afin_ret (.done ?_)); simp only [ares, aone, ↓set_get, Nat.reduceEqDiff, Bool.false_eq_true, ↓reduceIte, aenv0, aenvS, aenvN, one_ne]
      exact hK
end Go.Proofs.Try
