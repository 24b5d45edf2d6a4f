/- codec: reading, walked. -/
import Derived.Test.YtgbfchagmniiiaaC2
import Derived.Test.YtgbfchagmniiiaaSp2
set_option maxRecDepth 8000
set_option linter.unusedSimpArgs false
set_option linter.unusedVariables false
namespace Go.Proofs.Try
open Go Go.Av
set_option pp.maxSteps 900
attribute [local irreducible] alist awp adraw apure
variable {γ : Gl} {σ : St} {K : D → St → Prop}

theorem take_c {s : List UInt8} {n : Int} (hs : s.length ≤ 140737488355328) (h0 : 0 ≤ n) (h1 : n < 18446744073709551616) (hK : K (dCut (takeB s n.toNat)) σ) : ACalls prog γ 89 [.str s, .int .u64 n] σ K := by
  refine acalls_of_awp (by kernel_rfl) func89 rfl (by kernel_rfl) rfl rfl (by kernel_rfl) (Nat.le_of_ble_eq_true rfl) ?_
  refine rs ?_
  refine runM ?_
  refine al_done ?_
  refine rs ?_
  refine runM ?_
  refine al_done ?_
  refine asc ?_; refine ai ?_ ?_
  · intro hb
    have hb : (s.length : Int) < n := by simpa using hb
    refine rs ?_
    refine runM ?_
    refine rets ?_
    rw [takeB, if_pos (by omega)] at hK; exact hK
  · intro hb
    have hb : ¬ (s.length : Int) < n := by simpa using hb
    refine asc ?_; refine awp_pure (by kernel_rfl) ?_
    refine runPM ?_
    (refine ap_set ?_ ?_ ?_; rotate_left 1; (· intro K hK; refine S0 ?_; refine slice_str isStr9 (l := 0) (h := n.toNat) rfl (bound_int h0) (by omega) (by omega) ?_; exact hK))
    refine runPM ?_
    (refine ap_set ?_ ?_ ?_; rotate_left 1; (· intro K hK; refine S0 ?_; refine slice_str isStr9 (l := n.toNat) (h := s.length) (bound_int h0) rfl (by omega) (by omega) ?_; exact hK))
    refine runPM ?_
    refine ap_done ?_
    refine awp_ret (afin_ret (.done ?_)); simp only [ares, aone, ↓set_get, Nat.reduceEqDiff, Bool.false_eq_true, ↓reduceIte, aenv0, aenvS, aenvN, one_ne]
    rw [takeB, if_neg (by omega)] at hK
    simpa [dCut] using hK

theorem Read_c {s : List UInt8} (hs : s.length ≤ 140737488355328) (hK : K (dRead (readB s)) σ) : ACalls prog γ 29 [.str s] σ K := by
  refine acalls_of_awp (by kernel_rfl) func29 rfl (by kernel_rfl) rfl rfl (by kernel_rfl) (Nat.le_of_ble_eq_true rfl) ?_
  refine rs ?_
  refine runM ?_
  refine al_done ?_
  refine rs ?_
  refine runM ?_
  refine al_done ?_
  refine asc ?_; refine awp_while (fun m ρ t => t = σ ∧ ∃ k n, m = s.length - k ∧ k ≤ s.length ∧ ρ 0 = .str s ∧ ρ 8 = .int .i64 (s.length : Nat) ∧ ρ 9 = .int .i64 (k : Nat) ∧ ρ 2 = .int .u64 (n : Nat) ∧ readB s = readGo n (s.drop k)) s.length ?_ ?_
  · refine ⟨rfl, 0, 0, rfl, by omega, ?_, ?_, ?_, ?_, rfl⟩
    · simp only [↓set_get, Nat.reduceEqDiff, Bool.false_eq_true, ↓reduceIte, aenv0, aenvS, aenvN, one_ne]
    · simp only [↓set_get, Nat.reduceEqDiff, Bool.false_eq_true, ↓reduceIte, aenv0, aenvS, aenvN, one_ne]
    · simp only [↓set_get, Nat.reduceEqDiff, Bool.false_eq_true, ↓reduceIte, aenv0, aenvS, aenvN, one_ne]; rfl
    · simp only [↓set_get, Nat.reduceEqDiff, Bool.false_eq_true, ↓reduceIte, aenv0, aenvS, aenvN, one_ne]; rfl
  · rintro m ρ t ⟨rfl, k, n, rfl, hk, h0, h8, h9, h2, hr⟩
    refine rs ?_
    refine runMX (And.intro h8 h9) ?_
    refine al_done ?_
    refine asc ?_; refine ate ?_ ?_
    · intro hb
      have hb : k < s.length := by simpa using hb
      have hd : s.drop k = s[k] :: s.drop (k + 1) := List.drop_eq_getElem_cons hb
      rw [hd] at hr
      have hc := s[k].toNat_lt
      refine asc ?_; refine awp_body ?_
      refine rs ?_
      refine runMX h9 ?_
      refine al_done ?_
      refine rs ?_
      refine runMX h0 ?_
      (refine al_set ?_ ?_ ?_ ?_; rotate_left 2; (· intro K hK; refine S0 ?_; refine index_str isStr9 (by omega) (by rw [Int.toNat_natCast]; exact List.getElem?_eq_getElem hb) ?_; exact hK))
      refine runM ?_
      refine al_done ?_
      refine asc ?_; refine awp_rj (fun ρ' s' => s' = t ∧ ρ' 0 = .str s ∧ ρ' 2 = .int .u64 (n : Nat) ∧ ρ' 5 = .int .i64 (k : Nat) ∧ ρ' 6 = .int .u8 (s[k].toNat : Nat) ∧ ρ' 8 = .int .i64 (s.length : Nat) ∧ ρ' 9 = .int .i64 (k : Nat) ∧ ρ' 24 = .bool (decide ((n = 0 ∧ s[k].toNat = 128) ∨ 144115188075855872 ≤ n))) ?_ ?_
      · intro K' hJ
        by_cases h0n : n = 0
        · subst h0n
          have e1 : (((0 : Nat) : Int) == 0) = true := rfl
          have e3 : decide (((0 : Nat) : Int) ≥ 144115188075855872) = false := by decide
          by_cases h128 : s[k].toNat = 128
          · have e2 : ((s[k].toNat : Int) == 128) = true := by rw [h128]; rfl
            refine runGX (And.intro h2 (And.intro e1 (And.intro e2 e3))) ?_
            refine al_nil (hJ _ _ ?_)
            simp only [↓set_get, Nat.reduceEqDiff, Bool.false_eq_true, ↓reduceIte, aenv0, aenvS, aenvN, one_ne, h0, h2, h8, h9, h128, true_and, and_true, true_or, decide_true]
          · have e2 : ((s[k].toNat : Int) == 128) = false := by simp; omega
            refine runGX (And.intro h2 (And.intro e1 (And.intro e2 e3))) ?_
            refine al_nil (hJ _ _ ?_)
            simp only [↓set_get, Nat.reduceEqDiff, Bool.false_eq_true, ↓reduceIte, aenv0, aenvS, aenvN, one_ne, h0, h2, h8, h9, h128, true_and, and_true, false_or, D.bool.injEq]
            decide
        · have e1 : ((n : Int) == 0) = false := by simp; omega
          refine runGX (And.intro h2 e1) ?_
          refine al_nil (hJ _ _ ?_)
          simp only [↓set_get, Nat.reduceEqDiff, Bool.false_eq_true, ↓reduceIte, aenv0, aenvS, aenvN, one_ne, h0, h2, h8, h9, h0n, true_and, and_true, false_or, false_and, D.bool.injEq]
          simp
          omega
      rintro ρ1 t1 ⟨rfl, g0, g2, g5, g6, g8, g9, g24⟩
      refine asc ?_; refine aiX g24 ?_ ?_
      · intro hst
        have hst : (n = 0 ∧ s[k].toNat = 128) ∨ 144115188075855872 ≤ n := of_decide_eq_true hst
        refine awp_exit (Rx.done ?_)
        refine rs ?_
        refine runM ?_
        refine rets ?_
        rw [hr, readGo, if_pos hst] at hK; exact hK
      · intro hst
        have hst : ¬ ((n = 0 ∧ s[k].toNat = 128) ∨ 144115188075855872 ≤ n) := of_decide_eq_false hst
        have hn : n < 144115188075855872 := by omega
        rw [readGo, if_neg hst] at hr
        refine rs ?_
        (repeat (refine al_set ?_ ?_ ?_ ?_; rotate_left 2; · intro K hK; simp (disch := omega) only [go_sem, ↓set_get, ↓reduceIte, ↓o_bsl, ↓o_build, Nat.reduceEqDiff, Nat.reduceAdd, Nat.reduceMul, Int.reduceEq, Int.reduceNe, g2, g6, shl7, and127, or_add]; (repeat' (first | exact hK | (refine And.intro ?_ ?_) | assumption | omega))))
        refine al_done ?_
        refine rs ?_
        refine runMX g6 ?_
        refine al_done ?_
        refine ac ?_ ?_
        · intro h128
          have h128 : s[k].toNat < 128 := by have := of_decide_eq_true h128
                                             omega
          rw [if_pos h128] at hr
          refine asc ?_; refine awp_pure (by kernel_rfl) ?_
          refine runPMX (And.intro g0 g5) ?_
          (refine ap_set ?_ ?_ ?_; rotate_left 1; (· intro K hK; refine S0 ?_; refine slice_str isStr9 (l := k + 1) (h := s.length) (bound_at (by omega) (by omega)) rfl (by omega) (by omega) ?_; exact hK))
          refine runPM ?_
          refine ap_done ?_
          refine awp_ret (afin_ret (.done ?_)); simp only [ares, aone, ↓set_get, Nat.reduceEqDiff, Bool.false_eq_true, ↓reduceIte, aenv0, aenvS, aenvN, one_ne]
          rw [hr] at hK
          simpa [dRead] using hK
        · intro h128
          have h128 : ¬ s[k].toNat < 128 := by have := of_decide_eq_false h128
                                               omega
          rw [if_neg h128] at hr
          refine awp_skip (Rx.done ?_)
          refine awp_region ?_
          refine runMX g9 ?_
          refine al_nil ?_
          refine lq_next (s.length - (k + 1)) (by omega) ⟨rfl, k + 1, n * 128 + s[k].toNat % 128, rfl, by omega, ?_, ?_, ?_, ?_, hr⟩
          · simp only [↓set_get, Nat.reduceEqDiff, Bool.false_eq_true, ↓reduceIte, aenv0, aenvS, aenvN, one_ne, g0]
          · simp only [↓set_get, Nat.reduceEqDiff, Bool.false_eq_true, ↓reduceIte, aenv0, aenvS, aenvN, one_ne, g8]
          · simp only [↓set_get, Nat.reduceEqDiff, Bool.false_eq_true, ↓reduceIte, aenv0, aenvS, aenvN, one_ne]; rfl
          · simp only [↓set_get, Nat.reduceEqDiff, Bool.false_eq_true, ↓reduceIte, aenv0, aenvS, aenvN, one_ne]
    · intro hb
      have hb : k = s.length := by have : ¬ (k : Int) < s.length := by simpa using hb
                                   omega
      subst hb
      refine lq_exit ?_
      refine rs ?_
      refine runM ?_
      refine rets ?_
      rw [hr, List.drop_length] at hK; exact hK
end Go.Proofs.Try
