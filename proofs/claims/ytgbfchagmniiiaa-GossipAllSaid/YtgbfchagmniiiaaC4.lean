/- The document's reading, walked. -/
import Derived.Test.YtgbfchagmniiiaaC3
import Derived.Test.YtgbfchagmniiiaaSp3
set_option maxRecDepth 8000
set_option linter.unusedSimpArgs false
set_option linter.unusedVariables false
namespace Go.Proofs.Try
open Go Go.Av
set_option pp.maxSteps 900
attribute [local irreducible] alist awp adraw apure
variable {γ : Gl} {σ : St} {K : D → St → Prop}

theorem lead_drop {s : List UInt8} {k : Nat} (hk : k < s.length) (h10 : k < 10) : lead (10 - k) (s.drop k) = if 128 ≤ s[k].toNat then lead (10 - (k + 1)) (s.drop (k + 1)) + 1 else 0 := by
  rw [List.drop_eq_getElem_cons hk, show 10 - k = (10 - (k + 1)) + 1 by omega]
  rfl

theorem rRead_c {s : List UInt8} (hs : s.length ≤ 140737488355328) (hK : K (dRead (readB s)) σ) : ACalls prog γ 30 [.str s] σ K := by
  rw [← refRead_eq] at hK
  obtain ⟨hl10, hls⟩ := lead_le 10 s
  refine acalls_of_awp (by kernel_rfl) func30 rfl (by kernel_rfl) rfl rfl (by kernel_rfl) (Nat.le_of_ble_eq_true rfl) ?_
  refine rs ?_
  refine runM ?_
  refine al_done ?_
  refine rs ?_
  refine runM ?_
  refine al_done ?_
  refine asc ?_; refine awp_while (fun m ρ t => t = σ ∧ ∃ k : Nat, m = 10 - k ∧ k ≤ 10 ∧ k ≤ s.length ∧ ρ 0 = .str s ∧ ρ 5 = .int .i64 (k : Nat) ∧ lead 10 s = k + lead (10 - k) (s.drop k)) 10 ?_ ?_
  · refine ⟨rfl, 0, rfl, by omega, by omega, ?_, ?_, ?_⟩
    · simp only [↓set_get, Nat.reduceEqDiff, Bool.false_eq_true, ↓reduceIte, aenv0, aenvS, aenvN, one_ne]
    · simp only [↓set_get, Nat.reduceEqDiff, Bool.false_eq_true, ↓reduceIte, aenv0, aenvS, aenvN, one_ne]; rfl
    · simp
  · rintro m ρ t ⟨rfl, k, rfl, hk, hkl, h0, h5, hle⟩
    refine asc ?_; refine awp_rj (fun ρ' s' => s' = t ∧ ρ' 0 = .str s ∧ ρ' 5 = .int .i64 (k : Nat) ∧ ρ' 21 = .bool (decide (k < lead 10 s))) ?_ ?_
    · intro K' hJ
      by_cases h1 : k < s.length
      · have e1 : decide ((k : Int) < (s.length : Int)) = true := by simp; omega
        by_cases h2 : k < 10
        · have e2 : decide ((k : Int) < 10) = true := by simp; omega
          rw [lead_drop h1 h2] at hle
          refine runGX (And.intro h0 (And.intro h5 (And.intro e1 e2))) ?_
          (refine al_set ?_ ?_ ?_ ?_; rotate_left 2; (· intro K hK; refine S0 ?_; refine index_str isStr9 (by omega) (by rw [Int.toNat_natCast]; exact List.getElem?_eq_getElem h1) ?_; exact hK))
          refine runGX (And.intro h0 h5) ?_
          refine al_nil (hJ _ _ ?_)
          simp only [↓set_get, Nat.reduceEqDiff, Bool.false_eq_true, ↓reduceIte, aenv0, aenvS, aenvN, one_ne, h0, h5, true_and, D.bool.injEq, decide_eq_decide]
          split at hle <;> omega
        · have e2 : decide ((k : Int) < 10) = false := by simp; omega
          refine runGX (And.intro h0 (And.intro h5 (And.intro e1 e2))) ?_
          refine al_nil (hJ _ _ ?_)
          simp only [↓set_get, Nat.reduceEqDiff, Bool.false_eq_true, ↓reduceIte, aenv0, aenvS, aenvN, one_ne, h0, h5, true_and, D.bool.injEq]
          simp; omega
      · have e1 : decide ((k : Int) < (s.length : Int)) = false := by simp; omega
        refine runGX (And.intro h0 (And.intro h5 e1)) ?_
        refine al_nil (hJ _ _ ?_)
        simp only [↓set_get, Nat.reduceEqDiff, Bool.false_eq_true, ↓reduceIte, aenv0, aenvS, aenvN, one_ne, h0, h5, true_and, D.bool.injEq]
        simp; omega
    rintro ρ1 t1 ⟨rfl, g0, g5, g21⟩
    refine asc ?_; refine ateX g21 ?_ ?_
    · intro hb
      have hb : k < lead 10 s := of_decide_eq_true hb
      have hk' := lead_drop (s := s) (k := k) (by omega) (by omega)
      rw [hk'] at hle
      refine awp_block (awp_region ?_)
      refine runMX g5 ?_
      refine al_nil ?_
      refine rx_next (10 - (k + 1)) (by omega) ⟨rfl, k + 1, rfl, by omega, by omega, ?_, ?_, ?_⟩
      · simp only [↓set_get, Nat.reduceEqDiff, Bool.false_eq_true, ↓reduceIte, aenv0, aenvS, aenvN, one_ne, g0]
      · simp only [↓set_get, Nat.reduceEqDiff, Bool.false_eq_true, ↓reduceIte, aenv0, aenvS, aenvN, one_ne]; rfl
      · split at hle <;> omega
    · intro hb
      have hb : ¬ k < lead 10 s := of_decide_eq_false hb
      have hk : lead 10 s = k := by omega
      subst hk
      refine lq_exit ?_
      refine asc ?_; refine awp_rj (fun ρ' s' => s' = t1 ∧ ρ' 0 = .str s ∧ ρ' 5 = .int .i64 (lead 10 s : Nat) ∧ ρ' 31 = .bool (decide (s.length ≤ lead 10 s ∨ 9 < lead 10 s))) ?_ ?_
      · intro K' hJ
        by_cases h1 : s.length ≤ lead 10 s
        · have e1 : decide ((lead 10 s : Int) ≥ (s.length : Int)) = true := by simp; omega
          refine runGX (And.intro g0 (And.intro g5 e1)) ?_
          refine al_nil (hJ _ _ ?_)
          simp only [↓set_get, Nat.reduceEqDiff, Bool.false_eq_true, ↓reduceIte, aenv0, aenvS, aenvN, one_ne, g0, g5, h1, true_and, true_or, decide_true]
        · have e1 : decide ((lead 10 s : Int) ≥ (s.length : Int)) = false := by simp; omega
          refine runGX (And.intro g0 (And.intro g5 e1)) ?_
          refine al_nil (hJ _ _ ?_)
          simp only [↓set_get, Nat.reduceEqDiff, Bool.false_eq_true, ↓reduceIte, aenv0, aenvS, aenvN, one_ne, g0, g5, h1, true_and, false_or, D.bool.injEq, decide_eq_decide]
          omega
      rintro ρ2 t2 ⟨rfl, f0, f5, f31⟩
      refine asc ?_; refine aiX f31 ?_ ?_
      · intro hb
        have hb := of_decide_eq_true hb
        refine rs ?_
        refine runM ?_
        refine rets ?_
        rw [refRead, if_pos hb] at hK; exact hK
      · intro hb
        have hb := of_decide_eq_false hb
        rw [refRead, if_neg hb] at hK
        refine rs ?_
        refine runM ?_
        refine al_done ?_
        refine rs ?_
        refine runM ?_
        refine al_done ?_
        refine asc ?_; refine awp_while (fun m ρ t => t = t2 ∧ ∃ i n : Nat, m = lead 10 s + 1 - i ∧ i ≤ lead 10 s + 1 ∧ n < 18446744073709551616 ∧ ρ 0 = .str s ∧ ρ 5 = .int .i64 (lead 10 s : Nat) ∧ ρ 7 = .int .i64 (i : Nat) ∧ ρ 6 = .int .u64 (n : Nat) ∧ valB 0 (s.take (lead 10 s + 1)) = valB n ((s.take (lead 10 s + 1)).drop i)) (lead 10 s + 1) ?_ ?_
        · refine ⟨rfl, 0, 0, rfl, by omega, by omega, ?_, ?_, ?_, ?_, rfl⟩
          · simp only [↓set_get, Nat.reduceEqDiff, Bool.false_eq_true, ↓reduceIte, aenv0, aenvS, aenvN, one_ne, f0]
          · simp only [↓set_get, Nat.reduceEqDiff, Bool.false_eq_true, ↓reduceIte, aenv0, aenvS, aenvN, one_ne, f5]
          · simp only [↓set_get, Nat.reduceEqDiff, Bool.false_eq_true, ↓reduceIte, aenv0, aenvS, aenvN, one_ne]; rfl
          · simp only [↓set_get, Nat.reduceEqDiff, Bool.false_eq_true, ↓reduceIte, aenv0, aenvS, aenvN, one_ne]; rfl
        · rintro m ρ3 t3 ⟨rfl, i, n, rfl, hi, hn, p0, p5, p7, p6, hv⟩
          refine rs ?_
          refine runMX (And.intro p5 p7) ?_
          refine al_done ?_
          refine asc ?_; refine ate ?_ ?_
          · intro hb2
            have hb2 : i ≤ lead 10 s := by have := of_decide_eq_true hb2
                                           omega
            have hil : i < s.length := by omega
            have htk : (s.take (lead 10 s + 1)).drop i = s[i] :: (s.take (lead 10 s + 1)).drop (i + 1) := by
              rw [List.drop_eq_getElem_cons (by simp; omega)]
              congr 1
              simp
            rw [htk] at hv
            have hc := s[i].toNat_lt
            refine asc ?_; refine awp_body ?_
            refine awp_region ?_
            refine runMX (And.intro p0 (And.intro p6 p7)) ?_
            (refine al_set ?_ ?_ ?_ ?_; rotate_left 2; (· intro K hK; refine S0 ?_; refine index_str isStr9 (by omega) (by rw [Int.toNat_natCast]; exact List.getElem?_eq_getElem hil) ?_; exact hK))
            refine runM ?_
            refine al_done ?_
            refine awp_region ?_
            refine runMX p7 ?_
            refine al_nil ?_
            refine lq_next (lead 10 s + 1 - (i + 1)) (by omega) ⟨rfl, i + 1, (n * 128 + s[i].toNat % 128) % 18446744073709551616, rfl, by omega, by omega, ?_, ?_, ?_, ?_, hv⟩
            · simp only [↓set_get, Nat.reduceEqDiff, Bool.false_eq_true, ↓reduceIte, aenv0, aenvS, aenvN, one_ne, p0]
            · simp only [↓set_get, Nat.reduceEqDiff, Bool.false_eq_true, ↓reduceIte, aenv0, aenvS, aenvN, one_ne, p5]
            · simp only [↓set_get, Nat.reduceEqDiff, Bool.false_eq_true, ↓reduceIte, aenv0, aenvS, aenvN, one_ne]; rfl
            · simp only [↓set_get, Nat.reduceEqDiff, Bool.false_eq_true, ↓reduceIte, aenv0, aenvS, aenvN, one_ne]
              congr 1
              rw [IntKind.wrap_u64, IntKind.wrap_u64]
              omega
          · intro hb2
            have hb2 : i = lead 10 s + 1 := by have := of_decide_eq_false hb2
                                               omega
            subst hb2
            have hv' : valB 0 (s.take (lead 10 s + 1)) = n := by
              rw [hv, List.drop_of_length_le (by simp; omega)]; rfl
            refine lq_exit ?_
            rw [hv'] at hK
            refine asc ?_; refine awp_pure (by kernel_rfl) ?_
            refine runPMX p6 ?_
            (refine ap_set ?_ ?_ ?_; rotate_left 1; (· intro K hK; refine S0 ?_; refine Or.inl (rNum_c (by omega) (by omega) ?_); exact hK))
            refine runPMX (And.intro p0 p5) ?_
            (refine ap_set ?_ ?_ ?_; rotate_left 1; (· intro K hK; refine S0 ?_; refine slice_str isStr9 (l := 0) (h := lead 10 s + 1) rfl (bound_at (by omega) (by omega)) (by omega) (by omega) ?_; exact hK))
            refine runPM ?_
            refine ap_done ?_
            refine asc ?_; refine ai ?_ ?_
            · intro he
              have he : ¬ numB n = s.take (lead 10 s + 1) := by simpa using he
              rw [if_neg he] at hK
              refine rs ?_
              refine runM ?_
              refine rets ?_
              exact hK
            · intro he
              have he : numB n = s.take (lead 10 s + 1) := by simpa using he
              rw [if_pos he] at hK
              refine asc ?_; refine awp_pure (by kernel_rfl) ?_
              refine runPMX (And.intro p0 (And.intro p5 p6)) ?_
              (refine ap_set ?_ ?_ ?_; rotate_left 1; (· intro K hK; refine S0 ?_; refine slice_str isStr9 (l := lead 10 s + 1) (h := s.length) (bound_at (by omega) (by omega)) rfl (by omega) (by omega) ?_; exact hK))
              refine runPM ?_
              refine ap_done ?_
              refine awp_ret (afin_ret (.done ?_)); simp only [ares, aone, ↓set_get, Nat.reduceEqDiff, Bool.false_eq_true, ↓reduceIte, aenv0, aenvS, aenvN, one_ne]
              simpa [dRead] using hK
end Go.Proofs.Try
