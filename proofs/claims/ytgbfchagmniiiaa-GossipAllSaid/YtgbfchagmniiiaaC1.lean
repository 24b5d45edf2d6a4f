/- codec: numbers, walked. -/
import Derived.Test.YtgbfchagmniiiaaSp1
import Derived.Test.YtgbfchagmniiiaaTyA
set_option maxRecDepth 8000
set_option linter.unusedSimpArgs false
set_option linter.unusedVariables false
namespace Go.Proofs.Try
open Go Go.Av
set_option pp.maxSteps 900
attribute [local irreducible] alist awp adraw
variable {γ : Gl} {σ : St} {K : D → St → Prop}

theorem Num_c {i : Int} (h0 : 0 ≤ i) (h1 : i < 18446744073709551616) (hK : K (.str (numB i.toNat)) σ) : ACalls prog γ 23 [.int .u64 i] σ K := by
  refine acalls_of_awp (by kernel_rfl) func23 rfl (by kernel_rfl) rfl rfl (by kernel_rfl) (Nat.le_of_ble_eq_true rfl) ?_
  refine rs ?_
  refine runM ?_
  refine al_done ?_
  refine rs ?_
  refine runM ?_
  (refine al_fresh ?_ ?_ ?_ ?_ ?_; rotate_left 3; (· intro K hK; refine S2 ?_; refine (bsl_int elt45 zc5) ?_; exact hK))
  intro id1 hid1
  refine runM ?_
  refine al_done ?_
  refine rs ?_
  refine runM ?_
  refine al_nil (rx_tok (t := 3) (by simp only [↓set_get, Nat.reduceEqDiff, Bool.false_eq_true, ↓reduceIte, aenv0, aenvS, aenvN, one_ne]; rfl) hid1 (.done ?_))
  refine asc ?_; refine awp_while (fun n ρ s => s = σ ∧ ∃ bs, ρ 0 = .int .u64 n ∧ n < 18446744073709551616 ∧ ρ 3 = .sl bs.length (bytesD bs) none ∧ numAcc n bs = numB i.toNat) (i / 128).toNat ?_ ?_
  · refine ⟨rfl, [UInt8.ofNat (i.toNat % 128)], ?_, by omega, ?_, ?_⟩
    · simp only [↓set_get, Nat.reduceEqDiff, Bool.false_eq_true, ↓reduceIte, aenv0, aenvS, aenvN, one_ne]; congr 1; omega
    · simp only [↓set_get, Nat.reduceEqDiff, Bool.false_eq_true, ↓reduceIte, aenv0, aenvS, aenvN, one_ne, bytesD_cons, bytesD_nil, List.length_cons, List.length_nil]
      rw [← byte_of (i := i % 128) (by omega) (by omega)]
    · rw [numB]; congr 1; omega
  · rintro n ρ s ⟨rfl, bs, h0, hn, h3, hacc⟩
    refine rs ?_
    refine runMX (And.intro h0 h3) ?_
    refine al_done ?_
    refine asc ?_; refine ate ?_ ?_
    · intro hb
      have hb : 0 < n := by simpa using hb
      have hlen : bs.length ≤ 10 := Nat.le_trans (numAcc_len n bs) (by rw [hacc]; exact length_numB (by omega))
      refine asc ?_; refine awp_body ?_
      refine awp_region ?_
      (repeat (refine al_set ?_ ?_ ?_ ?_; rotate_left 2; · intro K hK; simp (disch := omega) only [go_sem, ↓set_get, ↓reduceIte, ↓o_bsl, ↓o_build, Nat.reduceEqDiff, Nat.reduceAdd, Nat.reduceMul, Int.reduceEq, Int.reduceNe, h0, h3, or128]; (repeat' (first | exact hK | (refine And.intro ?_ ?_) | assumption | omega))))
      (refine al_fresh ?_ ?_ ?_ ?_ ?_; rotate_left 3; (· intro K hK; refine S2 ?_; refine (bsl_int elt45 zc5) ?_; exact hK))
      intro id2 hid2
      refine runMX (And.intro h0 h3) ?_
      (refine al_fresh ?_ ?_ ?_ ?_ ?_; rotate_left 3; (· intro K hK; simp (disch := (first | omega | (simp only [length_bytesD, List.length_append, List.length_cons, List.length_nil, List.length_map, List.length_replicate, List.length_take, List.length_drop]; omega))) only [go_sem, ↓set_get, ↓reduceIte, ↓o_bsl, ↓o_build, Nat.reduceEqDiff, Nat.reduceAdd, Nat.reduceMul, Int.reduceEq, Int.reduceNe,  xcells_sl]; refine app_tok hid2 (by omega) ?_; exact hK))
      intro id3 hid3
      refine runM ?_
      refine al_nil (rx_tok (t := 3) (by simp only [↓set_get, Nat.reduceEqDiff, Bool.false_eq_true, ↓reduceIte, aenv0, aenvS, aenvN, one_ne]; rfl) hid3 (.done ?_))
      refine awp_region ?_
      refine runMX h0 ?_
      refine al_nil ?_
      refine lq_next (n / 128) (by omega) ?_
      refine ⟨rfl, UInt8.ofNat (n % 128 + 128) :: bs, ?_, by omega, ?_, ?_⟩
      · simp only [↓set_get, Nat.reduceEqDiff, Bool.false_eq_true, ↓reduceIte, aenv0, aenvS, aenvN, one_ne]; congr 1
      · simp only [↓set_get, Nat.reduceEqDiff, Bool.false_eq_true, ↓reduceIte, aenv0, aenvS, aenvN, one_ne, bytesD_cons, bytesD_nil, List.length_cons, List.length_nil]
        rw [← byte_of (i := n % 128 + 128) (by omega) (by omega)]
        simp [Nat.add_comm]
      · rw [← hacc, numAcc_pos (by omega) bs]
    · intro hb
      have hb : n = 0 := by simpa using hb
      subst hb
      rw [numAcc_zero] at hacc
      refine lq_exit ?_
      refine rs ?_
      refine runMX h3 ?_
      (refine al_set ?_ ?_ ?_ ?_; rotate_left 2; (· intro K hK; refine S0 ?_; refine conv_bytes isStr9 elt45 int5 ?_; exact hK))
      refine runM ?_
      refine rets ?_
      rw [← hacc] at hK; exact hK

theorem ahead_c : ∀ (n : Nat) (i : Int) (σ : St) (K : D → St → Prop), i.toNat = n → 0 ≤ i → i < 18446744073709551616 → K (.str (aheadB i.toNat)) σ → ACalls prog γ 86 [.int .u64 i] σ K := by
  intro n
  induction n using Nat.strongRecOn with
  | _ n ih =>
    intro i σ K hin h0 h1 hK
    refine acalls_of_awp (by kernel_rfl) func86 rfl (by kernel_rfl) rfl rfl (by kernel_rfl) (Nat.le_of_ble_eq_true rfl) ?_
    refine rs ?_
    refine runM ?_
    refine al_done ?_
    refine rs ?_
    refine runM ?_
    (refine al_fresh ?_ ?_ ?_ ?_ ?_; rotate_left 3; (· intro K hK; refine S2 ?_; refine bsl_int elt45 zc5 ?_; exact hK))
    intro id1 hid1
    (refine al_set ?_ ?_ ?_ ?_; rotate_left 2; (· intro K hK; refine S0 ?_; refine conv_bytes' isStr9 elt45 int5 (one_byte (n := i.toNat % 128 + 128) (by omega) (by omega)) rfl ?_; exact hK))
    refine runM ?_
    refine al_nil (rx_drop hid1 (.done ?_))
    refine rs ?_
    refine runM ?_
    refine al_done ?_
    refine asc ?_; refine ai ?_ ?_
    · intro hb
      have hb : i < 128 := by simpa using hb
      refine rs ?_
      refine runM ?_
      refine rets ?_
      rw [aheadB_small (by omega)] at hK; exact hK
    · intro hb
      have hb : 128 ≤ i := by simpa using hb
      have hl := length_aheadB (i.toNat / 128) 8 (by have h9 : (128 : Nat) ^ (8 + 1) = 9223372036854775808 := by decide
                                                     omega)
      refine rs ?_
      refine runM ?_
      (refine al_set ?_ ?_ ?_ ?_; rotate_left 2; (· intro K hK; refine S0 ?_; refine Or.inl (ih (i / 128).toNat (by omega) (i / 128) _ _ rfl (by omega) (by omega) ?_); exact hK))
      refine runM ?_
      (refine al_set ?_ ?_ ?_ ?_; rotate_left 2; (· intro K hK; refine S0 ?_; refine And.intro (by rw [show (i / 128).toNat = i.toNat / 128 by omega]; simp only [List.length_cons, List.length_nil]; omega) ?_; exact hK))
      refine runM ?_
      refine rets ?_
      rw [aheadB_great (by omega)] at hK
      rw [show (i / 128).toNat = i.toNat / 128 by omega]
      exact hK

theorem rNum_c {i : Int} (h0 : 0 ≤ i) (h1 : i < 18446744073709551616) (hK : K (.str (numB i.toNat)) σ) : ACalls prog γ 24 [.int .u64 i] σ K := by
  refine acalls_of_awp (by kernel_rfl) func24 rfl (by kernel_rfl) rfl rfl (by kernel_rfl) (Nat.le_of_ble_eq_true rfl) ?_
  refine rs ?_
  refine runM ?_
  refine al_done ?_
  refine rs ?_
  refine runM ?_
  refine al_done ?_
  refine asc ?_; refine ai ?_ ?_
  · intro hb
    have hb : i < 128 := by simpa using hb
    refine rs ?_
    refine runM ?_
    (refine al_set ?_ ?_ ?_ ?_; rotate_left 2; (· intro K hK; refine S0 ?_; refine bsl_int0 elt45 zc5 ?_; exact hK))
    (refine al_set ?_ ?_ ?_ ?_; rotate_left 2; (· intro K hK; refine S0 ?_; refine conv_bytes' isStr9 elt45 int5 (one_byte (n := i.toNat % 128) (by omega) (by omega)) rfl ?_; exact hK))
    refine runM ?_
    refine rets ?_
    rw [numB_small (by omega)] at hK; exact hK
  · intro hb
    have hb : 128 ≤ i := by simpa using hb
    have h9 : (128 : Nat) ^ (8 + 1) = 9223372036854775808 := by decide
    have hl := length_aheadB (i.toNat / 128) 8 (by omega)
    have he : (i / 128).toNat = i.toNat / 128 := by omega
    refine asc ?_; refine awp_pure (by kernel_rfl) ?_
    refine runPM ?_
    (refine ap_set ?_ ?_ ?_; rotate_left 1; (· intro K hK; refine S0 ?_; refine Or.inl (ahead_c _ (i / 128) _ _ rfl (by omega) (by omega) ?_); exact hK))
    refine runPM ?_
    (refine ap_set ?_ ?_ ?_; rotate_left 1; (· intro K hK; refine S0 ?_; refine bsl_int0 elt45 zc5 ?_; exact hK))
    (refine ap_set ?_ ?_ ?_; rotate_left 1; (· intro K hK; refine S0 ?_; refine conv_bytes' isStr9 elt45 int5 (one_byte (n := i.toNat % 128) (by omega) (by omega)) rfl ?_; exact hK))
    (refine ap_set ?_ ?_ ?_; rotate_left 1; (· intro K hK; refine S0 ?_; refine And.intro (by rw [he]; simp only [List.length_cons, List.length_nil]; omega) ?_; exact hK))
    refine runPM ?_
    refine ap_done ?_
    refine awp_ret (afin_ret (.done ?_)); simp only [ares, aone, ↓set_get, Nat.reduceEqDiff, Bool.false_eq_true, ↓reduceIte, aenv0, aenvS, aenvN, one_ne]
    rw [numB_great (by omega)] at hK
    rw [he]
    exact hK

theorem Text_c {s : List UInt8} (hs : s.length ≤ 140737488355328) (hK : K (.str (numB s.length ++ s)) σ) : ACalls prog γ 25 [.str s] σ K := by
  have hl := length_numB (n := s.length) (by omega)
  refine acalls_of_awp (by kernel_rfl) func25 rfl (by kernel_rfl) rfl rfl (by kernel_rfl) (Nat.le_of_ble_eq_true rfl) ?_
  refine rs ?_
  refine runM ?_
  refine al_done ?_
  refine rs ?_
  refine runM ?_
  (refine al_set ?_ ?_ ?_ ?_; rotate_left 2; (· intro K hK; refine S0 ?_; refine Or.inl (Num_c (by omega) (by omega) ?_); exact hK))
  refine runM ?_
  (refine al_set ?_ ?_ ?_ ?_; rotate_left 2; (· intro K hK; refine S0 ?_; refine And.intro (by simp only [Int.toNat_natCast]; omega) ?_; exact hK))
  refine runM ?_
  refine rets ?_
  exact hK

theorem rText_c {s : List UInt8} (hs : s.length ≤ 140737488355328) (hK : K (.str (numB s.length ++ s)) σ) : ACalls prog γ 26 [.str s] σ K := by
  have hl := length_numB (n := s.length) (by omega)
  refine acalls_of_awp (by kernel_rfl) func26 rfl (by kernel_rfl) rfl rfl (by kernel_rfl) (Nat.le_of_ble_eq_true rfl) ?_
  refine rs ?_
  refine runM ?_
  refine al_done ?_
  refine rs ?_
  refine runM ?_
  (refine al_set ?_ ?_ ?_ ?_; rotate_left 2; (· intro K hK; refine S0 ?_; refine Or.inl (rNum_c (by omega) (by omega) ?_); exact hK))
  refine runM ?_
  (refine al_set ?_ ?_ ?_ ?_; rotate_left 2; (· intro K hK; refine S0 ?_; refine And.intro (by simp only [Int.toNat_natCast]; omega) ?_; exact hK))
  refine runM ?_
  refine rets ?_
  exact hK
end Go.Proofs.Try
