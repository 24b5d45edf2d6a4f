/- codec: numbers, walked. -/
import Derived.Test.YtgbfchagmniiiaaSpA
import Derived.Test.YtgbfchagmniiiaaTyA
set_option maxRecDepth 8000
set_option linter.unusedSimpArgs false
set_option linter.unusedVariables false
namespace Go.Proofs.Try
open Go Go.Av
set_option pp.maxSteps 900
attribute [local irreducible] alist awp adraw
variable {γ : Gl} {σ : St} {K : D → St → Prop}

theorem Num_c {i : Int} (h0 : 0 ≤ i) (h1 : i < 18446744073709551616) (hK : K (.str (numB i.toNat)) σ) : ACalls prog γ 23 [.int .u64 i] σ K := by
  refine acalls_of_awp (by kernel_rfl) func23 rfl (by kernel_rfl) rfl rfl (by kernel_rfl) (Nat.le_of_ble_eq_true rfl) ?_
  refine rs ?_
  refine runM ?_
  refine al_done ?_
  refine rs ?_
  refine runM ?_
  (refine al_fresh ?_ ?_ ?_ ?_ ?_; rotate_left 3; (· intro K hK; refine S2 ?_; refine (bsl_int elt45 zc5) ?_; exact hK))
  intro id1 hid1
  refine runM ?_
  refine al_done ?_
  refine rs ?_
  refine runM ?_
  refine al_nil (rx_tok (t := 3) (by simp only [↓set_get, Nat.reduceEqDiff, Bool.false_eq_true, ↓reduceIte, aenv0, aenvS, aenvN, one_ne]; rfl) hid1 (.done ?_))
  refine asc ?_; refine awp_while (fun n ρ s => s = σ ∧ ∃ bs, ρ 0 = .int .u64 n ∧ n < 18446744073709551616 ∧ ρ 3 = .sl bs.length (bytesD bs) none ∧ numAcc n bs = numB i.toNat) (i / 128).toNat ?_ ?_
  · refine ⟨rfl, [UInt8.ofNat (i.toNat % 128)], ?_, by omega, ?_, ?_⟩
    · simp only [↓set_get, Nat.reduceEqDiff, Bool.false_eq_true, ↓reduceIte, aenv0, aenvS, aenvN, one_ne]; congr 1; omega
    · simp only [↓set_get, Nat.reduceEqDiff, Bool.false_eq_true, ↓reduceIte, aenv0, aenvS, aenvN, one_ne, bytesD_cons, bytesD_nil, List.length_cons, List.length_nil]
      rw [← byte_of (i := i % 128) (by omega) (by omega)]
    · rw [numB]; congr 1; omega
  · rintro n ρ s ⟨rfl, bs, h0, hn, h3, hacc⟩
    refine rs ?_
    refine runMX (And.intro h0 h3) ?_
    refine al_done ?_
    refine asc ?_; refine ate ?_ ?_
    · intro hb
      have hb : 0 < n := by simpa using hb
      have hlen : bs.length ≤ 10 := Nat.le_trans (numAcc_len n bs) (by rw [hacc]; exact length_numB (by omega))
      refine asc ?_; refine awp_body ?_
      refine awp_region ?_
      (repeat (refine al_set ?_ ?_ ?_ ?_; rotate_left 2; · intro K hK; simp (disch := omega) only [go_sem, ↓set_get, ↓reduceIte, ↓o_bsl, ↓o_build, Nat.reduceEqDiff, Nat.reduceAdd, Nat.reduceMul, Int.reduceEq, Int.reduceNe, h0, h3, or128]; (repeat' (first | exact hK | (refine And.intro ?_ ?_) | assumption | omega))))
      (refine al_fresh ?_ ?_ ?_ ?_ ?_; rotate_left 3; (· intro K hK; refine S2 ?_; refine (bsl_int elt45 zc5) ?_; exact hK))
      intro id2 hid2
      refine runMX (And.intro h0 h3) ?_
      (refine al_fresh ?_ ?_ ?_ ?_ ?_; rotate_left 3; (· intro K hK; simp (disch := (first | omega | (simp only [length_bytesD, List.length_append, List.length_cons, List.length_nil, List.length_map, List.length_replicate, List.length_take, List.length_drop]; omega))) only [go_sem, ↓set_get, ↓reduceIte, ↓o_bsl, ↓o_build, Nat.reduceEqDiff, Nat.reduceAdd, Nat.reduceMul, Int.reduceEq, Int.reduceNe,  xcells_sl]; refine app_tok hid2 (by omega) ?_; exact hK))
      intro id3 hid3
      refine runM ?_
      refine al_nil (rx_tok (t := 3) (by simp only [↓set_get, Nat.reduceEqDiff, Bool.false_eq_true, ↓reduceIte, aenv0, aenvS, aenvN, one_ne]; rfl) hid3 (.done ?_))
      refine awp_region ?_
      refine runMX h0 ?_
      refine al_nil ?_
      refine lq_next (n / 128) (by omega) ?_
      refine ⟨rfl, UInt8.ofNat (n % 128 + 128) :: bs, ?_, by omega, ?_, ?_⟩
      · simp only [↓set_get, Nat.reduceEqDiff, Bool.false_eq_true, ↓reduceIte, aenv0, aenvS, aenvN, one_ne]; congr 1
      · simp only [↓set_get, Nat.reduceEqDiff, Bool.false_eq_true, ↓reduceIte, aenv0, aenvS, aenvN, one_ne, bytesD_cons, bytesD_nil, List.length_cons, List.length_nil]
        rw [← byte_of (i := n % 128 + 128) (by omega) (by omega)]
        simp [Nat.add_comm]
      · rw [← hacc, numAcc_pos (by omega) bs]
    · intro hb
      have hb : n = 0 := by simpa using hb
      subst hb
      rw [numAcc_zero] at hacc
      refine lq_exit ?_
      refine rs ?_
      refine runMX h3 ?_
      (refine al_set ?_ ?_ ?_ ?_; rotate_left 2; (· intro K hK; refine S0 ?_; refine conv_bytes isStr9 elt45 int5 ?_; exact hK))
      refine runM ?_
      refine rets ?_
      rw [← hacc] at hK; exact hK

theorem ahead_c : ∀ (n : Nat) (i : Int) (σ : St) (K : D → St → Prop), i.toNat = n → 0 ≤ i → i < 18446744073709551616 → K (.str (aheadB i.toNat)) σ → ACalls prog γ 86 [.int .u64 i] σ K := by
  intro n
  induction n using Nat.strongRecOn with
  | _ n ih =>
    intro i σ K hin h0 h1 hK
    refine acalls_of_awp (by kernel_rfl) func86 rfl (by kernel_rfl) rfl rfl (by kernel_rfl) (Nat.le_of_ble_eq_true rfl) ?_
    refine rs ?_
    refine runM ?_
    refine al_done ?_
    refine rs ?_
    refine runM ?_
    (refine al_fresh ?_ ?_ ?_ ?_ ?_; rotate_left 3; (· intro K hK; refine S2 ?_; refine bsl_int elt45 zc5 ?_; exact hK))
    intro id1 hid1
    (refine al_set ?_ ?_ ?_ ?_; rotate_left 2; (· intro K hK; refine S0 ?_; refine conv_bytes' isStr9 elt45 int5 (one_byte (n := i.toNat % 128 + 128) (by omega) (by omega)) rfl ?_; exact hK))
    refine runM ?_
    refine al_nil (rx_drop hid1 (.done ?_))
    refine rs ?_
    refine runM ?_
    refine al_done ?_
    refine asc ?_; refine ai ?_ ?_
    · intro hb
      have hb : i < 128 := by simpa using hb
      refine rs ?_
      refine runM ?_
      refine rets ?_
      rw [aheadB_small (by omega)] at hK; exact hK
    · intro hb
      have hb : 128 ≤ i := by simpa using hb
      have hl := length_aheadB (i.toNat / 128) 8 (by have h9 : (128 : Nat) ^ (8 + 1) = 9223372036854775808 := by decide
                                                     omega)
      refine rs ?_
      refine runM ?_
      (refine al_set ?_ ?_ ?_ ?_; rotate_left 2; (· intro K hK; refine S0 ?_; refine Or.inl (ih (i / 128).toNat (by omega) (i / 128) _ _ rfl (by omega) (by omega) ?_); exact hK))
      refine runM ?_
      (refine al_set ?_ ?_ ?_ ?_; rotate_left 2; (· intro K hK; refine S0 ?_; refine And.intro (by rw [show (i / 128).toNat = i.toNat / 128 by omega]; simp only [List.length_cons, List.length_nil]; omega) ?_; exact hK))
      refine runM ?_
      refine rets ?_
      rw [aheadB_great (by omega)] at hK
      rw [show (i / 128).toNat = i.toNat / 128 by omega]
      exact hK

theorem rNum_c {i : Int} (h0 : 0 ≤ i) (h1 : i < 18446744073709551616) (hK : K (.str (numB i.toNat)) σ) : ACalls prog γ 24 [.int .u64 i] σ K := by
  refine acalls_of_awp (by kernel_rfl) func24 rfl (by kernel_rfl) rfl rfl (by kernel_rfl) (Nat.le_of_ble_eq_true rfl) ?_
  refine rs ?_
  refine runM ?_
  refine al_done ?_
  refine rs ?_
  refine runM ?_
  refine al_done ?_
  refine asc ?_; refine ai ?_ ?_
  · intro hb
    have hb : i < 128 := by simpa using hb
    refine rs ?_
    refine runM ?_
    (refine al_set ?_ ?_ ?_ ?_; rotate_left 2; (· intro K hK; refine S0 ?_; refine bsl_int0 elt45 zc5 ?_; exact hK))
    (refine al_set ?_ ?_ ?_ ?_; rotate_left 2; (· intro K hK; refine S0 ?_; refine conv_bytes' isStr9 elt45 int5 (one_byte (n := i.toNat % 128) (by omega) (by omega)) rfl ?_; exact hK))
    refine runM ?_
    refine rets ?_
    rw [numB_small (by omega)] at hK; exact hK
  · intro hb
    have hb : 128 ≤ i := by simpa using hb
    have h9 : (128 : Nat) ^ (8 + 1) = 9223372036854775808 := by decide
    have hl := length_aheadB (i.toNat / 128) 8 (by omega)
    have he : (i / 128).toNat = i.toNat / 128 := by omega
    refine asc ?_; refine awp_pure (by kernel_rfl) ?_
    refine runPM ?_
    (refine ap_set ?_ ?_ ?_; rotate_left 1; (· intro K hK; refine S0 ?_; refine Or.inl (ahead_c _ (i / 128) _ _ rfl (by omega) (by omega) ?_); exact hK))
    refine runPM ?_
    (refine ap_set ?_ ?_ ?_; rotate_left 1; (· intro K hK; refine S0 ?_; refine bsl_int0 elt45 zc5 ?_; exact hK))
    (refine ap_set ?_ ?_ ?_; rotate_left 1; (· intro K hK; refine S0 ?_; refine conv_bytes' isStr9 elt45 int5 (one_byte (n := i.toNat % 128) (by omega) (by omega)) rfl ?_; exact hK))
    (refine ap_set ?_ ?_ ?_; rotate_left 1; (· intro K hK; refine S0 ?_; refine And.intro (by rw [he]; simp only [List.length_cons, List.length_nil]; omega) ?_; exact hK))
    refine runPM ?_
    refine ap_done ?_
    refine awp_ret (afin_ret (.done ?_)); simp only [ares, aone, ↓set_get, Nat.reduceEqDiff, Bool.false_eq_true, ↓reduceIte, aenv0, aenvS, aenvN, one_ne]
    rw [numB_great (by omega)] at hK
    rw [he]
    exact hK

theorem Text_c {s : List UInt8} (hs : s.length ≤ 140737488355328) (hK : K (.str (numB s.length ++ s)) σ) : ACalls prog γ 25 [.str s] σ K := by
  have hl := length_numB (n := s.length) (by omega)
  refine acalls_of_awp (by kernel_rfl) func25 rfl (by kernel_rfl) rfl rfl (by kernel_rfl) (Nat.le_of_ble_eq_true rfl) ?_
  refine rs ?_
  refine runM ?_
  refine al_done ?_
  refine rs ?_
  refine runM ?_
  (refine al_set ?_ ?_ ?_ ?_; rotate_left 2; (· intro K hK; refine S0 ?_; refine Or.inl (Num_c (by omega) (by omega) ?_); exact hK))
  refine runM ?_
  (refine al_set ?_ ?_ ?_ ?_; rotate_left 2; (· intro K hK; refine S0 ?_; refine And.intro (by simp only [Int.toNat_natCast]; omega) ?_; exact hK))
  refine runM ?_
  refine rets ?_
  exact hK

theorem rText_c {s : List UInt8} (hs : s.length ≤ 140737488355328) (hK : K (.str (numB s.length ++ s)) σ) : ACalls prog γ 26 [.str s] σ K := by
  have hl := length_numB (n := s.length) (by omega)
  refine acalls_of_awp (by kernel_rfl) func26 rfl (by kernel_rfl) rfl rfl (by kernel_rfl) (Nat.le_of_ble_eq_true rfl) ?_
  refine rs ?_
  refine runM ?_
  refine al_done ?_
  refine rs ?_
  refine runM ?_
  (refine al_set ?_ ?_ ?_ ?_; rotate_left 2; (· intro K hK; refine S0 ?_; refine Or.inl (rNum_c (by omega) (by omega) ?_); exact hK))
  refine runM ?_
  (refine al_set ?_ ?_ ?_ ?_; rotate_left 2; (· intro K hK; refine S0 ?_; refine And.intro (by simp only [Int.toNat_natCast]; omega) ?_; exact hK))
  refine runM ?_
  refine rets ?_
  exact hK
end Go.Proofs.Try

/- codec: hashes, walked. -/
set_option maxRecDepth 8000
set_option linter.unusedSimpArgs false
set_option linter.unusedVariables false
namespace Go.Proofs.Try
open Go Go.Av
set_option pp.maxSteps 900
attribute [local irreducible] alist awp adraw apure
variable {γ : Gl} {σ : St} {K : D → St → Prop}

theorem Hash_c {h : List UInt8} (hh : h.length = 32) (hK : K (.str h) σ) : ACalls prog γ 21 [.agg (bytesD h)] σ K := by
  refine acalls_of_awp (by kernel_rfl) func21 rfl (by kernel_rfl) rfl rfl (by kernel_rfl) (Nat.le_of_ble_eq_true rfl) ?_
  refine rs ?_
  (refine al_fresh ?_ ?_ ?_ ?_ ?_; rotate_left 3; (· intro K hK; refine S2 ?_; refine box_agg ?_; exact hK))
  intro id hid
  refine runM ?_
  refine al_done ?_
  refine rs ?_
  (refine al_set ?_ ?_ ?_ ?_; rotate_left 2; (· intro K hK; refine S0 ?_; refine slice_ptr0 arr27 (by decide) (by decide) (set_same _ _ _) (by rw [length_bytesD]; omega) ?_; exact hK))
  (refine al_set ?_ ?_ ?_ ?_; rotate_left 2; (· intro K hK; refine S0 ?_; refine conv_osl isStr9 elt45 int5 (set_same _ _ _) (by rw [List.drop_zero, List.take_of_length_le (by rw [length_bytesD]; omega)]) (by omega) ?_; exact hK))
  refine runM ?_
  refine al_nil (rx_drop hid (.done ?_))
  refine awp_ret (afin_ret (.done ?_)); simp only [ares, aone, ↓set_get, Nat.reduceEqDiff, Bool.false_eq_true, ↓reduceIte, aenv0, aenvS, aenvN, one_ne]
  exact hK

theorem rHash_c {h : List UInt8} (hh : h.length = 32) (hK : K (.str h) σ) : ACalls prog γ 22 [.agg (bytesD h)] σ K := by
  refine acalls_of_awp (by kernel_rfl) func22 rfl (by kernel_rfl) rfl rfl (by kernel_rfl) (Nat.le_of_ble_eq_true rfl) ?_
  refine rs ?_
  (refine al_fresh ?_ ?_ ?_ ?_ ?_; rotate_left 3; (· intro K hK; refine S2 ?_; refine box_agg ?_; exact hK))
  intro id hid
  refine runM ?_
  refine al_done ?_
  refine rs ?_
  refine runM ?_
  refine al_done ?_
  refine rs ?_
  refine runM ?_
  refine al_done ?_
  have hs1 : (σ.set id (.cells (bytesD h) 27)) id = some (.cells (bytesD h) 27) := set_same _ _ _
  refine asc ?_; refine awp_while (fun n ρ s => ∃ k d, n = 32 - k ∧ k ≤ 32 ∧ ρ 1 = .ptr id 0 ∧ ρ 4 = .int .i64 (k : Nat) ∧ ρ 3 = d ∧ Own (σ.set id (.cells (bytesD h) 27)) 5 1 k (bytesD (h.take k)) d s) 32 ?_ ?_
  · refine ⟨0, .nil, rfl, by omega, ?_, ?_, ?_, ?_⟩
    · simp only [↓set_get, Nat.reduceEqDiff, Bool.false_eq_true, ↓reduceIte, aenv0, aenvS, aenvN, one_ne]
    · simp only [↓set_get, Nat.reduceEqDiff, Bool.false_eq_true, ↓reduceIte, aenv0, aenvS, aenvN, one_ne]; rfl
    · simp only [↓set_get, Nat.reduceEqDiff, Bool.false_eq_true, ↓reduceIte, aenv0, aenvS, aenvN, one_ne]
    · exact own_nil _ _ _
  · rintro n ρ s ⟨k, d, rfl, hk, h1, h4, h3, hown⟩
    refine rs ?_
    refine runMX (And.intro h1 (And.intro h4 h3)) ?_
    refine al_done ?_
    refine asc ?_; refine ate ?_ ?_
    · intro hb
      have hb : k < 32 := by have : (k : Int) < 32 := by simpa using hb
                             omega
      refine asc ?_; refine awp_body ?_
      refine awp_region ?_
      (repeat (refine al_set ?_ ?_ ?_ ?_; rotate_left 2; · intro K hK; simp (disch := omega) only [go_sem, ↓set_get, ↓reduceIte, ↓o_bsl, ↓o_build, Nat.reduceEqDiff, Nat.reduceAdd, Nat.reduceMul, Int.reduceEq, Int.reduceNe, h1, h4, h3, Int.toNat_natCast]; (repeat' (first | exact hK | (refine And.intro ?_ ?_) | assumption | omega))))
      (refine al_set ?_ ?_ ?_ ?_; rotate_left 2; (· intro K hK; refine S0 ?_; refine load1_ptr tagg5 (own_get hown hs1) (by rw [getElem?_bytesD, List.getElem?_eq_getElem (by omega), Option.map_some]) ?_; exact hK))
      (refine al_set ?_ ?_ ?_ ?_; rotate_left 2; (· intro K hK; refine S0 ?_; refine bsl_int0 elt45 zc5 ?_; exact hK))
      (refine al_rel ?_ ?_ ?_; rotate_left 1; (· intro K hK; simp (disch := (first | omega | (simp only [length_bytesD, List.length_append, List.length_cons, List.length_nil, List.length_map, List.length_replicate, List.length_take, List.length_drop]; omega))) only [go_sem, ↓set_get, ↓reduceIte, ↓o_bsl, ↓o_build, Nat.reduceEqDiff, Nat.reduceAdd, Nat.reduceMul, Int.reduceEq, Int.reduceNe,  xcells_sl, h3]; refine own_app hown (by decide) rfl (by omega) ?_; exact hK))
      intro d' s' hown'
      refine runM ?_
      refine al_done ?_
      refine awp_region ?_
      refine runMX h4 ?_
      refine al_nil ?_
      refine lq_next (32 - (k + 1)) (by omega) ?_
      refine ⟨k + 1, d', rfl, by omega, ?_, ?_, ?_, ?_⟩
      · simp only [↓set_get, Nat.reduceEqDiff, Bool.false_eq_true, ↓reduceIte, aenv0, aenvS, aenvN, one_ne, h1]
      · simp only [↓set_get, Nat.reduceEqDiff, Bool.false_eq_true, ↓reduceIte, aenv0, aenvS, aenvN, one_ne]; rfl
      · simp only [↓set_get, Nat.reduceEqDiff, Bool.false_eq_true, ↓reduceIte, aenv0, aenvS, aenvN, one_ne]
      · rw [List.take_add_one, List.getElem?_eq_getElem (by omega), bytesD_append]; exact hown'
    · intro hb
      have hb : k = 32 := by have : ¬ (k : Int) < 32 := by simpa using hb
                             omega
      subst hb
      refine lq_exit ?_
      refine rs ?_
      refine runMX (And.intro h1 (And.intro h4 h3)) ?_
      rw [List.take_of_length_le (by omega)] at hown
      (refine al_set ?_ ?_ ?_ ?_; rotate_left 2; (· intro K hK; refine S0X h3 ?_; refine conv_own hown isStr9 elt45 int5 ?_; exact hK))
      refine runM ?_
      refine al_nil (rx_own hown (t := 3) (by simp only [↓set_get, Nat.reduceEqDiff, Bool.false_eq_true, ↓reduceIte, aenv0, aenvS, aenvN, one_ne, h3]) (rx_drop hid (.done ?_)))
      refine awp_ret (afin_ret (.done ?_)); simp only [ares, aone, ↓set_get, Nat.reduceEqDiff, Bool.false_eq_true, ↓reduceIte, aenv0, aenvS, aenvN, one_ne]
      exact hK
end Go.Proofs.Try

/- codec: reading, walked. -/
set_option maxRecDepth 8000
set_option linter.unusedSimpArgs false
set_option linter.unusedVariables false
namespace Go.Proofs.Try
open Go Go.Av
set_option pp.maxSteps 900
attribute [local irreducible] alist awp adraw apure
variable {γ : Gl} {σ : St} {K : D → St → Prop}

theorem take_c {s : List UInt8} {n : Int} (hs : s.length ≤ 140737488355328) (h0 : 0 ≤ n) (h1 : n < 18446744073709551616) (hK : K (dCut (takeB s n.toNat)) σ) : ACalls prog γ 89 [.str s, .int .u64 n] σ K := by
  refine acalls_of_awp (by kernel_rfl) func89 rfl (by kernel_rfl) rfl rfl (by kernel_rfl) (Nat.le_of_ble_eq_true rfl) ?_
  refine rs ?_
  refine runM ?_
  refine al_done ?_
  refine rs ?_
  refine runM ?_
  refine al_done ?_
  refine asc ?_; refine ai ?_ ?_
  · intro hb
    have hb : (s.length : Int) < n := by simpa using hb
    refine rs ?_
    refine runM ?_
    refine rets ?_
    rw [takeB, if_pos (by omega)] at hK; exact hK
  · intro hb
    have hb : ¬ (s.length : Int) < n := by simpa using hb
    refine asc ?_; refine awp_pure (by kernel_rfl) ?_
    refine runPM ?_
    (refine ap_set ?_ ?_ ?_; rotate_left 1; (· intro K hK; refine S0 ?_; refine slice_str isStr9 (l := 0) (h := n.toNat) rfl (bound_int h0) (by omega) (by omega) ?_; exact hK))
    refine runPM ?_
    (refine ap_set ?_ ?_ ?_; rotate_left 1; (· intro K hK; refine S0 ?_; refine slice_str isStr9 (l := n.toNat) (h := s.length) (bound_int h0) rfl (by omega) (by omega) ?_; exact hK))
    refine runPM ?_
    refine ap_done ?_
    refine awp_ret (afin_ret (.done ?_)); simp only [ares, aone, ↓set_get, Nat.reduceEqDiff, Bool.false_eq_true, ↓reduceIte, aenv0, aenvS, aenvN, one_ne]
    rw [takeB, if_neg (by omega)] at hK
    simpa [dCut] using hK

theorem Read_c {s : List UInt8} (hs : s.length ≤ 140737488355328) (hK : K (dRead (readB s)) σ) : ACalls prog γ 29 [.str s] σ K := by
  refine acalls_of_awp (by kernel_rfl) func29 rfl (by kernel_rfl) rfl rfl (by kernel_rfl) (Nat.le_of_ble_eq_true rfl) ?_
  refine rs ?_
  refine runM ?_
  refine al_done ?_
  refine rs ?_
  refine runM ?_
  refine al_done ?_
  refine asc ?_; refine awp_while (fun m ρ t => t = σ ∧ ∃ k n, m = s.length - k ∧ k ≤ s.length ∧ ρ 0 = .str s ∧ ρ 8 = .int .i64 (s.length : Nat) ∧ ρ 9 = .int .i64 (k : Nat) ∧ ρ 2 = .int .u64 (n : Nat) ∧ readB s = readGo n (s.drop k)) s.length ?_ ?_
  · refine ⟨rfl, 0, 0, rfl, by omega, ?_, ?_, ?_, ?_, rfl⟩
    · simp only [↓set_get, Nat.reduceEqDiff, Bool.false_eq_true, ↓reduceIte, aenv0, aenvS, aenvN, one_ne]
    · simp only [↓set_get, Nat.reduceEqDiff, Bool.false_eq_true, ↓reduceIte, aenv0, aenvS, aenvN, one_ne]
    · simp only [↓set_get, Nat.reduceEqDiff, Bool.false_eq_true, ↓reduceIte, aenv0, aenvS, aenvN, one_ne]; rfl
    · simp only [↓set_get, Nat.reduceEqDiff, Bool.false_eq_true, ↓reduceIte, aenv0, aenvS, aenvN, one_ne]; rfl
  · rintro m ρ t ⟨rfl, k, n, rfl, hk, h0, h8, h9, h2, hr⟩
    refine rs ?_
    refine runMX (And.intro h8 h9) ?_
    refine al_done ?_
    refine asc ?_; refine ate ?_ ?_
    · intro hb
      have hb : k < s.length := by simpa using hb
      have hd : s.drop k = s[k] :: s.drop (k + 1) := List.drop_eq_getElem_cons hb
      rw [hd] at hr
      have hc := s[k].toNat_lt
      refine asc ?_; refine awp_body ?_
      refine rs ?_
      refine runMX h9 ?_
      refine al_done ?_
      refine rs ?_
      refine runMX h0 ?_
      (refine al_set ?_ ?_ ?_ ?_; rotate_left 2; (· intro K hK; refine S0 ?_; refine index_str isStr9 (by omega) (by rw [Int.toNat_natCast]; exact List.getElem?_eq_getElem hb) ?_; exact hK))
      refine runM ?_
      refine al_done ?_
      refine asc ?_; refine awp_rj (fun ρ' s' => s' = t ∧ ρ' 0 = .str s ∧ ρ' 2 = .int .u64 (n : Nat) ∧ ρ' 5 = .int .i64 (k : Nat) ∧ ρ' 6 = .int .u8 (s[k].toNat : Nat) ∧ ρ' 8 = .int .i64 (s.length : Nat) ∧ ρ' 9 = .int .i64 (k : Nat) ∧ ρ' 24 = .bool (decide ((n = 0 ∧ s[k].toNat = 128) ∨ 144115188075855872 ≤ n))) ?_ ?_
      · intro K' hJ
        by_cases h0n : n = 0
        · subst h0n
          have e1 : (((0 : Nat) : Int) == 0) = true := rfl
          have e3 : decide (((0 : Nat) : Int) ≥ 144115188075855872) = false := by decide
          by_cases h128 : s[k].toNat = 128
          · have e2 : ((s[k].toNat : Int) == 128) = true := by rw [h128]; rfl
            refine runGX (And.intro h2 (And.intro e1 (And.intro e2 e3))) ?_
            refine al_nil (hJ _ _ ?_)
            simp only [↓set_get, Nat.reduceEqDiff, Bool.false_eq_true, ↓reduceIte, aenv0, aenvS, aenvN, one_ne, h0, h2, h8, h9, h128, true_and, and_true, true_or, decide_true]
          · have e2 : ((s[k].toNat : Int) == 128) = false := by simp; omega
            refine runGX (And.intro h2 (And.intro e1 (And.intro e2 e3))) ?_
            refine al_nil (hJ _ _ ?_)
            simp only [↓set_get, Nat.reduceEqDiff, Bool.false_eq_true, ↓reduceIte, aenv0, aenvS, aenvN, one_ne, h0, h2, h8, h9, h128, true_and, and_true, false_or, D.bool.injEq]
            decide
        · have e1 : ((n : Int) == 0) = false := by simp; omega
          refine runGX (And.intro h2 e1) ?_
          refine al_nil (hJ _ _ ?_)
          simp only [↓set_get, Nat.reduceEqDiff, Bool.false_eq_true, ↓reduceIte, aenv0, aenvS, aenvN, one_ne, h0, h2, h8, h9, h0n, true_and, and_true, false_or, false_and, D.bool.injEq]
          simp
          omega
      rintro ρ1 t1 ⟨rfl, g0, g2, g5, g6, g8, g9, g24⟩
      refine asc ?_; refine aiX g24 ?_ ?_
      · intro hst
        have hst : (n = 0 ∧ s[k].toNat = 128) ∨ 144115188075855872 ≤ n := of_decide_eq_true hst
        refine awp_exit (Rx.done ?_)
        refine rs ?_
        refine runM ?_
        refine rets ?_
        rw [hr, readGo, if_pos hst] at hK; exact hK
      · intro hst
        have hst : ¬ ((n = 0 ∧ s[k].toNat = 128) ∨ 144115188075855872 ≤ n) := of_decide_eq_false hst
        have hn : n < 144115188075855872 := by omega
        rw [readGo, if_neg hst] at hr
        refine rs ?_
        (repeat (refine al_set ?_ ?_ ?_ ?_; rotate_left 2; · intro K hK; simp (disch := omega) only [go_sem, ↓set_get, ↓reduceIte, ↓o_bsl, ↓o_build, Nat.reduceEqDiff, Nat.reduceAdd, Nat.reduceMul, Int.reduceEq, Int.reduceNe, g2, g6, shl7, and127, or_add]; (repeat' (first | exact hK | (refine And.intro ?_ ?_) | assumption | omega))))
        refine al_done ?_
        refine rs ?_
        refine runMX g6 ?_
        refine al_done ?_
        refine ac ?_ ?_
        · intro h128
          have h128 : s[k].toNat < 128 := by have := of_decide_eq_true h128
                                             omega
          rw [if_pos h128] at hr
          refine asc ?_; refine awp_pure (by kernel_rfl) ?_
          refine runPMX (And.intro g0 g5) ?_
          (refine ap_set ?_ ?_ ?_; rotate_left 1; (· intro K hK; refine S0 ?_; refine slice_str isStr9 (l := k + 1) (h := s.length) (bound_at (by omega) (by omega)) rfl (by omega) (by omega) ?_; exact hK))
          refine runPM ?_
          refine ap_done ?_
          refine awp_ret (afin_ret (.done ?_)); simp only [ares, aone, ↓set_get, Nat.reduceEqDiff, Bool.false_eq_true, ↓reduceIte, aenv0, aenvS, aenvN, one_ne]
          rw [hr] at hK
          simpa [dRead] using hK
        · intro h128
          have h128 : ¬ s[k].toNat < 128 := by have := of_decide_eq_false h128
                                               omega
          rw [if_neg h128] at hr
          refine awp_skip (Rx.done ?_)
          refine awp_region ?_
          refine runMX g9 ?_
          refine al_nil ?_
          refine lq_next (s.length - (k + 1)) (by omega) ⟨rfl, k + 1, n * 128 + s[k].toNat % 128, rfl, by omega, ?_, ?_, ?_, ?_, hr⟩
          · simp only [↓set_get, Nat.reduceEqDiff, Bool.false_eq_true, ↓reduceIte, aenv0, aenvS, aenvN, one_ne, g0]
          · simp only [↓set_get, Nat.reduceEqDiff, Bool.false_eq_true, ↓reduceIte, aenv0, aenvS, aenvN, one_ne, g8]
          · simp only [↓set_get, Nat.reduceEqDiff, Bool.false_eq_true, ↓reduceIte, aenv0, aenvS, aenvN, one_ne]; rfl
          · simp only [↓set_get, Nat.reduceEqDiff, Bool.false_eq_true, ↓reduceIte, aenv0, aenvS, aenvN, one_ne]
    · intro hb
      have hb : k = s.length := by have : ¬ (k : Int) < s.length := by simpa using hb
                                   omega
      subst hb
      refine lq_exit ?_
      refine rs ?_
      refine runM ?_
      refine rets ?_
      rw [hr, List.drop_length] at hK; exact hK
end Go.Proofs.Try

/- The document's reading, walked. -/
set_option maxRecDepth 8000
set_option linter.unusedSimpArgs false
set_option linter.unusedVariables false
namespace Go.Proofs.Try
open Go Go.Av
set_option pp.maxSteps 900
attribute [local irreducible] alist awp adraw apure
variable {γ : Gl} {σ : St} {K : D → St → Prop}

theorem lead_drop {s : List UInt8} {k : Nat} (hk : k < s.length) (h10 : k < 10) : lead (10 - k) (s.drop k) = if 128 ≤ s[k].toNat then lead (10 - (k + 1)) (s.drop (k + 1)) + 1 else 0 := by
  rw [List.drop_eq_getElem_cons hk, show 10 - k = (10 - (k + 1)) + 1 by omega]
  rfl

theorem rRead_c {s : List UInt8} (hs : s.length ≤ 140737488355328) (hK : K (dRead (readB s)) σ) : ACalls prog γ 30 [.str s] σ K := by
  rw [← refRead_eq] at hK
  obtain ⟨hl10, hls⟩ := lead_le 10 s
  refine acalls_of_awp (by kernel_rfl) func30 rfl (by kernel_rfl) rfl rfl (by kernel_rfl) (Nat.le_of_ble_eq_true rfl) ?_
  refine rs ?_
  refine runM ?_
  refine al_done ?_
  refine rs ?_
  refine runM ?_
  refine al_done ?_
  refine asc ?_; refine awp_while (fun m ρ t => t = σ ∧ ∃ k : Nat, m = 10 - k ∧ k ≤ 10 ∧ k ≤ s.length ∧ ρ 0 = .str s ∧ ρ 5 = .int .i64 (k : Nat) ∧ lead 10 s = k + lead (10 - k) (s.drop k)) 10 ?_ ?_
  · refine ⟨rfl, 0, rfl, by omega, by omega, ?_, ?_, ?_⟩
    · simp only [↓set_get, Nat.reduceEqDiff, Bool.false_eq_true, ↓reduceIte, aenv0, aenvS, aenvN, one_ne]
    · simp only [↓set_get, Nat.reduceEqDiff, Bool.false_eq_true, ↓reduceIte, aenv0, aenvS, aenvN, one_ne]; rfl
    · simp
  · rintro m ρ t ⟨rfl, k, rfl, hk, hkl, h0, h5, hle⟩
    refine asc ?_; refine awp_rj (fun ρ' s' => s' = t ∧ ρ' 0 = .str s ∧ ρ' 5 = .int .i64 (k : Nat) ∧ ρ' 21 = .bool (decide (k < lead 10 s))) ?_ ?_
    · intro K' hJ
      by_cases h1 : k < s.length
      · have e1 : decide ((k : Int) < (s.length : Int)) = true := by simp; omega
        by_cases h2 : k < 10
        · have e2 : decide ((k : Int) < 10) = true := by simp; omega
          rw [lead_drop h1 h2] at hle
          refine runGX (And.intro h0 (And.intro h5 (And.intro e1 e2))) ?_
          (refine al_set ?_ ?_ ?_ ?_; rotate_left 2; (· intro K hK; refine S0 ?_; refine index_str isStr9 (by omega) (by rw [Int.toNat_natCast]; exact List.getElem?_eq_getElem h1) ?_; exact hK))
          refine runGX (And.intro h0 h5) ?_
          refine al_nil (hJ _ _ ?_)
          simp only [↓set_get, Nat.reduceEqDiff, Bool.false_eq_true, ↓reduceIte, aenv0, aenvS, aenvN, one_ne, h0, h5, true_and, D.bool.injEq, decide_eq_decide]
          split at hle <;> omega
        · have e2 : decide ((k : Int) < 10) = false := by simp; omega
          refine runGX (And.intro h0 (And.intro h5 (And.intro e1 e2))) ?_
          refine al_nil (hJ _ _ ?_)
          simp only [↓set_get, Nat.reduceEqDiff, Bool.false_eq_true, ↓reduceIte, aenv0, aenvS, aenvN, one_ne, h0, h5, true_and, D.bool.injEq]
          simp; omega
      · have e1 : decide ((k : Int) < (s.length : Int)) = false := by simp; omega
        refine runGX (And.intro h0 (And.intro h5 e1)) ?_
        refine al_nil (hJ _ _ ?_)
        simp only [↓set_get, Nat.reduceEqDiff, Bool.false_eq_true, ↓reduceIte, aenv0, aenvS, aenvN, one_ne, h0, h5, true_and, D.bool.injEq]
        simp; omega
    rintro ρ1 t1 ⟨rfl, g0, g5, g21⟩
    refine asc ?_; refine ateX g21 ?_ ?_
    · intro hb
      have hb : k < lead 10 s := of_decide_eq_true hb
      have hk' := lead_drop (s := s) (k := k) (by omega) (by omega)
      rw [hk'] at hle
      refine awp_block (awp_region ?_)
      refine runMX g5 ?_
      refine al_nil ?_
      refine rx_next (10 - (k + 1)) (by omega) ⟨rfl, k + 1, rfl, by omega, by omega, ?_, ?_, ?_⟩
      · simp only [↓set_get, Nat.reduceEqDiff, Bool.false_eq_true, ↓reduceIte, aenv0, aenvS, aenvN, one_ne, g0]
      · simp only [↓set_get, Nat.reduceEqDiff, Bool.false_eq_true, ↓reduceIte, aenv0, aenvS, aenvN, one_ne]; rfl
      · split at hle <;> omega
    · intro hb
      have hb : ¬ k < lead 10 s := of_decide_eq_false hb
      have hk : lead 10 s = k := by omega
      subst hk
      refine lq_exit ?_
      refine asc ?_; refine awp_rj (fun ρ' s' => s' = t1 ∧ ρ' 0 = .str s ∧ ρ' 5 = .int .i64 (lead 10 s : Nat) ∧ ρ' 31 = .bool (decide (s.length ≤ lead 10 s ∨ 9 < lead 10 s))) ?_ ?_
      · intro K' hJ
        by_cases h1 : s.length ≤ lead 10 s
        · have e1 : decide ((lead 10 s : Int) ≥ (s.length : Int)) = true := by simp; omega
          refine runGX (And.intro g0 (And.intro g5 e1)) ?_
          refine al_nil (hJ _ _ ?_)
          simp only [↓set_get, Nat.reduceEqDiff, Bool.false_eq_true, ↓reduceIte, aenv0, aenvS, aenvN, one_ne, g0, g5, h1, true_and, true_or, decide_true]
        · have e1 : decide ((lead 10 s : Int) ≥ (s.length : Int)) = false := by simp; omega
          refine runGX (And.intro g0 (And.intro g5 e1)) ?_
          refine al_nil (hJ _ _ ?_)
          simp only [↓set_get, Nat.reduceEqDiff, Bool.false_eq_true, ↓reduceIte, aenv0, aenvS, aenvN, one_ne, g0, g5, h1, true_and, false_or, D.bool.injEq, decide_eq_decide]
          omega
      rintro ρ2 t2 ⟨rfl, f0, f5, f31⟩
      refine asc ?_; refine aiX f31 ?_ ?_
      · intro hb
        have hb := of_decide_eq_true hb
        refine rs ?_
        refine runM ?_
        refine rets ?_
        rw [refRead, if_pos hb] at hK; exact hK
      · intro hb
        have hb := of_decide_eq_false hb
        rw [refRead, if_neg hb] at hK
        refine rs ?_
        refine runM ?_
        refine al_done ?_
        refine rs ?_
        refine runM ?_
        refine al_done ?_
        refine asc ?_; refine awp_while (fun m ρ t => t = t2 ∧ ∃ i n : Nat, m = lead 10 s + 1 - i ∧ i ≤ lead 10 s + 1 ∧ n < 18446744073709551616 ∧ ρ 0 = .str s ∧ ρ 5 = .int .i64 (lead 10 s : Nat) ∧ ρ 7 = .int .i64 (i : Nat) ∧ ρ 6 = .int .u64 (n : Nat) ∧ valB 0 (s.take (lead 10 s + 1)) = valB n ((s.take (lead 10 s + 1)).drop i)) (lead 10 s + 1) ?_ ?_
        · refine ⟨rfl, 0, 0, rfl, by omega, by omega, ?_, ?_, ?_, ?_, rfl⟩
          · simp only [↓set_get, Nat.reduceEqDiff, Bool.false_eq_true, ↓reduceIte, aenv0, aenvS, aenvN, one_ne, f0]
          · simp only [↓set_get, Nat.reduceEqDiff, Bool.false_eq_true, ↓reduceIte, aenv0, aenvS, aenvN, one_ne, f5]
          · simp only [↓set_get, Nat.reduceEqDiff, Bool.false_eq_true, ↓reduceIte, aenv0, aenvS, aenvN, one_ne]; rfl
          · simp only [↓set_get, Nat.reduceEqDiff, Bool.false_eq_true, ↓reduceIte, aenv0, aenvS, aenvN, one_ne]; rfl
        · rintro m ρ3 t3 ⟨rfl, i, n, rfl, hi, hn, p0, p5, p7, p6, hv⟩
          refine rs ?_
          refine runMX (And.intro p5 p7) ?_
          refine al_done ?_
          refine asc ?_; refine ate ?_ ?_
          · intro hb2
            have hb2 : i ≤ lead 10 s := by have := of_decide_eq_true hb2
                                           omega
            have hil : i < s.length := by omega
            have htk : (s.take (lead 10 s + 1)).drop i = s[i] :: (s.take (lead 10 s + 1)).drop (i + 1) := by
              rw [List.drop_eq_getElem_cons (by simp; omega)]
              congr 1
              simp
            rw [htk] at hv
            have hc := s[i].toNat_lt
            refine asc ?_; refine awp_body ?_
            refine awp_region ?_
            refine runMX (And.intro p0 (And.intro p6 p7)) ?_
            (refine al_set ?_ ?_ ?_ ?_; rotate_left 2; (· intro K hK; refine S0 ?_; refine index_str isStr9 (by omega) (by rw [Int.toNat_natCast]; exact List.getElem?_eq_getElem hil) ?_; exact hK))
            refine runM ?_
            refine al_done ?_
            refine awp_region ?_
            refine runMX p7 ?_
            refine al_nil ?_
            refine lq_next (lead 10 s + 1 - (i + 1)) (by omega) ⟨rfl, i + 1, (n * 128 + s[i].toNat % 128) % 18446744073709551616, rfl, by omega, by omega, ?_, ?_, ?_, ?_, hv⟩
            · simp only [↓set_get, Nat.reduceEqDiff, Bool.false_eq_true, ↓reduceIte, aenv0, aenvS, aenvN, one_ne, p0]
            · simp only [↓set_get, Nat.reduceEqDiff, Bool.false_eq_true, ↓reduceIte, aenv0, aenvS, aenvN, one_ne, p5]
            · simp only [↓set_get, Nat.reduceEqDiff, Bool.false_eq_true, ↓reduceIte, aenv0, aenvS, aenvN, one_ne]; rfl
            · simp only [↓set_get, Nat.reduceEqDiff, Bool.false_eq_true, ↓reduceIte, aenv0, aenvS, aenvN, one_ne]
              congr 1
              rw [IntKind.wrap_u64, IntKind.wrap_u64]
              omega
          · intro hb2
            have hb2 : i = lead 10 s + 1 := by have := of_decide_eq_false hb2
                                               omega
            subst hb2
            have hv' : valB 0 (s.take (lead 10 s + 1)) = n := by
              rw [hv, List.drop_of_length_le (by simp; omega)]; rfl
            refine lq_exit ?_
            rw [hv'] at hK
            refine asc ?_; refine awp_pure (by kernel_rfl) ?_
            refine runPMX p6 ?_
            (refine ap_set ?_ ?_ ?_; rotate_left 1; (· intro K hK; refine S0 ?_; refine Or.inl (rNum_c (by omega) (by omega) ?_); exact hK))
            refine runPMX (And.intro p0 p5) ?_
            (refine ap_set ?_ ?_ ?_; rotate_left 1; (· intro K hK; refine S0 ?_; refine slice_str isStr9 (l := 0) (h := lead 10 s + 1) rfl (bound_at (by omega) (by omega)) (by omega) (by omega) ?_; exact hK))
            refine runPM ?_
            refine ap_done ?_
            refine asc ?_; refine ai ?_ ?_
            · intro he
              have he : ¬ numB n = s.take (lead 10 s + 1) := by simpa using he
              rw [if_neg he] at hK
              refine rs ?_
              refine runM ?_
              refine rets ?_
              exact hK
            · intro he
              have he : numB n = s.take (lead 10 s + 1) := by simpa using he
              rw [if_pos he] at hK
              refine asc ?_; refine awp_pure (by kernel_rfl) ?_
              refine runPMX (And.intro p0 (And.intro p5 p6)) ?_
              (refine ap_set ?_ ?_ ?_; rotate_left 1; (· intro K hK; refine S0 ?_; refine slice_str isStr9 (l := lead 10 s + 1) (h := s.length) (bound_at (by omega) (by omega)) rfl (by omega) (by omega) ?_; exact hK))
              refine runPM ?_
              refine ap_done ?_
              refine awp_ret (afin_ret (.done ?_)); simp only [ares, aone, ↓set_get, Nat.reduceEqDiff, Bool.false_eq_true, ↓reduceIte, aenv0, aenvS, aenvN, one_ne]
              simpa [dRead] using hK
end Go.Proofs.Try

/- codec: texts and hashes cut off, walked. -/
set_option maxRecDepth 8000
set_option linter.unusedSimpArgs false
set_option linter.unusedVariables false
namespace Go.Proofs.Try
open Go Go.Av
set_option pp.maxSteps 900
attribute [local irreducible] alist awp adraw apure
variable {γ : Gl} {σ : St} {K : D → St → Prop}

theorem readB_len {s : List UInt8} {m : Nat} {r : List UInt8} (h : readB s = some (m, r)) : r.length < s.length ∧ m < 18446744073709551616 := by
  obtain ⟨h1, h2⟩ := readB_some h
  have := length_numB_pos m
  rw [h2, List.length_append]
  exact ⟨by omega, h1⟩

theorem Cut_c {s : List UInt8} (hs : s.length ≤ 140737488355328) (hK : K (dCut (cutB s)) σ) : ACalls prog γ 31 [.str s] σ K := by
  refine acalls_of_awp (by kernel_rfl) func31 rfl (by kernel_rfl) rfl rfl (by kernel_rfl) (Nat.le_of_ble_eq_true rfl) ?_
  refine rs ?_
  refine runM ?_
  refine al_done ?_
  refine rs ?_
  refine runM ?_
  (refine al_set ?_ ?_ ?_ ?_; rotate_left 2; (· intro K hK; refine S0 ?_; refine Or.inl (Read_c hs ?_); exact hK))
  cases hr : readB s with
  | none =>
    (repeat (refine al_set ?_ ?_ ?_ ?_; rotate_left 2; · intro K hK; simp (disch := omega) only [go_sem, ↓set_get, ↓reduceIte, ↓o_bsl, ↓o_build, Nat.reduceEqDiff, Nat.reduceAdd, Nat.reduceMul, Int.reduceEq, Int.reduceNe, hr, dRead]; (repeat' (first | exact hK | (refine And.intro ?_ ?_) | assumption | omega))))
    refine al_done ?_
    refine rs ?_
    refine runM ?_
    refine al_done ?_
    refine asc ?_; refine ai ?_ ?_
    · intro _
      refine rs ?_
      refine runM ?_
      refine rets ?_
      rw [cutB, hr] at hK; exact hK
    · intro h; cases h
  | some p =>
    obtain ⟨n, r⟩ := p
    obtain ⟨hrl, hn⟩ := readB_len hr
    (repeat (refine al_set ?_ ?_ ?_ ?_; rotate_left 2; · intro K hK; simp (disch := omega) only [go_sem, ↓set_get, ↓reduceIte, ↓o_bsl, ↓o_build, Nat.reduceEqDiff, Nat.reduceAdd, Nat.reduceMul, Int.reduceEq, Int.reduceNe, hr, dRead]; (repeat' (first | exact hK | (refine And.intro ?_ ?_) | assumption | omega))))
    refine al_done ?_
    refine rs ?_
    refine runM ?_
    refine al_done ?_
    refine asc ?_; refine ai ?_ ?_
    · intro h; cases h
    · intro _
      refine rs ?_
      refine runM ?_
      (refine al_set ?_ ?_ ?_ ?_; rotate_left 2; (· intro K hK; refine S0 ?_; refine Or.inl (take_c (by omega) (by omega) (by omega) ?_); exact hK))
      have hc : cutB s = takeB r n := by rw [cutB, hr]; rfl
      rw [hc] at hK
      cases ht : takeB r n with
      | none =>
        (repeat (refine al_set ?_ ?_ ?_ ?_; rotate_left 2; · intro K hK; simp (disch := omega) only [go_sem, ↓set_get, ↓reduceIte, ↓o_bsl, ↓o_build, Nat.reduceEqDiff, Nat.reduceAdd, Nat.reduceMul, Int.reduceEq, Int.reduceNe, Int.toNat_natCast, ht, dCut]; (repeat' (first | exact hK | (refine And.intro ?_ ?_) | assumption | omega))))
        refine rets ?_
        rw [ht] at hK; exact hK
      | some q =>
        obtain ⟨t, u⟩ := q
        (repeat (refine al_set ?_ ?_ ?_ ?_; rotate_left 2; · intro K hK; simp (disch := omega) only [go_sem, ↓set_get, ↓reduceIte, ↓o_bsl, ↓o_build, Nat.reduceEqDiff, Nat.reduceAdd, Nat.reduceMul, Int.reduceEq, Int.reduceNe, Int.toNat_natCast, ht, dCut]; (repeat' (first | exact hK | (refine And.intro ?_ ?_) | assumption | omega))))
        refine rets ?_
        rw [ht] at hK; exact hK

theorem rCut_c {s : List UInt8} (hs : s.length ≤ 140737488355328) (hK : K (dCut (cutB s)) σ) : ACalls prog γ 32 [.str s] σ K := by
  refine acalls_of_awp (by kernel_rfl) func32 rfl (by kernel_rfl) rfl rfl (by kernel_rfl) (Nat.le_of_ble_eq_true rfl) ?_
  refine rs ?_
  refine runM ?_
  refine al_done ?_
  refine rs ?_
  refine runM ?_
  (refine al_set ?_ ?_ ?_ ?_; rotate_left 2; (· intro K hK; refine S0 ?_; refine Or.inl (rRead_c hs ?_); exact hK))
  cases hr : readB s with
  | none =>
    (repeat (refine al_set ?_ ?_ ?_ ?_; rotate_left 2; · intro K hK; simp (disch := omega) only [go_sem, ↓set_get, ↓reduceIte, ↓o_bsl, ↓o_build, Nat.reduceEqDiff, Nat.reduceAdd, Nat.reduceMul, Int.reduceEq, Int.reduceNe, hr, dRead]; (repeat' (first | exact hK | (refine And.intro ?_ ?_) | assumption | omega))))
    refine al_done ?_
    refine rs ?_
    (repeat (first | (refine al_set ?_ ?_ ?_ ?_; rotate_left 2; · intro K hK; simp (disch := omega) only [go_sem, ↓set_get, ↓reduceIte, ↓o_bsl, ↓o_build, Nat.reduceEqDiff, Nat.reduceAdd, Nat.reduceMul, Int.reduceEq, Int.reduceNe, Bool.not_false]; (repeat' (first | exact hK | (refine And.intro ?_ ?_) | assumption | omega))) | (refine al_guard (b := true) rfl ?_ (fun _ => ?_) (fun h => absurd rfl h); · simp only [↓set_get, Nat.reduceEqDiff, Bool.false_eq_true, ↓reduceIte, aenv0, aenvS, aenvN, one_ne, Bool.not_false]; done) | (refine al_guard (b := false) rfl ?_ (fun _ => ?_) (fun h => absurd rfl h); · simp only [↓set_get, Nat.reduceEqDiff, Bool.false_eq_true, ↓reduceIte, aenv0, aenvS, aenvN, one_ne, Bool.not_false]; done) | (refine al_guard (b := true) rfl ?_ (fun h => Bool.noConfusion h) (fun _ => ?_); · simp only [↓set_get, Nat.reduceEqDiff, Bool.false_eq_true, ↓reduceIte, aenv0, aenvS, aenvN, one_ne, Bool.not_false]; done) | (refine al_guard (b := false) rfl ?_ (fun h => Bool.noConfusion h) (fun _ => ?_); · simp only [↓set_get, Nat.reduceEqDiff, Bool.false_eq_true, ↓reduceIte, aenv0, aenvS, aenvN, one_ne, Bool.not_false]; done) | (refine al_guard0 rfl ?_ ?_; · simp only [↓set_get, Nat.reduceEqDiff, Bool.false_eq_true, ↓reduceIte, aenv0, aenvS, aenvN, one_ne, Bool.not_false]; done)))
    refine al_done ?_
    refine asc ?_; refine ai ?_ ?_
    · intro _
      refine rs ?_
      refine runM ?_
      refine rets ?_
      rw [cutB, hr] at hK; exact hK
    · intro h; cases h
  | some p =>
    obtain ⟨n, r⟩ := p
    obtain ⟨hrl, hn⟩ := readB_len hr
    have hc : cutB s = takeB r n := by rw [cutB, hr]; rfl
    rw [hc, takeB] at hK
    (repeat (refine al_set ?_ ?_ ?_ ?_; rotate_left 2; · intro K hK; simp (disch := omega) only [go_sem, ↓set_get, ↓reduceIte, ↓o_bsl, ↓o_build, Nat.reduceEqDiff, Nat.reduceAdd, Nat.reduceMul, Int.reduceEq, Int.reduceNe, hr, dRead]; (repeat' (first | exact hK | (refine And.intro ?_ ?_) | assumption | omega))))
    refine al_done ?_
    refine rs ?_
    (repeat (first | (refine al_set ?_ ?_ ?_ ?_; rotate_left 2; · intro K hK; simp (disch := omega) only [go_sem, ↓set_get, ↓reduceIte, ↓o_bsl, ↓o_build, Nat.reduceEqDiff, Nat.reduceAdd, Nat.reduceMul, Int.reduceEq, Int.reduceNe, Bool.not_true]; (repeat' (first | exact hK | (refine And.intro ?_ ?_) | assumption | omega))) | (refine al_guard (b := true) rfl ?_ (fun _ => ?_) (fun h => absurd rfl h); · simp only [↓set_get, Nat.reduceEqDiff, Bool.false_eq_true, ↓reduceIte, aenv0, aenvS, aenvN, one_ne, Bool.not_true]; done) | (refine al_guard (b := false) rfl ?_ (fun _ => ?_) (fun h => absurd rfl h); · simp only [↓set_get, Nat.reduceEqDiff, Bool.false_eq_true, ↓reduceIte, aenv0, aenvS, aenvN, one_ne, Bool.not_true]; done) | (refine al_guard (b := true) rfl ?_ (fun h => Bool.noConfusion h) (fun _ => ?_); · simp only [↓set_get, Nat.reduceEqDiff, Bool.false_eq_true, ↓reduceIte, aenv0, aenvS, aenvN, one_ne, Bool.not_true]; done) | (refine al_guard (b := false) rfl ?_ (fun h => Bool.noConfusion h) (fun _ => ?_); · simp only [↓set_get, Nat.reduceEqDiff, Bool.false_eq_true, ↓reduceIte, aenv0, aenvS, aenvN, one_ne, Bool.not_true]; done) | (refine al_guard0 rfl ?_ ?_; · simp only [↓set_get, Nat.reduceEqDiff, Bool.false_eq_true, ↓reduceIte, aenv0, aenvS, aenvN, one_ne, Bool.not_true]; done)))
    refine al_done ?_
    refine asc ?_; refine ai ?_ ?_
    · intro h
      have h : r.length < n := by have := of_decide_eq_true h
                                  omega
      rw [if_pos h] at hK
      refine rs ?_
      refine runM ?_
      refine rets ?_
      exact hK
    · intro h
      have h : ¬ r.length < n := by have := of_decide_eq_false h
                                    omega
      rw [if_neg h] at hK
      refine asc ?_; refine awp_pure (by kernel_rfl) ?_
      refine runPM ?_
      (refine ap_set ?_ ?_ ?_; rotate_left 1; (· intro K hK; refine S0 ?_; refine slice_str isStr9 (l := 0) (h := n) rfl (bound_at (by omega) (by omega)) (by omega) (by omega) ?_; exact hK))
      refine runPM ?_
      (refine ap_set ?_ ?_ ?_; rotate_left 1; (· intro K hK; refine S0 ?_; refine slice_str isStr9 (l := n) (h := r.length) (bound_at (by omega) (by omega)) rfl (by omega) (by omega) ?_; exact hK))
      refine runPM ?_
      refine ap_done ?_
      refine awp_ret (afin_ret (.done ?_)); simp only [ares, aone, ↓set_get, Nat.reduceEqDiff, Bool.false_eq_true, ↓reduceIte, aenv0, aenvS, aenvN, one_ne]
      simpa [dCut] using hK

theorem no_c {s : List UInt8} (hs : s.length ≤ 140737488355328) (hn : readB s = none) (hK : K (.bool true) σ) : ACalls prog γ 85 [.str s] σ K := by
  refine acalls_of_awp (by kernel_rfl) func85 rfl (by kernel_rfl) rfl rfl (by kernel_rfl) (Nat.le_of_ble_eq_true rfl) ?_
  refine rs ?_
  refine runM ?_
  refine al_done ?_
  refine rs ?_
  refine runM ?_
  (refine al_set ?_ ?_ ?_ ?_; rotate_left 2; (· intro K hK; refine S0 ?_; refine Or.inl (Read_c hs ?_); exact hK))
  (repeat (refine al_set ?_ ?_ ?_ ?_; rotate_left 2; · intro K hK; simp (disch := omega) only [go_sem, ↓set_get, ↓reduceIte, ↓o_bsl, ↓o_build, Nat.reduceEqDiff, Nat.reduceAdd, Nat.reduceMul, Int.reduceEq, Int.reduceNe, hn, dRead]; (repeat' (first | exact hK | (refine And.intro ?_ ?_) | assumption | omega))))
  refine al_done ?_
  refine rs ?_
  (repeat (first | (refine al_set ?_ ?_ ?_ ?_; rotate_left 2; · intro K hK; simp (disch := omega) only [go_sem, ↓set_get, ↓reduceIte, ↓o_bsl, ↓o_build, Nat.reduceEqDiff, Nat.reduceAdd, Nat.reduceMul, Int.reduceEq, Int.reduceNe, beq_self_eq_true, Bool.not_false]; (repeat' (first | exact hK | (refine And.intro ?_ ?_) | assumption | omega))) | (refine al_guard (b := true) rfl ?_ (fun _ => ?_) (fun h => absurd rfl h); · simp only [↓set_get, Nat.reduceEqDiff, Bool.false_eq_true, ↓reduceIte, aenv0, aenvS, aenvN, one_ne, beq_self_eq_true, Bool.not_false]; done) | (refine al_guard (b := false) rfl ?_ (fun _ => ?_) (fun h => absurd rfl h); · simp only [↓set_get, Nat.reduceEqDiff, Bool.false_eq_true, ↓reduceIte, aenv0, aenvS, aenvN, one_ne, beq_self_eq_true, Bool.not_false]; done) | (refine al_guard (b := true) rfl ?_ (fun h => Bool.noConfusion h) (fun _ => ?_); · simp only [↓set_get, Nat.reduceEqDiff, Bool.false_eq_true, ↓reduceIte, aenv0, aenvS, aenvN, one_ne, beq_self_eq_true, Bool.not_false]; done) | (refine al_guard (b := false) rfl ?_ (fun h => Bool.noConfusion h) (fun _ => ?_); · simp only [↓set_get, Nat.reduceEqDiff, Bool.false_eq_true, ↓reduceIte, aenv0, aenvS, aenvN, one_ne, beq_self_eq_true, Bool.not_false]; done) | (refine al_guard0 rfl ?_ ?_; · simp only [↓set_get, Nat.reduceEqDiff, Bool.false_eq_true, ↓reduceIte, aenv0, aenvS, aenvN, one_ne, beq_self_eq_true, Bool.not_false]; done)))
  refine rets ?_
  exact hK
end Go.Proofs.Try

/- codec: hashes that stand ahead, walked. -/
set_option maxRecDepth 8000
set_option linter.unusedSimpArgs false
set_option linter.unusedVariables false
namespace Go.Proofs.Try
open Go Go.Av
set_option pp.maxSteps 900
attribute [local irreducible] alist awp adraw apure
variable {γ : Gl} {σ : St} {K : D → St → Prop}

theorem zero_cells : List.replicate 32 (D.int .u8 0) = bytesD zero32 := rfl

theorem Unhash_c {s : List UInt8} (hs : s.length ≤ 140737488355328) (hK : K (dUnhash (unhashB s)) σ) : ACalls prog γ 33 [.str s] σ K := by
  refine acalls_of_awp (by kernel_rfl) func33 rfl (by kernel_rfl) rfl rfl (by kernel_rfl) (Nat.le_of_ble_eq_true rfl) ?_
  refine rs ?_
  (refine al_fresh ?_ ?_ ?_ ?_ ?_; rotate_left 3; (· intro K hK; refine S2 ?_; refine alloc_z zc27 ?_; exact hK))
  intro id hid
  refine runM ?_
  refine al_done ?_
  refine rs ?_
  refine runM ?_
  (refine al_set ?_ ?_ ?_ ?_; rotate_left 2; (· intro K hK; refine S0 ?_; refine Or.inl (take_c hs (by omega) (by omega) ?_); exact hK))
  by_cases h32 : s.length < 32
  · have ht : takeB s 32 = none := by rw [takeB, if_pos h32]
    rw [unhashB, ht] at hK
    (repeat (refine al_set ?_ ?_ ?_ ?_; rotate_left 2; · intro K hK; simp (disch := omega) only [go_sem, ↓set_get, ↓reduceIte, ↓o_bsl, ↓o_build, Nat.reduceEqDiff, Nat.reduceAdd, Nat.reduceMul, Int.reduceEq, Int.reduceNe, Int.reduceToNat, ht, dCut]; (repeat' (first | exact hK | (refine And.intro ?_ ?_) | assumption | omega))))
    refine al_done ?_
    refine rs ?_
    (refine al_set ?_ ?_ ?_ ?_; rotate_left 2; (· intro K hK; refine S0 ?_; refine slice_ptr0 arr27 (by decide) (by decide) (set_same _ _ _) (by simp) ?_; exact hK))
    refine runM ?_
    (refine al_set ?_ ?_ ?_ ?_; rotate_left 2; (· intro K hK; refine S0 ?_; refine copy_str elt45 (set_same _ _ _) (m := 0) rfl (by simp) ?_; exact hK))
    refine al_done ?_
    simp only [set_set, List.take_zero, bytesD_nil, splice_none]
    refine rs ?_
    (refine al_set ?_ ?_ ?_ ?_; rotate_left 2; (· intro K hK; refine S0 ?_; refine loadA_ptr tagg27 tsz27 (set_same _ _ _) (by simp) ?_; exact hK))
    refine runM ?_
    (refine al_none ?_ ?_ ?_ ?_; rotate_left 2; (· intro K hK; refine S0 ?_; refine store_ptr tagg27 tsz27 (by simp [cellsOf]) rfl (set_same _ _ _) (by simp) ?_; exact hK))
    refine runM ?_
    refine al_done (awp_ret ?_)
    simp only [set_set]
    refine afin_cell σ (le_set _ hid) ?_
    simp only [ares, aone, ↓set_get, Nat.reduceEqDiff, Bool.false_eq_true, ↓reduceIte, aenv0, aenvS, aenvN, one_ne]
    have hw : List.take 32 (List.drop 0 (List.replicate 32 (D.int .u8 0))) = bytesD zero32 := rfl
    rw [hw, show cellsOf (D.agg (bytesD zero32)) = bytesD zero32 from rfl, zero_cells, splice_whole rfl]
    refine loadA_ptr tagg27 tsz27 (set_same _ _ _) (by decide) ?_
    exact hK
  · have ht : takeB s 32 = some (s.take 32, s.drop 32) := by rw [takeB, if_neg h32]
    rw [unhashB, ht] at hK
    have hl32 : (s.take 32).length = 32 := by simp; omega
    (repeat (refine al_set ?_ ?_ ?_ ?_; rotate_left 2; · intro K hK; simp (disch := omega) only [go_sem, ↓set_get, ↓reduceIte, ↓o_bsl, ↓o_build, Nat.reduceEqDiff, Nat.reduceAdd, Nat.reduceMul, Int.reduceEq, Int.reduceNe, Int.reduceToNat, ht, dCut]; (repeat' (first | exact hK | (refine And.intro ?_ ?_) | assumption | omega))))
    refine al_done ?_
    refine rs ?_
    (refine al_set ?_ ?_ ?_ ?_; rotate_left 2; (· intro K hK; refine S0 ?_; refine slice_ptr0 arr27 (by decide) (by decide) (set_same _ _ _) (by simp) ?_; exact hK))
    refine runM ?_
    (refine al_set ?_ ?_ ?_ ?_; rotate_left 2; (· intro K hK; refine S0 ?_; refine copy_str elt45 (set_same _ _ _) (m := 32) (by omega) (by simp) ?_; exact hK))
    refine al_done ?_
    simp only [set_set, List.take_take, Nat.min_self]
    rw [splice_whole (by rw [length_bytesD]; simp; omega)]
    refine rs ?_
    (refine al_set ?_ ?_ ?_ ?_; rotate_left 2; (· intro K hK; refine S0 ?_; refine loadA_ptr tagg27 tsz27 (set_same _ _ _) (by rw [length_bytesD]; omega) ?_; exact hK))
    refine runM ?_
    (refine al_none ?_ ?_ ?_ ?_; rotate_left 2; (· intro K hK; refine S0 ?_; refine store_ptr tagg27 tsz27 (by simp [cellsOf, length_bytesD]; omega) rfl (set_same _ _ _) (by rw [length_bytesD]; omega) ?_; exact hK))
    refine runM ?_
    refine al_done (awp_ret ?_)
    simp only [set_set]
    refine afin_cell σ (le_set _ hid) ?_
    simp only [ares, aone, ↓set_get, Nat.reduceEqDiff, Bool.false_eq_true, ↓reduceIte, aenv0, aenvS, aenvN, one_ne]
    have hw : List.take 32 (List.drop 0 (bytesD (s.take 32))) = bytesD (s.take 32) := by rw [List.drop_zero, List.take_of_length_le (by rw [length_bytesD]; omega)]
    rw [hw, show cellsOf (D.agg (bytesD (s.take 32))) = bytesD (s.take 32) from rfl, splice_whole rfl]
    refine loadA_ptr tagg27 tsz27 (set_same _ _ _) (by rw [length_bytesD]; omega) ?_
    rw [hw]
    exact hK

theorem rUnhash_c {s : List UInt8} (hs : s.length ≤ 140737488355328) (hK : K (dUnhash (unhashB s)) σ) : ACalls prog γ 34 [.str s] σ K := by
  refine acalls_of_awp (by kernel_rfl) func34 rfl (by kernel_rfl) rfl rfl (by kernel_rfl) (Nat.le_of_ble_eq_true rfl) ?_
  refine rs ?_
  (refine al_fresh ?_ ?_ ?_ ?_ ?_; rotate_left 3; (· intro K hK; refine S2 ?_; refine alloc_z zc27 ?_; exact hK))
  intro id hid
  refine runM ?_
  refine al_done ?_
  refine rs ?_
  (refine al_fresh ?_ ?_ ?_ ?_ ?_; rotate_left 3; (· intro K hK; refine S2 ?_; refine alloc_z zc27 ?_; exact hK))
  intro id2 hid2
  obtain ⟨hne, hid2'⟩ := fresh_ne hid2
  rw [zero_cells]
  refine al_done ?_
  refine rs ?_
  refine runM ?_
  refine al_done ?_
  have hle : ∀ a b, σ.le ((σ.set id a).set id2 b) := fun a b => St.le.trans (le_set _ hid) (le_set _ (by rw [set_other _ hne]; exact hid2'))
  refine asc ?_; refine ai ?_ ?_
  · intro hb
    have hb : s.length < 32 := by have := of_decide_eq_true hb
                                  omega
    have ht : takeB s 32 = none := by rw [takeB, if_pos hb]
    rw [unhashB, ht] at hK
    refine rs ?_
    (refine al_set ?_ ?_ ?_ ?_; rotate_left 2; (· intro K hK; refine S0 ?_; refine loadA_ptr tagg27 tsz27 (set_same _ _ _) (by decide) ?_; exact hK))
    (refine al_none ?_ ?_ ?_ ?_; rotate_left 2; (· intro K hK; refine S0 ?_; refine store_ptr tagg27 tsz27 (by decide) rfl (by rw [set_other _ (Ne.symm hne)]; exact set_same _ _ _) (by decide) ?_; exact hK))
    refine runM ?_
    refine al_done (awp_ret ?_)
    refine afin_cell σ ?_ ?_
    · exact fun j x e => by
        simp only [St.set]
        split
        · rename_i hj; subst hj; rw [hid] at e; cases e
        · split
          · rename_i hj; subst hj; rw [hid2'] at e; cases e
          · exact e
    · simp only [ares, aone, ↓set_get, Nat.reduceEqDiff, Bool.false_eq_true, ↓reduceIte, aenv0, aenvS, aenvN, one_ne]
      refine loadA_ptr tagg27 tsz27 (set_same _ _ _) (by decide) ?_
      exact hK
  · intro hb
    have hb : ¬ s.length < 32 := by have := of_decide_eq_false hb
                                    omega
    have ht : takeB s 32 = some (s.take 32, s.drop 32) := by rw [takeB, if_neg hb]
    rw [unhashB, ht] at hK
    refine rs ?_
    refine runM ?_
    refine al_done ?_
    refine asc ?_; refine awp_while (fun m ρ t => ∃ k : Nat, m = 32 - k ∧ k ≤ 32 ∧ t = (σ.set id (.cells (bytesD zero32) 27)).set id2 (.cells (bytesD (s.take k ++ zero32.drop k)) 27) ∧ ρ 0 = .str s ∧ ρ 2 = .ptr id 0 ∧ ρ 5 = .ptr id2 0 ∧ ρ 6 = .int .i64 (k : Nat)) 32 ?_ ?_
    · refine ⟨0, rfl, by omega, rfl, ?_, ?_, ?_, ?_⟩
      · simp only [↓set_get, Nat.reduceEqDiff, Bool.false_eq_true, ↓reduceIte, aenv0, aenvS, aenvN, one_ne]
      · simp only [↓set_get, Nat.reduceEqDiff, Bool.false_eq_true, ↓reduceIte, aenv0, aenvS, aenvN, one_ne]
      · simp only [↓set_get, Nat.reduceEqDiff, Bool.false_eq_true, ↓reduceIte, aenv0, aenvS, aenvN, one_ne]
      · simp only [↓set_get, Nat.reduceEqDiff, Bool.false_eq_true, ↓reduceIte, aenv0, aenvS, aenvN, one_ne]; rfl
    · rintro m ρ t ⟨k, rfl, hk, rfl, h0, h2, h5, h6⟩
      have hlen : (bytesD (s.take k ++ zero32.drop k)).length = 32 := by
        rw [length_bytesD, List.length_append, List.length_take, List.length_drop, show zero32.length = 32 from rfl]; omega
      refine rs ?_
      refine runMX h6 ?_
      refine al_done ?_
      refine asc ?_; refine ate ?_ ?_
      · intro hb2
        have hb2 : k < 32 := by have := of_decide_eq_true hb2
                                omega
        have hks : k < s.length := by omega
        refine asc ?_; refine awp_body ?_
        refine awp_region ?_
        (repeat (refine al_set ?_ ?_ ?_ ?_; rotate_left 2; · intro K hK; simp (disch := omega) only [go_sem, ↓set_get, ↓reduceIte, ↓o_bsl, ↓o_build, Nat.reduceEqDiff, Nat.reduceAdd, Nat.reduceMul, Int.reduceEq, Int.reduceNe, h0, h2, h5, h6, Int.toNat_natCast]; (repeat' (first | exact hK | (refine And.intro ?_ ?_) | assumption | omega))))
        (refine al_set ?_ ?_ ?_ ?_; rotate_left 2; (· intro K hK; refine S0 ?_; refine index_str isStr9 (by omega) (by rw [Int.toNat_natCast]; exact List.getElem?_eq_getElem hks) ?_; exact hK))
        (repeat (refine al_set ?_ ?_ ?_ ?_; rotate_left 2; · intro K hK; simp (disch := omega) only [go_sem, ↓set_get, ↓reduceIte, ↓o_bsl, ↓o_build, Nat.reduceEqDiff, Nat.reduceAdd, Nat.reduceMul, Int.reduceEq, Int.reduceNe, h0, h2, h5, h6, Int.toNat_natCast]; (repeat' (first | exact hK | (refine And.intro ?_ ?_) | assumption | omega))))
        (refine al_none ?_ ?_ ?_ ?_; rotate_left 2; (· intro K hK; refine S0 ?_; refine store_ptr tagg5 tsz5 rfl rfl (set_same _ _ _) (by omega) ?_; exact hK))
        refine al_done ?_
        rw [set_set]
        refine awp_region ?_
        refine runMX h6 ?_
        refine al_nil ?_
        refine lq_next (32 - (k + 1)) (by omega) ⟨k + 1, rfl, by omega, ?_, ?_, ?_, ?_, ?_⟩
        · congr 2
          exact splice_next hks hb2
        · simp only [↓set_get, Nat.reduceEqDiff, Bool.false_eq_true, ↓reduceIte, aenv0, aenvS, aenvN, one_ne, h0]
        · simp only [↓set_get, Nat.reduceEqDiff, Bool.false_eq_true, ↓reduceIte, aenv0, aenvS, aenvN, one_ne, h2]
        · simp only [↓set_get, Nat.reduceEqDiff, Bool.false_eq_true, ↓reduceIte, aenv0, aenvS, aenvN, one_ne, h5]
        · simp only [↓set_get, Nat.reduceEqDiff, Bool.false_eq_true, ↓reduceIte, aenv0, aenvS, aenvN, one_ne]; rfl
      · intro hb2
        have hb2 : k = 32 := by have := of_decide_eq_false hb2
                                omega
        subst hb2
        have hz : s.take 32 ++ zero32.drop 32 = s.take 32 := by simp [zero32]
        rw [hz] at hlen
        refine lq_exit ?_
        rw [hz]
        refine asc ?_; refine awp_draw [true, true, true, false, true, true] (by kernel_rfl) ?_
        (refine pa_set ?_ ?_ ?_; rotate_left 1; (· intro K hK; refine S0X h5 ?_; refine loadA_ptr tagg27 tsz27 (set_same _ _ _) (by omega) ?_; exact hK))
        refine runDMX h0 ?_
        (refine pa_set ?_ ?_ ?_; rotate_left 1; (· intro K hK; refine S0 ?_; refine slice_str isStr9 (l := 32) (h := s.length) rfl rfl (by omega) (by omega) ?_; exact hK))
        refine runDM ?_
        refine pa_nil ?_
        have hw : List.take 32 (List.drop 0 (bytesD (s.take 32))) = bytesD (s.take 32) := by rw [List.drop_zero, List.take_of_length_le (by omega)]
        refine pt_skip (pt_skip (pt_skip ?_))
        refine pt_none ?_ ?_ ?_ ?_ ?_; rotate_left 2
        · intro K hK; simp (disch := omega) only [go_sem, ↓set_get, ↓reduceIte, ↓o_bsl, ↓o_build, Nat.reduceEqDiff, Nat.reduceAdd, Nat.reduceMul, Int.reduceEq, Int.reduceNe, h2]
          refine store_ptr tagg27 tsz27 (by rw [hw]; exact hlen) rfl (by rw [set_other _ (Ne.symm hne)]; exact set_same _ _ _) (by decide) ?_
          exact hK
        · have hs2 : ∀ o, (((σ.set id (.cells (bytesD zero32) 27)).set id2 (.cells (bytesD (s.take 32)) 27)).set id o) id2 = some (.cells (bytesD (s.take 32)) 27) := fun o => by
            rw [set_other _ hne]; exact set_same _ _ _
          (repeat' (first | exact seen_nil | refine seen_skip (by decide +kernel) ?_ | refine seen_cons ?_ ?_))
          all_goals (simp only [go_sem, ↓set_get, ↓reduceIte, ↓o_bsl, ↓o_build, Nat.reduceEqDiff, Nat.reduceAdd, Nat.reduceMul, Int.reduceEq, Int.reduceNe, h0]; first | exact St.le.refl _ | exact loadA_ptr tagg27 tsz27 (hs2 _) (by omega) ⟨rfl, St.le.refl _⟩ | exact slice_str isStr9 (l := 32) (h := s.length) rfl rfl (by omega) (by omega) ⟨rfl, St.le.refl _⟩)
        refine pt_skip (pt_skip (pt_done ?_))
        refine awp_ret ?_
        refine afin_cell σ ?_ ?_
        · exact fun j x e => by
            simp only [St.set]
            split
            · rename_i hj; subst hj; rw [hid] at e; cases e
            · split
              · rename_i hj; subst hj; rw [hid2'] at e; cases e
              · exact e
        · simp only [ares, aone, ↓set_get, Nat.reduceEqDiff, Bool.false_eq_true, ↓reduceIte, aenv0, aenvS, aenvN, one_ne, h2]
          rw [hw, show cellsOf (D.agg (bytesD (s.take 32))) = bytesD (s.take 32) from rfl, splice_whole (by rw [hlen]; rfl)]
          refine loadA_ptr tagg27 tsz27 (set_same _ _ _) (by omega) ?_
          rw [hw]
          simpa [dUnhash] using hK
end Go.Proofs.Try

/- strings.Builder, walked. -/
set_option maxRecDepth 8000
set_option linter.unusedSimpArgs false
set_option linter.unusedVariables false
namespace Go.Proofs.Try
open Go Go.Av
set_option pp.maxSteps 900
attribute [local irreducible] alist awp adraw apure
variable {γ : Gl} {σ : St} {K : D → St → Prop}

theorem uns120 : isUns prog 120 173 = true := by kernel_rfl
theorem back120 : unsBack prog 173 120 122 = true := by kernel_rfl
theorem ptrI120 : isPtrI prog 120 = true := by kernel_rfl
theorem noEsc131 : noEsc prog 131 = true := by kernel_rfl
theorem ptrE165 : ptrE prog 165 = some 5 := by kernel_rfl
theorem cells5 : prog.cellsOf 5 = 1 := by kernel_rfl
theorem set_eq {s : St} {i : Nat} {o : Ob} (h : s i = some o) : s.set i o = s := by
  funext j; simp only [St.set]; split
  · rename_i hj; subst hj; exact h.symm
  · rfl

theorem copyCheck_c {s : St} {id : Nat} {p d : D} (hp : p = .nilp ∨ p = .ptr id 0) (hs : s id = some (.cells [p, d] 122)) (hK : K (.tup []) (s.set id (.cells [.ptr id 0, d] 122))) : ACalls prog γ 125 [.ptr id 0] s K := by
  refine acalls_of_awp (by kernel_rfl) func125 rfl (by kernel_rfl) rfl rfl (by kernel_rfl) (Nat.le_of_ble_eq_true rfl) ?_
  rcases hp with rfl | rfl
  · refine rs ?_
    refine runM ?_
    (refine al_set ?_ ?_ ?_ ?_; rotate_left 2; (· intro K hK; refine S0 ?_; refine load1_ptr tagg120 hs rfl ?_; exact hK))
    refine runM ?_
    refine al_done ?_
    refine ac ?_ ?_
    · intro _
      refine awp_region ?_
      refine runM ?_
      (refine al_set ?_ ?_ ?_ ?_; rotate_left 2; (· intro K hK; refine S0 ?_; refine conv_uns uns120 hs (Nat.zero_lt_succ _) ?_; exact hK))
      (refine al_set ?_ ?_ ?_ ?_; rotate_left 2; · intro K hK; simp (disch := omega) only [go_sem, ↓set_get, ↓reduceIte, ↓o_bsl, ↓o_build, Nat.reduceEqDiff, Nat.reduceAdd, Nat.reduceMul, Int.reduceEq, Int.reduceNe]; refine Or.inr ⟨noEsc131, _, rfl, ?_⟩; exact hK)
      (refine al_set ?_ ?_ ?_ ?_; rotate_left 2; (· intro K hK; refine S0 ?_; refine conv_back back120 hs (Nat.zero_lt_succ _) (by rw [tsz122]; exact Nat.le_refl _) ?_; exact hK))
      refine runM ?_
      (refine al_none ?_ ?_ ?_ ?_; rotate_left 2; (· intro K hK; refine S0 ?_; refine store_ptr tagg120 tsz120 rfl rfl hs (Nat.le_of_ble_eq_true rfl) ?_; exact hK))
      refine al_nil ?_
      refine afin_nrm (.done ?_)
      exact hK
    · intro h; cases h
  · refine rs ?_
    refine runM ?_
    (refine al_set ?_ ?_ ?_ ?_; rotate_left 2; (· intro K hK; refine S0 ?_; refine load1_ptr tagg120 hs rfl ?_; exact hK))
    refine runM ?_
    refine al_done ?_
    refine ac ?_ ?_
    · intro h; cases h
    · intro _
      refine rs ?_
      refine runM ?_
      (refine al_set ?_ ?_ ?_ ?_; rotate_left 2; (· intro K hK; refine S0 ?_; refine load1_ptr tagg120 hs rfl ?_; exact hK))
      refine runMX ptrI120 ?_
      refine al_done ?_
      refine ac ?_ ?_
      · intro h; cases h
      · intro _
        refine awp_skip ?_
        refine afin_nrm (.done ?_)
        rw [set_eq hs] at hK
        exact hK

/-- A builder of its own: its block id holds the bytes l. -/
def Bld (σ : St) (id : Nat) (l : List UInt8) (s : St) : Prop :=
  σ id = none ∧ ∃ p, (p = .nilp ∨ p = .ptr id 0) ∧
    ((l = [] ∧ s = σ.set id (.cells [p, .nil] 122)) ∨
     ∃ t, σ t = none ∧ t ≠ id ∧ s = (σ.set t (.tok 5 (bytesD l))).set id (.cells [p, .sl l.length (bytesD l) (some (t, 1))] 122))

theorem Bld.le {σ : St} {id : Nat} {l : List UInt8} {s : St} (h : Bld σ id l s) : σ.le s := by
  obtain ⟨h0, p, _, ⟨_, rfl⟩ | ⟨t, h1, h2, rfl⟩⟩ := h
  · exact le_set _ h0
  · exact St.le.trans (le_set _ h1) (le_set _ (by rw [set_other _ (Ne.symm h2)]; exact h0))

theorem WriteString_c {s : St} {id : Nat} {l x : List UInt8} (hb : Bld σ id l s) (hl : l.length + x.length ≤ 140737488355328) (hK : ∀ s', Bld σ id (l ++ x) s' → K (.tup [.int .i64 (x.length : Nat), .nili]) s') : ACalls prog γ 87 [.ptr id 0, .str x] s K := by
  obtain ⟨hid, p, hp, hb⟩ := hb
  refine acalls_of_awp (by kernel_rfl) func87 rfl (by kernel_rfl) rfl rfl (by kernel_rfl) (Nat.le_of_ble_eq_true rfl) ?_
  refine rs ?_
  refine runM ?_
  refine al_done ?_
  refine rs ?_
  refine runM ?_
  rcases hb with ⟨rfl, rfl⟩ | ⟨t, ht, hne, rfl⟩
  · (refine al_set ?_ ?_ ?_ ?_; rotate_left 2; (· intro K hK; refine S0 ?_; refine Or.inl (copyCheck_c hp (set_same _ _ _) ?_); exact hK))
    rw [set_set]
    refine al_done ?_
    refine rs ?_
    refine runM ?_
    (refine al_set ?_ ?_ ?_ ?_; rotate_left 2; (· intro K hK; refine S0 ?_; refine load1_ptr tagg45 (set_same _ _ _) rfl ?_; exact hK))
    refine runM ?_
    by_cases hx : x.length = 0
    · have : x = [] := List.eq_nil_of_length_eq_zero hx
      subst this
      (refine al_set ?_ ?_ ?_ ?_; rotate_left 2; (· intro K hK; simp (disch := omega) only [go_sem, ↓set_get, ↓reduceIte, ↓o_bsl, ↓o_build, Nat.reduceEqDiff, Nat.reduceAdd, Nat.reduceMul, Int.reduceEq, Int.reduceNe,  xcells_str, List.length_nil]; refine app_nil0 ?_; exact hK))
      refine runM ?_
      (refine al_none ?_ ?_ ?_ ?_; rotate_left 2; (· intro K hK; refine S0 ?_; refine store_ptr tagg45 tsz45 rfl rfl (set_same _ _ _) (Nat.le_of_ble_eq_true rfl) ?_; exact hK))
      rw [set_set]
      refine al_done ?_
      refine rs ?_
      (repeat (refine al_set ?_ ?_ ?_ ?_; rotate_left 2; · intro K hK; simp (disch := omega) only [go_sem, ↓set_get, ↓reduceIte, ↓o_bsl, ↓o_build, Nat.reduceEqDiff, Nat.reduceAdd, Nat.reduceMul, Int.reduceEq, Int.reduceNe, List.length_nil]; (repeat' (first | exact hK | (refine And.intro ?_ ?_) | assumption | omega))))
      refine rets ?_
      exact hK _ ⟨hid, .ptr id 0, .inr rfl, .inl ⟨rfl, rfl⟩⟩
    · (refine al_fresh ?_ ?_ ?_ ?_ ?_; rotate_left 3; (· intro K hK; simp (disch := (first | omega | (simp only [length_bytesD, List.length_append, List.length_cons, List.length_nil, List.length_map, List.length_replicate, List.length_take, List.length_drop]; omega))) only [go_sem, ↓set_get, ↓reduceIte, ↓o_bsl, ↓o_build, Nat.reduceEqDiff, Nat.reduceAdd, Nat.reduceMul, Int.reduceEq, Int.reduceNe,  xcells_str]; refine app_nil (by omega) (by simp at hl; omega) ?_; exact hK))
      intro t ht
      obtain ⟨hne, ht⟩ := fresh_ne ht
      refine runM ?_
      (refine al_none ?_ ?_ ?_ ?_; rotate_left 2; (· intro K hK; refine S0 ?_; refine store_ptr tagg45 tsz45 rfl rfl (by rw [set_other _ (Ne.symm hne)]; exact set_same _ _ _) (Nat.le_of_ble_eq_true rfl) ?_; exact hK))
      refine al_done ?_
      refine rs ?_
      refine runM ?_
      refine rets ?_
      refine hK _ ⟨hid, .ptr id 0, .inr rfl, .inr ⟨t, ht, hne, ?_⟩⟩
      rw [set_comm _ _ hne, set_set]; rfl
  · (refine al_set ?_ ?_ ?_ ?_; rotate_left 2; (· intro K hK; refine S0 ?_; refine Or.inl (copyCheck_c hp (set_same _ _ _) ?_); exact hK))
    rw [set_set]
    refine al_done ?_
    refine rs ?_
    refine runM ?_
    (refine al_set ?_ ?_ ?_ ?_; rotate_left 2; (· intro K hK; refine S0 ?_; refine load1_ptr tagg45 (set_same _ _ _) rfl ?_; exact hK))
    refine runM ?_
    rw [set_comm _ _ (Ne.symm hne)]
    (refine al_fresh ?_ ?_ ?_ ?_ ?_; rotate_left 3; (· intro K hK; simp (disch := (first | omega | (simp only [length_bytesD, List.length_append, List.length_cons, List.length_nil, List.length_map, List.length_replicate, List.length_take, List.length_drop]; omega))) only [go_sem, ↓set_get, ↓reduceIte, ↓o_bsl, ↓o_build, Nat.reduceEqDiff, Nat.reduceAdd, Nat.reduceMul, Int.reduceEq, Int.reduceNe,  xcells_str]; refine app_tok (by rw [set_other _ hne]; exact ht) (by omega) ?_; exact hK))
    intro t2 ht2
    obtain ⟨hne2, ht2⟩ := fresh_ne ht2
    refine runM ?_
    (refine al_none ?_ ?_ ?_ ?_; rotate_left 2; (· intro K hK; refine S0 ?_; refine store_ptr tagg45 tsz45 rfl rfl (by rw [set_other _ (Ne.symm hne2)]; exact set_same _ _ _) (Nat.le_of_ble_eq_true rfl) ?_; exact hK))
    refine al_done ?_
    refine rs ?_
    refine runM ?_
    refine rets ?_
    refine hK _ ⟨hid, .ptr id 0, .inr rfl, .inr ⟨t2, ht2, hne2, ?_⟩⟩
    rw [set_comm _ _ hne2, set_set, ← bytesD_append, ← List.length_append]; rfl

theorem String_c {s : St} {id : Nat} {l : List UInt8} (hb : Bld σ id l s) (h0 : 0 < l.length) (hl : l.length ≤ 140737488355328) (hK : K (.str l) σ) : ACalls prog γ 88 [.ptr id 0] s K := by
  obtain ⟨hid, p, hp, ⟨rfl, rfl⟩ | ⟨t, ht, hne, rfl⟩⟩ := hb
  · simp at h0
  · refine acalls_of_awp (by kernel_rfl) func88 rfl (by kernel_rfl) rfl rfl (by kernel_rfl) (Nat.le_of_ble_eq_true rfl) ?_
    refine rs ?_
    refine runM ?_
    refine al_done ?_
    refine asc ?_; refine awp_draw [true, true, true, true, true, true, true, true, true, true, false, false] (by kernel_rfl) ?_
    refine runDM ?_
    (refine pa_set ?_ ?_ ?_; rotate_left 1; (· intro K hK; refine S0 ?_; refine load1_ptr tagg45 (set_same _ _ _) rfl ?_; exact hK))
    (refine pa_set ?_ ?_ ?_; rotate_left 1; (· intro K hK; refine S0 ?_; refine sldata_sl h0 ?_; exact hK))
    refine runDM ?_
    (refine pa_set ?_ ?_ ?_; rotate_left 1; (· intro K hK; refine S0 ?_; refine load1_ptr tagg45 (set_same _ _ _) rfl ?_; exact hK))
    refine runDM ?_
    refine pa_nil ?_
    refine pt_skip (pt_skip (pt_skip (pt_skip (pt_skip (pt_skip (pt_skip (pt_skip (pt_skip (pt_skip ?_)))))))))
    have hobj : ∀ o, (((σ.set t (.tok 5 (bytesD l))).set id o).del t) id = some o := fun o => by
      simp only [St.del, if_neg (Ne.symm hne), St.set, if_true]
    have hobs : ∀ s : St, s id = some (.cells [p, .sl l.length (bytesD l) (some (t, 1))] 122) → True := fun _ _ => trivial
    refine pt_set ?_ ?_ ?_ ?_ ?_; rotate_left 2
    · intro K hK; simp (disch := omega) only [go_sem, ↓set_get, ↓reduceIte, ↓o_bsl, ↓o_build, Nat.reduceEqDiff, Nat.reduceAdd, Nat.reduceMul, Int.reduceEq, Int.reduceNe]
      refine ustr_tok ptrE165 cells5 (by rw [set_other _ hne]; exact set_same _ _ _) rfl h0 (by omega) ?_
      exact hK
    · exact seen_none (by kernel_rfl)
    · refine pt_set ?_ ?_ ?_ ?_ ?_; rotate_left 2
      · intro K hK; simp only [go_sem, ↓set_get, ↓reduceIte, ↓o_bsl, ↓o_build, Nat.reduceEqDiff, Nat.reduceAdd, Nat.reduceMul, Int.reduceEq, Int.reduceNe]; exact hK
      · exact seen_none (by kernel_rfl)
      refine pt_done ?_
      refine awp_ret (afin_ret (.forget σ ?_ (.done ?_)))
      · intro j x e
        have h1 : j ≠ t := by rintro rfl; rw [ht] at e; cases e
        have h2 : j ≠ id := by rintro rfl; rw [hid] at e; cases e
        simp only [St.del, St.set, if_neg h1, if_neg h2]; exact e
      · simp only [ares, aone, ↓set_get, Nat.reduceEqDiff, Bool.false_eq_true, ↓reduceIte, aenv0, aenvS, aenvN, one_ne]
        exact hK
end Go.Proofs.Try

/- codec: lists of hashes put, walked. -/
set_option maxRecDepth 8000
set_option linter.unusedSimpArgs false
set_option linter.unusedVariables false
namespace Go.Proofs.Try
open Go Go.Av
set_option pp.maxSteps 900
attribute [local irreducible] alist awp adraw apure
variable {γ : Gl} {σ : St} {K : D → St → Prop}

theorem rHashes_c {hs : List (List UInt8)} {tk : Option (Nat × Nat)} (a : All32 hs) (hb : hs.length ≤ 4398046511104) (hK : K (.str (hashesB hs)) σ) : ACalls prog γ 28 [.sl hs.length (bytesD hs.flatten) tk] σ K := by
  refine acalls_of_awp (by kernel_rfl) func28 rfl (by kernel_rfl) rfl rfl (by kernel_rfl) (Nat.le_of_ble_eq_true rfl) ?_
  refine rs ?_
  refine runM ?_
  refine al_done ?_
  refine rs ?_
  refine runM ?_
  refine al_done ?_
  refine asc ?_; refine ai ?_ ?_
  · intro h
    have h : 64 < hs.length := by have := of_decide_eq_true h
                                  omega
    refine rs ?_
    refine runM ?_
    refine rets ?_
    rw [hashesB, if_pos h] at hK; exact hK
  · intro h
    have h : ¬ 64 < hs.length := by have := of_decide_eq_false h
                                    omega
    rw [hashesB, if_neg h] at hK
    have hn10 := length_numB (n := hs.length) (by omega)
    refine rs ?_
    refine runM ?_
    (refine al_set ?_ ?_ ?_ ?_; rotate_left 2; (· intro K hK; refine S0 ?_; refine Or.inl (rNum_c (by omega) (by omega) ?_); exact hK))
    refine runM ?_
    refine al_done ?_
    refine rs ?_
    refine runM ?_
    refine al_done ?_
    refine asc ?_; refine awp_while (fun m ρ t => t = σ ∧ ∃ k : Nat, m = hs.length - k ∧ k ≤ hs.length ∧ ρ 0 = .sl hs.length (bytesD hs.flatten) tk ∧ ρ 4 = .int .i64 (k : Nat) ∧ ρ 3 = .str (numB hs.length ++ (hs.take k).flatten)) hs.length ?_ ?_
    · refine ⟨rfl, 0, rfl, by omega, ?_, ?_, ?_⟩
      · simp only [↓set_get, Nat.reduceEqDiff, Bool.false_eq_true, ↓reduceIte, aenv0, aenvS, aenvN, one_ne]
      · simp only [↓set_get, Nat.reduceEqDiff, Bool.false_eq_true, ↓reduceIte, aenv0, aenvS, aenvN, one_ne]; rfl
      · simp only [↓set_get, Nat.reduceEqDiff, Bool.false_eq_true, ↓reduceIte, aenv0, aenvS, aenvN, one_ne, Int.toNat_natCast, List.take_zero, List.flatten_nil, List.append_nil]
    · rintro m ρ t ⟨rfl, k, rfl, hk, h0, h4, h3⟩
      refine rs ?_
      refine runMX (And.intro h0 h4) ?_
      refine al_done ?_
      refine asc ?_; refine ate ?_ ?_
      · intro hb2
        have hb2 : k < hs.length := by have := of_decide_eq_true hb2
                                       omega
        have hfl := flat_take_len a k
        have h32 := a hs[k] (List.getElem_mem hb2)
        refine asc ?_; refine awp_body ?_
        refine awp_region ?_
        (repeat (refine al_set ?_ ?_ ?_ ?_; rotate_left 2; · intro K hK; simp (disch := omega) only [go_sem, ↓set_get, ↓reduceIte, ↓o_bsl, ↓o_build, Nat.reduceEqDiff, Nat.reduceAdd, Nat.reduceMul, Int.reduceEq, Int.reduceNe, h0, h3, h4, Int.toNat_natCast]; (repeat' (first | exact hK | (refine And.intro ?_ ?_) | assumption | omega))))
        (refine al_set ?_ ?_ ?_ ?_; rotate_left 2; (· intro K hK; refine S0 ?_; refine loadA_e tagg27 tsz27 (by rw [cells_len a]; omega) ?_; exact hK))
        rw [cells_at a hb2]
        (refine al_set ?_ ?_ ?_ ?_; rotate_left 2; (· intro K hK; refine S0 ?_; refine Or.inl (rHash_c h32 ?_); exact hK))
        (refine al_set ?_ ?_ ?_ ?_; rotate_left 2; (· intro K hK; refine S0 ?_; refine And.intro (by rw [List.length_append]; omega) ?_; exact hK))
        refine runM ?_
        refine al_done ?_
        refine awp_region ?_
        refine runMX h4 ?_
        refine al_nil ?_
        refine lq_next (hs.length - (k + 1)) (by omega) ⟨rfl, k + 1, rfl, by omega, ?_, ?_, ?_⟩
        · simp only [↓set_get, Nat.reduceEqDiff, Bool.false_eq_true, ↓reduceIte, aenv0, aenvS, aenvN, one_ne, h0]
        · simp only [↓set_get, Nat.reduceEqDiff, Bool.false_eq_true, ↓reduceIte, aenv0, aenvS, aenvN, one_ne]; rfl
        · simp only [↓set_get, Nat.reduceEqDiff, Bool.false_eq_true, ↓reduceIte, aenv0, aenvS, aenvN, one_ne]; rw [flat_next hb2, List.append_assoc]
      · intro hb2
        have hb2 : k = hs.length := by have := of_decide_eq_false hb2
                                       omega
        subst hb2
        refine lq_exit ?_
        refine rs ?_
        refine runMX h3 ?_
        refine rets ?_
        rw [List.take_length]; exact hK

theorem Bld.frame {s : St} {id i : Nat} {l : List UInt8} {o : Ob} (h : Bld σ id l s) (hi : s i = none) : Bld (σ.set i o) id l (s.set i o) := by
  obtain ⟨h0, p, hp, ⟨rfl, rfl⟩ | ⟨t, h1, h2, rfl⟩⟩ := h
  · have hne : i ≠ id := by rintro rfl; rw [set_same] at hi; cases hi
    exact ⟨by rw [set_other _ (Ne.symm hne)]; exact h0, p, hp, .inl ⟨rfl, set_comm _ _ hne⟩⟩
  · have hne : i ≠ id := by rintro rfl; rw [set_same] at hi; cases hi
    rw [set_other _ hne] at hi
    have hnt : i ≠ t := by rintro rfl; rw [set_same] at hi; cases hi
    refine ⟨by rw [set_other _ (Ne.symm hne)]; exact h0, p, hp, .inr ⟨t, by rw [set_other _ (Ne.symm hnt)]; exact h1, h2, ?_⟩⟩
    rw [set_comm _ _ hne, set_comm _ _ hnt]
theorem Bld.unframe {s : St} {id i : Nat} {l : List UInt8} {o : Ob} (h : Bld (σ.set i o) id l s) (hi : σ i = none) : ∃ s', s'.le s ∧ Bld σ id l s' := by
  obtain ⟨h0, p, hp, h⟩ := h
  obtain ⟨hne, h0⟩ := fresh_ne h0
  rcases h with ⟨rfl, rfl⟩ | ⟨t, h1, h2, rfl⟩
  · refine ⟨σ.set id (.cells [p, .nil] 122), ?_, h0, p, hp, .inl ⟨rfl, rfl⟩⟩
    rw [set_comm _ _ hne]
    exact le_set _ (by rw [set_other _ (Ne.symm hne)]; exact hi)
  · obtain ⟨hnt, h1⟩ := fresh_ne h1
    refine ⟨(σ.set t (.tok 5 (bytesD l))).set id (.cells [p, .sl l.length (bytesD l) (some (t, 1))] 122), ?_, h0, p, hp, .inr ⟨t, h1, h2, rfl⟩⟩
    rw [set_comm _ _ hnt, set_comm _ _ hne]
    exact le_set _ (by rw [set_other _ (Ne.symm hne), set_other _ (Ne.symm hnt)]; exact hi)

theorem Hashes_c {hs : List (List UInt8)} {tk : Option (Nat × Nat)} (a : All32 hs) (hb : hs.length ≤ 4398046511104) (hK : K (.str (hashesB hs)) σ) : ACalls prog γ 27 [.sl hs.length (bytesD hs.flatten) tk] σ K := by
  refine acalls_of_awp (by kernel_rfl) func27 rfl (by kernel_rfl) rfl rfl (by kernel_rfl) (Nat.le_of_ble_eq_true rfl) ?_
  refine rs ?_
  refine runM ?_
  refine al_done ?_
  refine rs ?_
  refine runM ?_
  refine al_done ?_
  refine asc ?_; refine ai ?_ ?_
  · intro h
    have h : 64 < hs.length := by have := of_decide_eq_true h
                                  omega
    refine rs ?_
    refine runM ?_
    refine rets ?_
    rw [hashesB, if_pos h] at hK; exact hK
  · intro h
    have h : ¬ 64 < hs.length := by have := of_decide_eq_false h
                                    omega
    rw [hashesB, if_neg h] at hK
    have hn10 := length_numB (n := hs.length) (by omega)
    refine rs ?_
    (refine al_fresh ?_ ?_ ?_ ?_ ?_; rotate_left 3; (· intro K hK; refine S2 ?_; refine alloc_z zc122 ?_; exact hK))
    intro id hid
    refine al_done ?_
    have hb0 : Bld σ id [] (σ.set id (.cells [.nilp, .nil] 122)) := ⟨hid, .nilp, .inl rfl, .inl ⟨rfl, rfl⟩⟩
    refine rs ?_
    refine runM ?_
    (refine al_set ?_ ?_ ?_ ?_; rotate_left 2; (· intro K hK; refine S0 ?_; refine Or.inl (Num_c (by omega) (by omega) ?_); exact hK))
    (refine al_rel (fun d s => d = .tup [.int .i64 (((numB hs.length).length : Nat) : Int), .nili] ∧ Bld σ id (numB hs.length) s) ?_ ?_; · intro K hK; simp (disch := omega) only [go_sem, ↓set_get, ↓reduceIte, ↓o_bsl, ↓o_build, Nat.reduceEqDiff, Nat.reduceAdd, Nat.reduceMul, Int.reduceEq, Int.reduceNe]; refine Or.inl (WriteString_c hb0 (by rw [Int.toNat_natCast]; simp; omega) ?_); intro s' hs'; exact hK _ _ ⟨by rw [Int.toNat_natCast], by rw [Int.toNat_natCast] at hs'; exact hs'⟩)
    rintro d1 s1 ⟨rfl, hb1⟩
    refine al_done ?_
    refine rs ?_
    refine runM ?_
    refine al_done ?_
    refine asc ?_; refine awp_while (fun m ρ t => ∃ k : Nat, m = hs.length - k ∧ k ≤ hs.length ∧ Bld σ id (numB hs.length ++ (hs.take k).flatten) t ∧ ρ 3 = .ptr id 0 ∧ ρ 14 = .sl hs.length (bytesD hs.flatten) tk ∧ ρ 15 = .int .i64 (hs.length : Nat) ∧ ρ 16 = .int .i64 (k : Nat)) hs.length ?_ ?_
    · refine ⟨0, rfl, by omega, ?_, ?_, ?_, ?_, ?_⟩
      · simpa using hb1
      · simp only [↓set_get, Nat.reduceEqDiff, Bool.false_eq_true, ↓reduceIte, aenv0, aenvS, aenvN, one_ne]
      · simp only [↓set_get, Nat.reduceEqDiff, Bool.false_eq_true, ↓reduceIte, aenv0, aenvS, aenvN, one_ne]
      · simp only [↓set_get, Nat.reduceEqDiff, Bool.false_eq_true, ↓reduceIte, aenv0, aenvS, aenvN, one_ne]
      · simp only [↓set_get, Nat.reduceEqDiff, Bool.false_eq_true, ↓reduceIte, aenv0, aenvS, aenvN, one_ne]; rfl
    · rintro m ρ t ⟨k, rfl, hk, hbk, h3, h14, h15, h16⟩
      refine rs ?_
      refine runMX (And.intro h15 h16) ?_
      refine al_done ?_
      refine asc ?_; refine ate ?_ ?_
      · intro hb2
        have hb2 : k < hs.length := by have := of_decide_eq_true hb2
                                       omega
        have hfl := flat_take_len a k
        have h32 := a hs[k] (List.getElem_mem hb2)
        have hcl : (bytesD hs[k]).length = 32 := by rw [length_bytesD]; exact h32
        have hw : List.take 32 (List.drop 0 (bytesD hs[k])) = bytesD hs[k] := by rw [List.drop_zero, List.take_of_length_le (by omega)]
        refine asc ?_; refine awp_body ?_
        refine rs ?_
        (repeat (refine al_set ?_ ?_ ?_ ?_; rotate_left 2; · intro K hK; simp (disch := omega) only [go_sem, ↓set_get, ↓reduceIte, ↓o_bsl, ↓o_build, Nat.reduceEqDiff, Nat.reduceAdd, Nat.reduceMul, Int.reduceEq, Int.reduceNe, h14, h16, Int.toNat_natCast]; (repeat' (first | exact hK | (refine And.intro ?_ ?_) | assumption | omega))))
        (refine al_set ?_ ?_ ?_ ?_; rotate_left 2; (· intro K hK; refine S0 ?_; refine loadA_e tagg27 tsz27 (by rw [cells_len a]; omega) ?_; exact hK))
        rw [cells_at a hb2]
        (refine al_fresh ?_ ?_ ?_ ?_ ?_; rotate_left 3; (· intro K hK; refine S2 ?_; refine alloc_z zc27 ?_; exact hK))
        intro i hi
        rw [zero_cells]
        refine runM ?_
        (refine al_none ?_ ?_ ?_ ?_; rotate_left 2; (· intro K hK; refine S0 ?_; refine store_ptr tagg27 tsz27 hcl rfl (set_same _ _ _) (by decide) ?_; exact hK))
        rw [set_set, show cellsOf (D.agg (bytesD hs[k])) = bytesD hs[k] from rfl, splice_whole (by rw [hcl]; rfl)]
        have hσi : σ i = none := by
          cases hq : σ i with
          | none => rfl
          | some o => have := hbk.le i o hq; rw [hi] at this; cases this
        have hbf := hbk.frame (o := .cells (bytesD hs[k]) 27) hi
        refine al_done ?_
        refine awp_region ?_
        (refine al_set ?_ ?_ ?_ ?_; rotate_left 2; (· intro K hK; refine S0 ?_; refine loadA_ptr tagg27 tsz27 (set_same _ _ _) (by omega) ?_; exact hK))
        rw [hw]
        (refine al_set ?_ ?_ ?_ ?_; rotate_left 2; (· intro K hK; refine S0 ?_; refine Or.inl (Hash_c h32 ?_); exact hK))
        (refine al_rel (fun d s => d = .tup [.int .i64 ((hs[k].length : Nat) : Int), .nili] ∧ Bld (σ.set i (.cells (bytesD hs[k]) 27)) id (numB hs.length ++ (hs.take k).flatten ++ hs[k]) s) ?_ ?_; · intro K hK; simp (disch := omega) only [go_sem, ↓set_get, ↓reduceIte, ↓o_bsl, ↓o_build, Nat.reduceEqDiff, Nat.reduceAdd, Nat.reduceMul, Int.reduceEq, Int.reduceNe, h3]; refine Or.inl (WriteString_c hbf (by rw [List.length_append]; omega) ?_); intro s' hs'; exact hK _ _ ⟨rfl, hs'⟩)
        rintro d2 s2 ⟨rfl, hbn⟩
        obtain ⟨s3, hle3, hb3⟩ := hbn.unframe hσi
        refine al_nil (.forget s3 hle3 (.done ?_))
        refine awp_region ?_
        refine runMX h16 ?_
        refine al_nil ?_
        refine lq_next (hs.length - (k + 1)) (by omega) ⟨k + 1, rfl, by omega, ?_, ?_, ?_, ?_, ?_⟩
        · rw [flat_next hb2, ← List.append_assoc]; exact hb3
        · simp only [↓set_get, Nat.reduceEqDiff, Bool.false_eq_true, ↓reduceIte, aenv0, aenvS, aenvN, one_ne, h3]
        · simp only [↓set_get, Nat.reduceEqDiff, Bool.false_eq_true, ↓reduceIte, aenv0, aenvS, aenvN, one_ne, h14]
        · simp only [↓set_get, Nat.reduceEqDiff, Bool.false_eq_true, ↓reduceIte, aenv0, aenvS, aenvN, one_ne, h15]
        · simp only [↓set_get, Nat.reduceEqDiff, Bool.false_eq_true, ↓reduceIte, aenv0, aenvS, aenvN, one_ne]; rfl
      · intro hb2
        have hb2 : k = hs.length := by have := of_decide_eq_false hb2
                                       omega
        subst hb2
        rw [List.take_length] at hbk
        have hfl := flat_len a
        have hp := length_numB_pos hs.length
        refine lq_exit ?_
        refine rs ?_
        (refine al_rel (fun d s => d = .str (numB hs.length ++ hs.flatten) ∧ s = σ) ?_ ?_; · intro K hK; simp (disch := omega) only [go_sem, ↓set_get, ↓reduceIte, ↓o_bsl, ↓o_build, Nat.reduceEqDiff, Nat.reduceAdd, Nat.reduceMul, Int.reduceEq, Int.reduceNe, h3]; refine Or.inl (String_c hbk (by rw [List.length_append]; omega) (by rw [List.length_append]; omega) (hK _ _ ⟨rfl, rfl⟩)))
        rintro d3 s3 ⟨rfl, rfl⟩
        refine runM ?_
        refine rets ?_
        exact hK
end Go.Proofs.Try

/- codec: lists of hashes read, walked. -/
set_option maxRecDepth 8000
set_option linter.unusedSimpArgs false
set_option linter.unusedVariables false
namespace Go.Proofs.Try
open Go Go.Av
set_option pp.maxSteps 900
attribute [local irreducible] alist awp adraw apure
variable {γ : Gl} {σ : St} {K : D → St → Prop}

theorem Unhashes_c {s : List UInt8} (hs : s.length ≤ 140737488355328) (hK : K (dUnhs (unhashesB s)) σ) : ACalls prog γ 35 [.str s] σ K := by
  refine acalls_of_awp (by kernel_rfl) func35 rfl (by kernel_rfl) rfl rfl (by kernel_rfl) (Nat.le_of_ble_eq_true rfl) ?_
  refine rs ?_
  refine runM ?_
  refine al_done ?_
  refine rs ?_
  refine runM ?_
  (refine al_set ?_ ?_ ?_ ?_; rotate_left 2; (· intro K hK; refine S0 ?_; refine Or.inl (Read_c hs ?_); exact hK))
  unfold unhashesB at hK
  cases hr : readB s with
  | none =>
    rw [hr] at hK
    (repeat (refine al_set ?_ ?_ ?_ ?_; rotate_left 2; · intro K hK; simp (disch := omega) only [go_sem, ↓set_get, ↓reduceIte, ↓o_bsl, ↓o_build, Nat.reduceEqDiff, Nat.reduceAdd, Nat.reduceMul, Int.reduceEq, Int.reduceNe, hr, dRead]; (repeat' (first | exact hK | (refine And.intro ?_ ?_) | assumption | omega))))
    refine al_done ?_
    refine rs ?_
    (repeat (first | (refine al_set ?_ ?_ ?_ ?_; rotate_left 2; · intro K hK; simp (disch := omega) only [go_sem, ↓set_get, ↓reduceIte, ↓o_bsl, ↓o_build, Nat.reduceEqDiff, Nat.reduceAdd, Nat.reduceMul, Int.reduceEq, Int.reduceNe, Bool.not_false]; (repeat' (first | exact hK | (refine And.intro ?_ ?_) | assumption | omega))) | (refine al_guard (b := true) rfl ?_ (fun _ => ?_) (fun h => absurd rfl h); · simp only [↓set_get, Nat.reduceEqDiff, Bool.false_eq_true, ↓reduceIte, aenv0, aenvS, aenvN, one_ne, Bool.not_false]; done) | (refine al_guard (b := false) rfl ?_ (fun _ => ?_) (fun h => absurd rfl h); · simp only [↓set_get, Nat.reduceEqDiff, Bool.false_eq_true, ↓reduceIte, aenv0, aenvS, aenvN, one_ne, Bool.not_false]; done) | (refine al_guard (b := true) rfl ?_ (fun h => Bool.noConfusion h) (fun _ => ?_); · simp only [↓set_get, Nat.reduceEqDiff, Bool.false_eq_true, ↓reduceIte, aenv0, aenvS, aenvN, one_ne, Bool.not_false]; done) | (refine al_guard (b := false) rfl ?_ (fun h => Bool.noConfusion h) (fun _ => ?_); · simp only [↓set_get, Nat.reduceEqDiff, Bool.false_eq_true, ↓reduceIte, aenv0, aenvS, aenvN, one_ne, Bool.not_false]; done) | (refine al_guard0 rfl ?_ ?_; · simp only [↓set_get, Nat.reduceEqDiff, Bool.false_eq_true, ↓reduceIte, aenv0, aenvS, aenvN, one_ne, Bool.not_false]; done)))
    refine al_done ?_
    refine asc ?_; refine ai ?_ ?_
    · intro _
      refine rs ?_
      refine runM ?_
      refine al_nil (rx_nil (t := 2) (by simp only [↓set_get, Nat.reduceEqDiff, Bool.false_eq_true, ↓reduceIte, aenv0, aenvS, aenvN, one_ne]) (.done ?_))
      refine awp_ret (afin_ret (.done ?_)); simp only [ares, aone, ↓set_get, Nat.reduceEqDiff, Bool.false_eq_true, ↓reduceIte, aenv0, aenvS, aenvN, one_ne]
      exact hK
    · intro h; cases h
  | some p =>
    obtain ⟨n, r⟩ := p
    obtain ⟨hrl, hn⟩ := readB_len hr
    rw [hr] at hK
    simp only at hK
    (repeat (refine al_set ?_ ?_ ?_ ?_; rotate_left 2; · intro K hK; simp (disch := omega) only [go_sem, ↓set_get, ↓reduceIte, ↓o_bsl, ↓o_build, Nat.reduceEqDiff, Nat.reduceAdd, Nat.reduceMul, Int.reduceEq, Int.reduceNe, hr, dRead]; (repeat' (first | exact hK | (refine And.intro ?_ ?_) | assumption | omega))))
    refine al_done ?_
    refine rs ?_
    (repeat (first | (refine al_set ?_ ?_ ?_ ?_; rotate_left 2; · intro K hK; simp (disch := omega) only [go_sem, ↓set_get, ↓reduceIte, ↓o_bsl, ↓o_build, Nat.reduceEqDiff, Nat.reduceAdd, Nat.reduceMul, Int.reduceEq, Int.reduceNe, Bool.not_true]; (repeat' (first | exact hK | (refine And.intro ?_ ?_) | assumption | omega))) | (refine al_guard (b := true) rfl ?_ (fun _ => ?_) (fun h => absurd rfl h); · simp only [↓set_get, Nat.reduceEqDiff, Bool.false_eq_true, ↓reduceIte, aenv0, aenvS, aenvN, one_ne, Bool.not_true]; done) | (refine al_guard (b := false) rfl ?_ (fun _ => ?_) (fun h => absurd rfl h); · simp only [↓set_get, Nat.reduceEqDiff, Bool.false_eq_true, ↓reduceIte, aenv0, aenvS, aenvN, one_ne, Bool.not_true]; done) | (refine al_guard (b := true) rfl ?_ (fun h => Bool.noConfusion h) (fun _ => ?_); · simp only [↓set_get, Nat.reduceEqDiff, Bool.false_eq_true, ↓reduceIte, aenv0, aenvS, aenvN, one_ne, Bool.not_true]; done) | (refine al_guard (b := false) rfl ?_ (fun h => Bool.noConfusion h) (fun _ => ?_); · simp only [↓set_get, Nat.reduceEqDiff, Bool.false_eq_true, ↓reduceIte, aenv0, aenvS, aenvN, one_ne, Bool.not_true]; done) | (refine al_guard0 rfl ?_ ?_; · simp only [↓set_get, Nat.reduceEqDiff, Bool.false_eq_true, ↓reduceIte, aenv0, aenvS, aenvN, one_ne, Bool.not_true]; done)))
    refine al_done ?_
    refine asc ?_; refine ai ?_ ?_
    · intro h
      have h : 64 < n := by have := of_decide_eq_true h
                            omega
      rw [if_pos h] at hK
      refine rs ?_
      refine runM ?_
      refine al_nil (rx_nil (t := 2) (by simp only [↓set_get, Nat.reduceEqDiff, Bool.false_eq_true, ↓reduceIte, aenv0, aenvS, aenvN, one_ne]) (.done ?_))
      refine awp_ret (afin_ret (.done ?_)); simp only [ares, aone, ↓set_get, Nat.reduceEqDiff, Bool.false_eq_true, ↓reduceIte, aenv0, aenvS, aenvN, one_ne]
      exact hK
    · intro h
      have h : ¬ 64 < n := by have := of_decide_eq_false h
                              omega
      rw [if_neg h] at hK
      refine asc ?_; refine awp_while (fun m ρ t => ∃ (done : List (List UInt8)) (rest : List UInt8) (d : D), All32 done ∧ done.length + m = n ∧ rest.length ≤ r.length ∧ unhN n r = (unhN m rest).map (fun p => (done ++ p.1, p.2)) ∧ Own σ 27 32 done.length (bytesD done.flatten) d t ∧ ρ 2 = d ∧ ρ 3 = .str rest ∧ ρ 5 = .int .u64 (m : Nat)) n ?_ ?_
      · refine ⟨[], r, .nil, fun x hx => (by cases hx), by simp, Nat.le_refl _, ?_, own_nil _ _ _, ?_, ?_, ?_⟩
        · cases unhN n r <;> simp
        · simp only [↓set_get, Nat.reduceEqDiff, Bool.false_eq_true, ↓reduceIte, aenv0, aenvS, aenvN, one_ne]
        · simp only [↓set_get, Nat.reduceEqDiff, Bool.false_eq_true, ↓reduceIte, aenv0, aenvS, aenvN, one_ne]
        · simp only [↓set_get, Nat.reduceEqDiff, Bool.false_eq_true, ↓reduceIte, aenv0, aenvS, aenvN, one_ne]
      · rintro m ρ t ⟨done, rest, d, a, hlen, hrest, hu, hown, h2, h3, h5⟩
        refine rs ?_
        refine runMX h5 ?_
        refine al_done ?_
        refine asc ?_; refine ate ?_ ?_
        · intro hb
          have hb : 0 < m := by have := of_decide_eq_true hb
                                omega
          obtain ⟨m, rfl⟩ : ∃ j, m = j + 1 := ⟨m - 1, by omega⟩
          refine asc ?_; refine awp_body ?_
          refine rs ?_
          refine runMX h3 ?_
          (refine al_set ?_ ?_ ?_ ?_; rotate_left 2; (· intro K hK; refine S0 ?_; refine Or.inl (Unhash_c (by omega) ?_); exact hK))
          by_cases h32 : rest.length < 32
          · have ht : unhashB rest = none := by rw [unhashB, takeB, if_pos h32]
            have hnone : unhN n r = none := by rw [hu, unhN, if_pos h32]; rfl
            rw [hnone] at hK
            (repeat (refine al_set ?_ ?_ ?_ ?_; rotate_left 2; · intro K hK; simp (disch := omega) only [go_sem, ↓set_get, ↓reduceIte, ↓o_bsl, ↓o_build, Nat.reduceEqDiff, Nat.reduceAdd, Nat.reduceMul, Int.reduceEq, Int.reduceNe, ht, dUnhash]; (repeat' (first | exact hK | (refine And.intro ?_ ?_) | assumption | omega))))
            (refine al_fresh ?_ ?_ ?_ ?_ ?_; rotate_left 3; (· intro K hK; refine S2 ?_; refine alloc_z zc27 ?_; exact hK))
            intro i hi
            (refine al_none ?_ ?_ ?_ ?_; rotate_left 2; (· intro K hK; refine S0 ?_; refine store_ptr tagg27 tsz27 (by rw [show cellsOf (D.agg (bytesD zero32)) = bytesD zero32 from rfl]; rfl) rfl (set_same _ _ _) (by simp) ?_; exact hK))
            rw [set_set]
            refine runM ?_
            refine al_done ?_
            refine rs ?_
            (repeat (refine al_set ?_ ?_ ?_ ?_; rotate_left 2; · intro K hK; simp (disch := omega) only [go_sem, ↓set_get, ↓reduceIte, ↓o_bsl, ↓o_build, Nat.reduceEqDiff, Nat.reduceAdd, Nat.reduceMul, Int.reduceEq, Int.reduceNe, Bool.not_false]; (repeat' (first | exact hK | (refine And.intro ?_ ?_) | assumption | omega))))
            refine al_done ?_
            refine asc ?_; refine ai ?_ ?_
            · intro _
              refine rs ?_
              refine runM ?_
              refine al_nil (rx_nil (t := 2) (by simp only [↓set_get, Nat.reduceEqDiff, Bool.false_eq_true, ↓reduceIte, aenv0, aenvS, aenvN, one_ne]) (.forget σ (St.le.trans (own_le hown) (le_set _ hi)) (.done ?_)))
              refine awp_ret (afin_ret (.done ?_)); simp only [ares, aone, ↓set_get, Nat.reduceEqDiff, Bool.false_eq_true, ↓reduceIte, aenv0, aenvS, aenvN, one_ne]
              exact hK
            · intro h; cases h
          · have ht : unhashB rest = some (rest.take 32, rest.drop 32) := by rw [unhashB, takeB, if_neg h32]
            have hl32 : (rest.take 32).length = 32 := by rw [List.length_take]; omega
            have hcl : (bytesD (rest.take 32)).length = 32 := by rw [length_bytesD]; exact hl32
            have hw : List.take 32 (List.drop 0 (bytesD (rest.take 32))) = bytesD (rest.take 32) := by rw [List.drop_zero, List.take_of_length_le (by omega)]
            have hu2 : unhN n r = (unhN m (rest.drop 32)).map (fun p => ((done ++ [rest.take 32]) ++ p.1, p.2)) := by
              rw [hu, unhN, if_neg h32]; cases unhN m (rest.drop 32) <;> simp
            (repeat (refine al_set ?_ ?_ ?_ ?_; rotate_left 2; · intro K hK; simp (disch := omega) only [go_sem, ↓set_get, ↓reduceIte, ↓o_bsl, ↓o_build, Nat.reduceEqDiff, Nat.reduceAdd, Nat.reduceMul, Int.reduceEq, Int.reduceNe, ht, dUnhash]; (repeat' (first | exact hK | (refine And.intro ?_ ?_) | assumption | omega))))
            (refine al_fresh ?_ ?_ ?_ ?_ ?_; rotate_left 3; (· intro K hK; refine S2 ?_; refine alloc_z zc27 ?_; exact hK))
            intro i hi
            (refine al_none ?_ ?_ ?_ ?_; rotate_left 2; (· intro K hK; refine S0 ?_; refine store_ptr tagg27 tsz27 hcl rfl (set_same _ _ _) (by simp) ?_; exact hK))
            rw [set_set, show cellsOf (D.agg (bytesD (rest.take 32))) = bytesD (rest.take 32) from rfl, splice_whole (by rw [hcl]; rfl)]
            have hσi := own_fresh hown hi
            have hof := own_frame (o := .cells (bytesD (rest.take 32)) 27) hown hi
            refine runM ?_
            refine al_done ?_
            refine rs ?_
            (repeat (refine al_set ?_ ?_ ?_ ?_; rotate_left 2; · intro K hK; simp (disch := omega) only [go_sem, ↓set_get, ↓reduceIte, ↓o_bsl, ↓o_build, Nat.reduceEqDiff, Nat.reduceAdd, Nat.reduceMul, Int.reduceEq, Int.reduceNe, Bool.not_true]; (repeat' (first | exact hK | (refine And.intro ?_ ?_) | assumption | omega))))
            refine al_done ?_
            refine asc ?_; refine ai ?_ ?_
            · intro h; cases h
            · intro _
              refine awp_region ?_
              refine runMX h2 ?_
              (refine al_set ?_ ?_ ?_ ?_; rotate_left 2; (· intro K hK; refine S0 ?_; refine loadA_ptr tagg27 tsz27 (set_same _ _ _) (by omega) ?_; exact hK))
              rw [hw]
              (refine al_set ?_ ?_ ?_ ?_; rotate_left 2; (· intro K hK; refine S0 ?_; refine bsl_agg0 elt23 zc27 rfl hcl (by decide) ?_; exact hK))
              (refine al_rel ?_ ?_ ?_; rotate_left 1; (· intro K hK; simp (disch := (first | omega | (simp only [length_bytesD, List.length_append, List.length_cons, List.length_nil, List.length_map, List.length_replicate, List.length_take, List.length_drop]; omega))) only [go_sem, ↓set_get, ↓reduceIte, ↓o_bsl, ↓o_build, Nat.reduceEqDiff, Nat.reduceAdd, Nat.reduceMul, Int.reduceEq, Int.reduceNe,  xcells_sl, hcl, h2]; refine own_app hof (by decide) hcl (by omega) ?_; exact hK))
              intro d' s' hown'
              obtain ⟨s3, hle3, hown3⟩ := own_unframe hown' hσi
              refine runM ?_
              refine al_nil (.forget s3 hle3 (.done ?_))
              refine awp_region ?_
              refine runMX h5 ?_
              refine al_nil ?_
              refine lq_next m (by omega) ⟨done ++ [rest.take 32], rest.drop 32, d', a.snoc hl32, by simp; omega, by rw [List.length_drop]; omega, hu2, ?_, ?_, ?_, ?_⟩
              · rw [List.length_append, List.flatten_append, bytesD_append]; simpa using hown3
              · simp only [↓set_get, Nat.reduceEqDiff, Bool.false_eq_true, ↓reduceIte, aenv0, aenvS, aenvN, one_ne]
              · simp only [↓set_get, Nat.reduceEqDiff, Bool.false_eq_true, ↓reduceIte, aenv0, aenvS, aenvN, one_ne]
              · simp only [↓set_get, Nat.reduceEqDiff, Bool.false_eq_true, ↓reduceIte, aenv0, aenvS, aenvN, one_ne]; congr 1; omega
        · intro hb
          have hb : m = 0 := by have := of_decide_eq_false hb
                                omega
          subst hb
          have hsome : unhN n r = some (done, rest) := by rw [hu, unhN]; simp
          rw [hsome] at hK
          refine lq_exit ?_
          refine rs ?_
          refine runMX (And.intro h2 h3) ?_
          refine al_nil (rx_own hown (t := 2) (by simp only [↓set_get, Nat.reduceEqDiff, Bool.false_eq_true, ↓reduceIte, aenv0, aenvS, aenvN, one_ne]) (.done ?_))
          refine awp_ret (afin_ret (.done ?_)); simp only [ares, aone, ↓set_get, Nat.reduceEqDiff, Bool.false_eq_true, ↓reduceIte, aenv0, aenvS, aenvN, one_ne]
          exact hK

theorem rUnhashes_c {s : List UInt8} (hs : s.length ≤ 140737488355328) (hK : K (dUnhs (unhashesB s)) σ) : ACalls prog γ 36 [.str s] σ K := by
  refine acalls_of_awp (by kernel_rfl) func36 rfl (by kernel_rfl) rfl rfl (by kernel_rfl) (Nat.le_of_ble_eq_true rfl) ?_
  refine rs ?_
  refine runM ?_
  refine al_done ?_
  refine rs ?_
  refine runM ?_
  (refine al_set ?_ ?_ ?_ ?_; rotate_left 2; (· intro K hK; refine S0 ?_; refine Or.inl (rRead_c hs ?_); exact hK))
  unfold unhashesB at hK
  cases hr : readB s with
  | none =>
    rw [hr] at hK
    (repeat (refine al_set ?_ ?_ ?_ ?_; rotate_left 2; · intro K hK; simp (disch := omega) only [go_sem, ↓set_get, ↓reduceIte, ↓o_bsl, ↓o_build, Nat.reduceEqDiff, Nat.reduceAdd, Nat.reduceMul, Int.reduceEq, Int.reduceNe, hr, dRead]; (repeat' (first | exact hK | (refine And.intro ?_ ?_) | assumption | omega))))
    refine al_done ?_
    refine rs ?_
    (repeat (first | (refine al_set ?_ ?_ ?_ ?_; rotate_left 2; · intro K hK; simp (disch := omega) only [go_sem, ↓set_get, ↓reduceIte, ↓o_bsl, ↓o_build, Nat.reduceEqDiff, Nat.reduceAdd, Nat.reduceMul, Int.reduceEq, Int.reduceNe, Bool.not_false]; (repeat' (first | exact hK | (refine And.intro ?_ ?_) | assumption | omega))) | (refine al_guard (b := true) rfl ?_ (fun _ => ?_) (fun h => absurd rfl h); · simp only [↓set_get, Nat.reduceEqDiff, Bool.false_eq_true, ↓reduceIte, aenv0, aenvS, aenvN, one_ne, Bool.not_false]; done) | (refine al_guard (b := false) rfl ?_ (fun _ => ?_) (fun h => absurd rfl h); · simp only [↓set_get, Nat.reduceEqDiff, Bool.false_eq_true, ↓reduceIte, aenv0, aenvS, aenvN, one_ne, Bool.not_false]; done) | (refine al_guard (b := true) rfl ?_ (fun h => Bool.noConfusion h) (fun _ => ?_); · simp only [↓set_get, Nat.reduceEqDiff, Bool.false_eq_true, ↓reduceIte, aenv0, aenvS, aenvN, one_ne, Bool.not_false]; done) | (refine al_guard (b := false) rfl ?_ (fun h => Bool.noConfusion h) (fun _ => ?_); · simp only [↓set_get, Nat.reduceEqDiff, Bool.false_eq_true, ↓reduceIte, aenv0, aenvS, aenvN, one_ne, Bool.not_false]; done) | (refine al_guard0 rfl ?_ ?_; · simp only [↓set_get, Nat.reduceEqDiff, Bool.false_eq_true, ↓reduceIte, aenv0, aenvS, aenvN, one_ne, Bool.not_false]; done)))
    refine al_done ?_
    refine asc ?_; refine ai ?_ ?_
    · intro _
      refine rs ?_
      refine runM ?_
      refine al_nil (rx_nil (t := 2) (by simp only [↓set_get, Nat.reduceEqDiff, Bool.false_eq_true, ↓reduceIte, aenv0, aenvS, aenvN, one_ne]) (.done ?_))
      refine awp_ret (afin_ret (.done ?_)); simp only [ares, aone, ↓set_get, Nat.reduceEqDiff, Bool.false_eq_true, ↓reduceIte, aenv0, aenvS, aenvN, one_ne]
      exact hK
    · intro h; cases h
  | some p =>
    obtain ⟨n, r⟩ := p
    obtain ⟨hrl, hn⟩ := readB_len hr
    rw [hr] at hK
    simp only at hK
    (repeat (refine al_set ?_ ?_ ?_ ?_; rotate_left 2; · intro K hK; simp (disch := omega) only [go_sem, ↓set_get, ↓reduceIte, ↓o_bsl, ↓o_build, Nat.reduceEqDiff, Nat.reduceAdd, Nat.reduceMul, Int.reduceEq, Int.reduceNe, hr, dRead]; (repeat' (first | exact hK | (refine And.intro ?_ ?_) | assumption | omega))))
    refine al_done ?_
    refine asc ?_; refine awp_rj (fun ρ' s' => s' = σ ∧ ρ' 5 = .int .u64 (n : Nat) ∧ ρ' 6 = .str r ∧ ρ' 32 = .bool (decide (64 < n ∨ r.length < 32 * n))) ?_ ?_
    · intro K' hJ
      by_cases h64 : 64 < n
      · have e1 : decide ((n : Int) > 64) = true := by simp; omega
        (repeat (first | (refine al_set ?_ ?_ ?_ ?_; rotate_left 2; · intro K hK; simp (disch := omega) only [go_sem, ↓set_get, ↓reduceIte, ↓o_bsl, ↓o_build, Nat.reduceEqDiff, Nat.reduceAdd, Nat.reduceMul, Int.reduceEq, Int.reduceNe, Bool.not_true, e1]; (repeat' (first | exact hK | (refine And.intro ?_ ?_) | assumption | omega))) | (refine al_guard (b := true) rfl ?_ (fun _ => ?_) (fun h => absurd rfl h); · simp only [↓set_get, Nat.reduceEqDiff, Bool.false_eq_true, ↓reduceIte, aenv0, aenvS, aenvN, one_ne, Bool.not_true, e1]; done) | (refine al_guard (b := false) rfl ?_ (fun _ => ?_) (fun h => absurd rfl h); · simp only [↓set_get, Nat.reduceEqDiff, Bool.false_eq_true, ↓reduceIte, aenv0, aenvS, aenvN, one_ne, Bool.not_true, e1]; done) | (refine al_guard (b := true) rfl ?_ (fun h => Bool.noConfusion h) (fun _ => ?_); · simp only [↓set_get, Nat.reduceEqDiff, Bool.false_eq_true, ↓reduceIte, aenv0, aenvS, aenvN, one_ne, Bool.not_true, e1]; done) | (refine al_guard (b := false) rfl ?_ (fun h => Bool.noConfusion h) (fun _ => ?_); · simp only [↓set_get, Nat.reduceEqDiff, Bool.false_eq_true, ↓reduceIte, aenv0, aenvS, aenvN, one_ne, Bool.not_true, e1]; done) | (refine al_guard0 rfl ?_ ?_; · simp only [↓set_get, Nat.reduceEqDiff, Bool.false_eq_true, ↓reduceIte, aenv0, aenvS, aenvN, one_ne, Bool.not_true, e1]; done)))
        refine al_nil (hJ _ _ ?_)
        simp only [↓set_get, Nat.reduceEqDiff, Bool.false_eq_true, ↓reduceIte, aenv0, aenvS, aenvN, one_ne, h64, true_and, true_or, decide_true]
      · have e1 : decide ((n : Int) > 64) = false := by simp; omega
        (repeat (first | (refine al_set ?_ ?_ ?_ ?_; rotate_left 2; · intro K hK; simp (disch := omega) only [go_sem, ↓set_get, ↓reduceIte, ↓o_bsl, ↓o_build, Nat.reduceEqDiff, Nat.reduceAdd, Nat.reduceMul, Int.reduceEq, Int.reduceNe, Bool.not_true, e1]; (repeat' (first | exact hK | (refine And.intro ?_ ?_) | assumption | omega))) | (refine al_guard (b := true) rfl ?_ (fun _ => ?_) (fun h => absurd rfl h); · simp only [↓set_get, Nat.reduceEqDiff, Bool.false_eq_true, ↓reduceIte, aenv0, aenvS, aenvN, one_ne, Bool.not_true, e1]; done) | (refine al_guard (b := false) rfl ?_ (fun _ => ?_) (fun h => absurd rfl h); · simp only [↓set_get, Nat.reduceEqDiff, Bool.false_eq_true, ↓reduceIte, aenv0, aenvS, aenvN, one_ne, Bool.not_true, e1]; done) | (refine al_guard (b := true) rfl ?_ (fun h => Bool.noConfusion h) (fun _ => ?_); · simp only [↓set_get, Nat.reduceEqDiff, Bool.false_eq_true, ↓reduceIte, aenv0, aenvS, aenvN, one_ne, Bool.not_true, e1]; done) | (refine al_guard (b := false) rfl ?_ (fun h => Bool.noConfusion h) (fun _ => ?_); · simp only [↓set_get, Nat.reduceEqDiff, Bool.false_eq_true, ↓reduceIte, aenv0, aenvS, aenvN, one_ne, Bool.not_true, e1]; done) | (refine al_guard0 rfl ?_ ?_; · simp only [↓set_get, Nat.reduceEqDiff, Bool.false_eq_true, ↓reduceIte, aenv0, aenvS, aenvN, one_ne, Bool.not_true, e1]; done)))
        refine al_nil (hJ _ _ ?_)
        simp only [↓set_get, Nat.reduceEqDiff, Bool.false_eq_true, ↓reduceIte, aenv0, aenvS, aenvN, one_ne, h64, true_and, false_or, D.bool.injEq, decide_eq_decide]
        omega
    rintro ρ1 t1 ⟨rfl, g5, g6, g32⟩
    refine asc ?_; refine aiX g32 ?_ ?_
    · intro h
      have h : 64 < n ∨ r.length < 32 * n := of_decide_eq_true h
      have hK : K (dUnhs none) t1 := by
        split at hK
        · exact hK
        · rw [unhN_short n r (by omega)] at hK; exact hK
      refine rs ?_
      refine runM ?_
      refine al_nil (rx_nil (t := 2) (by simp only [↓set_get, Nat.reduceEqDiff, Bool.false_eq_true, ↓reduceIte, aenv0, aenvS, aenvN, one_ne]) (.done ?_))
      refine awp_ret (afin_ret (.done ?_)); simp only [ares, aone, ↓set_get, Nat.reduceEqDiff, Bool.false_eq_true, ↓reduceIte, aenv0, aenvS, aenvN, one_ne]
      exact hK
    · intro h
      have h : ¬ (64 < n ∨ r.length < 32 * n) := of_decide_eq_false h
      rw [if_neg (by omega)] at hK
      refine rs ?_
      refine runM ?_
      refine al_done ?_
      refine rs ?_
      refine runM ?_
      refine al_done ?_
      refine asc ?_; refine awp_while (fun m ρ t => ∃ (done : List (List UInt8)) (rest : List UInt8) (d : D), All32 done ∧ done.length + m = n ∧ rest.length ≤ r.length ∧ 32 * m ≤ rest.length ∧ unhN n r = (unhN m rest).map (fun p => (done ++ p.1, p.2)) ∧ Own t1 27 32 done.length (bytesD done.flatten) d t ∧ ρ 8 = d ∧ ρ 6 = .str rest ∧ ρ 5 = .int .u64 (n : Nat) ∧ ρ 9 = .int .i64 (done.length : Nat)) n ?_ ?_
      · refine ⟨[], r, .nil, fun x hx => (by cases hx), by simp, Nat.le_refl _, by omega, ?_, own_nil _ _ _, ?_, ?_, ?_, ?_⟩
        · cases unhN n r <;> simp
        · simp only [↓set_get, Nat.reduceEqDiff, Bool.false_eq_true, ↓reduceIte, aenv0, aenvS, aenvN, one_ne]
        · simp only [↓set_get, Nat.reduceEqDiff, Bool.false_eq_true, ↓reduceIte, aenv0, aenvS, aenvN, one_ne, g6]
        · simp only [↓set_get, Nat.reduceEqDiff, Bool.false_eq_true, ↓reduceIte, aenv0, aenvS, aenvN, one_ne, g5]
        · simp only [↓set_get, Nat.reduceEqDiff, Bool.false_eq_true, ↓reduceIte, aenv0, aenvS, aenvN, one_ne]; rfl
      · rintro m ρ t ⟨done, rest, d, a, hlen, hrest, hmr, hu, hown, h8, h6, h5, h9⟩
        refine rs ?_
        refine runMX (And.intro h5 h9) ?_
        refine al_done ?_
        refine asc ?_; refine ate ?_ ?_
        · intro hb
          have hb : done.length < n := by have := of_decide_eq_true hb
                                          omega
          obtain ⟨m, rfl⟩ : ∃ j, m = j + 1 := ⟨m - 1, by omega⟩
          have h32 : ¬ rest.length < 32 := by omega
          have ht : unhashB rest = some (rest.take 32, rest.drop 32) := by rw [unhashB, takeB, if_neg h32]
          have hl32 : (rest.take 32).length = 32 := by rw [List.length_take]; omega
          have hcl : (bytesD (rest.take 32)).length = 32 := by rw [length_bytesD]; exact hl32
          have hw : List.take 32 (List.drop 0 (bytesD (rest.take 32))) = bytesD (rest.take 32) := by rw [List.drop_zero, List.take_of_length_le (by omega)]
          have hu2 : unhN n r = (unhN m (rest.drop 32)).map (fun p => ((done ++ [rest.take 32]) ++ p.1, p.2)) := by
            rw [hu, unhN, if_neg h32]; cases unhN m (rest.drop 32) <;> simp
          refine asc ?_; refine awp_body ?_
          refine rs ?_
          refine runMX h6 ?_
          (refine al_set ?_ ?_ ?_ ?_; rotate_left 2; (· intro K hK; refine S0 ?_; refine Or.inl (rUnhash_c (by omega) ?_); exact hK))
          (repeat (refine al_set ?_ ?_ ?_ ?_; rotate_left 2; · intro K hK; simp (disch := omega) only [go_sem, ↓set_get, ↓reduceIte, ↓o_bsl, ↓o_build, Nat.reduceEqDiff, Nat.reduceAdd, Nat.reduceMul, Int.reduceEq, Int.reduceNe, ht, dUnhash]; (repeat' (first | exact hK | (refine And.intro ?_ ?_) | assumption | omega))))
          (refine al_fresh ?_ ?_ ?_ ?_ ?_; rotate_left 3; (· intro K hK; refine S2 ?_; refine alloc_z zc27 ?_; exact hK))
          intro i hi
          (refine al_none ?_ ?_ ?_ ?_; rotate_left 2; (· intro K hK; refine S0 ?_; refine store_ptr tagg27 tsz27 hcl rfl (set_same _ _ _) (by simp) ?_; exact hK))
          rw [set_set, show cellsOf (D.agg (bytesD (rest.take 32))) = bytesD (rest.take 32) from rfl, splice_whole (by rw [hcl]; rfl)]
          have hσi := own_fresh hown hi
          have hof := own_frame (o := .cells (bytesD (rest.take 32)) 27) hown hi
          refine runM ?_
          refine al_done ?_
          refine awp_region ?_
          refine runMX h8 ?_
          (refine al_set ?_ ?_ ?_ ?_; rotate_left 2; (· intro K hK; refine S0 ?_; refine loadA_ptr tagg27 tsz27 (set_same _ _ _) (by omega) ?_; exact hK))
          rw [hw]
          (refine al_set ?_ ?_ ?_ ?_; rotate_left 2; (· intro K hK; refine S0 ?_; refine bsl_agg0 elt23 zc27 rfl hcl (by decide) ?_; exact hK))
          (refine al_rel ?_ ?_ ?_; rotate_left 1; (· intro K hK; simp (disch := (first | omega | (simp only [length_bytesD, List.length_append, List.length_cons, List.length_nil, List.length_map, List.length_replicate, List.length_take, List.length_drop]; omega))) only [go_sem, ↓set_get, ↓reduceIte, ↓o_bsl, ↓o_build, Nat.reduceEqDiff, Nat.reduceAdd, Nat.reduceMul, Int.reduceEq, Int.reduceNe,  xcells_sl, hcl, h8]; refine own_app hof (by decide) hcl (by omega) ?_; exact hK))
          intro d' s' hown'
          obtain ⟨s3, hle3, hown3⟩ := own_unframe hown' hσi
          refine runM ?_
          refine al_nil (.forget s3 hle3 (.done ?_))
          refine awp_region ?_
          refine runMX h9 ?_
          refine al_nil ?_
          refine lq_next m (by omega) ⟨done ++ [rest.take 32], rest.drop 32, d', a.snoc hl32, by simp; omega, by rw [List.length_drop]; omega, by rw [List.length_drop]; omega, hu2, ?_, ?_, ?_, ?_, ?_⟩
          · rw [List.length_append, List.flatten_append, bytesD_append]; simpa using hown3
          · simp only [↓set_get, Nat.reduceEqDiff, Bool.false_eq_true, ↓reduceIte, aenv0, aenvS, aenvN, one_ne]
          · simp only [↓set_get, Nat.reduceEqDiff, Bool.false_eq_true, ↓reduceIte, aenv0, aenvS, aenvN, one_ne]
          · simp only [↓set_get, Nat.reduceEqDiff, Bool.false_eq_true, ↓reduceIte, aenv0, aenvS, aenvN, one_ne, h5]
          · simp only [↓set_get, Nat.reduceEqDiff, Bool.false_eq_true, ↓reduceIte, aenv0, aenvS, aenvN, one_ne, List.length_append, List.length_cons, List.length_nil]; rfl
        · intro hb
          have hb : m = 0 := by have := of_decide_eq_false hb
                                omega
          subst hb
          have hsome : unhN n r = some (done, rest) := by rw [hu, unhN]; simp
          rw [hsome] at hK
          refine lq_exit ?_
          refine rs ?_
          refine runMX (And.intro h8 h6) ?_
          refine al_nil (rx_own hown (t := 2) (by simp only [↓set_get, Nat.reduceEqDiff, Bool.false_eq_true, ↓reduceIte, aenv0, aenvS, aenvN, one_ne]) (.done ?_))
          refine awp_ret (afin_ret (.done ?_)); simp only [ares, aone, ↓set_get, Nat.reduceEqDiff, Bool.false_eq_true, ↓reduceIte, aenv0, aenvS, aenvN, one_ne]
          exact hK

theorem guard27 : prog.eqGuardType prog.depth 27 = false := by kernel_rfl
theorem kinds27 : kinds prog 20 27 = some (List.replicate 32 (.int .u8)) := by kernel_rfl
/-- Are two lists the same? -/
theorem Same_c {hs gs : List (List UInt8)} {tk tk' : Option (Nat × Nat)} (a : All32 hs) (b : All32 gs) (hb0 : hs.length ≤ 4398046511104) (hK : K (.bool (decide (hs = gs))) σ) : ACalls prog γ 37 [.sl hs.length (bytesD hs.flatten) tk, .sl gs.length (bytesD gs.flatten) tk'] σ K := by
  refine acalls_of_awp (by kernel_rfl) func37 rfl (by kernel_rfl) rfl rfl (by kernel_rfl) (Nat.le_of_ble_eq_true rfl) ?_
  refine rs ?_
  refine runM ?_
  refine al_done ?_
  refine rs ?_
  refine runM ?_
  refine al_done ?_
  refine asc ?_; refine ai ?_ ?_
  · intro h
    have h : ¬ hs = gs := by rintro rfl; simp at h
    refine rs ?_
    refine runM ?_
    refine rets ?_
    simpa [h] using hK
  · intro h
    have h : hs.length = gs.length := by have : ¬ ((hs.length : Int) ≠ gs.length) := by simpa using h
                                         omega
    refine rs ?_
    refine runM ?_
    refine al_done ?_
    refine asc ?_; refine awp_while (fun m ρ t => t = σ ∧ ∃ k : Nat, m = hs.length - k ∧ k ≤ hs.length ∧ (∀ j (hj : j < k) (h1 : j < hs.length) (h2 : j < gs.length), hs[j] = gs[j]) ∧ ρ 0 = .sl hs.length (bytesD hs.flatten) tk ∧ ρ 1 = .sl gs.length (bytesD gs.flatten) tk' ∧ ρ 5 = .int .i64 (k : Nat)) hs.length ?_ ?_
    · refine ⟨rfl, 0, rfl, by omega, fun j hj => by omega, ?_, ?_, ?_⟩
      · simp only [↓set_get, Nat.reduceEqDiff, Bool.false_eq_true, ↓reduceIte, aenv0, aenvS, aenvN, one_ne]
      · simp only [↓set_get, Nat.reduceEqDiff, Bool.false_eq_true, ↓reduceIte, aenv0, aenvS, aenvN, one_ne]
      · simp only [↓set_get, Nat.reduceEqDiff, Bool.false_eq_true, ↓reduceIte, aenv0, aenvS, aenvN, one_ne]; rfl
    · rintro m ρ t ⟨rfl, k, rfl, hk, heq, h0, h1, h5⟩
      refine rs ?_
      refine runMX (And.intro h0 h5) ?_
      refine al_done ?_
      refine asc ?_; refine ate ?_ ?_
      · intro hb
        have hb : k < hs.length := by have := of_decide_eq_true hb
                                      omega
        have hb' : k < gs.length := by omega
        have l1 := a hs[k] (List.getElem_mem hb)
        have l2 := b gs[k] (List.getElem_mem hb')
        refine asc ?_; refine awp_body ?_
        refine asc ?_; refine awp_pure (by kernel_rfl) ?_
        (repeat (refine ap_set ?_ ?_ ?_; rotate_left 1; · intro K hK; simp (disch := omega) only [go_sem, ↓set_get, ↓reduceIte, ↓o_bsl, ↓o_build, Nat.reduceEqDiff, Nat.reduceAdd, Nat.reduceMul, Int.reduceEq, Int.reduceNe, h0, h1, h5, Int.toNat_natCast]; (repeat' (first | exact hK | (refine And.intro ?_ ?_) | assumption | omega))))
        (refine ap_set ?_ ?_ ?_; rotate_left 1; (· intro K hK; refine S0 ?_; refine loadA_e tagg27 tsz27 (by rw [cells_len a]; omega) ?_; exact hK))
        rw [cells_at a hb]
        (repeat (refine ap_set ?_ ?_ ?_; rotate_left 1; · intro K hK; simp (disch := omega) only [go_sem, ↓set_get, ↓reduceIte, ↓o_bsl, ↓o_build, Nat.reduceEqDiff, Nat.reduceAdd, Nat.reduceMul, Int.reduceEq, Int.reduceNe, h0, h1, h5, Int.toNat_natCast]; (repeat' (first | exact hK | (refine And.intro ?_ ?_) | assumption | omega))))
        (refine ap_set ?_ ?_ ?_; rotate_left 1; (· intro K hK; refine S0 ?_; refine loadA_e tagg27 tsz27 (by rw [cells_len b]; omega) ?_; exact hK))
        rw [cells_at b hb']
        (refine ap_set ?_ ?_ ?_; rotate_left 1; (· intro K hK; refine S0 ?_; refine abin_agg tagg27 guard27 kinds27 (fits_bytes 32 _ l1) (fits_bytes 32 _ l2) (eqL_bytes _ _ (by omega)) ?_; exact hK))
        refine ap_done ?_
        refine ac ?_ ?_
        · intro hne
          have hne : ¬ hs = gs := by
            rintro rfl; simp at hne
          refine rs ?_
          refine runM ?_
          refine rets ?_
          simpa [hne] using hK
        · intro he
          have he : hs[k] = gs[k] := by simpa using he
          refine awp_skip (Rx.done ?_)
          refine awp_region ?_
          refine runMX h5 ?_
          refine al_nil ?_
          refine lq_next (hs.length - (k + 1)) (by omega) ⟨rfl, k + 1, rfl, by omega, ?_, ?_, ?_, ?_⟩
          · intro j hj h1 h2
            rcases Nat.lt_or_ge j k with hjk | hjk
            · exact heq j hjk h1 h2
            · have : j = k := by omega
              subst this; exact he
          · simp only [↓set_get, Nat.reduceEqDiff, Bool.false_eq_true, ↓reduceIte, aenv0, aenvS, aenvN, one_ne, h0]
          · simp only [↓set_get, Nat.reduceEqDiff, Bool.false_eq_true, ↓reduceIte, aenv0, aenvS, aenvN, one_ne, h1]
          · simp only [↓set_get, Nat.reduceEqDiff, Bool.false_eq_true, ↓reduceIte, aenv0, aenvS, aenvN, one_ne]; rfl
      · intro hb
        have hb : k = hs.length := by have := of_decide_eq_false hb
                                      omega
        subst hb
        have he : hs = gs := List.ext_getElem h fun j h1 h2 => heq j h1 h1 h2
        refine lq_exit ?_
        refine rs ?_
        refine runM ?_
        refine rets ?_
        simpa [he] using hK
end Go.Proofs.Try

/- The chapter's examples, walked. -/
set_option maxRecDepth 8000
set_option linter.unusedSimpArgs false
set_option linter.unusedVariables false
namespace Go.Proofs.Try
open Go Go.Av
set_option pp.maxSteps 900
attribute [local irreducible] alist awp adraw apure
variable {γ : Gl} {σ : St} {K : D → St → Prop}

/-- A nil slice may be handed in as an empty one. -/
theorem acalls_nil {f : FuncId} (h : ACalls prog γ f [.sl 0 [] none] σ K) : ACalls prog γ f [.nil] σ K :=
  ⟨h.1, fun B w0 g w vals hγ hv hR => h.2 B w0 g w vals hγ ⟨hv.1, fun k v d e e' => by
    cases k with
    | zero =>
      simp only [List.getElem?_cons_zero, Option.some.injEq] at e'
      subst e'
      exact Wk.nil.sound (hv.2 0 v .nil e rfl)
    | succ k => simp at e'⟩ hR⟩

theorem numB0 : numB 0 = [0] := numB_small (by decide)
theorem numB127 : numB 127 = [127] := numB_small (by decide)
theorem numB300 : numB 300 = [130, 44] := by rw [numB_great (by decide), aheadB_small (by decide)]; rfl
theorem numB2 : numB 2 = [2] := numB_small (by decide)

theorem coded_c (hK : K (.bool true) σ) : ACalls prog γ 20 [] σ K := by
  have r1 : readB [130, 44, 120] = some (300, [120]) := by decide
  have c2 : cutB [2, 97, 98, 99] = some ([97, 98], [99]) := by decide
  have c3 : cutB [3, 97, 98] = none := by decide
  have u4 : unhashesB [0, 120] = some ([], [120]) := by decide
  have n5 : readB [128, 5] = none := by decide
  have n6 : readB [130] = none := by decide
  refine acalls_of_awp (by kernel_rfl) func20 rfl (by kernel_rfl) rfl rfl (by kernel_rfl) (Nat.le_of_ble_eq_true rfl) ?_
  refine rs ?_
  refine runM ?_
  refine al_done ?_
  refine rs ?_
  (refine al_set ?_ ?_ ?_ ?_; rotate_left 2; (· intro K hK; refine S0 ?_; refine Or.inl (Read_c (by decide) ?_); exact hK))
  have c300 : ((300 : Nat) : Int) = 300 := rfl
  (repeat (refine al_set ?_ ?_ ?_ ?_; rotate_left 2; · intro K hK; simp (disch := omega) only [go_sem, ↓set_get, ↓reduceIte, ↓o_bsl, ↓o_build, Nat.reduceEqDiff, Nat.reduceAdd, Nat.reduceMul, Int.reduceEq, Int.reduceNe, r1, dRead, c300]; (repeat' (first | exact hK | (refine And.intro ?_ ?_) | assumption | omega))))
  refine al_done ?_
  refine rs ?_
  (refine al_set ?_ ?_ ?_ ?_; rotate_left 2; (· intro K hK; refine S0 ?_; refine Or.inl (Cut_c (by decide) ?_); exact hK))
  (repeat (refine al_set ?_ ?_ ?_ ?_; rotate_left 2; · intro K hK; simp (disch := omega) only [go_sem, ↓set_get, ↓reduceIte, ↓o_bsl, ↓o_build, Nat.reduceEqDiff, Nat.reduceAdd, Nat.reduceMul, Int.reduceEq, Int.reduceNe, c2, dCut]; (repeat' (first | exact hK | (refine And.intro ?_ ?_) | assumption | omega))))
  refine al_done ?_
  refine rs ?_
  (refine al_set ?_ ?_ ?_ ?_; rotate_left 2; (· intro K hK; refine S0 ?_; refine Or.inl (Cut_c (by decide) ?_); exact hK))
  (repeat (refine al_set ?_ ?_ ?_ ?_; rotate_left 2; · intro K hK; simp (disch := omega) only [go_sem, ↓set_get, ↓reduceIte, ↓o_bsl, ↓o_build, Nat.reduceEqDiff, Nat.reduceAdd, Nat.reduceMul, Int.reduceEq, Int.reduceNe, c3, dCut]; (repeat' (first | exact hK | (refine And.intro ?_ ?_) | assumption | omega))))
  refine al_done ?_
  refine rs ?_
  (refine al_set ?_ ?_ ?_ ?_; rotate_left 2; (· intro K hK; refine S0 ?_; refine Or.inl (Unhashes_c (by decide) ?_); exact hK))
  (repeat (refine al_set ?_ ?_ ?_ ?_; rotate_left 2; · intro K hK; simp (disch := omega) only [go_sem, ↓set_get, ↓reduceIte, ↓o_bsl, ↓o_build, Nat.reduceEqDiff, Nat.reduceAdd, Nat.reduceMul, Int.reduceEq, Int.reduceNe, u4, dUnhs, List.length_nil, List.flatten_nil, bytesD_nil]; (repeat' (first | exact hK | (refine And.intro ?_ ?_) | assumption | omega))))
  refine al_done ?_
  refine rs ?_
  simp only [List.append_eq, List.cons_append, List.nil_append]
  (refine al_set ?_ ?_ ?_ ?_; rotate_left 2; (· intro K hK; refine S0 ?_; refine Or.inl (Num_c (by decide) (by decide) ?_); exact hK))
  (repeat (first | (refine al_set ?_ ?_ ?_ ?_; rotate_left 2; · intro K hK; simp (disch := omega) only [go_sem, ↓set_get, ↓reduceIte, ↓o_bsl, ↓o_build, Nat.reduceEqDiff, Nat.reduceAdd, Nat.reduceMul, Int.reduceEq, Int.reduceNe, Int.reduceToNat, numB0, beq_self_eq_true]; (repeat' (first | exact hK | (refine And.intro ?_ ?_) | assumption | omega))) | (refine al_guard (b := true) rfl ?_ (fun _ => ?_) (fun h => absurd rfl h); · simp only [↓set_get, Nat.reduceEqDiff, Bool.false_eq_true, ↓reduceIte, aenv0, aenvS, aenvN, one_ne, Int.reduceToNat, numB0, beq_self_eq_true]; done) | (refine al_guard (b := false) rfl ?_ (fun _ => ?_) (fun h => absurd rfl h); · simp only [↓set_get, Nat.reduceEqDiff, Bool.false_eq_true, ↓reduceIte, aenv0, aenvS, aenvN, one_ne, Int.reduceToNat, numB0, beq_self_eq_true]; done) | (refine al_guard (b := true) rfl ?_ (fun h => Bool.noConfusion h) (fun _ => ?_); · simp only [↓set_get, Nat.reduceEqDiff, Bool.false_eq_true, ↓reduceIte, aenv0, aenvS, aenvN, one_ne, Int.reduceToNat, numB0, beq_self_eq_true]; done) | (refine al_guard (b := false) rfl ?_ (fun h => Bool.noConfusion h) (fun _ => ?_); · simp only [↓set_get, Nat.reduceEqDiff, Bool.false_eq_true, ↓reduceIte, aenv0, aenvS, aenvN, one_ne, Int.reduceToNat, numB0, beq_self_eq_true]; done) | (refine al_guard0 rfl ?_ ?_; · simp only [↓set_get, Nat.reduceEqDiff, Bool.false_eq_true, ↓reduceIte, aenv0, aenvS, aenvN, one_ne, Int.reduceToNat, numB0, beq_self_eq_true]; done)))
  (refine al_set ?_ ?_ ?_ ?_; rotate_left 2; (· intro K hK; refine S0 ?_; refine Or.inl (Num_c (by decide) (by decide) ?_); exact hK))
  (repeat (first | (refine al_set ?_ ?_ ?_ ?_; rotate_left 2; · intro K hK; simp (disch := omega) only [go_sem, ↓set_get, ↓reduceIte, ↓o_bsl, ↓o_build, Nat.reduceEqDiff, Nat.reduceAdd, Nat.reduceMul, Int.reduceEq, Int.reduceNe, Int.reduceToNat, numB127, beq_self_eq_true]; (repeat' (first | exact hK | (refine And.intro ?_ ?_) | assumption | omega))) | (refine al_guard (b := true) rfl ?_ (fun _ => ?_) (fun h => absurd rfl h); · simp only [↓set_get, Nat.reduceEqDiff, Bool.false_eq_true, ↓reduceIte, aenv0, aenvS, aenvN, one_ne, Int.reduceToNat, numB127, beq_self_eq_true]; done) | (refine al_guard (b := false) rfl ?_ (fun _ => ?_) (fun h => absurd rfl h); · simp only [↓set_get, Nat.reduceEqDiff, Bool.false_eq_true, ↓reduceIte, aenv0, aenvS, aenvN, one_ne, Int.reduceToNat, numB127, beq_self_eq_true]; done) | (refine al_guard (b := true) rfl ?_ (fun h => Bool.noConfusion h) (fun _ => ?_); · simp only [↓set_get, Nat.reduceEqDiff, Bool.false_eq_true, ↓reduceIte, aenv0, aenvS, aenvN, one_ne, Int.reduceToNat, numB127, beq_self_eq_true]; done) | (refine al_guard (b := false) rfl ?_ (fun h => Bool.noConfusion h) (fun _ => ?_); · simp only [↓set_get, Nat.reduceEqDiff, Bool.false_eq_true, ↓reduceIte, aenv0, aenvS, aenvN, one_ne, Int.reduceToNat, numB127, beq_self_eq_true]; done) | (refine al_guard0 rfl ?_ ?_; · simp only [↓set_get, Nat.reduceEqDiff, Bool.false_eq_true, ↓reduceIte, aenv0, aenvS, aenvN, one_ne, Int.reduceToNat, numB127, beq_self_eq_true]; done)))
  (refine al_set ?_ ?_ ?_ ?_; rotate_left 2; (· intro K hK; refine S0 ?_; refine Or.inl (Num_c (by decide) (by decide) ?_); exact hK))
  (repeat (first | (refine al_set ?_ ?_ ?_ ?_; rotate_left 2; · intro K hK; simp (disch := omega) only [go_sem, ↓set_get, ↓reduceIte, ↓o_bsl, ↓o_build, Nat.reduceEqDiff, Nat.reduceAdd, Nat.reduceMul, Int.reduceEq, Int.reduceNe, Int.reduceToNat, numB300, beq_self_eq_true]; (repeat' (first | exact hK | (refine And.intro ?_ ?_) | assumption | omega))) | (refine al_guard (b := true) rfl ?_ (fun _ => ?_) (fun h => absurd rfl h); · simp only [↓set_get, Nat.reduceEqDiff, Bool.false_eq_true, ↓reduceIte, aenv0, aenvS, aenvN, one_ne, Int.reduceToNat, numB300, beq_self_eq_true]; done) | (refine al_guard (b := false) rfl ?_ (fun _ => ?_) (fun h => absurd rfl h); · simp only [↓set_get, Nat.reduceEqDiff, Bool.false_eq_true, ↓reduceIte, aenv0, aenvS, aenvN, one_ne, Int.reduceToNat, numB300, beq_self_eq_true]; done) | (refine al_guard (b := true) rfl ?_ (fun h => Bool.noConfusion h) (fun _ => ?_); · simp only [↓set_get, Nat.reduceEqDiff, Bool.false_eq_true, ↓reduceIte, aenv0, aenvS, aenvN, one_ne, Int.reduceToNat, numB300, beq_self_eq_true]; done) | (refine al_guard (b := false) rfl ?_ (fun h => Bool.noConfusion h) (fun _ => ?_); · simp only [↓set_get, Nat.reduceEqDiff, Bool.false_eq_true, ↓reduceIte, aenv0, aenvS, aenvN, one_ne, Int.reduceToNat, numB300, beq_self_eq_true]; done) | (refine al_guard0 rfl ?_ ?_; · simp only [↓set_get, Nat.reduceEqDiff, Bool.false_eq_true, ↓reduceIte, aenv0, aenvS, aenvN, one_ne, Int.reduceToNat, numB300, beq_self_eq_true]; done)))
  (refine al_set ?_ ?_ ?_ ?_; rotate_left 2; (· intro K hK; refine S0 ?_; refine Or.inl (no_c (by decide) n5 ?_); exact hK))
  refine runG ?_
  (refine al_set ?_ ?_ ?_ ?_; rotate_left 2; (· intro K hK; refine S0 ?_; refine Or.inl (no_c (by decide) n6 ?_); exact hK))
  refine runG ?_
  (refine al_set ?_ ?_ ?_ ?_; rotate_left 2; (· intro K hK; refine S0 ?_; refine Or.inl (Text_c (by decide) ?_); exact hK))
  (repeat (first | (refine al_set ?_ ?_ ?_ ?_; rotate_left 2; · intro K hK; simp (disch := omega) only [go_sem, ↓set_get, ↓reduceIte, ↓o_bsl, ↓o_build, Nat.reduceEqDiff, Nat.reduceAdd, Nat.reduceMul, Int.reduceEq, Int.reduceNe, numB2, beq_self_eq_true, List.length_cons, List.length_nil, Bool.not_false]; (repeat' (first | exact hK | (refine And.intro ?_ ?_) | assumption | omega))) | (refine al_guard (b := true) rfl ?_ (fun _ => ?_) (fun h => absurd rfl h); · simp only [↓set_get, Nat.reduceEqDiff, Bool.false_eq_true, ↓reduceIte, aenv0, aenvS, aenvN, one_ne, numB2, beq_self_eq_true, List.length_cons, List.length_nil, Bool.not_false]; done) | (refine al_guard (b := false) rfl ?_ (fun _ => ?_) (fun h => absurd rfl h); · simp only [↓set_get, Nat.reduceEqDiff, Bool.false_eq_true, ↓reduceIte, aenv0, aenvS, aenvN, one_ne, numB2, beq_self_eq_true, List.length_cons, List.length_nil, Bool.not_false]; done) | (refine al_guard (b := true) rfl ?_ (fun h => Bool.noConfusion h) (fun _ => ?_); · simp only [↓set_get, Nat.reduceEqDiff, Bool.false_eq_true, ↓reduceIte, aenv0, aenvS, aenvN, one_ne, numB2, beq_self_eq_true, List.length_cons, List.length_nil, Bool.not_false]; done) | (refine al_guard (b := false) rfl ?_ (fun h => Bool.noConfusion h) (fun _ => ?_); · simp only [↓set_get, Nat.reduceEqDiff, Bool.false_eq_true, ↓reduceIte, aenv0, aenvS, aenvN, one_ne, numB2, beq_self_eq_true, List.length_cons, List.length_nil, Bool.not_false]; done) | (refine al_guard0 rfl ?_ ?_; · simp only [↓set_get, Nat.reduceEqDiff, Bool.false_eq_true, ↓reduceIte, aenv0, aenvS, aenvN, one_ne, numB2, beq_self_eq_true, List.length_cons, List.length_nil, Bool.not_false]; done)))
  (refine al_set ?_ ?_ ?_ ?_; rotate_left 2; · intro K hK; simp (disch := omega) only [go_sem, ↓set_get, ↓reduceIte, ↓o_bsl, ↓o_build, Nat.reduceEqDiff, Nat.reduceAdd, Nat.reduceMul, Int.reduceEq, Int.reduceNe]; refine Or.inl (acalls_nil (Hashes_c (hs := []) (fun x hx => (by cases hx)) (by decide) ?_)); exact hK)
  have h0 : hashesB [] = [0] := by rw [hashesB, if_neg (by decide)]; simp [numB0]
  have c0 : ((0 : Nat) : Int) = 0 := rfl
  (repeat (first | (refine al_set ?_ ?_ ?_ ?_; rotate_left 2; · intro K hK; simp (disch := omega) only [go_sem, ↓set_get, ↓reduceIte, ↓o_bsl, ↓o_build, Nat.reduceEqDiff, Nat.reduceAdd, Nat.reduceMul, Int.reduceEq, Int.reduceNe, h0, beq_self_eq_true, c0]; (repeat' (first | exact hK | (refine And.intro ?_ ?_) | assumption | omega))) | (refine al_guard (b := true) rfl ?_ (fun _ => ?_) (fun h => absurd rfl h); · simp only [↓set_get, Nat.reduceEqDiff, Bool.false_eq_true, ↓reduceIte, aenv0, aenvS, aenvN, one_ne, h0, beq_self_eq_true, c0]; done) | (refine al_guard (b := false) rfl ?_ (fun _ => ?_) (fun h => absurd rfl h); · simp only [↓set_get, Nat.reduceEqDiff, Bool.false_eq_true, ↓reduceIte, aenv0, aenvS, aenvN, one_ne, h0, beq_self_eq_true, c0]; done) | (refine al_guard (b := true) rfl ?_ (fun h => Bool.noConfusion h) (fun _ => ?_); · simp only [↓set_get, Nat.reduceEqDiff, Bool.false_eq_true, ↓reduceIte, aenv0, aenvS, aenvN, one_ne, h0, beq_self_eq_true, c0]; done) | (refine al_guard (b := false) rfl ?_ (fun h => Bool.noConfusion h) (fun _ => ?_); · simp only [↓set_get, Nat.reduceEqDiff, Bool.false_eq_true, ↓reduceIte, aenv0, aenvS, aenvN, one_ne, h0, beq_self_eq_true, c0]; done) | (refine al_guard0 rfl ?_ ?_; · simp only [↓set_get, Nat.reduceEqDiff, Bool.false_eq_true, ↓reduceIte, aenv0, aenvS, aenvN, one_ne, h0, beq_self_eq_true, c0]; done)))
  refine rets ?_
  exact hK
end Go.Proofs.Try
