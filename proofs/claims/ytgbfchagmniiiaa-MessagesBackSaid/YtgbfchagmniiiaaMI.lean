/- messages: replies held against each other; walked. -/
import Derived.Test.YtgbfchagmniiiaaMG
import Derived.Test.YtgbfchagmniiiaaGC
set_option maxRecDepth 8000
set_option linter.unusedSimpArgs false
set_option linter.unusedVariables false
namespace Go.Proofs.Try
open Go Go.Av
set_option pp.maxSteps 900
attribute [local irreducible] alist awp adraw apure
attribute [local go_sem] cellsOf_int cellsOf_bool cellsOf_str cellsOf_nilp cellsOf_nil cellsOf_e0 cellsOf_sl cellsOf_osl cellsOf_ptr cellsOf_eptr cellsOf_fn cellsOf_agg okc_int okc_bool okc_str okc_nilp okc_nil okc_e0 okc_sl okc_osl okc_ptr okc_eptr okc_fn okc_agg and_assoc splice_0n splice_0c splice_s load_ptr load_eptr read_t read_f store_p cells_inj set_same exists_and_left List.length_cons List.length_nil List.drop_zero List.drop_succ_cons List.take_succ_cons List.take_zero Option.isSome_some
variable {γ : Gl} {σ s : St} {K : D → St → Prop}
attribute [local go_sem] List.length_append natc0 eq_self sgD_len sgD_a spl91 splice_self List.length_replicate length_bytesD sgsD_len bne_self_eq_false Int.toNat_natCast sgD_h sgD_33 sgD_34 sgD_35 headD_a headD_len

theorem EqH_c {hs gs : List (List UInt8)} {t1 t2 : Option (Nat × Nat)} (a : All32 hs) (b : All32 gs) (hb : hs.length ≤ 1000000) (hK : K (.bool (decide (hs = gs))) s) : ACalls prog γ 111 [.sl hs.length (bytesD hs.flatten) t1, .sl gs.length (bytesD gs.flatten) t2] s K := by
  have hml : hs.flatten.length = hs.length * 32 := flat_len a
  have hmm : gs.flatten.length = gs.length * 32 := flat_len b
  refine acalls_of_awp (by kernel_rfl) func111 rfl (by kernel_rfl) rfl rfl (by kernel_rfl) (Nat.le_of_ble_eq_true rfl) ?_
  refine rs ?_
  refine run ?_
  refine al_done ?_
  refine rs ?_
  refine run ?_
  refine al_done ?_
  refine asc ?_; refine ai ?_ ?_
  · intro h
    have h : ¬ hs = gs := by rintro rfl; simp at h
    rw [decide_eq_false h] at hK
    refine rs ?_
    refine run ?_
    refine rets ?_
    exact hK
  intro h
  have h : hs.length = gs.length := by have : ¬ ((hs.length : Int) ≠ gs.length) := by simpa using h
                                       omega
  refine rs ?_
  refine run ?_
  refine al_done ?_
  refine asc ?_; refine awp_while (fun n ρ t => ∃ k : Nat, n = hs.length - k ∧ k ≤ hs.length ∧ t = s ∧ (∀ j (hj : j < k) (h1 : j < hs.length) (h2 : j < gs.length), hs[j] = gs[j]) ∧ ρ 0 = .sl hs.length (bytesD hs.flatten) t1 ∧ ρ 1 = .sl gs.length (bytesD gs.flatten) t2 ∧ ρ 12 = .int .i64 (hs.length : Nat) ∧ ρ 13 = .int .i64 (k : Nat)) hs.length ?_ ?_
  · refine ⟨0, rfl, Nat.zero_le _, rfl, fun j hj => by omega, ?_, ?_, ?_, ?_⟩
    all_goals simp only [↓set_get, Nat.reduceEqDiff, Bool.false_eq_true, ↓reduceIte, aenv0, aenvS, aenvN, one_ne]
    rfl
  rintro n ρ s ⟨k, rfl, hk, rfl, hq, g0, g1, g12, g13⟩
  refine rs ?_
  refine runX (And.intro g12 g13) ?_
  refine al_done ?_
  refine asc ?_; refine ate ?_ ?_
  · intro hb2
    have hb2 : k < hs.length := by have := of_decide_eq_true hb2
                                   omega
    have hb3 : k < gs.length := by omega
    have hat : ((bytesD hs.flatten).drop (k * 32)).take 32 = bytesD hs[k] := cells_at a hb2
    have hbt : ((bytesD gs.flatten).drop (k * 32)).take 32 = bytesD gs[k] := cells_at b hb3
    have ha := a hs[k] (List.getElem_mem hb2)
    have hbb := b gs[k] (List.getElem_mem hb3)
    refine asc ?_; refine awp_body ?_
    refine rs ?_
    refine runX g13 ?_
    refine al_done ?_
    refine asc ?_; refine awp_pure (by kernel_rfl) ?_
    refine runPX (And.intro g0 (And.intro g1 (And.intro g13 (And.intro hat (And.intro hbt (And.intro hml hmm)))))) ?_
    (refine ap_set ?_ ?_ ?_; rotate_left 1; (· intro K hK; refine S0 ?_; refine abin_h32 ha hbb ?_; exact hK))
    refine runP ?_
    refine ap_done ?_
    refine ac ?_ ?_
    · intro hne
      have hne : ¬ hs = gs := by
        rintro rfl; simp at hne
      rw [decide_eq_false hne] at hK
      refine rs ?_
      refine run ?_
      refine rets ?_
      exact hK
    · intro he
      have he : hs[k] = gs[k] := by simpa using he
      refine awp_skip (Rx.done ?_)
      refine awp_region ?_
      refine runX g13 ?_
      refine al_nil ?_
      refine lq_next (hs.length - (k + 1)) (by omega) ⟨k + 1, rfl, by omega, rfl, ?_, ?_, ?_, ?_, ?_⟩
      · intro j hj h1 h2
        rcases Nat.lt_or_ge j k with hjk | hjk
        · exact hq j hjk h1 h2
        · have : j = k := by omega
          subst this; exact he
      · simp only [↓set_get, Nat.reduceEqDiff, Bool.false_eq_true, ↓reduceIte, aenv0, aenvS, aenvN, one_ne, g0]
      · simp only [↓set_get, Nat.reduceEqDiff, Bool.false_eq_true, ↓reduceIte, aenv0, aenvS, aenvN, one_ne, g1]
      · simp only [↓set_get, Nat.reduceEqDiff, Bool.false_eq_true, ↓reduceIte, aenv0, aenvS, aenvN, one_ne, g12]
      · simp only [↓set_get, Nat.reduceEqDiff, Bool.false_eq_true, ↓reduceIte, aenv0, aenvS, aenvN, one_ne]; rfl
  · intro hb2
    have hb2 : k = hs.length := by have := of_decide_eq_false hb2
                                   omega
    subst hb2
    have he : hs = gs := List.ext_getElem h fun j h1 h2 => hq j h1 h1 h2
    rw [decide_eq_true he] at hK
    refine lq_exit ?_
    refine rs ?_
    refine run ?_
    refine rets ?_
    exact hK
theorem EqS_c {hs gs : List (List UInt8)} {t1 t2 : Option (Nat × Nat)} (hb : hs.length ≤ 1000000) (hK : K (.bool (decide (hs = gs))) s) : ACalls prog γ 113 [.sl hs.length (txD hs) t1, .sl gs.length (txD gs) t2] s K := by
  have hml := txD_len hs
  have hmm := txD_len gs
  refine acalls_of_awp (by kernel_rfl) func113 rfl (by kernel_rfl) rfl rfl (by kernel_rfl) (Nat.le_of_ble_eq_true rfl) ?_
  refine rs ?_
  refine run ?_
  refine al_done ?_
  refine rs ?_
  refine run ?_
  refine al_done ?_
  refine asc ?_; refine ai ?_ ?_
  · intro h
    have h : ¬ hs = gs := by rintro rfl; simp at h
    rw [decide_eq_false h] at hK
    refine rs ?_
    refine run ?_
    refine rets ?_
    exact hK
  intro h
  have h : hs.length = gs.length := by have : ¬ ((hs.length : Int) ≠ gs.length) := by simpa using h
                                       omega
  refine rs ?_
  refine run ?_
  refine al_done ?_
  refine asc ?_; refine awp_while (fun n ρ t => ∃ k : Nat, n = hs.length - k ∧ k ≤ hs.length ∧ t = s ∧ (∀ j (hj : j < k) (h1 : j < hs.length) (h2 : j < gs.length), hs[j] = gs[j]) ∧ ρ 0 = .sl hs.length (txD hs) t1 ∧ ρ 1 = .sl gs.length (txD gs) t2 ∧ ρ 12 = .int .i64 (hs.length : Nat) ∧ ρ 13 = .int .i64 (k : Nat)) hs.length ?_ ?_
  · refine ⟨0, rfl, Nat.zero_le _, rfl, fun j hj => by omega, ?_, ?_, ?_, ?_⟩
    all_goals simp only [↓set_get, Nat.reduceEqDiff, Bool.false_eq_true, ↓reduceIte, aenv0, aenvS, aenvN, one_ne]
    rfl
  rintro n ρ s ⟨k, rfl, hk, rfl, hq, g0, g1, g12, g13⟩
  refine rs ?_
  refine runX (And.intro g12 g13) ?_
  refine al_done ?_
  refine asc ?_; refine ate ?_ ?_
  · intro hb2
    have hb2 : k < hs.length := by have := of_decide_eq_true hb2
                                   omega
    have hb3 : k < gs.length := by omega
    have hat := txD_at hs hb2
    have hbt := txD_at gs hb3
    refine asc ?_; refine awp_body ?_
    refine rs ?_
    refine runX g13 ?_
    refine al_done ?_
    refine asc ?_; refine awp_pure (by kernel_rfl) ?_
    refine runPX (And.intro g0 (And.intro g1 (And.intro g13 (And.intro hat (And.intro hbt (And.intro hml hmm)))))) ?_
    refine runP ?_
    refine ap_done ?_
    refine ac ?_ ?_
    · intro hne
      have hne : ¬ hs = gs := by
        rintro rfl; simp at hne
      rw [decide_eq_false hne] at hK
      refine rs ?_
      refine run ?_
      refine rets ?_
      exact hK
    · intro he
      have he : hs[k] = gs[k] := by simpa using he
      refine awp_skip (Rx.done ?_)
      refine awp_region ?_
      refine runX g13 ?_
      refine al_nil ?_
      refine lq_next (hs.length - (k + 1)) (by omega) ⟨k + 1, rfl, by omega, rfl, ?_, ?_, ?_, ?_, ?_⟩
      · intro j hj h1 h2
        rcases Nat.lt_or_ge j k with hjk | hjk
        · exact hq j hjk h1 h2
        · have : j = k := by omega
          subst this; exact he
      · simp only [↓set_get, Nat.reduceEqDiff, Bool.false_eq_true, ↓reduceIte, aenv0, aenvS, aenvN, one_ne, g0]
      · simp only [↓set_get, Nat.reduceEqDiff, Bool.false_eq_true, ↓reduceIte, aenv0, aenvS, aenvN, one_ne, g1]
      · simp only [↓set_get, Nat.reduceEqDiff, Bool.false_eq_true, ↓reduceIte, aenv0, aenvS, aenvN, one_ne, g12]
      · simp only [↓set_get, Nat.reduceEqDiff, Bool.false_eq_true, ↓reduceIte, aenv0, aenvS, aenvN, one_ne]; rfl
  · intro hb2
    have hb2 : k = hs.length := by have := of_decide_eq_false hb2
                                   omega
    subst hb2
    have he : hs = gs := List.ext_getElem h fun j h1 h2 => hq j h1 h1 h2
    rw [decide_eq_true he] at hK
    refine lq_exit ?_
    refine rs ?_
    refine run ?_
    refine rets ?_
    exact hK
end Go.Proofs.Try
