/- messages: the reader's texts, hashes, heads; walked. -/
import Derived.Test.YtgbfchagmniiiaaMQ
import Derived.Test.YtgbfchagmniiiaaML
set_option maxRecDepth 8000
set_option linter.unusedSimpArgs false
set_option linter.unusedVariables false
namespace Go.Proofs.Try
open Go Go.Av
set_option pp.maxSteps 900
attribute [local irreducible] alist awp adraw apure
attribute [local go_sem] cellsOf_int cellsOf_bool cellsOf_str cellsOf_nilp cellsOf_nil cellsOf_e0 cellsOf_sl cellsOf_osl cellsOf_ptr cellsOf_eptr cellsOf_fn cellsOf_agg okc_int okc_bool okc_str okc_nilp okc_nil okc_e0 okc_sl okc_osl okc_ptr okc_eptr okc_fn okc_agg and_assoc splice_0n splice_0c splice_s load_ptr load_eptr read_t read_f store_p cells_inj set_same exists_and_left List.length_cons List.length_nil List.drop_zero List.drop_succ_cons List.take_succ_cons List.take_zero Option.isSome_some
variable {γ : Gl} {σ s : St} {K : D → St → Prop}
attribute [local go_sem] List.length_append natc0 eq_self sgD_len sgD_a spl91 splice_self List.length_replicate length_bytesD sgsD_len bne_self_eq_false Int.toNat_natCast

theorem Text_r {p m : Nat} {n : Int} {st : RS} (hn : n = (m : Nat)) (hs : s p = some (.cells (rdD st) 161)) (hl : st.1.length ≤ 140737488355328) (hK : K (.str (txR st)) (s.set p (.cells (rdD (tS m st)) 161))) : ACalls prog γ 122 [.ptr p 0, .int .i64 n] s K := by
  subst hn
  obtain ⟨t, ok⟩ := st
  have hs : s p = some (.cells [.str t, .bool ok] 161) := hs
  have hl : t.length ≤ 140737488355328 := hl
  have hq := q4_len t
  refine acalls_of_awp (by kernel_rfl) func122 rfl (by kernel_rfl) rfl rfl (by kernel_rfl) (Nat.le_of_ble_eq_true rfl) ?_
  refine rs ?_
  refine run ?_
  refine al_done ?_
  refine rs ?_
  refine runX hs ?_
  (refine al_set ?_ ?_ ?_ ?_; rotate_left 2; (· intro K hK; refine S1 ?_; refine Or.inl (Cut_c hl ?_); exact hK))
  rw [dCut_q]
  refine run ?_
  refine al_done ?_
  refine asc ?_; refine awp_rj (fun ρ' s' => s' = s.set p (.cells [.str (q4 t).2, .bool (okT m (t, ok))] 161) ∧ ρ' 5 = .str (q4 t).1) ?_ ?_
  · intro K' hJ
    cases ok with
    | false =>
      have e : okT m (t, false) = false := rfl
      rw [e] at hJ
      refine runX hs ?_
      refine al_nil (hJ _ _ ⟨?_, ?_⟩)
      · rw [set_set]
      all_goals simp only [↓set_get, Nat.reduceEqDiff, Bool.false_eq_true, ↓reduceIte, aenv0, aenvS, aenvN, one_ne]
    | true =>
      cases hr : (cutB t).isSome with
      | false =>
        have e : okT m (t, true) = false := by simp [okT, hr]
        rw [e] at hJ
        refine runX (And.intro hs hr) ?_
        refine al_nil (hJ _ _ ⟨?_, ?_⟩)
        · rw [set_set]
        all_goals simp only [↓set_get, Nat.reduceEqDiff, Bool.false_eq_true, ↓reduceIte, aenv0, aenvS, aenvN, one_ne]
      | true =>
        have e : okT m (t, true) = decide ((q4 t).1.length ≤ m) := by simp [okT, hr]
        have e2 : decide ((((q4 t).1.length : Nat) : Int) ≤ (m : Nat)) = decide ((q4 t).1.length ≤ m) := by rw [decide_eq_decide]; omega
        rw [e] at hJ
        refine runX (And.intro hs hr) ?_
        refine al_nil (hJ _ _ ⟨?_, ?_⟩)
        · rw [set_set, e2]
        all_goals simp only [↓set_get, Nat.reduceEqDiff, Bool.false_eq_true, ↓reduceIte, aenv0, aenvS, aenvN, one_ne]
  rintro ρ1 _ ⟨rfl, g5⟩
  refine rs ?_
  refine runX g5 ?_
  refine rets ?_
  exact hK
theorem Hashes_r {p : Nat} {st : RS} (hs : s p = some (.cells (rdD st) 161)) (hl : st.1.length ≤ 140737488355328) (hK : K (pathD (q5 st.1).1) (s.set p (.cells (rdD (hS st)) 161))) : ACalls prog γ 123 [.ptr p 0] s K := by
  obtain ⟨t, ok⟩ := st
  have hs : s p = some (.cells [.str t, .bool ok] 161) := hs
  have hl : t.length ≤ 140737488355328 := hl
  refine acalls_of_awp (by kernel_rfl) func123 rfl (by kernel_rfl) rfl rfl (by kernel_rfl) (Nat.le_of_ble_eq_true rfl) ?_
  refine rs ?_
  refine run ?_
  refine al_done ?_
  refine rs ?_
  refine runX hs ?_
  (refine al_set ?_ ?_ ?_ ?_; rotate_left 2; (· intro K hK; refine S1 ?_; refine Or.inl (Unhashes_c hl ?_); exact hK))
  rw [dUnhs_q]
  refine run ?_
  refine al_done ?_
  refine asc ?_; refine awp_rj (fun ρ' s' => s' = s.set p (.cells [.str (q5 t).2, .bool (ok && (unhashesB t).isSome)] 161) ∧ ρ' 3 = pathD (q5 t).1) ?_ ?_
  · intro K' hJ
    cases ok with
    | false =>
      refine runX hs ?_
      refine al_nil (hJ _ _ ⟨?_, ?_⟩)
      · rw [set_set]; rfl
      all_goals simp only [↓set_get, Nat.reduceEqDiff, Bool.false_eq_true, ↓reduceIte, aenv0, aenvS, aenvN, one_ne]
    | true =>
      refine runX hs ?_
      refine al_nil (hJ _ _ ⟨?_, ?_⟩)
      · rw [set_set, Bool.true_and]
      all_goals simp only [↓set_get, Nat.reduceEqDiff, Bool.false_eq_true, ↓reduceIte, aenv0, aenvS, aenvN, one_ne]
  rintro ρ1 _ ⟨rfl, g3⟩
  refine rs ?_
  refine runX g3 ?_
  refine rets ?_
  exact hK
theorem txR_len (st : RS) : (txR st).length ≤ st.1.length := (q4_len st.1).2
theorem Head_r {p : Nat} {st : RS} (hs : s p = some (.cells (rdD st) 161)) (hl : st.1.length ≤ 140737488355328) (hK : K (.agg (sgD (gX (txR st)))) (s.set p (.cells (rdD (hdS st)) 161))) : ACalls prog γ 121 [.ptr p 0] s K := by
  have htl := txR_len st
  refine acalls_of_awp (by kernel_rfl) func121 rfl (by kernel_rfl) rfl rfl (by kernel_rfl) (Nat.le_of_ble_eq_true rfl) ?_
  refine rs ?_
  (refine aF ?_; intro c hc; (try (have h_hc := hc; simp only [set_none] at h_hc)))
  refine run ?_
  refine al_done ?_
  have kpc : p ≠ c := keep_ne hs hc
  refine rs ?_
  refine run ?_
  (refine al_set ?_ ?_ ?_ ?_; rotate_left 2; (· intro K hK; refine S1 ?_; refine Or.inl (Text_r (m := 65536) rfl (keep hs hc) hl ?_); exact hK))
  refine run ?_
  (refine al_set ?_ ?_ ?_ ?_; rotate_left 2; (· intro K hK; refine S1 ?_; refine Or.inl (Get_c (by omega) ?_); exact hK))
  rw [dGet_q]
  refine run ?_
  (refine aF ?_; intro y hy; (try (have h_hy := hy; simp only [set_none] at h_hy)))
  refine run ?_
  rw [set_set]
  refine al_done ?_
  obtain ⟨kyp, hy1⟩ := keep_none hy
  obtain ⟨kyc, hy0⟩ := keep_none hy1
  have hb : (tS 65536 st).2 = okT 65536 st := rfl
  refine asc ?_; refine awp_rj (fun ρ' s' => s' = (((s.set c (.cells (D.int .i64 0 :: (List.replicate 32 (.int .u8 0) ++ [.int .i64 0, .str [], .nil])) 91)).set p (.cells (rdD (tS 65536 st)) 161)).set y (.cells (sgD (gX (txR st))) 91)).set p (.cells (rdD (hdS st)) 161) ∧ ρ' 2 = .ptr c 0 ∧ ρ' 3 = .ptr y 0) ?_ ?_
  · intro K' hJ
    have hrd : rdD (tS 65536 st) = [.str (q4 st.1).2, .bool (okT 65536 st)] := rfl
    have hrd2 : rdD (hdS st) = [.str (q4 st.1).2, .bool (okT 65536 st && decide (GetOk (txR st)))] := rfl
    rw [hrd2] at hJ
    cases hk : okT 65536 st with
    | false =>
      rw [hk] at hrd hJ
      refine runX hrd ?_
      refine al_nil (hJ _ _ ⟨?_, ?_, ?_⟩)
      · rw [hrd]; rfl
      all_goals simp only [↓set_get, Nat.reduceEqDiff, Bool.false_eq_true, ↓reduceIte, aenv0, aenvS, aenvN, one_ne]
    | true =>
      rw [hk] at hrd hJ
      have e : (gE (txR st) == 0) = decide (GetOk (txR st)) := by
        unfold gE; split <;> simp_all
      refine runX (And.intro hrd e) ?_
      refine al_nil (hJ _ _ ⟨?_, ?_, ?_⟩)
      · rw [hrd, Bool.true_and]
      all_goals simp only [↓set_get, Nat.reduceEqDiff, Bool.false_eq_true, ↓reduceIte, aenv0, aenvS, aenvN, one_ne]
  rintro ρ1 _ ⟨rfl, g2, g3⟩
  refine rs ?_
  refine runX (And.intro g2 g3) ?_
  refine al_done (awp_ret (afin_cell (s.set p (.cells (rdD (hdS st)) 161)) ?_ ?_))
  · (intro j x hx; simp only [set_app, del_app] at *; grind)
  · simp only [ares, aone, ↓set_get, Nat.reduceEqDiff, Bool.false_eq_true, ↓reduceIte, aenv0, aenvS, aenvN, one_ne, g2, load_ptr, tagg91, tsz91, set_same]
    exact ⟨_, _, rfl, by simp only [read_t, sgD_len, List.drop_zero, sgD_a]; exact ⟨by decide, hK⟩⟩
end Go.Proofs.Try
