/- messages: the reader; a request's numbers; walked. -/
import Derived.Test.YtgbfchagmniiiaaMA
import Derived.Test.YtgbfchagmniiiaaTyC
import Derived.Test.YtgbfchagmniiiaaGD
set_option maxRecDepth 8000
set_option linter.unusedSimpArgs false
set_option linter.unusedVariables false
namespace Go.Proofs.Try
open Go Go.Av
set_option pp.maxSteps 900
attribute [local irreducible] alist awp adraw apure
attribute [local go_sem] cellsOf_int cellsOf_bool cellsOf_str cellsOf_nilp cellsOf_nil cellsOf_e0 cellsOf_sl cellsOf_osl cellsOf_ptr cellsOf_eptr cellsOf_fn cellsOf_agg okc_int okc_bool okc_str okc_nilp okc_nil okc_e0 okc_sl okc_osl okc_ptr okc_eptr okc_fn okc_agg and_assoc splice_0n splice_0c splice_s load_ptr load_eptr read_t read_f store_p cells_inj set_same exists_and_left List.length_cons List.length_nil List.drop_zero List.drop_succ_cons List.take_succ_cons List.take_zero Option.isSome_some
variable {γ : Gl} {σ s : St} {K : D → St → Prop}
theorem natc0 : ((0 : Nat) : Int) = 0 := rfl
attribute [local go_sem] List.length_append natc0

def rdD (st : RS) : List D := [.str st.1, .bool st.2]
theorem build161 {a : List UInt8} {b : Bool} (hk : K (.agg [.str a, .bool b]) s) : abuild prog 161 [(0, .str a), (1, .bool b)] s K := by
  simp only [abuild, zc161, pl161]
  exact hk
theorem build161z (hk : K (.agg [.str [], .bool false]) s) : abuild prog 161 [] s K := by
  simp only [abuild, zc161, pl161]
  exact hk
theorem Begin_c {t : List UInt8} {c : UInt8} (ht : t.length ≤ 9223372036854775807) (hK : ∀ id, s id = none → K (.ptr id 0) (s.set id (.cells (rdD (beg c t)) 161))) : ACalls prog γ 117 [.str t, .str [c]] s K := by
  refine acalls_of_awp (by kernel_rfl) func117 rfl (by kernel_rfl) rfl rfl (by kernel_rfl) (Nat.le_of_ble_eq_true rfl) ?_
  refine rs ?_
  refine run ?_
  refine al_done ?_
  refine asc ?_; refine awp_rj (fun ρ' s' => s' = s ∧ ρ' 0 = .str t ∧ ρ' 18 = .bool (decide (¬ (t.length ≤ 65536 ∧ t.head? = some c)))) ?_ ?_
  · intro K' hJ
    cases t with
    | nil =>
      refine run ?_
      refine al_nil (hJ _ _ ⟨rfl, ?_, ?_⟩)
      all_goals simp only [↓set_get, Nat.reduceEqDiff, Bool.false_eq_true, ↓reduceIte, aenv0, aenvS, aenvN, one_ne]
      all_goals rfl
    | cons x u =>
      have e0 : (((u.length + 1 : Nat) : Int) == 0) = false := by rw [beq_eq_false_iff_ne]; omega
      by_cases hl : (x :: u).length ≤ 65536
      · rw [List.length_cons] at hl
        have e1 : decide (((u.length + 1 : Nat) : Int) > 65536) = false := by rw [decide_eq_false_iff_not]; omega
        refine runX (And.intro e0 e1) ?_
        (refine al_set ?_ ?_ ?_ ?_; rotate_left 2; (· intro K hK; refine S1 ?_; refine slice_str isStr9 (l := 0) (h := 1) rfl rfl (by omega) (by rw [List.length_cons]; omega) ?_; exact hK))
        refine run ?_
        refine al_nil (hJ _ _ ⟨rfl, ?_, ?_⟩)
        all_goals simp only [↓set_get, Nat.reduceEqDiff, Bool.false_eq_true, ↓reduceIte, aenv0, aenvS, aenvN, one_ne]
        have hl2 : (x :: u).length ≤ 65536 := by rw [List.length_cons]; exact hl
        congr 1
        simp only [hl2, List.head?_cons, Option.some.injEq, true_and]
        by_cases hxc : x = c <;> simp [hxc]
      · rw [List.length_cons] at hl
        have e1 : decide (((u.length + 1 : Nat) : Int) > 65536) = true := by rw [decide_eq_true_iff]; omega
        refine runX (And.intro e0 e1) ?_
        refine al_nil (hJ _ _ ⟨rfl, ?_, ?_⟩)
        all_goals simp only [↓set_get, Nat.reduceEqDiff, Bool.false_eq_true, ↓reduceIte, aenv0, aenvS, aenvN, one_ne]
        exact bool_t (p := ¬ ((x :: u).length ≤ 65536 ∧ (x :: u).head? = some c)) (fun h => hl (by have := h.1; rw [List.length_cons] at this; exact this))
  rintro ρ1 s ⟨rfl, g0, g18⟩
  refine asc ?_; refine aiX g18 ?_ ?_
  · intro h
    have hb : beg c t = ([], false) := by rw [beg, if_neg (of_decide_eq_true h)]
    rw [hb] at hK
    refine rs ?_
    (refine al_set ?_ ?_ ?_ ?_; rotate_left 2; (· intro K hK; refine S1 ?_; refine build161z ?_; exact hK))
    (refine aF ?_; intro i hi; (try (have h_hi := hi; simp only [set_none] at h_hi)))
    refine run ?_
    refine rets ?_
    exact hK i hi
  · intro h
    have h := Decidable.not_not.1 (of_decide_eq_false h)
    have hb : beg c t = (t.tail, true) := by rw [beg, if_pos h]
    rw [hb] at hK
    have hl : 1 ≤ t.length := by
      cases t with
      | nil => cases h.2
      | cons x u => rw [List.length_cons]; omega
    refine rs ?_
    refine runX g0 ?_
    (refine al_set ?_ ?_ ?_ ?_; rotate_left 2; (· intro K hK; refine S1 ?_; refine slice_str isStr9 (l := 1) (h := t.length) rfl rfl hl (Nat.le_refl _) ?_; exact hK))
    rw [List.take_length, List.drop_one]
    refine run ?_
    (refine al_set ?_ ?_ ?_ ?_; rotate_left 2; (· intro K hK; refine S1 ?_; refine build161 ?_; exact hK))
    (refine aF ?_; intro i hi; (try (have h_hi := hi; simp only [set_none] at h_hi)))
    refine run ?_
    refine rets ?_
    exact hK i hi
theorem Number_c {p m : Nat} {st : RS} (hs : s p = some (.cells (rdD st) 161)) (hl : st.1.length ≤ 140737488355328) (hm : m ≤ 1073741824) (hK : K (.int .i64 (vR m st)) (s.set p (.cells (rdD (nR m st)) 161))) : ACalls prog γ 118 [.ptr p 0, .int .i64 (m : Nat)] s K := by
  obtain ⟨t, ok⟩ := st
  have hs : s p = some (.cells [.str t, .bool ok] 161) := hs
  have hl : t.length ≤ 140737488355328 := hl
  have hq := q1_len t
  refine acalls_of_awp (by kernel_rfl) func118 rfl (by kernel_rfl) rfl rfl (by kernel_rfl) (Nat.le_of_ble_eq_true rfl) ?_
  refine rs ?_
  refine run ?_
  refine al_done ?_
  refine rs ?_
  refine runX hs ?_
  (refine al_set ?_ ?_ ?_ ?_; rotate_left 2; (· intro K hK; refine S1 ?_; refine Or.inl (Read_c hl ?_); exact hK))
  rw [dRead_q]
  refine run ?_
  refine al_done ?_
  refine asc ?_; refine awp_rj (fun ρ' s' => s' = s.set p (.cells [.str (q1 t).2, .bool (okR m (t, ok))] 161) ∧ ρ' 0 = .ptr p 0 ∧ ρ' 5 = .int .u64 ((q1 t).1 : Nat)) ?_ ?_
  · intro K' hJ
    cases ok with
    | false =>
      have e : okR m (t, false) = false := rfl
      rw [e] at hJ
      refine runX hs ?_
      refine al_nil (hJ _ _ ⟨?_, ?_, ?_⟩)
      · rw [set_set]
      all_goals simp only [↓set_get, Nat.reduceEqDiff, Bool.false_eq_true, ↓reduceIte, aenv0, aenvS, aenvN, one_ne]
    | true =>
      cases hr : (readB t).isSome with
      | false =>
        have e : okR m (t, true) = false := by simp [okR, hr]
        rw [e] at hJ
        refine runX (And.intro hs hr) ?_
        refine al_nil (hJ _ _ ⟨?_, ?_, ?_⟩)
        · rw [set_set]
        all_goals simp only [↓set_get, Nat.reduceEqDiff, Bool.false_eq_true, ↓reduceIte, aenv0, aenvS, aenvN, one_ne]
      | true =>
        have e : okR m (t, true) = decide ((q1 t).1 ≤ m) := by simp [okR, hr]
        have e2 : decide ((((q1 t).1 : Nat) : Int) ≤ (m : Nat)) = decide ((q1 t).1 ≤ m) := by rw [decide_eq_decide]; omega
        rw [e] at hJ
        refine runX (And.intro hs hr) ?_
        refine al_nil (hJ _ _ ⟨?_, ?_, ?_⟩)
        · rw [set_set, e2]
        all_goals simp only [↓set_get, Nat.reduceEqDiff, Bool.false_eq_true, ↓reduceIte, aenv0, aenvS, aenvN, one_ne]
  rintro ρ1 _ ⟨rfl, g0, g5⟩
  have hK : K (.int .i64 (vR m (t, ok))) (s.set p (.cells [.str (q1 t).2, .bool (okR m (t, ok))] 161)) := hK
  refine rs ?_
  refine runX g0 ?_
  refine al_done ?_
  cases hb : okR m (t, ok) with
  | false =>
    have e : vR m (t, ok) = 0 := by rw [vR, if_neg (by rw [hb]; simp)]
    rw [e, hb] at hK
    refine asc ?_; refine ai ?_ ?_
    · intro _
      refine rs ?_
      refine run ?_
      refine rets ?_
      exact hK
    · intro h; cases h
  | true =>
    have e : vR m (t, ok) = ((q1 t).1 : Nat) := by rw [vR, if_pos hb]
    have hle := (okR_some hb).2.2.2
    rw [e] at hle
    rw [e, hb] at hK
    refine asc ?_; refine ai ?_ ?_
    · intro h; cases h
    · intro _
      refine rs ?_
      refine runX g5 ?_
      refine rets ?_
      exact hK
theorem End_c {p : Nat} {st : RS} (hs : s p = some (.cells (rdD st) 161)) (hK : K (.bool (decide (st.2 = true ∧ st.1 = []))) s) : ACalls prog γ 119 [.ptr p 0] s K := by
  obtain ⟨t, ok⟩ := st
  have hs : s p = some (.cells [.str t, .bool ok] 161) := hs
  refine acalls_of_awp (by kernel_rfl) func119 rfl (by kernel_rfl) rfl rfl (by kernel_rfl) (Nat.le_of_ble_eq_true rfl) ?_
  refine rs ?_
  refine run ?_
  refine al_done ?_
  cases ok with
  | false =>
    refine rs ?_
    refine runX hs ?_
    refine rets ?_
    simpa using hK
  | true =>
    refine rs ?_
    refine runX hs ?_
    refine rets ?_
    have : (t == []) = decide ((t, true).2 = true ∧ (t, true).1 = []) := by cases t <;> simp
    rw [this]; exact hK
end Go.Proofs.Try
