/- messages: a reply read, as the document has it; walked. -/
import Derived.Test.YtgbfchagmniiiaaMU
set_option maxRecDepth 8000
set_option linter.unusedSimpArgs false
set_option linter.unusedVariables false
namespace Go.Proofs.Try
open Go Go.Av
set_option pp.maxSteps 900
attribute [local irreducible] alist awp adraw apure
attribute [local go_sem] cellsOf_int cellsOf_bool cellsOf_str cellsOf_nilp cellsOf_nil cellsOf_e0 cellsOf_sl cellsOf_osl cellsOf_ptr cellsOf_eptr cellsOf_fn cellsOf_agg okc_int okc_bool okc_str okc_nilp okc_nil okc_e0 okc_sl okc_osl okc_ptr okc_eptr okc_fn okc_agg and_assoc splice_0n splice_0c splice_s load_ptr load_eptr read_t read_f store_p cells_inj set_same exists_and_left List.length_cons List.length_nil List.drop_zero List.drop_succ_cons List.take_succ_cons List.take_zero Option.isSome_some
variable {γ : Gl} {σ s : St} {K : D → St → Prop}
attribute [local go_sem] List.length_append natc0 eq_self sgD_len sgD_a spl91 splice_self List.length_replicate length_bytesD sgsD_len bne_self_eq_false Int.toNat_natCast

def rfH : Nat → List UInt8 → List SHead × Bool
  | 0, _ => ([], true)
  | n + 1, t => if hdOk t = true then (hdV t :: (rfH n (q4 t).2).1, (rfH n (q4 t).2).2) else ([], false)
theorem refB_2 (i : Int) (t : List UInt8) : refB i 2 t = (mkR i 2 0 (rfH 1 t).1 [] t false, (rfH 1 t).2) := by
  show (if hdOk t = true then (mkR i 2 0 [hdV t] [] t false, true) else (mkR i 2 0 [] [] t false, false)) = _
  rw [rfH]; split <;> rfl
theorem refB_5 (i : Int) (t : List UInt8) : refB i 5 t = (mkR i 5 0 (rfH 2 t).1 [] t false, (rfH 2 t).2) := by
  show (if hdOk t = true then (if hdOk (q4 t).2 = true then (mkR i 5 0 [hdV t, hdV (q4 t).2] [] t false, true) else (mkR i 5 0 [hdV t] [] t false, false)) else (mkR i 5 0 [] [] t false, false)) = _
  rw [rfH]
  split
  · rw [rfH]; split <;> rfl
  · rfl
theorem rfH_len : ∀ (n : Nat) (t : List UInt8), (rfH n t).1.length ≤ n
  | 0, _ => Nat.le_refl _
  | n + 1, t => by rw [rfH]; split; exact Nat.succ_le_succ (rfH_len n _); exact Nat.zero_le _
/-- A row of heads that a cell holds: none yet, or one of one's own. -/
def RowH (τ : St) (x c : Nat) (s : St) (l : List SHead) (d : D) : Prop :=
  (l = [] ∧ d = .nil) ∨ ∃ i c0, τ i = some (.tok 91 c0) ∧ (i ≠ x ∧ i ≠ c) ∧ s i = none ∧ d = .sl l.length (sgsD l) (some (i, 36))
theorem RowH.frame {τ τ' : St} {x c : Nat} {l : List SHead} {d : D} (h : RowH τ x c s l d) (hj : ∀ j, τ j ≠ none → j ≠ x → j ≠ c → τ' j = τ j) : RowH τ' x c s l d := by
  rcases h with h | ⟨i, c0, h0, h1, h2, h3⟩
  · exact .inl h
  · exact .inr ⟨i, c0, by rw [hj i (by rw [h0]; exact Option.some_ne_none _) h1.1 h1.2]; exact h0, h1, h2, h3⟩
theorem RowH.wk {τ : St} {x c : Nat} {l : List SHead} {d : D} (h : RowH τ x c s l d) : Wk d (.sl l.length (sgsD l) none) := by
  rcases h with ⟨rfl, rfl⟩ | ⟨i, c0, _, _, _, rfl⟩
  · exact .nil
  · exact .tok _ _ _
theorem app_rowH {τ : St} {x c bytes : Nat} {l : List SHead} {d : D} {y : SHead} (h : RowH τ x c s l d) (hl : (l.length + 1) * bytes ≤ 140737488355328) (hk : ∀ i, τ i = none → ∀ τ', τ' i = some (.tok 91 (sgsD (l ++ [y]))) → (∀ j, j ≠ i → (∀ i0 c0, d = .sl l.length (sgsD l) (some (i0, 36)) → τ i0 = some (.tok 91 c0) → j ≠ i0) → τ' j = τ j) → (s.le τ → s.le τ') → K (.sl (l ++ [y]).length (sgsD (l ++ [y])) (some (i, 36))) τ') : aapp τ 91 36 bytes d 1 (sgD y) K := by
  have e : sgsD (l ++ [y]) = sgsD l ++ sgD y := by rw [sgsD, rows_append, rows_one]; rfl
  rcases h with ⟨rfl, rfl⟩ | ⟨i0, c0, h0, hne, hs0, rfl⟩
  · refine app_nil (by decide) (by simpa using hl) fun i hi => ?_
    have := hk i hi (τ.set i (.tok 91 (sgsD ([] ++ [y])))) (set_same _ _ _) (fun j hj _ => set_other _ hj) (fun hle => hle.trans (le_set _ hi))
    rw [e] at this
    exact this
  · refine ⟨rfl, ⟨c0, h0⟩, by omega, fun i hi => ?_⟩
    have := hk i hi ((τ.del i0).set i (.tok 91 (sgsD (l ++ [y])))) (set_same _ _ _) ?_ ?_
    · rw [List.length_append, List.length_singleton] at this
      rw [← e]; exact this
    · intro j hj hj0
      have hj0 := hj0 i0 c0 rfl h0
      rw [set_other _ hj]; simp [St.del, hj0]
    · intro hle j x hx
      have h1 := hle j x hx
      by_cases hj : j = i
      · subst hj; rw [hi] at h1; cases h1
      · by_cases hj0 : j = i0
        · subst hj0; rw [hs0] at hx; cases hx
        · rw [set_other _ hj]; simp [St.del, hj0]; exact h1
theorem rfE_len : ∀ (n : Nat) (t : List UInt8) (p : List (List UInt8) × List UInt8), rfE n t = some p → p.2.length ≤ t.length ∧ p.1.length = n ∧ shortE p.1
  | 0, t, p, h => by cases h; exact ⟨Nat.le_refl _, rfl, fun x hx => nomatch hx⟩
  | n + 1, t, p, h => by
    rw [rfE] at h
    split at h
    · rename_i hk
      cases hr : rfE n (q4 t).2 with
      | none => rw [hr] at h; cases h
      | some q =>
        rw [hr] at h; cases h
        obtain ⟨a, b, c⟩ := rfE_len n _ q hr
        have := q4_len t
        refine ⟨by show q.2.length ≤ _; omega, by show q.1.length + 1 = _; omega, ?_⟩
        intro x hx
        rcases List.mem_cons.1 hx with rfl | hx
        · exact hk.2
        · exact c x hx
    · cases h
theorem en_len (t : List UInt8) : (enT t).length ≤ t.length ∧ (enL t).length ≤ 16 ∧ shortE (enL t) := by
  cases h : refEn t with
  | none => rw [enT, enL, h]; exact ⟨Nat.zero_le _, Nat.zero_le _, fun x hx => nomatch hx⟩
  | some p =>
    rw [enT, enL, h]
    rw [refEn] at h
    split at h
    · rename_i hk
      obtain ⟨a, b, c⟩ := rfE_len _ _ _ h
      have := q1_len t
      refine ⟨?_, ?_, c⟩
      · show p.2.length ≤ _; omega
      · show p.1.length ≤ 16; omega
    · cases h
theorem rReply_c {i k : Int} {t : List UInt8} (ht : t.length ≤ 140737488355328) (hK : K (.tup [.agg (repD (refB i k t).1), .bool (refB i k t).2]) s) : ACalls prog γ 124 [.agg [.int .i64 i, .int .i64 k, .int .i64 0, .nil, .nil, .nil], .str t] s K := by
  have hpl : ∀ r : Rep, (repD r).length = 6 := fun r => rfl
  have tk6 : ∀ r : Rep, (repD r).take 6 = repD r := fun r => rfl
  have hq1 := q1_len t
  refine acalls_of_awp (by kernel_rfl) func124 rfl (by kernel_rfl) rfl rfl (by kernel_rfl) (Nat.le_of_ble_eq_true rfl) ?_
  refine rs ?_
  (refine aF ?_; intro x hx; (try (have h_hx := hx; simp only [set_none] at h_hx)))
  refine run ?_
  (refine aF ?_; intro c hc; (try (have h_hc := hc; simp only [set_none] at h_hc)))
  refine run ?_
  refine al_done ?_
  obtain ⟨kcx, hc0⟩ := keep_none hc
  obtain ⟨s2, hs2⟩ : ∃ z, (s.set x (.cells [.int .i64 i, .int .i64 k, .int .i64 0, .nil, .nil, .nil] 100)).set c (.cells zero100 100) = z := ⟨_, rfl⟩
  have e2x : s2 x = some (.cells [.int .i64 i, .int .i64 k, .int .i64 0, .nil, .nil, .nil] 100) := by rw [← hs2, set_other _ (Ne.symm kcx)]; exact set_same _ _ _
  have e2c : s2 c = some (.cells [.int .i64 0, .int .i64 0, .int .i64 0, .nil, .nil, .nil] 100) := by rw [← hs2]; exact set_same _ _ _
  have hle2 : s.le s2 := by rw [← hs2]; exact (le_set _ hx).trans (le_set _ hc)
  have hlec : ∀ {τ : St} (v), s.le τ → s.le (τ.set c v) := fun v h => le_set2 h hc0
  have hlex : ∀ {τ : St} (v), s.le τ → s.le (τ.set x v) := fun v h => le_set2 h hx
  rw [show (s.set x (.cells [.int .i64 i, .int .i64 k, .int .i64 0, .nil, .nil, .nil] 100)).set c (.cells [.int .i64 0, .int .i64 0, .int .i64 0, .nil, .nil, .nil] 100) = s2 from hs2]
  refine asc ?_; refine awp_rj (fun ρ' s' => s' = s2 ∧ ρ' 1 = .str t ∧ ρ' 2 = .ptr x 0 ∧ ρ' 4 = .ptr c 0 ∧ ρ' 23 = .int .i64 k) ?_ ?_
  · intro K' hJ
    (repeat (first | (refine al_set ?_ ?_ ?_ ?_; rotate_left 2; (· intro K hK; simp (disch := omega) only [go_sem, ↓set_get, ↓reduceIte, ↓o_bsl, ↓o_build, Nat.reduceEqDiff, Nat.reduceAdd, Nat.reduceMul, Int.reduceEq, Int.reduceNe, set_other, del_other, e2x]; (repeat' (first | exact hK | (refine And.intro ?_ ?_) | assumption | omega)))) | (refine al_guard (b := true) rfl ?_ (fun _ => ?_) (fun h => absurd rfl h); · simp only [↓set_get, Nat.reduceEqDiff, Bool.false_eq_true, ↓reduceIte, aenv0, aenvS, aenvN, one_ne, e2x]; done) | (refine al_guard (b := false) rfl ?_ (fun _ => ?_) (fun h => absurd rfl h); · simp only [↓set_get, Nat.reduceEqDiff, Bool.false_eq_true, ↓reduceIte, aenv0, aenvS, aenvN, one_ne, e2x]; done) | (refine al_guard (b := true) rfl ?_ (fun h => Bool.noConfusion h) (fun _ => ?_); · simp only [↓set_get, Nat.reduceEqDiff, Bool.false_eq_true, ↓reduceIte, aenv0, aenvS, aenvN, one_ne, e2x]; done) | (refine al_guard (b := false) rfl ?_ (fun h => Bool.noConfusion h) (fun _ => ?_); · simp only [↓set_get, Nat.reduceEqDiff, Bool.false_eq_true, ↓reduceIte, aenv0, aenvS, aenvN, one_ne, e2x]; done) | (refine al_guard0 rfl ?_ ?_; · simp only [↓set_get, Nat.reduceEqDiff, Bool.false_eq_true, ↓reduceIte, aenv0, aenvS, aenvN, one_ne, e2x]; done) | (refine al_none ?_ ?_ ?_ ?_; rotate_left 2; (· intro K hK; simp (disch := omega) only [go_sem, ↓set_get, ↓reduceIte, ↓o_bsl, ↓o_build, Nat.reduceEqDiff, Nat.reduceAdd, Nat.reduceMul, Int.reduceEq, Int.reduceNe, set_other, del_other, e2x]; (repeat' (first | exact hK | (refine And.intro ?_ ?_) | assumption | omega))))))
    refine al_nil (hJ _ _ ⟨rfl, ?_, ?_, ?_, ?_⟩)
    all_goals simp only [↓set_get, Nat.reduceEqDiff, Bool.false_eq_true, ↓reduceIte, aenv0, aenvS, aenvN, one_ne]
  rintro ρ s2 ⟨rfl, g1, g2, g4, g23⟩
  by_cases k1 : k = 1
  · have e1 : (k == 1) = true := by rw [k1]; rfl
    have eB : refB i k t = (mkR i k ((min (q1 t).1 1000 : Nat) : Int) [] [] t false, (readB t).isSome) := by rw [refB, if_pos k1]
    rw [eB] at hK
    refine asc ?_; refine awp_body ?_
    refine rs ?_
    refine runX (And.intro e1 g23) ?_
    refine al_done ?_
    refine ac ?_ ?_
    · intro _
      refine rs ?_
      refine runX g1 ?_
      (refine al_set ?_ ?_ ?_ ?_; rotate_left 2; (· intro K hK; refine S1 ?_; refine Or.inl (rRead_c ht ?_); exact hK))
      rw [dRead_q]
      refine run ?_
      refine al_done ?_
      have hmn : (if (1000 : Int) < ((q1 t).1 : Int) then (1000 : Int) else ((q1 t).1 : Int)) = ((min (q1 t).1 1000 : Nat) : Int) := by split <;> omega
      obtain ⟨n, hn⟩ : ∃ n, min (q1 t).1 1000 = n := ⟨_, rfl⟩
      have hn1 : n ≤ 1000 := by omega
      rw [hn] at hmn hK
      refine rs ?_
      (repeat (first | (refine al_set ?_ ?_ ?_ ?_; rotate_left 2; (· intro K hK; simp (disch := omega) only [go_sem, ↓set_get, ↓reduceIte, ↓o_bsl, ↓o_build, Nat.reduceEqDiff, Nat.reduceAdd, Nat.reduceMul, Int.reduceEq, Int.reduceNe, set_other, del_other, g2, e2x, hmn]; (repeat' (first | exact hK | (refine And.intro ?_ ?_) | assumption | omega)))) | (refine al_guard (b := true) rfl ?_ (fun _ => ?_) (fun h => absurd rfl h); · simp only [↓set_get, Nat.reduceEqDiff, Bool.false_eq_true, ↓reduceIte, aenv0, aenvS, aenvN, one_ne, g2, e2x, hmn]; done) | (refine al_guard (b := false) rfl ?_ (fun _ => ?_) (fun h => absurd rfl h); · simp only [↓set_get, Nat.reduceEqDiff, Bool.false_eq_true, ↓reduceIte, aenv0, aenvS, aenvN, one_ne, g2, e2x, hmn]; done) | (refine al_guard (b := true) rfl ?_ (fun h => Bool.noConfusion h) (fun _ => ?_); · simp only [↓set_get, Nat.reduceEqDiff, Bool.false_eq_true, ↓reduceIte, aenv0, aenvS, aenvN, one_ne, g2, e2x, hmn]; done) | (refine al_guard (b := false) rfl ?_ (fun h => Bool.noConfusion h) (fun _ => ?_); · simp only [↓set_get, Nat.reduceEqDiff, Bool.false_eq_true, ↓reduceIte, aenv0, aenvS, aenvN, one_ne, g2, e2x, hmn]; done) | (refine al_guard0 rfl ?_ ?_; · simp only [↓set_get, Nat.reduceEqDiff, Bool.false_eq_true, ↓reduceIte, aenv0, aenvS, aenvN, one_ne, g2, e2x, hmn]; done) | (refine al_none ?_ ?_ ?_ ?_; rotate_left 2; (· intro K hK; simp (disch := omega) only [go_sem, ↓set_get, ↓reduceIte, ↓o_bsl, ↓o_build, Nat.reduceEqDiff, Nat.reduceAdd, Nat.reduceMul, Int.reduceEq, Int.reduceNe, set_other, del_other, g2, e2x, hmn]; (repeat' (first | exact hK | (refine And.intro ?_ ?_) | assumption | omega))))))
      refine al_done ?_
      refine rs ?_
      (repeat (first | (refine al_set ?_ ?_ ?_ ?_; rotate_left 2; (· intro K hK; simp (disch := omega) only [go_sem, ↓set_get, ↓reduceIte, ↓o_bsl, ↓o_build, Nat.reduceEqDiff, Nat.reduceAdd, Nat.reduceMul, Int.reduceEq, Int.reduceNe, set_other, del_other, g2, g4, e2c]; (repeat' (first | exact hK | (refine And.intro ?_ ?_) | assumption | omega)))) | (refine al_guard (b := true) rfl ?_ (fun _ => ?_) (fun h => absurd rfl h); · simp only [↓set_get, Nat.reduceEqDiff, Bool.false_eq_true, ↓reduceIte, aenv0, aenvS, aenvN, one_ne, g2, g4, e2c]; done) | (refine al_guard (b := false) rfl ?_ (fun _ => ?_) (fun h => absurd rfl h); · simp only [↓set_get, Nat.reduceEqDiff, Bool.false_eq_true, ↓reduceIte, aenv0, aenvS, aenvN, one_ne, g2, g4, e2c]; done) | (refine al_guard (b := true) rfl ?_ (fun h => Bool.noConfusion h) (fun _ => ?_); · simp only [↓set_get, Nat.reduceEqDiff, Bool.false_eq_true, ↓reduceIte, aenv0, aenvS, aenvN, one_ne, g2, g4, e2c]; done) | (refine al_guard (b := false) rfl ?_ (fun h => Bool.noConfusion h) (fun _ => ?_); · simp only [↓set_get, Nat.reduceEqDiff, Bool.false_eq_true, ↓reduceIte, aenv0, aenvS, aenvN, one_ne, g2, g4, e2c]; done) | (refine al_guard0 rfl ?_ ?_; · simp only [↓set_get, Nat.reduceEqDiff, Bool.false_eq_true, ↓reduceIte, aenv0, aenvS, aenvN, one_ne, g2, g4, e2c]; done) | (refine al_none ?_ ?_ ?_ ?_; rotate_left 2; (· intro K hK; simp (disch := omega) only [go_sem, ↓set_get, ↓reduceIte, ↓o_bsl, ↓o_build, Nat.reduceEqDiff, Nat.reduceAdd, Nat.reduceMul, Int.reduceEq, Int.reduceNe, set_other, del_other, g2, g4, e2c]; (repeat' (first | exact hK | (refine And.intro ?_ ?_) | assumption | omega))))))
      refine al_nil (rx_rep (r := mkR i k (n : Int) [] [] t false) (x := c) (set_same _ _ _) .nil .nil .nil (.done ?_))
      refine awp_ret (afin_cell s (hlec _ (hlec _ (hlex _ hle2))) ?_)
      simp only [ares, aone, ↓set_get, Nat.reduceEqDiff, Bool.false_eq_true, ↓reduceIte, aenv0, aenvS, aenvN, one_ne, g4, load_ptr, tagg100, tsz100, set_same]
      exact ⟨_, _, rfl, by simp only [read_t, hpl, List.drop_zero, tk6]; exact ⟨by decide, hK⟩⟩
    · intro h; cases h
  have e1 : (k == 1) = false := by rw [beq_eq_false_iff_ne]; exact k1
  by_cases k25 : k = 2 ∨ k = 5
  · obtain ⟨R, hR, hRk, eB⟩ : ∃ R : Nat, R ≤ 2 ∧ (1 + k / 5 = (R : Int)) ∧ refB i k t = (mkR i k 0 (rfH R t).1 [] t false, (rfH R t).2) := by
      rcases k25 with rfl | rfl
      · exact ⟨1, by decide, by decide, refB_2 i t⟩
      · exact ⟨2, by decide, by decide, refB_5 i t⟩
    rw [eB] at hK
    refine asc ?_; refine awp_body ?_
    refine rs ?_
    refine runX (And.intro e1 g23) ?_
    refine al_done ?_
    refine ac ?_ ?_
    · intro h; cases h
    intro _
    refine rs ?_
    refine runX g23 ?_
    refine al_done ?_
    refine asc ?_
    refine awp_uj (fun ρ' s' => s' = s2 ∧ ρ' 1 = .str t ∧ ρ' 2 = .ptr x 0 ∧ ρ' 4 = .ptr c 0 ∧ ρ' 38 = .bool true) (b := k == 2) (by simp only [aeval, ↓set_get, Nat.reduceEqDiff, Bool.false_eq_true, ↓reduceIte, aenv0, aenvS, aenvN, one_ne]) ?_ ?_ ?_
    · intro h2
      refine ⟨rfl, ?_, ?_, ?_, ?_⟩
      all_goals simp only [↓set_get, Nat.reduceEqDiff, Bool.false_eq_true, ↓reduceIte, aenv0, aenvS, aenvN, one_ne, g1, g2, g4]
      rw [h2]
    · intro h2 K3 hJ3
      have e5 : (k == 5) = true := by
        rcases k25 with rfl | rfl
        · cases h2
        · rfl
      refine awp_region ?_
      refine runX (And.intro g23 e5) ?_
      refine al_nil (hJ3 _ _ (.done ⟨rfl, ?_, ?_, ?_, ?_⟩))
      all_goals simp only [↓set_get, Nat.reduceEqDiff, Bool.false_eq_true, ↓reduceIte, aenv0, aenvS, aenvN, one_ne, g1, g2, g4]
    rintro ρ s2 ⟨rfl, g1, g2, g4, g38⟩
    refine acX g38 ?_ ?_
    · intro _
      refine rs ?_
      refine run ?_
      refine al_done ?_
      refine asc ?_; refine awp_while (fun m ρ τ => ∃ (done : List SHead) (rest : List UInt8) (d : D), done.length + m = R ∧ rest.length ≤ t.length ∧ (rfH R t).1 = done ++ (rfH m rest).1 ∧ (rfH R t).2 = (rfH m rest).2 ∧ RowH τ x c s done d ∧ τ x = some (.cells [.int .i64 i, .int .i64 k, .int .i64 0, d, .nil, .nil] 100) ∧ τ c = some (.cells [.int .i64 0, .int .i64 0, .int .i64 0, .nil, .nil, .nil] 100) ∧ s.le τ ∧ ρ 1 = .str rest ∧ ρ 2 = .ptr x 0 ∧ ρ 4 = .ptr c 0 ∧ ρ 9 = .int .i64 (done.length : Nat)) R ?_ ?_
      · refine ⟨[], t, .nil, by simp, Nat.le_refl _, rfl, rfl, .inl ⟨rfl, rfl⟩, e2x, e2c, hle2, ?_, ?_, ?_, ?_⟩
        all_goals simp only [↓set_get, Nat.reduceEqDiff, Bool.false_eq_true, ↓reduceIte, aenv0, aenvS, aenvN, one_ne, g1, g2, g4]
        rfl
      rintro m ρ τ ⟨done, rest, d, hlen, hrest, hu1, hu2, hrow, ex, ec, hle, g1, g2, g4, g9⟩
      refine rs ?_
      refine runX (And.intro g2 (And.intro g9 ex)) ?_
      refine al_done ?_
      refine asc ?_; refine ate ?_ ?_
      · intro hb2
        have hb2 := of_decide_eq_true hb2
        have hm : 0 < m := by omega
        obtain ⟨m, rfl⟩ : ∃ j, m = j + 1 := ⟨m - 1, by omega⟩
        have hql := q4_len rest
        have hxc : x ≠ c := Ne.symm kcx
        refine asc ?_; refine awp_body ?_
        refine rs ?_
        refine runX g1 ?_
        (refine al_set ?_ ?_ ?_ ?_; rotate_left 2; (· intro K hK; refine S1 ?_; refine Or.inl (rHead_c (by omega) ?_); exact hK))
        refine run ?_
        (refine aF ?_; intro y hy; (try (have h_hy := hy; simp only [set_none] at h_hy)))
        refine run ?_
        refine al_done ?_
        rw [set_set]
        have hcl := sgD_len (hdV rest)
        have kxy : x ≠ y := keep_ne ex hy
        have kcy : c ≠ y := keep_ne ec hy
        obtain ⟨τ1, ht1⟩ : ∃ z, τ.set y (.cells (sgD (hdV rest)) 91) = z := ⟨_, rfl⟩
        have hrow1 : RowH τ1 x c s done d := hrow.frame (fun j hj _ _ => by rw [← ht1]; exact set_other _ (fun e => hj (by rw [e]; exact hy)))
        have e1x : τ1 x = some (.cells [.int .i64 i, .int .i64 k, .int .i64 0, d, .nil, .nil] 100) := by rw [← ht1, set_other _ kxy]; exact ex
        have e1c : τ1 c = some (.cells [.int .i64 0, .int .i64 0, .int .i64 0, .nil, .nil, .nil] 100) := by rw [← ht1, set_other _ kcy]; exact ec
        have e1y : τ1 y = some (.cells (sgD (hdV rest)) 91) := by rw [← ht1]; exact set_same _ _ _
        have hle1 : s.le τ1 := by rw [← ht1]; exact hle.trans (le_set _ hy)
        rw [ht1]
        by_cases hk : hdOk rest = true
        · rw [rfH, if_pos hk] at hu1 hu2
          refine rs ?_
          refine runX hk ?_
          refine al_done ?_
          refine asc ?_; refine ai ?_ ?_
          · intro h; cases h
          intro _
          have hx1 : ∀ τ, xcells τ 36 (.sl 1 (sgD (hdV rest)) none) = some (1, sgD (hdV rest)) := fun τ => xcells_sl hcl
          refine awp_region ?_
          (repeat (first | (refine al_set ?_ ?_ ?_ ?_; rotate_left 2; (· intro K hK; simp (disch := omega) only [go_sem, ↓set_get, ↓reduceIte, ↓o_bsl, ↓o_build, Nat.reduceEqDiff, Nat.reduceAdd, Nat.reduceMul, Int.reduceEq, Int.reduceNe, set_other, del_other, g2, e1x, e1y, hcl]; (repeat' (first | exact hK | (refine And.intro ?_ ?_) | assumption | omega)))) | (refine al_guard (b := true) rfl ?_ (fun _ => ?_) (fun h => absurd rfl h); · simp only [↓set_get, Nat.reduceEqDiff, Bool.false_eq_true, ↓reduceIte, aenv0, aenvS, aenvN, one_ne, g2, e1x, e1y, hcl]; done) | (refine al_guard (b := false) rfl ?_ (fun _ => ?_) (fun h => absurd rfl h); · simp only [↓set_get, Nat.reduceEqDiff, Bool.false_eq_true, ↓reduceIte, aenv0, aenvS, aenvN, one_ne, g2, e1x, e1y, hcl]; done) | (refine al_guard (b := true) rfl ?_ (fun h => Bool.noConfusion h) (fun _ => ?_); · simp only [↓set_get, Nat.reduceEqDiff, Bool.false_eq_true, ↓reduceIte, aenv0, aenvS, aenvN, one_ne, g2, e1x, e1y, hcl]; done) | (refine al_guard (b := false) rfl ?_ (fun h => Bool.noConfusion h) (fun _ => ?_); · simp only [↓set_get, Nat.reduceEqDiff, Bool.false_eq_true, ↓reduceIte, aenv0, aenvS, aenvN, one_ne, g2, e1x, e1y, hcl]; done) | (refine al_guard0 rfl ?_ ?_; · simp only [↓set_get, Nat.reduceEqDiff, Bool.false_eq_true, ↓reduceIte, aenv0, aenvS, aenvN, one_ne, g2, e1x, e1y, hcl]; done) | (refine al_none ?_ ?_ ?_ ?_; rotate_left 2; (· intro K hK; simp (disch := omega) only [go_sem, ↓set_get, ↓reduceIte, ↓o_bsl, ↓o_build, Nat.reduceEqDiff, Nat.reduceAdd, Nat.reduceMul, Int.reduceEq, Int.reduceNe, set_other, del_other, g2, e1x, e1y, hcl]; (repeat' (first | exact hK | (refine And.intro ?_ ?_) | assumption | omega))))))
          (refine al_set ?_ ?_ ?_ ?_; rotate_left 2; (· intro K hK; refine S1 ?_; refine bsl_agg0 elt79 zc91 rfl (sgD_len _) (by decide) ?_; exact hK))
          refine run ?_
          refine al_rel (fun d' τ' => ∃ j, τ1 j = none ∧ d' = .sl (done ++ [hdV rest]).length (sgsD (done ++ [hdV rest])) (some (j, 36)) ∧ τ' j = some (.tok 91 (sgsD (done ++ [hdV rest]))) ∧ τ' x = τ1 x ∧ τ' c = τ1 c ∧ s.le τ') ?_ ?_
          · intro K2 hK2
            simp (disch := omega) only [go_sem, ↓set_get, ↓reduceIte, ↓o_bsl, ↓o_build, Nat.reduceEqDiff, Nat.reduceAdd, Nat.reduceMul, Int.reduceEq, Int.reduceNe, set_other, del_other, hx1]
            refine app_rowH hrow1 (by omega) (fun j hj τ' h1 h2 h3 => hK2 _ _ ⟨j, hj, rfl, h1, ?_, ?_, h3 hle1⟩)
            · exact h2 x (keep_ne e1x hj) (fun i0 c0 _ h0 e => by rw [← e, e1x] at h0; cases h0)
            · exact h2 c (keep_ne e1c hj) (fun i0 c0 _ h0 e => by rw [← e, e1c] at h0; cases h0)
          rintro _ τ' ⟨j, hj, rfl, h1, hx', hc', hle'⟩
          rw [e1x] at hx'
          rw [e1c] at hc'
          have hs0 := le_none hle1 hj
          refine runX (And.intro hx' g2) ?_
          refine al_nil (.done ?_)
          refine awp_region ?_
          refine runX g9 ?_
          refine al_nil ?_
          refine lq_next m (by omega) ⟨done ++ [hdV rest], (q4 rest).2, _, by simp; omega, by omega, by rw [hu1]; simp, hu2, .inr ⟨j, sgsD (done ++ [hdV rest]), ?_, ⟨Ne.symm (keep_ne e1x hj), Ne.symm (keep_ne e1c hj)⟩, hs0, rfl⟩, by rw [List.length_append]; exact set_same _ _ _, ?_, hlex _ hle', ?_, ?_, ?_, ?_⟩
          · rw [set_other _ (Ne.symm (keep_ne e1x hj))]; exact h1
          · rw [set_other _ kcx]; exact hc'
          · simp only [↓set_get, Nat.reduceEqDiff, Bool.false_eq_true, ↓reduceIte, aenv0, aenvS, aenvN, one_ne]
          · simp only [↓set_get, Nat.reduceEqDiff, Bool.false_eq_true, ↓reduceIte, aenv0, aenvS, aenvN, one_ne, g2]
          · simp only [↓set_get, Nat.reduceEqDiff, Bool.false_eq_true, ↓reduceIte, aenv0, aenvS, aenvN, one_ne, g4]
          · simp only [↓set_get, Nat.reduceEqDiff, Bool.false_eq_true, ↓reduceIte, aenv0, aenvS, aenvN, one_ne]; congr 1; simp
        · have hk : hdOk rest = false := by cases h : hdOk rest with | true => exact absurd h hk | false => rfl
          have hkn : ¬ hdOk rest = true := by rw [hk]; decide
          rw [rfH, if_neg hkn, List.append_nil] at hu1
          rw [rfH, if_neg hkn] at hu2
          rw [hu1, hu2] at hK
          refine rs ?_
          refine runX hk ?_
          refine al_done ?_
          refine asc ?_; refine ai ?_ ?_
          · intro _
            refine rs ?_
            (repeat (first | (refine al_set ?_ ?_ ?_ ?_; rotate_left 2; (· intro K hK; simp (disch := omega) only [go_sem, ↓set_get, ↓reduceIte, ↓o_bsl, ↓o_build, Nat.reduceEqDiff, Nat.reduceAdd, Nat.reduceMul, Int.reduceEq, Int.reduceNe, set_other, del_other, g2, g4, e1x, e1c]; (repeat' (first | exact hK | (refine And.intro ?_ ?_) | assumption | omega)))) | (refine al_guard (b := true) rfl ?_ (fun _ => ?_) (fun h => absurd rfl h); · simp only [↓set_get, Nat.reduceEqDiff, Bool.false_eq_true, ↓reduceIte, aenv0, aenvS, aenvN, one_ne, g2, g4, e1x, e1c]; done) | (refine al_guard (b := false) rfl ?_ (fun _ => ?_) (fun h => absurd rfl h); · simp only [↓set_get, Nat.reduceEqDiff, Bool.false_eq_true, ↓reduceIte, aenv0, aenvS, aenvN, one_ne, g2, g4, e1x, e1c]; done) | (refine al_guard (b := true) rfl ?_ (fun h => Bool.noConfusion h) (fun _ => ?_); · simp only [↓set_get, Nat.reduceEqDiff, Bool.false_eq_true, ↓reduceIte, aenv0, aenvS, aenvN, one_ne, g2, g4, e1x, e1c]; done) | (refine al_guard (b := false) rfl ?_ (fun h => Bool.noConfusion h) (fun _ => ?_); · simp only [↓set_get, Nat.reduceEqDiff, Bool.false_eq_true, ↓reduceIte, aenv0, aenvS, aenvN, one_ne, g2, g4, e1x, e1c]; done) | (refine al_guard0 rfl ?_ ?_; · simp only [↓set_get, Nat.reduceEqDiff, Bool.false_eq_true, ↓reduceIte, aenv0, aenvS, aenvN, one_ne, g2, g4, e1x, e1c]; done) | (refine al_none ?_ ?_ ?_ ?_; rotate_left 2; (· intro K hK; simp (disch := omega) only [go_sem, ↓set_get, ↓reduceIte, ↓o_bsl, ↓o_build, Nat.reduceEqDiff, Nat.reduceAdd, Nat.reduceMul, Int.reduceEq, Int.reduceNe, set_other, del_other, g2, g4, e1x, e1c]; (repeat' (first | exact hK | (refine And.intro ?_ ?_) | assumption | omega))))))
            refine al_nil (rx_rep (r := mkR i k 0 done [] t false) (x := c) (set_same _ _ _) hrow1.wk .nil .nil (.done ?_))
            refine awp_ret (afin_cell s (hlec _ (hlec _ hle1)) ?_)
            simp only [ares, aone, ↓set_get, Nat.reduceEqDiff, Bool.false_eq_true, ↓reduceIte, aenv0, aenvS, aenvN, one_ne, g4, load_ptr, tagg100, tsz100, set_same]
            exact ⟨_, _, rfl, by simp only [read_t, hpl, List.drop_zero, tk6]; exact ⟨by decide, hK⟩⟩
          · intro h; cases h
      · intro hb2
        have hb2 := of_decide_eq_false hb2
        have hm : m = 0 := by omega
        subst hm
        rw [rfH, List.append_nil] at hu1
        rw [rfH] at hu2
        rw [hu1, hu2] at hK
        refine lq_exit ?_
        refine rs ?_
        refine runX (And.intro g2 (And.intro g4 (And.intro ex ec))) ?_
        refine al_nil (rx_rep (r := mkR i k 0 done [] t false) (x := c) (set_same _ _ _) hrow.wk .nil .nil (.done ?_))
        refine awp_ret (afin_cell s (hlec _ (hlec _ hle)) ?_)
        simp only [ares, aone, ↓set_get, Nat.reduceEqDiff, Bool.false_eq_true, ↓reduceIte, aenv0, aenvS, aenvN, one_ne, g4, load_ptr, tagg100, tsz100, set_same]
        exact ⟨_, _, rfl, by simp only [read_t, hpl, List.drop_zero, tk6]; exact ⟨by decide, hK⟩⟩
    · intro h; cases h
  have k2 : ¬ k = 2 := fun h => k25 (.inl h)
  have k5 : ¬ k = 5 := fun h => k25 (.inr h)
  have e2 : (k == 2) = false := by rw [beq_eq_false_iff_ne]; exact k2
  have e5 : (k == 5) = false := by rw [beq_eq_false_iff_ne]; exact k5
  refine asc ?_; refine awp_body ?_
  refine rs ?_
  refine runX (And.intro e1 g23) ?_
  refine al_done ?_
  refine ac ?_ ?_
  · intro h; cases h
  intro _
  refine rs ?_
  refine runX g23 ?_
  refine al_done ?_
  refine asc ?_
  refine awp_uj (fun ρ' s' => s' = s2 ∧ ρ' 1 = .str t ∧ ρ' 2 = .ptr x 0 ∧ ρ' 4 = .ptr c 0 ∧ ρ' 23 = .int .i64 k ∧ ρ' 38 = .bool false) (b := k == 2) (by simp only [aeval, ↓set_get, Nat.reduceEqDiff, Bool.false_eq_true, ↓reduceIte, aenv0, aenvS, aenvN, one_ne]) ?_ ?_ ?_
  · intro h2; rw [e2] at h2; cases h2
  · intro h2 K3 hJ3
    refine awp_region ?_
    refine runX (And.intro g23 e5) ?_
    refine al_nil (hJ3 _ _ (.done ⟨rfl, ?_, ?_, ?_, ?_, ?_⟩))
    all_goals simp only [↓set_get, Nat.reduceEqDiff, Bool.false_eq_true, ↓reduceIte, aenv0, aenvS, aenvN, one_ne, g1, g2, g4, g23]
  rintro ρ s2 ⟨rfl, g1, g2, g4, g23, g38⟩
  refine acX g38 ?_ ?_
  · intro h; cases h
  intro _
  by_cases k3 : k = 3
  · have e3 : (k == 3) = true := by rw [k3]; rfl
    have eB : refB i k t = (mkR i k 0 [] (enL t) (enT t) true, (refEn t).isSome && (unhashesB (enT t)).isSome) := by rw [refB, if_neg k1, if_neg k2, if_pos k3]
    rw [eB] at hK
    have hel := (en_len t).1
    refine rs ?_
    refine runX (And.intro e3 g23) ?_
    refine al_done ?_
    refine ac ?_ ?_
    · intro _
      refine rs ?_
      refine runX g1 ?_
      (refine al_set ?_ ?_ ?_ ?_; rotate_left 2; (· intro K hK; refine S1 ?_; refine Or.inl (rEntries_c ht ?_); exact hK))
      refine run ?_
      refine al_done ?_
      refine rs ?_
      refine run ?_
      (refine al_set ?_ ?_ ?_ ?_; rotate_left 2; (· intro K hK; refine S1 ?_; refine Or.inl (rUnhashes_c (by omega) ?_); exact hK))
      rw [dUnhs_q]
      refine run ?_
      refine al_done ?_
      rw [pathD]
      refine rs ?_
      (repeat (first | (refine al_set ?_ ?_ ?_ ?_; rotate_left 2; (· intro K hK; simp (disch := omega) only [go_sem, ↓set_get, ↓reduceIte, ↓o_bsl, ↓o_build, Nat.reduceEqDiff, Nat.reduceAdd, Nat.reduceMul, Int.reduceEq, Int.reduceNe, set_other, del_other, g2, e2x]; (repeat' (first | exact hK | (refine And.intro ?_ ?_) | assumption | omega)))) | (refine al_guard (b := true) rfl ?_ (fun _ => ?_) (fun h => absurd rfl h); · simp only [↓set_get, Nat.reduceEqDiff, Bool.false_eq_true, ↓reduceIte, aenv0, aenvS, aenvN, one_ne, g2, e2x]; done) | (refine al_guard (b := false) rfl ?_ (fun _ => ?_) (fun h => absurd rfl h); · simp only [↓set_get, Nat.reduceEqDiff, Bool.false_eq_true, ↓reduceIte, aenv0, aenvS, aenvN, one_ne, g2, e2x]; done) | (refine al_guard (b := true) rfl ?_ (fun h => Bool.noConfusion h) (fun _ => ?_); · simp only [↓set_get, Nat.reduceEqDiff, Bool.false_eq_true, ↓reduceIte, aenv0, aenvS, aenvN, one_ne, g2, e2x]; done) | (refine al_guard (b := false) rfl ?_ (fun h => Bool.noConfusion h) (fun _ => ?_); · simp only [↓set_get, Nat.reduceEqDiff, Bool.false_eq_true, ↓reduceIte, aenv0, aenvS, aenvN, one_ne, g2, e2x]; done) | (refine al_guard0 rfl ?_ ?_; · simp only [↓set_get, Nat.reduceEqDiff, Bool.false_eq_true, ↓reduceIte, aenv0, aenvS, aenvN, one_ne, g2, e2x]; done) | (refine al_none ?_ ?_ ?_ ?_; rotate_left 2; (· intro K hK; simp (disch := omega) only [go_sem, ↓set_get, ↓reduceIte, ↓o_bsl, ↓o_build, Nat.reduceEqDiff, Nat.reduceAdd, Nat.reduceMul, Int.reduceEq, Int.reduceNe, set_other, del_other, g2, e2x]; (repeat' (first | exact hK | (refine And.intro ?_ ?_) | assumption | omega))))))
      refine al_done ?_
      refine rs ?_
      cases hb : (refEn t).isSome with
      | false =>
        rw [hb] at hK
        (repeat (first | (refine al_set ?_ ?_ ?_ ?_; rotate_left 2; (· intro K hK; simp (disch := omega) only [go_sem, ↓set_get, ↓reduceIte, ↓o_bsl, ↓o_build, Nat.reduceEqDiff, Nat.reduceAdd, Nat.reduceMul, Int.reduceEq, Int.reduceNe, set_other, del_other, g2, g4, e2c, hb]; (repeat' (first | exact hK | (refine And.intro ?_ ?_) | assumption | omega)))) | (refine al_guard (b := true) rfl ?_ (fun _ => ?_) (fun h => absurd rfl h); · simp only [↓set_get, Nat.reduceEqDiff, Bool.false_eq_true, ↓reduceIte, aenv0, aenvS, aenvN, one_ne, g2, g4, e2c, hb]; done) | (refine al_guard (b := false) rfl ?_ (fun _ => ?_) (fun h => absurd rfl h); · simp only [↓set_get, Nat.reduceEqDiff, Bool.false_eq_true, ↓reduceIte, aenv0, aenvS, aenvN, one_ne, g2, g4, e2c, hb]; done) | (refine al_guard (b := true) rfl ?_ (fun h => Bool.noConfusion h) (fun _ => ?_); · simp only [↓set_get, Nat.reduceEqDiff, Bool.false_eq_true, ↓reduceIte, aenv0, aenvS, aenvN, one_ne, g2, g4, e2c, hb]; done) | (refine al_guard (b := false) rfl ?_ (fun h => Bool.noConfusion h) (fun _ => ?_); · simp only [↓set_get, Nat.reduceEqDiff, Bool.false_eq_true, ↓reduceIte, aenv0, aenvS, aenvN, one_ne, g2, g4, e2c, hb]; done) | (refine al_guard0 rfl ?_ ?_; · simp only [↓set_get, Nat.reduceEqDiff, Bool.false_eq_true, ↓reduceIte, aenv0, aenvS, aenvN, one_ne, g2, g4, e2c, hb]; done) | (refine al_none ?_ ?_ ?_ ?_; rotate_left 2; (· intro K hK; simp (disch := omega) only [go_sem, ↓set_get, ↓reduceIte, ↓o_bsl, ↓o_build, Nat.reduceEqDiff, Nat.reduceAdd, Nat.reduceMul, Int.reduceEq, Int.reduceNe, set_other, del_other, g2, g4, e2c, hb]; (repeat' (first | exact hK | (refine And.intro ?_ ?_) | assumption | omega))))))
        refine al_nil (rx_rep (r := mkR i k 0 [] (enL t) (enT t) true) (x := c) (set_same _ _ _) .nil (.refl _) (.refl _) (.done ?_))
        refine awp_ret (afin_cell s (hlec _ (hlec _ (hlex _ (hlex _ hle2)))) ?_)
        simp only [ares, aone, ↓set_get, Nat.reduceEqDiff, Bool.false_eq_true, ↓reduceIte, aenv0, aenvS, aenvN, one_ne, g4, load_ptr, tagg100, tsz100, set_same]
        exact ⟨_, _, rfl, by simp only [read_t, hpl, List.drop_zero, tk6]; exact ⟨by decide, hK⟩⟩
      | true =>
        rw [hb] at hK
        (repeat (first | (refine al_set ?_ ?_ ?_ ?_; rotate_left 2; (· intro K hK; simp (disch := omega) only [go_sem, ↓set_get, ↓reduceIte, ↓o_bsl, ↓o_build, Nat.reduceEqDiff, Nat.reduceAdd, Nat.reduceMul, Int.reduceEq, Int.reduceNe, set_other, del_other, g2, g4, e2c, hb]; (repeat' (first | exact hK | (refine And.intro ?_ ?_) | assumption | omega)))) | (refine al_guard (b := true) rfl ?_ (fun _ => ?_) (fun h => absurd rfl h); · simp only [↓set_get, Nat.reduceEqDiff, Bool.false_eq_true, ↓reduceIte, aenv0, aenvS, aenvN, one_ne, g2, g4, e2c, hb]; done) | (refine al_guard (b := false) rfl ?_ (fun _ => ?_) (fun h => absurd rfl h); · simp only [↓set_get, Nat.reduceEqDiff, Bool.false_eq_true, ↓reduceIte, aenv0, aenvS, aenvN, one_ne, g2, g4, e2c, hb]; done) | (refine al_guard (b := true) rfl ?_ (fun h => Bool.noConfusion h) (fun _ => ?_); · simp only [↓set_get, Nat.reduceEqDiff, Bool.false_eq_true, ↓reduceIte, aenv0, aenvS, aenvN, one_ne, g2, g4, e2c, hb]; done) | (refine al_guard (b := false) rfl ?_ (fun h => Bool.noConfusion h) (fun _ => ?_); · simp only [↓set_get, Nat.reduceEqDiff, Bool.false_eq_true, ↓reduceIte, aenv0, aenvS, aenvN, one_ne, g2, g4, e2c, hb]; done) | (refine al_guard0 rfl ?_ ?_; · simp only [↓set_get, Nat.reduceEqDiff, Bool.false_eq_true, ↓reduceIte, aenv0, aenvS, aenvN, one_ne, g2, g4, e2c, hb]; done) | (refine al_none ?_ ?_ ?_ ?_; rotate_left 2; (· intro K hK; simp (disch := omega) only [go_sem, ↓set_get, ↓reduceIte, ↓o_bsl, ↓o_build, Nat.reduceEqDiff, Nat.reduceAdd, Nat.reduceMul, Int.reduceEq, Int.reduceNe, set_other, del_other, g2, g4, e2c, hb]; (repeat' (first | exact hK | (refine And.intro ?_ ?_) | assumption | omega))))))
        refine al_nil (rx_rep (r := mkR i k 0 [] (enL t) (enT t) true) (x := c) (set_same _ _ _) .nil (.refl _) (.refl _) (.done ?_))
        refine awp_ret (afin_cell s (hlec _ (hlec _ (hlex _ (hlex _ hle2)))) ?_)
        simp only [ares, aone, ↓set_get, Nat.reduceEqDiff, Bool.false_eq_true, ↓reduceIte, aenv0, aenvS, aenvN, one_ne, g4, load_ptr, tagg100, tsz100, set_same]
        exact ⟨_, _, rfl, by simp only [read_t, hpl, List.drop_zero, tk6]; exact ⟨by decide, hK⟩⟩
    · intro h; cases h
  have e3 : (k == 3) = false := by rw [beq_eq_false_iff_ne]; exact k3
  refine rs ?_
  refine runX (And.intro e3 g23) ?_
  refine al_done ?_
  refine ac ?_ ?_
  · intro h; cases h
  intro _
  by_cases k4 : k = 4
  · have e4 : (k == 4) = true := by rw [k4]; rfl
    have eB : refB i k t = (mkR i k 0 [] [] t true, (unhashesB t).isSome) := by rw [refB, if_neg k1, if_neg k2, if_neg k3, if_pos k4]
    rw [eB] at hK
    refine rs ?_
    refine runX (And.intro e4 g23) ?_
    refine al_done ?_
    refine ac ?_ ?_
    · intro _
      refine rs ?_
      refine runX g1 ?_
      (refine al_set ?_ ?_ ?_ ?_; rotate_left 2; (· intro K hK; refine S1 ?_; refine Or.inl (rUnhashes_c ht ?_); exact hK))
      rw [dUnhs_q]
      refine run ?_
      refine al_done ?_
      rw [pathD]
      refine rs ?_
      (repeat (first | (refine al_set ?_ ?_ ?_ ?_; rotate_left 2; (· intro K hK; simp (disch := omega) only [go_sem, ↓set_get, ↓reduceIte, ↓o_bsl, ↓o_build, Nat.reduceEqDiff, Nat.reduceAdd, Nat.reduceMul, Int.reduceEq, Int.reduceNe, set_other, del_other, g2, e2x]; (repeat' (first | exact hK | (refine And.intro ?_ ?_) | assumption | omega)))) | (refine al_guard (b := true) rfl ?_ (fun _ => ?_) (fun h => absurd rfl h); · simp only [↓set_get, Nat.reduceEqDiff, Bool.false_eq_true, ↓reduceIte, aenv0, aenvS, aenvN, one_ne, g2, e2x]; done) | (refine al_guard (b := false) rfl ?_ (fun _ => ?_) (fun h => absurd rfl h); · simp only [↓set_get, Nat.reduceEqDiff, Bool.false_eq_true, ↓reduceIte, aenv0, aenvS, aenvN, one_ne, g2, e2x]; done) | (refine al_guard (b := true) rfl ?_ (fun h => Bool.noConfusion h) (fun _ => ?_); · simp only [↓set_get, Nat.reduceEqDiff, Bool.false_eq_true, ↓reduceIte, aenv0, aenvS, aenvN, one_ne, g2, e2x]; done) | (refine al_guard (b := false) rfl ?_ (fun h => Bool.noConfusion h) (fun _ => ?_); · simp only [↓set_get, Nat.reduceEqDiff, Bool.false_eq_true, ↓reduceIte, aenv0, aenvS, aenvN, one_ne, g2, e2x]; done) | (refine al_guard0 rfl ?_ ?_; · simp only [↓set_get, Nat.reduceEqDiff, Bool.false_eq_true, ↓reduceIte, aenv0, aenvS, aenvN, one_ne, g2, e2x]; done) | (refine al_none ?_ ?_ ?_ ?_; rotate_left 2; (· intro K hK; simp (disch := omega) only [go_sem, ↓set_get, ↓reduceIte, ↓o_bsl, ↓o_build, Nat.reduceEqDiff, Nat.reduceAdd, Nat.reduceMul, Int.reduceEq, Int.reduceNe, set_other, del_other, g2, e2x]; (repeat' (first | exact hK | (refine And.intro ?_ ?_) | assumption | omega))))))
      refine al_done ?_
      refine rs ?_
      (repeat (first | (refine al_set ?_ ?_ ?_ ?_; rotate_left 2; (· intro K hK; simp (disch := omega) only [go_sem, ↓set_get, ↓reduceIte, ↓o_bsl, ↓o_build, Nat.reduceEqDiff, Nat.reduceAdd, Nat.reduceMul, Int.reduceEq, Int.reduceNe, set_other, del_other, g2, g4, e2c]; (repeat' (first | exact hK | (refine And.intro ?_ ?_) | assumption | omega)))) | (refine al_guard (b := true) rfl ?_ (fun _ => ?_) (fun h => absurd rfl h); · simp only [↓set_get, Nat.reduceEqDiff, Bool.false_eq_true, ↓reduceIte, aenv0, aenvS, aenvN, one_ne, g2, g4, e2c]; done) | (refine al_guard (b := false) rfl ?_ (fun _ => ?_) (fun h => absurd rfl h); · simp only [↓set_get, Nat.reduceEqDiff, Bool.false_eq_true, ↓reduceIte, aenv0, aenvS, aenvN, one_ne, g2, g4, e2c]; done) | (refine al_guard (b := true) rfl ?_ (fun h => Bool.noConfusion h) (fun _ => ?_); · simp only [↓set_get, Nat.reduceEqDiff, Bool.false_eq_true, ↓reduceIte, aenv0, aenvS, aenvN, one_ne, g2, g4, e2c]; done) | (refine al_guard (b := false) rfl ?_ (fun h => Bool.noConfusion h) (fun _ => ?_); · simp only [↓set_get, Nat.reduceEqDiff, Bool.false_eq_true, ↓reduceIte, aenv0, aenvS, aenvN, one_ne, g2, g4, e2c]; done) | (refine al_guard0 rfl ?_ ?_; · simp only [↓set_get, Nat.reduceEqDiff, Bool.false_eq_true, ↓reduceIte, aenv0, aenvS, aenvN, one_ne, g2, g4, e2c]; done) | (refine al_none ?_ ?_ ?_ ?_; rotate_left 2; (· intro K hK; simp (disch := omega) only [go_sem, ↓set_get, ↓reduceIte, ↓o_bsl, ↓o_build, Nat.reduceEqDiff, Nat.reduceAdd, Nat.reduceMul, Int.reduceEq, Int.reduceNe, set_other, del_other, g2, g4, e2c]; (repeat' (first | exact hK | (refine And.intro ?_ ?_) | assumption | omega))))))
      refine al_nil (rx_rep (r := mkR i k 0 [] [] t true) (x := c) (set_same _ _ _) .nil .nil (.refl _) (.done ?_))
      refine awp_ret (afin_cell s (hlec _ (hlec _ (hlex _ hle2))) ?_)
      simp only [ares, aone, ↓set_get, Nat.reduceEqDiff, Bool.false_eq_true, ↓reduceIte, aenv0, aenvS, aenvN, one_ne, g4, load_ptr, tagg100, tsz100, set_same]
      exact ⟨_, _, rfl, by simp only [read_t, hpl, List.drop_zero, tk6]; exact ⟨by decide, hK⟩⟩
    · intro h; cases h
  have e4 : (k == 4) = false := by rw [beq_eq_false_iff_ne]; exact k4
  have eB : refB i k t = (mkR i k 0 [] [] t false, false) := by rw [refB, if_neg k1, if_neg k2, if_neg k3, if_neg k4, if_neg k5]
  rw [eB] at hK
  refine rs ?_
  refine runX (And.intro e4 g23) ?_
  refine al_done ?_
  refine ac ?_ ?_
  · intro h; cases h
  intro _
  refine awp_skip (.done ?_)
  refine rs ?_
  (repeat (first | (refine al_set ?_ ?_ ?_ ?_; rotate_left 2; (· intro K hK; simp (disch := omega) only [go_sem, ↓set_get, ↓reduceIte, ↓o_bsl, ↓o_build, Nat.reduceEqDiff, Nat.reduceAdd, Nat.reduceMul, Int.reduceEq, Int.reduceNe, set_other, del_other, g2, g4, e2x, e2c]; (repeat' (first | exact hK | (refine And.intro ?_ ?_) | assumption | omega)))) | (refine al_guard (b := true) rfl ?_ (fun _ => ?_) (fun h => absurd rfl h); · simp only [↓set_get, Nat.reduceEqDiff, Bool.false_eq_true, ↓reduceIte, aenv0, aenvS, aenvN, one_ne, g2, g4, e2x, e2c]; done) | (refine al_guard (b := false) rfl ?_ (fun _ => ?_) (fun h => absurd rfl h); · simp only [↓set_get, Nat.reduceEqDiff, Bool.false_eq_true, ↓reduceIte, aenv0, aenvS, aenvN, one_ne, g2, g4, e2x, e2c]; done) | (refine al_guard (b := true) rfl ?_ (fun h => Bool.noConfusion h) (fun _ => ?_); · simp only [↓set_get, Nat.reduceEqDiff, Bool.false_eq_true, ↓reduceIte, aenv0, aenvS, aenvN, one_ne, g2, g4, e2x, e2c]; done) | (refine al_guard (b := false) rfl ?_ (fun h => Bool.noConfusion h) (fun _ => ?_); · simp only [↓set_get, Nat.reduceEqDiff, Bool.false_eq_true, ↓reduceIte, aenv0, aenvS, aenvN, one_ne, g2, g4, e2x, e2c]; done) | (refine al_guard0 rfl ?_ ?_; · simp only [↓set_get, Nat.reduceEqDiff, Bool.false_eq_true, ↓reduceIte, aenv0, aenvS, aenvN, one_ne, g2, g4, e2x, e2c]; done) | (refine al_none ?_ ?_ ?_ ?_; rotate_left 2; (· intro K hK; simp (disch := omega) only [go_sem, ↓set_get, ↓reduceIte, ↓o_bsl, ↓o_build, Nat.reduceEqDiff, Nat.reduceAdd, Nat.reduceMul, Int.reduceEq, Int.reduceNe, set_other, del_other, g2, g4, e2x, e2c]; (repeat' (first | exact hK | (refine And.intro ?_ ?_) | assumption | omega))))))
  refine al_nil (rx_rep (r := mkR i k 0 [] [] t false) (x := c) (set_same _ _ _) .nil .nil .nil (.done ?_))
  refine awp_ret (afin_cell s (hlec _ (hlec _ hle2)) ?_)
  simp only [ares, aone, ↓set_get, Nat.reduceEqDiff, Bool.false_eq_true, ↓reduceIte, aenv0, aenvS, aenvN, one_ne, g4, load_ptr, tagg100, tsz100, set_same]
  exact ⟨_, _, rfl, by simp only [read_t, hpl, List.drop_zero, tk6]; exact ⟨by decide, hK⟩⟩
end Go.Proofs.Try
