/- messages: requests put, as the document has it; walked. -/
import Derived.Test.YtgbfchagmniiiaaMD
set_option maxRecDepth 8000
set_option linter.unusedSimpArgs false
set_option linter.unusedVariables false
namespace Go.Proofs.Try
open Go Go.Av
set_option pp.maxSteps 900
attribute [local irreducible] alist awp adraw apure
attribute [local go_sem] cellsOf_int cellsOf_bool cellsOf_str cellsOf_nilp cellsOf_nil cellsOf_e0 cellsOf_sl cellsOf_osl cellsOf_ptr cellsOf_eptr cellsOf_fn cellsOf_agg okc_int okc_bool okc_str okc_nilp okc_nil okc_e0 okc_sl okc_osl okc_ptr okc_eptr okc_fn okc_agg and_assoc splice_0n splice_0c splice_s load_ptr load_eptr read_t read_f store_p cells_inj set_same exists_and_left List.length_cons List.length_nil List.drop_zero List.drop_succ_cons List.take_succ_cons List.take_zero Option.isSome_some
variable {γ : Gl} {σ s : St} {K : D → St → Prop}
attribute [local go_sem] List.length_append natc0 eq_self

theorem rNumber_c {n : Int} (h0 : 0 ≤ n) (h1 : n ≤ 9223372036854775807) (hK : K (.str (numB n.toNat)) s) : ACalls prog γ 105 [.int .i64 n] s K := by
  refine acalls_of_awp (by kernel_rfl) func105 rfl (by kernel_rfl) rfl rfl (by kernel_rfl) (Nat.le_of_ble_eq_true rfl) ?_
  refine rs ?_
  refine run ?_
  refine al_done ?_
  refine rs ?_
  refine run ?_
  (refine al_set ?_ ?_ ?_ ?_; rotate_left 2; (· intro K hK; refine S1 ?_; refine Or.inl (rNum_c (by omega) (by omega) ?_); exact hK))
  refine run ?_
  refine rets ?_
  exact hK
def I64 (n : Int) : Prop := -9223372036854775808 ≤ n ∧ n ≤ 9223372036854775807
theorem rNumM_c {n : Int} (h1 : I64 n) (hK : K (.str (numB n.toNat)) s) : ACalls prog γ 105 [.int .i64 (if n < 0 then 0 else n)] s K := by
  by_cases h : n < 0
  · rw [if_pos h]
    refine rNumber_c (by decide) (by decide) ?_
    rw [show n.toNat = 0 by omega] at hK; exact hK
  · rw [if_neg h]; exact rNumber_c (by omega) h1.2 hK
theorem rGood_c {n : Int} (hK : K (.bool (decide (goodN n))) s) : ACalls prog γ 106 [.int .i64 n] s K := by
  refine acalls_of_awp (by kernel_rfl) func106 rfl (by kernel_rfl) rfl rfl (by kernel_rfl) (Nat.le_of_ble_eq_true rfl) ?_
  refine rs ?_
  refine run ?_
  refine al_done ?_
  refine asc ?_; refine awp_rj (fun ρ' s' => s' = s ∧ ρ' 2 = .bool (decide (goodN n))) ?_ ?_
  · intro K' hJ
    (repeat' (first | refine run1 ?_ | (refine al_guard rfl (by simp only [↓set_get, Nat.reduceEqDiff, Bool.false_eq_true, ↓reduceIte, aenv0, aenvS, aenvN, one_ne]; rfl) (fun hb => ?_) (fun hb => ?_) <;> (try simp only [ne_eq, Bool.not_eq_true, Bool.not_eq_false] at hb) <;> have hb2 := hb <;> (try simp only [decide_eq_true_eq, decide_eq_false_iff_not, beq_iff_eq, beq_eq_false_iff_ne, bne_iff_ne, ne_eq, Bool.not_eq_true', Bool.not_eq_false'] at hb2) <;> (try rw [hb]))))
    all_goals refine al_nil (hJ _ _ ⟨rfl, ?_⟩)
    all_goals simp only [↓set_get, Nat.reduceEqDiff, Bool.false_eq_true, ↓reduceIte, aenv0, aenvS, aenvN, one_ne]
    all_goals (first | exact bool_t (by unfold goodN; omega) | exact bool_f (by unfold goodN; omega) | exact bool_s (by unfold goodN; (first | rw [decide_eq_true_eq] | rw [beq_iff_eq] | rw [bne_iff_ne]); omega))
  rintro ρ1 s ⟨rfl, g2⟩
  refine awp_ret (afin_ret (.done ?_)); simp only [ares, aone, g2]
  exact hK
theorem awp_uj {P : Program} {ρ : Env} {σ : St} {c : Operand} {x rest : Code} {Q : AExit → Env → St → Prop} {b : Bool} (R : Env → St → Prop) (hc : aeval γ ρ c = .bool b) (h1 : b = true → R ρ σ) (h0 : b = false → ∀ K : Env → St → Prop, (∀ ρ σ, Rx R ρ σ → K ρ σ) → awp P γ x (AExit.thn K Q) ρ σ) (h2 : ∀ ρ σ, R ρ σ → awp P γ rest Q ρ σ) : awp P γ (.seq (.cond c .skip x) rest) Q ρ σ :=
  awp_seq (awp_cond hc (fun hb => awp_skip (Rx.done (h2 _ _ (h1 hb)))) (fun hb => h0 hb _ fun ρ σ h => h.mono h2))
def ReqB (r : Req) : Prop := I64 r.id ∧ I64 r.kind ∧ I64 r.fr ∧ I64 r.cnt ∧ I64 r.size
theorem rPutRequest_c {r : Req} (hb : ReqB r) (hK : K (dPR r) s) : ACalls prog γ 70 [.agg (reqD r)] s K := by
  have hrl := reqD_len r
  have c0 : (reqD r)[0]? = some (.int .i64 r.id) := rfl
  have c1 : (reqD r)[1]? = some (.int .i64 r.kind) := rfl
  have c2 : (reqD r)[2]? = some (.int .i64 r.fr) := rfl
  have c3 : (reqD r)[3]? = some (.int .i64 r.cnt) := rfl
  have c4 : (reqD r)[4]? = some (.int .i64 r.size) := rfl
  obtain ⟨b0, b1, b2, b3, b4⟩ := hb
  refine acalls_of_awp (by kernel_rfl) func70 rfl (by kernel_rfl) rfl rfl (by kernel_rfl) (Nat.le_of_ble_eq_true rfl) ?_
  refine rs ?_
  (refine aF ?_; intro p hp; (try (have h_hp := hp; simp only [set_none] at h_hp)))
  refine run ?_
  refine al_done ?_
  obtain ⟨s1, hs1⟩ : ∃ x, s.set p (.cells (reqD r) 98) = x := ⟨_, rfl⟩
  have hpc : s1 p = some (.cells (reqD r) 98) := by rw [← hs1]; exact set_same _ _ _
  have hle : s.le s1 := by rw [← hs1]; exact le_set _ hp
  rw [hs1]
  clear hs1 hp
  refine asc ?_; refine awp_pure (by kernel_rfl) ?_
  refine runPX (And.intro hpc (And.intro c0 c1)) ?_
  (refine ap_set ?_ ?_ ?_; rotate_left 1; (· intro K hK; refine S0 ?_; refine Or.inl (rNumM_c b0 ?_); exact hK))
  have l0 := length_numB (n := r.id.toNat) (by have := b0.2; omega)
  have l1 := length_numB (n := r.kind.toNat) (by have := b1.2; omega)
  have l2 := length_numB (n := r.fr.toNat) (by have := b2.2; omega)
  have l3 := length_numB (n := r.cnt.toNat) (by have := b3.2; omega)
  have l4 := length_numB (n := r.size.toNat) (by have := b4.2; omega)
  refine runPX (And.intro hpc (And.intro c0 c1)) ?_
  (refine ap_set ?_ ?_ ?_; rotate_left 1; (· intro K hK; refine S0 ?_; refine Or.inl (rNumM_c b1 ?_); exact hK))
  refine runPX (And.intro hpc (And.intro c0 c1)) ?_
  refine ap_done ?_
  obtain ⟨W, hW⟩ : ∃ W, 81 :: (numB r.id.toNat ++ numB r.kind.toNat) = W := ⟨_, rfl⟩
  have hWl : W.length ≤ 21 := by rw [← hW, List.length_cons, List.length_append]; omega
  have hW2 : (81 :: numB r.id.toNat) ++ numB r.kind.toNat = W := hW
  refine rs ?_
  refine runX (And.intro hpc c0) ?_
  (refine al_set ?_ ?_ ?_ ?_; rotate_left 2; (· intro K hK; refine S1 ?_; refine Or.inl (rGood_c ?_); exact hK))
  refine run ?_
  refine al_done ?_
  refine asc ?_; refine awp_rj (fun ρ' s' => s' = s1 ∧ ρ' 1 = .ptr p 0 ∧ ρ' 4 = .str W ∧ ρ' 5 = .bool (decide (goodN r.id)) ∧ ρ' 20 = .int .i64 r.kind) ?_ ?_
  · intro K' hJ
    refine runX (And.intro hpc c1) ?_
    refine al_nil (hJ _ _ ⟨rfl, ?_, ?_, ?_, ?_⟩)
    all_goals simp only [↓set_get, Nat.reduceEqDiff, Bool.false_eq_true, ↓reduceIte, aenv0, aenvS, aenvN, one_ne, hW]
  rintro ρ s1 ⟨rfl, g1, g4, g5, g20⟩
  refine asc ?_; refine awp_bj (fun ρ' s' => s' = s1 ∧ ∃ U, ρ' 4 = .str U ∧ ρ' 5 = .bool (decide (ROk r)) ∧ (ROk r → U = putR r)) ?_ ?_
  · intro K' hJ
    by_cases k1 : r.kind = 1
    · have e1 : (r.kind == 1) = true := by rw [k1]; rfl
      have hr : ROk r ↔ goodN r.id := by
        rw [ROk]; simp only [nums, k1, idx]; simp [Req.at5, k1, goodN]
      have hpr : W = putR r := by rw [← hW, putR]; simp [nums, k1, idx, Req.at5, nsB]
      have hd : decide (goodN r.id) = decide (ROk r) := decide_eq_decide.2 hr.symm
      refine rs ?_
      refine runX (And.intro e1 g20) ?_
      refine al_done ?_
      refine asc ?_
      refine awp_seq ?_
      refine ac ?_ ?_
      · intro _
        refine awp_skip (.done ?_)
        refine ac ?_ ?_
        · intro _
          refine awp_skip (hJ _ _ (.done ⟨rfl, W, ?_, ?_, fun _ => hpr⟩))
          · simp only [↓set_get, Nat.reduceEqDiff, Bool.false_eq_true, ↓reduceIte, aenv0, aenvS, aenvN, one_ne, g4]
          · simp only [↓set_get, Nat.reduceEqDiff, Bool.false_eq_true, ↓reduceIte, aenv0, aenvS, aenvN, one_ne, g5, hd]
        · intro h; cases h
      · intro h; cases h
    have e1 : (r.kind == 1) = false := by rw [beq_eq_false_iff_ne]; exact k1
    refine rs ?_
    refine runX (And.intro e1 g20) ?_
    refine al_done ?_
    refine asc ?_
    refine awp_seq ?_
    refine ac ?_ ?_
    · intro h; cases h
    intro _
    by_cases k5 : r.kind = 5
    · have e5 : (r.kind == 5) = true := by rw [k5]; rfl
      have hr : ROk r ↔ goodN r.id := by
        rw [ROk]; simp only [nums, k5, idx]; simp [Req.at5, k5, goodN]
      have hpr : W = putR r := by rw [← hW, putR]; simp [nums, k5, idx, Req.at5, nsB]
      have hd : decide (goodN r.id) = decide (ROk r) := decide_eq_decide.2 hr.symm
      refine awp_region ?_
      refine runX (And.intro e5 g20) ?_
      refine al_nil (.done ?_)
      refine ac ?_ ?_
      · intro _
        refine awp_skip (hJ _ _ (.done ⟨rfl, W, ?_, ?_, fun _ => hpr⟩))
        · simp only [↓set_get, Nat.reduceEqDiff, Bool.false_eq_true, ↓reduceIte, aenv0, aenvS, aenvN, one_ne, g4]
        · simp only [↓set_get, Nat.reduceEqDiff, Bool.false_eq_true, ↓reduceIte, aenv0, aenvS, aenvN, one_ne, g5, hd]
      · intro h; cases h
    have e5 : (r.kind == 5) = false := by rw [beq_eq_false_iff_ne]; exact k5
    refine awp_region ?_
    refine runX (And.intro e5 g20) ?_
    refine al_nil (.done ?_)
    refine ac ?_ ?_
    · intro h; cases h
    intro _
    by_cases k2 : r.kind = 2
    · have e2 : (r.kind == 2) = true := by rw [k2]; rfl
      have hr : ROk r ↔ (goodN r.id ∧ goodN r.fr) ∧ goodN r.cnt ∧ goodN r.size := by
        rw [ROk]; simp only [nums, k2, idx]; simp [Req.at5, k2, goodN, and_assoc]
      have hpr : ((W ++ numB r.fr.toNat) ++ numB r.cnt.toNat) ++ numB r.size.toNat = putR r := by rw [← hW, putR]; simp [nums, k2, idx, Req.at5, nsB]
      refine rs ?_
      refine runX (And.intro e2 g20) ?_
      refine al_done ?_
      refine ac ?_ ?_
      · intro _
        refine asc ?_; refine awp_rj (fun ρ' s' => s' = s1 ∧ ρ' 1 = .ptr p 0 ∧ ρ' 4 = .str W ∧ ρ' 5 = .bool (decide (ROk r))) ?_ ?_
        · intro K2 hJ2
          (repeat' (first | refine run1X (And.intro hpc (And.intro c2 (And.intro c3 (And.intro c4 (And.intro g1 g5))))) ?_ | (refine al_set ?_ ?_ ?_ ?_; rotate_left 2; (· intro K hK; refine S1X (And.intro hpc (And.intro c2 (And.intro c3 (And.intro c4 (And.intro g1 g5))))) ?_; refine Or.inl (rGood_c ?_); exact hK)) | (refine al_guard rfl (by simp only [↓set_get, Nat.reduceEqDiff, Bool.false_eq_true, ↓reduceIte, aenv0, aenvS, aenvN, one_ne, hpc, c2, c3, c4, g1, g5]; rfl) (fun hb => ?_) (fun hb => ?_) <;> (try simp only [ne_eq, Bool.not_eq_true, Bool.not_eq_false] at hb) <;> have hb2 := hb <;> (try simp only [decide_eq_true_eq, decide_eq_false_iff_not, beq_iff_eq, beq_eq_false_iff_ne, bne_iff_ne, ne_eq, Bool.not_eq_true', Bool.not_eq_false'] at hb2) <;> (try rw [hb]))))
          all_goals refine al_nil (hJ2 _ _ ⟨rfl, ?_, ?_, ?_⟩)
          all_goals simp only [↓set_get, Nat.reduceEqDiff, Bool.false_eq_true, ↓reduceIte, aenv0, aenvS, aenvN, one_ne, g1, g4]
          all_goals (congr 1; rw [Bool.eq_iff_iff]; simp_all)
        rintro ρ s1 ⟨rfl, g1, g4, g5⟩
        refine awp_draw1 [true, true, true, true, true, true, true, true, true, true, true, true, true, true, true, true, true] (by kernel_rfl) ?_
        refine runDX (And.intro g1 (And.intro g4 (And.intro hpc c2))) ?_
        (refine pa_set ?_ ?_ ?_; rotate_left 1; (· intro K hK; refine S1 ?_; refine Or.inl (rNumM_c b2 ?_); exact hK))
        refine runDX (And.intro g1 (And.intro hpc c3)) ?_
        (refine pa_set ?_ ?_ ?_; rotate_left 1; (· intro K hK; refine S1 ?_; refine Or.inl (rNumM_c b3 ?_); exact hK))
        refine runDX (And.intro g1 (And.intro hpc c4)) ?_
        (refine pa_set ?_ ?_ ?_; rotate_left 1; (· intro K hK; refine S1 ?_; refine Or.inl (rNumM_c b4 ?_); exact hK))
        refine runD ?_
        refine pa_nil ?_
        refine passes ?_
        refine pt_end ?_
        refine hJ _ _ (.done ⟨rfl, _, ?_, ?_, fun _ => hpr⟩)
        · simp only [↓set_get, Nat.reduceEqDiff, Bool.false_eq_true, ↓reduceIte, aenv0, aenvS, aenvN, one_ne, List.append_assoc]
        · simp only [↓set_get, Nat.reduceEqDiff, Bool.false_eq_true, ↓reduceIte, aenv0, aenvS, aenvN, one_ne, g5]
      · intro h; cases h
    have e2 : (r.kind == 2) = false := by rw [beq_eq_false_iff_ne]; exact k2
    refine rs ?_
    refine runX (And.intro e2 g20) ?_
    refine al_done ?_
    refine ac ?_ ?_
    · intro h; cases h
    intro _
    refine rs ?_
    refine runX g20 ?_
    refine al_done ?_
    refine asc ?_
    refine awp_uj (fun ρ' s' => s' = s1 ∧ ρ' 1 = .ptr p 0 ∧ ρ' 4 = .str W ∧ ρ' 5 = .bool (decide (goodN r.id)) ∧ ρ' 58 = .bool (decide (r.kind = 3 ∨ r.kind = 4))) (b := r.kind == 3) (by simp only [aeval, ↓set_get, Nat.reduceEqDiff, Bool.false_eq_true, ↓reduceIte, aenv0, aenvS, aenvN, one_ne]) ?_ ?_ ?_
    · intro h3
      have h3 : r.kind = 3 := beq_iff_eq.1 h3
      refine ⟨rfl, ?_, ?_, ?_, ?_⟩
      all_goals simp only [↓set_get, Nat.reduceEqDiff, Bool.false_eq_true, ↓reduceIte, aenv0, aenvS, aenvN, one_ne, g1, g4, g5]
      rw [h3]; rfl
    · intro h3 K3 hJ3
      have h3 : ¬ r.kind = 3 := beq_eq_false_iff_ne.1 h3
      refine awp_region ?_
      refine runX g20 ?_
      refine al_nil (hJ3 _ _ (.done ⟨rfl, ?_, ?_, ?_, ?_⟩))
      all_goals simp only [↓set_get, Nat.reduceEqDiff, Bool.false_eq_true, ↓reduceIte, aenv0, aenvS, aenvN, one_ne, g1, g4, g5]
      congr 1
      rw [Bool.eq_iff_iff]; simp [h3]
    rintro ρ s1 ⟨rfl, g1, g4, g5, g58⟩
    by_cases k34 : r.kind = 3 ∨ r.kind = 4
    · have e34 : decide (r.kind = 3 ∨ r.kind = 4) = true := decide_eq_true k34
      have hr : ROk r ↔ (goodN r.id ∧ goodN r.fr) ∧ goodN r.size := by
        rw [ROk]; simp only [nums, idx, if_neg k2, if_pos k34]
        rcases k34 with k | k <;> simp [Req.at5, k, goodN, and_assoc]
      have hpr : (W ++ numB r.fr.toNat) ++ numB r.size.toNat = putR r := by rw [← hW, putR]; simp only [nums, idx, if_neg k2, if_pos k34]; simp [Req.at5, nsB]
      rw [e34] at g58
      refine acX g58 ?_ ?_
      · intro _
        refine asc ?_; refine awp_rj (fun ρ' s' => s' = s1 ∧ ρ' 1 = .ptr p 0 ∧ ρ' 4 = .str W ∧ ρ' 5 = .bool (decide (ROk r))) ?_ ?_
        · intro K2 hJ2
          (repeat' (first | refine run1X (And.intro hpc (And.intro c2 (And.intro c4 (And.intro g1 g5)))) ?_ | (refine al_set ?_ ?_ ?_ ?_; rotate_left 2; (· intro K hK; refine S1X (And.intro hpc (And.intro c2 (And.intro c4 (And.intro g1 g5)))) ?_; refine Or.inl (rGood_c ?_); exact hK)) | (refine al_guard rfl (by simp only [↓set_get, Nat.reduceEqDiff, Bool.false_eq_true, ↓reduceIte, aenv0, aenvS, aenvN, one_ne, hpc, c2, c4, g1, g5]; rfl) (fun hb => ?_) (fun hb => ?_) <;> (try simp only [ne_eq, Bool.not_eq_true, Bool.not_eq_false] at hb) <;> have hb2 := hb <;> (try simp only [decide_eq_true_eq, decide_eq_false_iff_not, beq_iff_eq, beq_eq_false_iff_ne, bne_iff_ne, ne_eq, Bool.not_eq_true', Bool.not_eq_false'] at hb2) <;> (try rw [hb]))))
          all_goals refine al_nil (hJ2 _ _ ⟨rfl, ?_, ?_, ?_⟩)
          all_goals simp only [↓set_get, Nat.reduceEqDiff, Bool.false_eq_true, ↓reduceIte, aenv0, aenvS, aenvN, one_ne, g1, g4]
          all_goals (congr 1; rw [Bool.eq_iff_iff]; simp_all)
        rintro ρ s1 ⟨rfl, g1, g4, g5⟩
        refine awp_draw1 [true, true, true, true, true, true, true, true, true, true, true, true] (by kernel_rfl) ?_
        refine runDX (And.intro g1 (And.intro g4 (And.intro hpc c2))) ?_
        (refine pa_set ?_ ?_ ?_; rotate_left 1; (· intro K hK; refine S1 ?_; refine Or.inl (rNumM_c b2 ?_); exact hK))
        refine runDX (And.intro g1 (And.intro hpc c4)) ?_
        (refine pa_set ?_ ?_ ?_; rotate_left 1; (· intro K hK; refine S1 ?_; refine Or.inl (rNumM_c b4 ?_); exact hK))
        refine runD ?_
        refine pa_nil ?_
        refine passes ?_
        refine pt_end ?_
        refine hJ _ _ (.done ⟨rfl, _, ?_, ?_, fun _ => hpr⟩)
        · simp only [↓set_get, Nat.reduceEqDiff, Bool.false_eq_true, ↓reduceIte, aenv0, aenvS, aenvN, one_ne, List.append_assoc]
        · simp only [↓set_get, Nat.reduceEqDiff, Bool.false_eq_true, ↓reduceIte, aenv0, aenvS, aenvN, one_ne, g5]
      · intro h; cases h
    · have e34 : decide (r.kind = 3 ∨ r.kind = 4) = false := decide_eq_false k34
      have hno : ¬ ROk r := by
        intro h
        have h1 := h.1.1
        have h2 := h.1.2
        omega
      rw [e34] at g58
      refine acX g58 ?_ ?_
      · intro h; cases h
      intro _
      refine awp_region ?_
      refine run ?_
      refine al_nil (hJ _ _ (.done ⟨rfl, W, ?_, ?_, fun h => absurd h hno⟩))
      · simp only [↓set_get, Nat.reduceEqDiff, Bool.false_eq_true, ↓reduceIte, aenv0, aenvS, aenvN, one_ne, g4]
      · simp only [↓set_get, Nat.reduceEqDiff, Bool.false_eq_true, ↓reduceIte, aenv0, aenvS, aenvN, one_ne, decide_eq_false hno]
  · rintro ρ s1 ⟨rfl, U, g4, g5, hU⟩
    refine rs ?_
    refine runX g5 ?_
    refine al_done ?_
    by_cases hok : ROk r
    · have hd : decide (ROk r) = true := decide_eq_true hok
      rw [dPR, if_pos hok, ← hU hok] at hK
      refine asc ?_; refine ai ?_ ?_
      · intro h; rw [hd] at h; cases h
      · intro _
        refine rs ?_
        refine runX g4 ?_
        refine al_done (awp_ret (afin_ret (.forget s hle (.done ?_)))); simp only [ares, aone, ↓set_get, Nat.reduceEqDiff, Bool.false_eq_true, ↓reduceIte, aenv0, aenvS, aenvN, one_ne]
        exact hK
    · have hd : decide (ROk r) = false := decide_eq_false hok
      rw [dPR, if_neg hok] at hK
      refine asc ?_; refine ai ?_ ?_
      · intro _
        refine rs ?_
        refine run ?_
        refine al_done (awp_ret (afin_ret (.forget s hle (.done ?_)))); simp only [ares, aone, ↓set_get, Nat.reduceEqDiff, Bool.false_eq_true, ↓reduceIte, aenv0, aenvS, aenvN, one_ne]
        exact hK
      · intro h; rw [hd] at h; cases h
end Go.Proofs.Try
