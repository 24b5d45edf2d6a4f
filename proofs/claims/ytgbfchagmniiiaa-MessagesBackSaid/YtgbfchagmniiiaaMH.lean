/- messages: replies put, as the document has it; walked. -/
import Derived.Test.YtgbfchagmniiiaaMG
set_option maxRecDepth 8000
set_option linter.unusedSimpArgs false
set_option linter.unusedVariables false
namespace Go.Proofs.Try
open Go Go.Av
set_option pp.maxSteps 900
attribute [local irreducible] alist awp adraw apure
attribute [local go_sem] cellsOf_int cellsOf_bool cellsOf_str cellsOf_nilp cellsOf_nil cellsOf_e0 cellsOf_sl cellsOf_osl cellsOf_ptr cellsOf_eptr cellsOf_fn cellsOf_agg okc_int okc_bool okc_str okc_nilp okc_nil okc_e0 okc_sl okc_osl okc_ptr okc_eptr okc_fn okc_agg and_assoc splice_0n splice_0c splice_s load_ptr load_eptr read_t read_f store_p cells_inj set_same exists_and_left List.length_cons List.length_nil List.drop_zero List.drop_succ_cons List.take_succ_cons List.take_zero Option.isSome_some
variable {γ : Gl} {σ s : St} {K : D → St → Prop}
attribute [local go_sem] List.length_append natc0 eq_self sgD_len sgD_a spl91 splice_self List.length_replicate length_bytesD sgsD_len bne_self_eq_false Int.toNat_natCast

def eOk (l : List (List UInt8)) (n k : Nat) : Prop := (l.length ≤ 16 ∧ n ≤ 64) ∧ shortE (l.take k)
instance (l : List (List UInt8)) (n k : Nat) : Decidable (eOk l n k) := by unfold eOk; infer_instance
theorem eOk_0 (l : List (List UInt8)) (n : Nat) : eOk l n 0 ↔ l.length ≤ 16 ∧ n ≤ 64 := by simp [eOk, shortE]
theorem eOk_s {l : List (List UInt8)} {n k : Nat} (h : k < l.length) : eOk l n (k + 1) ↔ eOk l n k ∧ l[k].length ≤ 200 := by
  unfold eOk shortE
  rw [List.take_succ_eq_append_getElem h]
  simp only [List.mem_append, List.mem_singleton, or_imp, forall_and, forall_eq, and_assoc]
theorem rPutReply_c {r : Rep} (hf : Fin r) (hK : K (dPP r) s) : ACalls prog γ 72 [.agg (repD r)] s K := by
  have hrl := repD_len r
  have c0 : (repD r)[0]? = some (.int .i64 r.id) := rfl
  have c1 : (repD r)[1]? = some (.int .i64 r.kind) := rfl
  have c2 : (repD r)[2]? = some (.int .i64 r.code) := rfl
  have c3 : (repD r)[3]? = some (.sl r.heads.length (sgsD r.heads) none) := rfl
  have c4 : (repD r)[4]? = some (.sl r.entries.length (txD r.entries) none) := rfl
  have c5 : (repD r)[5]? = some (.sl r.proof.length (bytesD r.proof.flatten) none) := rfl
  obtain ⟨⟨hH, hE, hP⟩, hT, _, _, hco⟩ := hf
  have hpl := hashesB_len r.hp
  refine acalls_of_awp (by kernel_rfl) func72 rfl (by kernel_rfl) rfl rfl (by kernel_rfl) (Nat.le_of_ble_eq_true rfl) ?_
  refine rs ?_
  (refine aF ?_; intro p hp; (try (have h_hp := hp; simp only [set_none] at h_hp)))
  refine run ?_
  refine al_done ?_
  obtain ⟨s1, hs1⟩ : ∃ x, s.set p (.cells (repD r) 100) = x := ⟨_, rfl⟩
  have hpc : s1 p = some (.cells (repD r) 100) := by rw [← hs1]; exact set_same _ _ _
  have hle : s.le s1 := by rw [← hs1]; exact le_set _ hp
  rw [hs1]
  clear hs1 hp
  refine rs ?_
  refine run ?_
  refine al_done ?_
  refine asc ?_; refine awp_rj (fun ρ' s' => s' = s1 ∧ ρ' 1 = .ptr p 0 ∧ ρ' 4 = .str [] ∧ ρ' 5 = .bool false ∧ ρ' 8 = .int .i64 r.kind) ?_ ?_
  · intro K' hJ
    refine runX (And.intro hpc c1) ?_
    refine al_nil (hJ _ _ ⟨rfl, ?_, ?_, ?_, ?_⟩)
    all_goals simp only [↓set_get, Nat.reduceEqDiff, Bool.false_eq_true, ↓reduceIte, aenv0, aenvS, aenvN, one_ne]
  rintro ρ s1 ⟨rfl, g1, g4, g5, g8⟩
  refine asc ?_; refine awp_bj (fun ρ' s' => s' = s1 ∧ ρ' 1 = .ptr p 0 ∧ ∃ U, ρ' 4 = .str U ∧ ρ' 5 = .bool (decide (BOk r)) ∧ (BOk r → U = bodyB r)) ?_ ?_
  · intro K' hJ
    by_cases k1 : r.kind = 1
    · have e1 : (r.kind == 1) = true := by rw [k1]; rfl
      have hB : BOk r ↔ 1 ≤ r.code ∧ r.code ≤ 255 := by rw [BOk, if_pos k1]
      have hU : bodyB r = numB r.code.toNat := by rw [bodyB, if_pos k1]
      have hd : decide (1 ≤ r.code ∧ r.code ≤ 255) = decide (BOk r) := decide_eq_decide.2 hB.symm
      refine rs ?_
      refine runX (And.intro e1 g8) ?_
      refine al_done ?_
      refine ac ?_ ?_
      · intro _
        refine asc ?_; refine awp_rj (fun ρ' s' => s' = s1 ∧ ρ' 1 = .ptr p 0 ∧ ρ' 5 = .bool (decide (1 ≤ r.code ∧ r.code ≤ 255))) ?_ ?_
        · intro K2 hJ2
          (repeat' (first | refine run1X (And.intro hpc (And.intro c2 g1)) ?_ | (refine al_guard rfl (by simp only [↓set_get, Nat.reduceEqDiff, Bool.false_eq_true, ↓reduceIte, aenv0, aenvS, aenvN, one_ne, hpc, c2, g1]; rfl) (fun hb => ?_) (fun hb => ?_) <;> (try simp only [ne_eq, Bool.not_eq_true, Bool.not_eq_false] at hb) <;> have hb2 := hb <;> (try simp only [decide_eq_true_eq, decide_eq_false_iff_not, beq_iff_eq, beq_eq_false_iff_ne, bne_iff_ne, ne_eq, Bool.not_eq_true', Bool.not_eq_false'] at hb2) <;> (try rw [hb]))))
          all_goals refine al_nil (hJ2 _ _ ⟨rfl, ?_, ?_⟩)
          all_goals simp only [↓set_get, Nat.reduceEqDiff, Bool.false_eq_true, ↓reduceIte, aenv0, aenvS, aenvN, one_ne, g1]
          all_goals (first | exact bool_t (by omega) | exact bool_f (by omega) | exact bool_s (by (first | rw [decide_eq_true_eq] | rw [beq_iff_eq] | rw [bne_iff_ne]); omega))
        rintro ρ s1 ⟨rfl, g1, g5⟩
        rw [hd] at g5
        refine awp_region ?_
        refine runX (And.intro hpc (And.intro c2 g1)) ?_
        (refine al_set ?_ ?_ ?_ ?_; rotate_left 2; (· intro K hK; refine S1 ?_; refine Or.inl (rNumM_c hco ?_); exact hK))
        refine run ?_
        refine al_nil (hJ _ _ (.done ⟨rfl, ?_, _, ?_, ?_, fun _ => hU.symm⟩))
        all_goals simp only [↓set_get, Nat.reduceEqDiff, Bool.false_eq_true, ↓reduceIte, aenv0, aenvS, aenvN, one_ne, g1, g5]
      · intro h; cases h
    have e1 : (r.kind == 1) = false := by rw [beq_eq_false_iff_ne]; exact k1
    refine rs ?_
    refine runX (And.intro e1 g8) ?_
    refine al_done ?_
    refine ac ?_ ?_
    · intro h; cases h
    intro _
    by_cases k2 : r.kind = 2
    · have e2 : (r.kind == 2) = true := by rw [k2]; rfl
      have hB : BOk r ↔ allV r.heads ∧ r.heads.length = 1 := by rw [BOk, if_neg k1, if_pos k2]
      have hU : bodyB r = gB r.heads := by rw [bodyB, if_neg k1, if_pos k2]
      refine rs ?_
      refine runX (And.intro e2 g8) ?_
      refine al_done ?_
      refine ac ?_ ?_
      · intro _
        refine rs ?_
        refine runX (And.intro hpc (And.intro c3 g1)) ?_
        (refine al_set ?_ ?_ ?_ ?_; rotate_left 2; (· intro K hK; refine S1 ?_; refine Or.inl (rSigned_c hH ?_); exact hK))
        rw [dSigR]
        by_cases hv : allV r.heads
        · rw [if_pos hv]
          have hd : ((r.heads.length : Int) == 1) = decide (BOk r) := by rw [beq_d]; exact decide_eq_decide.2 (by rw [hB]; constructor <;> intro h; exact ⟨hv, by omega⟩; have := h.2; omega)
          refine run ?_
          refine al_done ?_
          refine awp_region ?_
          refine runX (And.intro g1 (And.intro hpc (And.intro c3 hd))) ?_
          refine al_nil (hJ _ _ (.done ⟨rfl, ?_, _, ?_, ?_, fun _ => hU.symm⟩))
          all_goals simp only [↓set_get, Nat.reduceEqDiff, Bool.false_eq_true, ↓reduceIte, aenv0, aenvS, aenvN, one_ne, g1]
        · have hno : ¬ BOk r := fun h => hv (hB.1 h).1
          rw [if_neg hv]
          refine run ?_
          refine al_done ?_
          refine awp_region ?_
          refine run ?_
          refine al_nil (hJ _ _ (.done ⟨rfl, ?_, [], ?_, ?_, fun h => absurd h hno⟩))
          all_goals simp only [↓set_get, Nat.reduceEqDiff, Bool.false_eq_true, ↓reduceIte, aenv0, aenvS, aenvN, one_ne, g1, decide_eq_false hno]
      · intro h; cases h
    have e2 : (r.kind == 2) = false := by rw [beq_eq_false_iff_ne]; exact k2
    refine rs ?_
    refine runX (And.intro e2 g8) ?_
    refine al_done ?_
    refine ac ?_ ?_
    · intro h; cases h
    intro _
    by_cases k3 : r.kind = 3
    · have e3 : (r.kind == 3) = true := by rw [k3]; rfl
      have hB : BOk r ↔ (shortE r.entries ∧ r.entries.length ≤ 16) ∧ r.proof.length ≤ 64 := by rw [BOk, if_neg k1, if_neg k2, if_pos k3]
      have hU : bodyB r = entB r.entries ++ hashesB r.proof := by rw [bodyB, if_neg k1, if_neg k2, if_pos k3]
      have hnl := length_numB (n := r.entries.length) (by omega)
      have htxl := txD_len r.entries
      obtain ⟨l, hl⟩ : ∃ l, r.entries = l := ⟨_, rfl⟩
      obtain ⟨c, hc⟩ : ∃ c : Prop, (l.length ≤ 16 ∧ r.proof.length ≤ 64) = c := ⟨_, rfl⟩
      rw [hl] at hB hU hnl htxl hE hT c4
      refine rs ?_
      refine runX (And.intro e3 g8) ?_
      refine al_done ?_
      refine ac ?_ ?_
      · intro _
        refine asc ?_; refine awp_rj (fun ρ' s' => s' = s1 ∧ ρ' 1 = .ptr p 0 ∧ ρ' 5 = .bool (decide (l.length ≤ 16 ∧ r.proof.length ≤ 64))) ?_ ?_
        · intro K2 hJ2
          (repeat' (first | refine run1X (And.intro hpc (And.intro c4 (And.intro c5 g1))) ?_ | (refine al_guard rfl (by simp only [↓set_get, Nat.reduceEqDiff, Bool.false_eq_true, ↓reduceIte, aenv0, aenvS, aenvN, one_ne, hpc, c4, c5, g1]; rfl) (fun hb => ?_) (fun hb => ?_) <;> (try simp only [ne_eq, Bool.not_eq_true, Bool.not_eq_false] at hb) <;> have hb2 := hb <;> (try simp only [decide_eq_true_eq, decide_eq_false_iff_not, beq_iff_eq, beq_eq_false_iff_ne, bne_iff_ne, ne_eq, Bool.not_eq_true', Bool.not_eq_false'] at hb2) <;> (try rw [hb]))))
          all_goals refine al_nil (hJ2 _ _ ⟨rfl, ?_, ?_⟩)
          all_goals simp only [↓set_get, Nat.reduceEqDiff, Bool.false_eq_true, ↓reduceIte, aenv0, aenvS, aenvN, one_ne, g1]
          all_goals (first | exact bool_t (by omega) | exact bool_f (by omega) | exact bool_s (by (first | rw [decide_eq_true_eq] | rw [beq_iff_eq] | rw [bne_iff_ne]); omega))
        rintro ρ s1 ⟨rfl, g1, g5⟩
        refine rs ?_
        refine runX (And.intro hpc (And.intro c4 g1)) ?_
        (refine al_set ?_ ?_ ?_ ?_; rotate_left 2; (· intro K hK; refine S1 ?_; refine Or.inl (rNumber_c (by omega) (by omega) ?_); exact hK))
        refine run ?_
        refine al_done ?_
        refine rs ?_
        refine run ?_
        refine al_done ?_
        refine asc ?_; refine awp_while (fun n ρ τ => ∃ k : Nat, n = l.length - k ∧ k ≤ l.length ∧ τ = s1 ∧ ρ 1 = .ptr p 0 ∧ ρ 4 = .str (numB l.length ++ enB (l.take k)) ∧ ρ 5 = .bool (decide (eOk l r.proof.length k)) ∧ ρ 6 = .int .i64 (k : Nat)) l.length ?_ ?_
        · refine ⟨0, rfl, Nat.zero_le _, rfl, ?_, ?_, ?_, ?_⟩
          all_goals simp only [↓set_get, Nat.reduceEqDiff, Bool.false_eq_true, ↓reduceIte, aenv0, aenvS, aenvN, one_ne, g1, g5]
          · simp [enB]
          · rw [decide_eq_decide.2 (eOk_0 l r.proof.length)]
          · rfl
        rintro n ρ s1 ⟨k, rfl, hk, rfl, g1, g4, g5, g6⟩
        refine rs ?_
        refine runX (And.intro hpc (And.intro c4 (And.intro g1 g6))) ?_
        refine al_done ?_
        refine asc ?_; refine ate ?_ ?_
        · intro hb2
          have hb2 : k < l.length := by have := of_decide_eq_true hb2
                                        omega
          have hat := txD_at l hb2
          have hgl := enB_len (n := 1000) (by decide) (l := l.take k) (fun x hx => hT x (List.mem_of_mem_take hx))
          have htl : (l.take k).length ≤ 1000 := by rw [List.length_take]; omega
          have hlk := hT _ (List.getElem_mem hb2)
          have htx := textB_len (t := l[k]) (by omega)
          have hst := eOk_s (n := r.proof.length) hb2
          refine asc ?_; refine awp_body ?_
          refine asc ?_; refine awp_rj (fun ρ' s' => s' = s1 ∧ ρ' 1 = .ptr p 0 ∧ ρ' 4 = .str (numB l.length ++ enB (l.take k)) ∧ ρ' 5 = .bool (decide (eOk l r.proof.length (k + 1))) ∧ ρ' 6 = .int .i64 (k : Nat)) ?_ ?_
          · intro K2 hJ2
            (repeat' (first | refine run1X (And.intro g1 (And.intro g5 (And.intro g6 (And.intro hpc (And.intro c4 (And.intro hat htxl)))))) ?_ | (refine al_guard rfl (by simp only [↓set_get, Nat.reduceEqDiff, Bool.false_eq_true, ↓reduceIte, aenv0, aenvS, aenvN, one_ne, g1, g5, g6, hpc, c4, hat, htxl]; rfl) (fun hb => ?_) (fun hb => ?_) <;> (try simp only [ne_eq, Bool.not_eq_true, Bool.not_eq_false] at hb) <;> have hb2 := hb <;> (try simp only [decide_eq_true_eq, decide_eq_false_iff_not, beq_iff_eq, beq_eq_false_iff_ne, bne_iff_ne, ne_eq, Bool.not_eq_true', Bool.not_eq_false'] at hb2) <;> (try rw [hb]))))
            all_goals refine al_nil (hJ2 _ _ ⟨rfl, ?_, ?_, ?_, ?_⟩)
            all_goals simp only [↓set_get, Nat.reduceEqDiff, Bool.false_eq_true, ↓reduceIte, aenv0, aenvS, aenvN, one_ne, g1, g4, g6]
            all_goals (congr 1; rw [Bool.eq_iff_iff]; simp_all; try omega)
          rintro ρ s1 ⟨rfl, g1, g4, g5, g6⟩
          refine awp_region ?_
          refine runX (And.intro g1 (And.intro g4 (And.intro g6 (And.intro hpc (And.intro c4 (And.intro hat htxl)))))) ?_
          (refine al_set ?_ ?_ ?_ ?_; rotate_left 2; (· intro K hK; refine S1 ?_; refine Or.inl (rText_t (by omega) ?_); exact hK))
          refine run ?_
          refine al_nil (.done ?_)
          refine awp_region ?_
          refine runX g6 ?_
          refine al_nil ?_
          refine lq_next (l.length - (k + 1)) (by omega) ⟨k + 1, rfl, by omega, rfl, ?_, ?_, ?_, ?_⟩
          · simp only [↓set_get, Nat.reduceEqDiff, Bool.false_eq_true, ↓reduceIte, aenv0, aenvS, aenvN, one_ne, g1]
          · simp only [↓set_get, Nat.reduceEqDiff, Bool.false_eq_true, ↓reduceIte, aenv0, aenvS, aenvN, one_ne]; rw [List.take_succ_eq_append_getElem hb2, enB_add, List.append_assoc]
          · simp only [↓set_get, Nat.reduceEqDiff, Bool.false_eq_true, ↓reduceIte, aenv0, aenvS, aenvN, one_ne, g5]
          · simp only [↓set_get, Nat.reduceEqDiff, Bool.false_eq_true, ↓reduceIte, aenv0, aenvS, aenvN, one_ne]; rfl
        · intro hb2
          have hb2 : k = l.length := by have := of_decide_eq_false hb2
                                        omega
          subst hb2
          rw [List.take_length] at g4
          have hgl := enB_len (n := 1000) (by decide) (l := l) hT
          have hd : decide (eOk l r.proof.length l.length) = decide (BOk r) := decide_eq_decide.2 (by rw [hB, eOk, List.take_length]; exact ⟨fun h => ⟨⟨h.2, h.1.1⟩, h.1.2⟩, fun h => ⟨⟨h.1.2, h.2⟩, h.1.1⟩⟩)
          rw [hd] at g5
          refine lq_exit ?_
          refine awp_region ?_
          refine runX (And.intro g1 (And.intro g4 (And.intro hpc c5))) ?_
          (refine al_set ?_ ?_ ?_ ?_; rotate_left 2; (· intro K hK; refine S1 ?_; refine Or.inl (rHashes_c r.hp (by omega) ?_); exact hK))
          refine run ?_
          refine al_nil (hJ _ _ (.done ⟨rfl, ?_, (numB l.length ++ enB l) ++ hashesB r.proof, ?_, ?_, fun _ => hU.symm⟩))
          · simp only [↓set_get, Nat.reduceEqDiff, Bool.false_eq_true, ↓reduceIte, aenv0, aenvS, aenvN, one_ne, g1]
          · simp only [↓set_get, Nat.reduceEqDiff, Bool.false_eq_true, ↓reduceIte, aenv0, aenvS, aenvN, one_ne, List.append_assoc]
          · simp only [↓set_get, Nat.reduceEqDiff, Bool.false_eq_true, ↓reduceIte, aenv0, aenvS, aenvN, one_ne, g5]
      · intro h; cases h
    have e3 : (r.kind == 3) = false := by rw [beq_eq_false_iff_ne]; exact k3
    refine rs ?_
    refine runX (And.intro e3 g8) ?_
    refine al_done ?_
    refine ac ?_ ?_
    · intro h; cases h
    intro _
    by_cases k4 : r.kind = 4
    · have e4 : (r.kind == 4) = true := by rw [k4]; rfl
      have hB : BOk r ↔ r.proof.length ≤ 64 := by rw [BOk, if_neg k1, if_neg k2, if_neg k3, if_pos k4]
      have hU : bodyB r = hashesB r.proof := by rw [bodyB, if_neg k1, if_neg k2, if_neg k3, if_pos k4]
      have hd : decide ((r.proof.length : Int) ≤ 64) = decide (BOk r) := decide_eq_decide.2 (by rw [hB]; omega)
      refine rs ?_
      refine runX (And.intro e4 g8) ?_
      refine al_done ?_
      refine ac ?_ ?_
      · intro _
        refine rs ?_
        refine runX (And.intro hpc (And.intro c5 (And.intro g1 hd))) ?_
        refine al_done ?_
        refine awp_region ?_
        refine runX (And.intro hpc (And.intro c5 g1)) ?_
        (refine al_set ?_ ?_ ?_ ?_; rotate_left 2; (· intro K hK; refine S1 ?_; refine Or.inl (rHashes_c r.hp (by omega) ?_); exact hK))
        refine run ?_
        refine al_nil (hJ _ _ (.done ⟨rfl, ?_, _, ?_, ?_, fun _ => hU.symm⟩))
        all_goals simp only [↓set_get, Nat.reduceEqDiff, Bool.false_eq_true, ↓reduceIte, aenv0, aenvS, aenvN, one_ne, g1]
      · intro h; cases h
    have e4 : (r.kind == 4) = false := by rw [beq_eq_false_iff_ne]; exact k4
    refine rs ?_
    refine runX (And.intro e4 g8) ?_
    refine al_done ?_
    refine ac ?_ ?_
    · intro h; cases h
    intro _
    by_cases k5 : r.kind = 5
    · have e5 : (r.kind == 5) = true := by rw [k5]; rfl
      have hB : BOk r ↔ allV r.heads ∧ r.heads.length = 2 := by rw [BOk, if_neg k1, if_neg k2, if_neg k3, if_neg k4, if_pos k5]
      have hU : bodyB r = gB r.heads := by rw [bodyB, if_neg k1, if_neg k2, if_neg k3, if_neg k4]
      refine rs ?_
      refine runX (And.intro e5 g8) ?_
      refine al_done ?_
      refine ac ?_ ?_
      · intro _
        refine rs ?_
        refine runX (And.intro hpc (And.intro c3 g1)) ?_
        (refine al_set ?_ ?_ ?_ ?_; rotate_left 2; (· intro K hK; refine S1 ?_; refine Or.inl (rSigned_c hH ?_); exact hK))
        rw [dSigR]
        by_cases hv : allV r.heads
        · rw [if_pos hv]
          have hd : ((r.heads.length : Int) == 2) = decide (BOk r) := by rw [beq_d]; exact decide_eq_decide.2 (by rw [hB]; constructor <;> intro h; exact ⟨hv, by omega⟩; have := h.2; omega)
          refine run ?_
          refine al_done ?_
          refine awp_region ?_
          refine runX (And.intro g1 (And.intro hpc (And.intro c3 hd))) ?_
          refine al_nil (hJ _ _ (.done ⟨rfl, ?_, _, ?_, ?_, fun _ => hU.symm⟩))
          all_goals simp only [↓set_get, Nat.reduceEqDiff, Bool.false_eq_true, ↓reduceIte, aenv0, aenvS, aenvN, one_ne, g1]
        · have hno : ¬ BOk r := fun h => hv (hB.1 h).1
          rw [if_neg hv]
          refine run ?_
          refine al_done ?_
          refine awp_region ?_
          refine run ?_
          refine al_nil (hJ _ _ (.done ⟨rfl, ?_, [], ?_, ?_, fun h => absurd h hno⟩))
          all_goals simp only [↓set_get, Nat.reduceEqDiff, Bool.false_eq_true, ↓reduceIte, aenv0, aenvS, aenvN, one_ne, g1, decide_eq_false hno]
      · intro h; cases h
    have e5 : (r.kind == 5) = false := by rw [beq_eq_false_iff_ne]; exact k5
    refine rs ?_
    refine runX (And.intro e5 g8) ?_
    refine al_done ?_
    refine ac ?_ ?_
    · intro h; cases h
    intro _
    have hno : ¬ BOk r := by
      intro h
      rw [BOk, if_neg k1, if_neg k2, if_neg k3, if_neg k4, if_neg k5] at h; exact h
    refine awp_skip (hJ _ _ (.done ⟨rfl, ?_, [], ?_, ?_, fun h => absurd h hno⟩))
    all_goals simp only [↓set_get, Nat.reduceEqDiff, Bool.false_eq_true, ↓reduceIte, aenv0, aenvS, aenvN, one_ne, g1, g4, g5, decide_eq_false hno]
  · rintro ρ s1 ⟨rfl, g1, U, g4, g5, hU⟩
    refine asc ?_; refine awp_rj (fun ρ' s' => s' = s1 ∧ ρ' 1 = .ptr p 0 ∧ ρ' 4 = .str U ∧ ρ' 115 = .bool (decide (¬ POk r))) ?_ ?_
    · intro K2 hJ2
      (repeat' (first | refine run1X (And.intro g1 (And.intro g5 (And.intro hpc c0))) ?_ | (refine al_set ?_ ?_ ?_ ?_; rotate_left 2; (· intro K hK; refine S1X (And.intro g1 (And.intro g5 (And.intro hpc c0))) ?_; refine Or.inl (rGood_c ?_); exact hK)) | (refine al_guard rfl (by simp only [↓set_get, Nat.reduceEqDiff, Bool.false_eq_true, ↓reduceIte, aenv0, aenvS, aenvN, one_ne, g1, g5, hpc, c0]; rfl) (fun hb => ?_) (fun hb => ?_) <;> (try simp only [ne_eq, Bool.not_eq_true, Bool.not_eq_false] at hb) <;> have hb2 := hb <;> (try simp only [decide_eq_true_eq, decide_eq_false_iff_not, beq_iff_eq, beq_eq_false_iff_ne, bne_iff_ne, ne_eq, Bool.not_eq_true', Bool.not_eq_false'] at hb2) <;> (try rw [hb]))))
      all_goals refine al_nil (hJ2 _ _ ⟨rfl, ?_, ?_, ?_⟩)
      all_goals simp only [↓set_get, Nat.reduceEqDiff, Bool.false_eq_true, ↓reduceIte, aenv0, aenvS, aenvN, one_ne, g1, g4]
      all_goals (congr 1; rw [Bool.eq_iff_iff]; simp_all [POk])
    rintro ρ s1 ⟨rfl, g1, g4, g115⟩
    by_cases hok : POk r
    · have hd : decide (¬ POk r) = false := decide_eq_false (fun h => h hok)
      have hU := hU hok.2
      subst hU
      have hbl := body_len hok.2
      have hk := BOk_kind hok.2
      have hi0 := hok.1.1
      have hi1 := hok.1.2
      have l0 := length_numB (n := r.id.toNat) (by omega)
      have l1 := length_numB (n := r.kind.toNat) (by omega)
      rw [dPP, if_pos hok] at hK
      refine asc ?_; refine aiX g115 ?_ ?_
      · intro h; rw [hd] at h; cases h
      · intro _
        refine asc ?_; refine awp_pure (by kernel_rfl) ?_
        refine runPX (And.intro g1 (And.intro hpc c0)) ?_
        (refine ap_set ?_ ?_ ?_; rotate_left 1; (· intro K hK; refine S0 ?_; refine Or.inl (rNumber_c (by omega) (by omega) ?_); exact hK))
        refine runPX (And.intro g1 (And.intro hpc c1)) ?_
        (refine ap_set ?_ ?_ ?_; rotate_left 1; (· intro K hK; refine S0 ?_; refine Or.inl (rNumber_c (by omega) (by omega) ?_); exact hK))
        refine runPX g4 ?_
        refine ap_done (awp_ret (afin_ret (.forget s hle (.done ?_)))); simp only [ares, aone, ↓set_get, Nat.reduceEqDiff, Bool.false_eq_true, ↓reduceIte, aenv0, aenvS, aenvN, one_ne]
        exact hK
    · have hd : decide (¬ POk r) = true := decide_eq_true hok
      rw [dPP, if_neg hok] at hK
      refine asc ?_; refine aiX g115 ?_ ?_
      · intro _
        refine rs ?_
        refine run ?_
        refine al_done (awp_ret (afin_ret (.forget s hle (.done ?_)))); simp only [ares, aone, ↓set_get, Nat.reduceEqDiff, Bool.false_eq_true, ↓reduceIte, aenv0, aenvS, aenvN, one_ne]
        exact hK
      · intro h; rw [hd] at h; cases h
end Go.Proofs.Try
