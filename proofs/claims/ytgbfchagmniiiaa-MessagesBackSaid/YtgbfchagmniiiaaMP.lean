/- messages: requests got, as the document has it; walked. -/
import Derived.Test.YtgbfchagmniiiaaMO
set_option maxRecDepth 8000
set_option linter.unusedSimpArgs false
set_option linter.unusedVariables false
namespace Go.Proofs.Try
open Go Go.Av
set_option pp.maxSteps 900
attribute [local irreducible] alist awp adraw apure
attribute [local go_sem] cellsOf_int cellsOf_bool cellsOf_str cellsOf_nilp cellsOf_nil cellsOf_e0 cellsOf_sl cellsOf_osl cellsOf_ptr cellsOf_eptr cellsOf_fn cellsOf_agg okc_int okc_bool okc_str okc_nilp okc_nil okc_e0 okc_sl okc_osl okc_ptr okc_eptr okc_fn okc_agg and_assoc splice_0n splice_0c splice_s load_ptr load_eptr read_t read_f store_p cells_inj set_same exists_and_left List.length_cons List.length_nil List.drop_zero List.drop_succ_cons List.take_succ_cons List.take_zero Option.isSome_some
variable {γ : Gl} {σ s : St} {K : D → St → Prop}
attribute [local go_sem] List.length_append natc0 eq_self bne_self_eq_false
theorem awp_cj {P : Program} {ρ : Env} {σ : St} {c : Operand} {x y rest : Code} {Q : AExit → Env → St → Prop} {b : Bool} (R : Env → St → Prop) (hc : aeval γ ρ c = .bool b) (h1 : b = true → ∀ K : Env → St → Prop, (∀ ρ σ, Rx R ρ σ → K ρ σ) → awp P γ x (AExit.thn K Q) ρ σ) (h0 : b = false → ∀ K : Env → St → Prop, (∀ ρ σ, Rx R ρ σ → K ρ σ) → awp P γ y (AExit.thn K Q) ρ σ) (h2 : ∀ ρ σ, R ρ σ → awp P γ rest Q ρ σ) : awp P γ (.seq (.cond c x y) rest) Q ρ σ :=
  awp_seq (awp_cond hc (fun hb => h1 hb _ fun ρ σ h => h.mono h2) (fun hb => h0 hb _ fun ρ σ h => h.mono h2))
theorem rGetRequest_c {t : List UInt8} (ht : t.length ≤ 140737488355328) (hK : K (.tup [.agg (reqD (getR t)), .int .i64 (grE t)]) s) : ACalls prog γ 82 [.str t] s K := by
  have hrl : ∀ r : Req, (reqD r).length = 5 := fun r => rfl
  have c1 : ∀ r : Req, (reqD r)[1]? = some (.int .i64 r.kind) := fun r => rfl
  refine acalls_of_awp (by kernel_rfl) func82 rfl (by kernel_rfl) rfl rfl (by kernel_rfl) (Nat.le_of_ble_eq_true rfl) ?_
  refine rs ?_
  (refine aF ?_; intro c hc; (try (have h_hc := hc; simp only [set_none] at h_hc)))
  refine run ?_
  refine al_done ?_
  rw [zero_req]
  refine asc ?_; refine awp_rj (fun ρ' s' => s' = s.set c (.cells (reqD zeroQ) 98) ∧ ρ' 0 = .str t ∧ ρ' 2 = .ptr c 0 ∧ ρ' 15 = .bool (decide (¬ (t.length ≤ 65536 ∧ t ≠ [])))) ?_ ?_
  · intro K' hJ
    have e0 : ((t.length : Int) == 0) = decide (t = []) := by cases t <;> simp; omega
    (repeat' (first | refine run1X e0 ?_ | (refine al_guard rfl (by simp only [↓set_get, Nat.reduceEqDiff, Bool.false_eq_true, ↓reduceIte, aenv0, aenvS, aenvN, one_ne, e0]; rfl) (fun hb => ?_) (fun hb => ?_) <;> (try simp only [ne_eq, Bool.not_eq_true, Bool.not_eq_false] at hb) <;> have hb2 := hb <;> (try simp only [decide_eq_true_eq, decide_eq_false_iff_not, beq_iff_eq, beq_eq_false_iff_ne, bne_iff_ne, ne_eq, Bool.not_eq_true', Bool.not_eq_false'] at hb2) <;> (try rw [hb]))))
    all_goals refine al_nil (hJ _ _ ⟨rfl, ?_, ?_, ?_⟩)
    all_goals simp only [↓set_get, Nat.reduceEqDiff, Bool.false_eq_true, ↓reduceIte, aenv0, aenvS, aenvN, one_ne]
    all_goals (congr 1; rw [Bool.eq_iff_iff]; simp_all; try omega)
  rintro ρ _ ⟨rfl, g0, g2, g15⟩
  by_cases hl : t.length ≤ 65536 ∧ t ≠ []
  case neg =>
    have hG : ¬ RqOk t := fun h => hl ((ref_getR t).1 h).1
    have hgr : getR t = zeroQ := by rw [getR, if_neg hG]
    rw [hgr, grE, if_neg hG] at hK
    rw [decide_eq_true hl] at g15
    refine asc ?_; refine aiX g15 ?_ ?_
    · intro _
      refine rs ?_
      (refine al_set ?_ ?_ ?_ ?_; rotate_left 2; (· intro K hK; refine S1 ?_; refine build98z ?_; exact hK))
      (repeat (first | (refine al_set ?_ ?_ ?_ ?_; rotate_left 2; (· intro K hK; simp (disch := omega) only [go_sem, ↓set_get, ↓reduceIte, ↓o_bsl, ↓o_build, Nat.reduceEqDiff, Nat.reduceAdd, Nat.reduceMul, Int.reduceEq, Int.reduceNe, set_other, del_other, g2, hrl, spl98r]; (repeat' (first | exact hK | (refine And.intro ?_ ?_) | assumption | omega)))) | (refine al_guard (b := true) rfl ?_ (fun _ => ?_) (fun h => absurd rfl h); · simp only [↓set_get, Nat.reduceEqDiff, Bool.false_eq_true, ↓reduceIte, aenv0, aenvS, aenvN, one_ne, g2, hrl, spl98r]; done) | (refine al_guard (b := false) rfl ?_ (fun _ => ?_) (fun h => absurd rfl h); · simp only [↓set_get, Nat.reduceEqDiff, Bool.false_eq_true, ↓reduceIte, aenv0, aenvS, aenvN, one_ne, g2, hrl, spl98r]; done) | (refine al_guard (b := true) rfl ?_ (fun h => Bool.noConfusion h) (fun _ => ?_); · simp only [↓set_get, Nat.reduceEqDiff, Bool.false_eq_true, ↓reduceIte, aenv0, aenvS, aenvN, one_ne, g2, hrl, spl98r]; done) | (refine al_guard (b := false) rfl ?_ (fun h => Bool.noConfusion h) (fun _ => ?_); · simp only [↓set_get, Nat.reduceEqDiff, Bool.false_eq_true, ↓reduceIte, aenv0, aenvS, aenvN, one_ne, g2, hrl, spl98r]; done) | (refine al_guard0 rfl ?_ ?_; · simp only [↓set_get, Nat.reduceEqDiff, Bool.false_eq_true, ↓reduceIte, aenv0, aenvS, aenvN, one_ne, g2, hrl, spl98r]; done) | (refine al_none ?_ ?_ ?_ ?_; rotate_left 2; (· intro K hK; simp (disch := omega) only [go_sem, ↓set_get, ↓reduceIte, ↓o_bsl, ↓o_build, Nat.reduceEqDiff, Nat.reduceAdd, Nat.reduceMul, Int.reduceEq, Int.reduceNe, set_other, del_other, g2, hrl, spl98r]; (repeat' (first | exact hK | (refine And.intro ?_ ?_) | assumption | omega))))))
      refine al_done (awp_ret (afin_cell s ((le_set _ hc).trans (by rw [set_set]; exact fun _ _ h => h |> fun h => by simpa using h)) ?_))
      simp only [ares, aone, ↓set_get, Nat.reduceEqDiff, Bool.false_eq_true, ↓reduceIte, aenv0, aenvS, aenvN, one_ne, g2, load_ptr, tagg98, tsz98, set_same]
      exact ⟨_, _, rfl, by simp only [read_t, hrl, List.drop_zero, take98]; exact ⟨by decide, hK⟩⟩
    · intro h; cases h
  rw [decide_eq_false (fun h => h hl)] at g15
  have h1l : 1 ≤ t.length := by
    cases t with
    | nil => exact absurd rfl hl.2
    | cons x u => rw [List.length_cons]; omega
  obtain ⟨s1, hs1⟩ : ∃ z, s.set c (.cells (reqD zeroQ) 98) = z := ⟨_, rfl⟩
  have e1c : s1 c = some (.cells (reqD zeroQ) 98) := by rw [← hs1]; exact set_same _ _ _
  have hle1 : s.le s1 := by rw [← hs1]; exact le_set _ hc
  rw [hs1]
  clear hs1
  obtain ⟨l, hln⟩ : ∃ l, rfN 5 t.tail = l := ⟨_, rfl⟩
  have hlb : ∀ x ∈ l, x ≤ big := hln ▸ rfN_le 5 t.tail
  have hRf : refR t = refQ l := by rw [refR, hln]
  have hl5 : l.length ≤ 5 := by
    have : ∀ (n : Nat) (u : List UInt8), (rfN n u).length ≤ n := by
      intro n
      induction n with
      | zero => intro u; exact Nat.le_refl _
      | succ n ih =>
        intro u
        rw [rfN]
        split
        · rw [List.length_cons]; have := ih (q1 u).2; omega
        · simp
    rw [← hln]; exact this 5 _
  refine asc ?_; refine aiX g15 ?_ ?_
  · intro h; cases h
  intro _
  refine rs ?_
  refine runX g0 ?_
  (refine al_set ?_ ?_ ?_ ?_; rotate_left 2; (· intro K hK; refine S1 ?_; refine slice_str isStr9 (l := 1) (h := t.length) rfl rfl h1l (Nat.le_refl _) ?_; exact hK))
  rw [List.take_length, List.drop_one]
  refine run ?_
  refine al_rel (fun d s' => Own s1 3 1 l.length (intsD l) d s') ?_ ?_
  · intro K2 hK2
    refine S1 ?_
    refine Or.inl (rNumbers_c (by rw [List.length_tail]; omega) (fun d s' h => hK2 _ _ ?_))
    rw [hln] at h; exact h
  intro d s' hown
  refine run ?_
  (refine al_set ?_ ?_ ?_ ?_; rotate_left 2; (· intro K hK; refine S1 ?_; refine bsl_z5 ?_; exact hK))
  (refine al_rel ?_ ?_ ?_; rotate_left 1; (· intro K hK; simp (disch := (first | omega | (simp only [length_bytesD, List.length_append, List.length_cons, List.length_nil, List.length_map, List.length_replicate, List.length_take, List.length_drop]; omega))) only [go_sem, ↓set_get, ↓reduceIte, ↓o_bsl, ↓o_build, Nat.reduceEqDiff, Nat.reduceAdd, Nat.reduceMul, Int.reduceEq, Int.reduceNe,  xcells_sl]; refine own_app hown (m := 5) (by decide) rfl (by omega) ?_; exact hK))
  intro d2 s2 hown2
  refine run ?_
  obtain ⟨V, hV⟩ : ∃ V, intsD l ++ [.int .i64 0, .int .i64 0, .int .i64 0, .int .i64 0, .int .i64 0] = V := ⟨_, rfl⟩
  have hVl : V.length = l.length + 5 := by rw [← hV, List.length_append, intsD_len]; rfl
  have p0 := pad_at l (i := 0) (by decide)
  have p1 := pad_at l (i := 1) (by decide)
  have p2 := pad_at l (i := 2) (by decide)
  have p3 := pad_at l (i := 3) (by decide)
  have p4 := pad_at l (i := 4) (by decide)
  rw [hV] at p0 p1 p2 p3 p4 hown2
  refine al_nil (rx_own hown2 (t := 4) (by simp only [↓set_get, Nat.reduceEqDiff, Bool.false_eq_true, ↓reduceIte, aenv0, aenvS, aenvN, one_ne]) (.done ?_))
  clear hown hown2
  obtain ⟨a0, ha0⟩ : ∃ a : Int, ((l.getD 0 0 : Nat) : Int) = a := ⟨_, rfl⟩
  obtain ⟨a1, ha1⟩ : ∃ a : Int, ((l.getD 1 0 : Nat) : Int) = a := ⟨_, rfl⟩
  obtain ⟨a2, ha2⟩ : ∃ a : Int, ((l.getD 2 0 : Nat) : Int) = a := ⟨_, rfl⟩
  obtain ⟨a3, ha3⟩ : ∃ a : Int, ((l.getD 3 0 : Nat) : Int) = a := ⟨_, rfl⟩
  obtain ⟨a4, ha4⟩ : ∃ a : Int, ((l.getD 4 0 : Nat) : Int) = a := ⟨_, rfl⟩
  have hrq : refQ l = if a1 = 2 then ⟨a0, a1, a2, a3, a4⟩ else if a1 = 3 ∨ a1 = 4 then ⟨a0, a1, a2, 0, a3⟩ else ⟨a0, a1, 0, 0, 0⟩ := by
    rw [← ha0, ← ha1, ← ha2, ← ha3, ← ha4]; rfl
  rw [ha0] at p0
  rw [ha1] at p1
  rw [ha2] at p2
  rw [ha3] at p3
  rw [ha4] at p4
  refine asc ?_; refine awp_draw [true, true, true, true, true, true, true, false, false] (by kernel_rfl) ?_
  refine runDX (And.intro p0 (And.intro p1 hVl)) ?_
  (refine pa_set ?_ ?_ ?_; rotate_left 1; (· intro K hK; refine S1 ?_; refine build98 ?_; exact hK))
  refine runD ?_
  refine pa_nil ?_
  
  (repeat (first | (refine pt_skip ?_) | (refine pt_set ?_ ?_ ?_ ?_ ?_; rotate_left 2; (· intro K hK; simp (disch := omega) only [go_sem, ↓set_get, ↓reduceIte, ↓o_bsl, ↓o_build, Nat.reduceEqDiff, Nat.reduceAdd, Nat.reduceMul, Int.reduceEq, Int.reduceNe, set_other, del_other]; (repeat' (first | exact hK | (refine And.intro ?_ ?_) | assumption | omega))); (· ((repeat' (first | exact seen_nil | refine seen_skip (by decide +kernel) ?_ | refine seen_cons ?_ ?_))) <;> (simp (disch := omega) only [go_sem, ↓set_get, ↓reduceIte, ↓o_bsl, ↓o_build, Nat.reduceEqDiff, Nat.reduceAdd, Nat.reduceMul, Int.reduceEq, Int.reduceNe, set_other, del_other]; (repeat' (first | exact St.le.refl _ | rfl | (refine And.intro ?_ ?_) | assumption | (refine build98 ?_)  | omega))))) | (refine pt_guard (b := true) rfl ?_ (fun _ => ?_) (fun h => absurd rfl h); · simp only [↓set_get, Nat.reduceEqDiff, Bool.false_eq_true, ↓reduceIte, aenv0, aenvS, aenvN, one_ne]; done) | (refine pt_guard (b := false) rfl ?_ (fun _ => ?_) (fun h => absurd rfl h); · simp only [↓set_get, Nat.reduceEqDiff, Bool.false_eq_true, ↓reduceIte, aenv0, aenvS, aenvN, one_ne]; done) | (refine pt_guard (b := true) rfl ?_ (fun h => Bool.noConfusion h) (fun _ => ?_); · simp only [↓set_get, Nat.reduceEqDiff, Bool.false_eq_true, ↓reduceIte, aenv0, aenvS, aenvN, one_ne]; done) | (refine pt_guard (b := false) rfl ?_ (fun h => Bool.noConfusion h) (fun _ => ?_); · simp only [↓set_get, Nat.reduceEqDiff, Bool.false_eq_true, ↓reduceIte, aenv0, aenvS, aenvN, one_ne]; done) | (refine pt_guard0 rfl ?_ ?_; · simp only [↓set_get, Nat.reduceEqDiff, Bool.false_eq_true, ↓reduceIte, aenv0, aenvS, aenvN, one_ne]; done) | (refine pt_none ?_ ?_ ?_ ?_ ?_; rotate_left 2; (· intro K hK; simp (disch := omega) only [go_sem, ↓set_get, ↓reduceIte, ↓o_bsl, ↓o_build, Nat.reduceEqDiff, Nat.reduceAdd, Nat.reduceMul, Int.reduceEq, Int.reduceNe, set_other, del_other]; (repeat' (first | exact hK | (refine And.intro ?_ ?_) | assumption | omega))); (· ((repeat' (first | exact seen_nil | refine seen_skip (by decide +kernel) ?_ | refine seen_cons ?_ ?_))) <;> (simp (disch := omega) only [go_sem, ↓set_get, ↓reduceIte, ↓o_bsl, ↓o_build, Nat.reduceEqDiff, Nat.reduceAdd, Nat.reduceMul, Int.reduceEq, Int.reduceNe, set_other, del_other]; (repeat' (first | exact St.le.refl _ | rfl | (refine And.intro ?_ ?_) | assumption | (refine build98 ?_)  | omega)))))))
  (refine pt_fresh ?_ ?_ ?_ ?_ ?_; rotate_left 3; (· intro K hK; simp (disch := omega) only [go_sem, ↓set_get, ↓reduceIte, ↓o_bsl, ↓o_build, Nat.reduceEqDiff, Nat.reduceAdd, Nat.reduceMul, Int.reduceEq, Int.reduceNe,  p0, p1, hVl, aalloc, abox, anew]; (repeat (first | exact hK | (refine And.intro ?_ ?_; rfl)))); intro x hx; (try (have h_hx := hx; simp only [set_none] at h_hx)); refine And.intro ?_ ?_; (· ((repeat' (first | exact seen_nil | refine seen_skip (by decide +kernel) ?_ | refine seen_cons ?_ ?_))) <;> (simp (disch := omega) only [go_sem, ↓set_get, ↓reduceIte, ↓o_bsl, ↓o_build, Nat.reduceEqDiff, Nat.reduceAdd, Nat.reduceMul, Int.reduceEq, Int.reduceNe, set_other, del_other,  p0, p1, hVl]; (repeat' (first | exact St.le.refl _ | rfl | (refine And.intro ?_ ?_) | assumption | (refine build98 ?_)  | omega)))))
  (repeat (first | (refine pt_skip ?_) | (refine pt_set ?_ ?_ ?_ ?_ ?_; rotate_left 2; (· intro K hK; simp (disch := omega) only [go_sem, ↓set_get, ↓reduceIte, ↓o_bsl, ↓o_build, Nat.reduceEqDiff, Nat.reduceAdd, Nat.reduceMul, Int.reduceEq, Int.reduceNe, set_other, del_other, hrl, spl98, p0, p1, hVl]; (repeat' (first | exact hK | (refine And.intro ?_ ?_) | assumption | omega))); (· ((repeat' (first | exact seen_nil | refine seen_skip (by decide +kernel) ?_ | refine seen_cons ?_ ?_))) <;> (simp (disch := omega) only [go_sem, ↓set_get, ↓reduceIte, ↓o_bsl, ↓o_build, Nat.reduceEqDiff, Nat.reduceAdd, Nat.reduceMul, Int.reduceEq, Int.reduceNe, set_other, del_other, hrl, spl98, p0, p1, hVl]; (repeat' (first | exact St.le.refl _ | rfl | (refine And.intro ?_ ?_) | assumption | (refine build98 ?_)  | omega))))) | (refine pt_guard (b := true) rfl ?_ (fun _ => ?_) (fun h => absurd rfl h); · simp only [↓set_get, Nat.reduceEqDiff, Bool.false_eq_true, ↓reduceIte, aenv0, aenvS, aenvN, one_ne, hrl, spl98, p0, p1, hVl]; done) | (refine pt_guard (b := false) rfl ?_ (fun _ => ?_) (fun h => absurd rfl h); · simp only [↓set_get, Nat.reduceEqDiff, Bool.false_eq_true, ↓reduceIte, aenv0, aenvS, aenvN, one_ne, hrl, spl98, p0, p1, hVl]; done) | (refine pt_guard (b := true) rfl ?_ (fun h => Bool.noConfusion h) (fun _ => ?_); · simp only [↓set_get, Nat.reduceEqDiff, Bool.false_eq_true, ↓reduceIte, aenv0, aenvS, aenvN, one_ne, hrl, spl98, p0, p1, hVl]; done) | (refine pt_guard (b := false) rfl ?_ (fun h => Bool.noConfusion h) (fun _ => ?_); · simp only [↓set_get, Nat.reduceEqDiff, Bool.false_eq_true, ↓reduceIte, aenv0, aenvS, aenvN, one_ne, hrl, spl98, p0, p1, hVl]; done) | (refine pt_guard0 rfl ?_ ?_; · simp only [↓set_get, Nat.reduceEqDiff, Bool.false_eq_true, ↓reduceIte, aenv0, aenvS, aenvN, one_ne, hrl, spl98, p0, p1, hVl]; done) | (refine pt_none ?_ ?_ ?_ ?_ ?_; rotate_left 2; (· intro K hK; simp (disch := omega) only [go_sem, ↓set_get, ↓reduceIte, ↓o_bsl, ↓o_build, Nat.reduceEqDiff, Nat.reduceAdd, Nat.reduceMul, Int.reduceEq, Int.reduceNe, set_other, del_other, hrl, spl98, p0, p1, hVl]; (repeat' (first | exact hK | (refine And.intro ?_ ?_) | assumption | omega))); (· ((repeat' (first | exact seen_nil | refine seen_skip (by decide +kernel) ?_ | refine seen_cons ?_ ?_))) <;> (simp (disch := omega) only [go_sem, ↓set_get, ↓reduceIte, ↓o_bsl, ↓o_build, Nat.reduceEqDiff, Nat.reduceAdd, Nat.reduceMul, Int.reduceEq, Int.reduceNe, set_other, del_other, hrl, spl98, p0, p1, hVl]; (repeat' (first | exact St.le.refl _ | rfl | (refine And.intro ?_ ?_) | assumption | (refine build98 ?_)  | omega)))))))
  
  refine pt_done ?_
  rw [set_set]
  have kxc : c ≠ x := keep_ne e1c hx
  have hx0 := le_none hle1 hx
  obtain ⟨s2, hs2⟩ : ∃ z, s1.set x (.cells (reqD ⟨a0, a1, 0, 0, 0⟩) 98) = z := ⟨_, rfl⟩
  have e2x : s2 x = some (.cells (reqD ⟨a0, a1, 0, 0, 0⟩) 98) := by rw [← hs2]; exact set_same _ _ _
  have e2c : s2 c = some (.cells (reqD zeroQ) 98) := by rw [← hs2, set_other _ kxc]; exact e1c
  have hle2 : s.le s2 := by rw [← hs2]; exact le_set2 hle1 hx0
  rw [hs2]
  clear hs2 hx hle1 e1c
  refine rs ?_
  (repeat (first | (refine al_set ?_ ?_ ?_ ?_; rotate_left 2; (· intro K hK; simp (disch := omega) only [go_sem, ↓set_get, ↓reduceIte, ↓o_bsl, ↓o_build, Nat.reduceEqDiff, Nat.reduceAdd, Nat.reduceMul, Int.reduceEq, Int.reduceNe, set_other, del_other, e2x, c1]; (repeat' (first | exact hK | (refine And.intro ?_ ?_) | assumption | omega)))) | (refine al_guard (b := true) rfl ?_ (fun _ => ?_) (fun h => absurd rfl h); · simp only [↓set_get, Nat.reduceEqDiff, Bool.false_eq_true, ↓reduceIte, aenv0, aenvS, aenvN, one_ne, e2x, c1]; done) | (refine al_guard (b := false) rfl ?_ (fun _ => ?_) (fun h => absurd rfl h); · simp only [↓set_get, Nat.reduceEqDiff, Bool.false_eq_true, ↓reduceIte, aenv0, aenvS, aenvN, one_ne, e2x, c1]; done) | (refine al_guard (b := true) rfl ?_ (fun h => Bool.noConfusion h) (fun _ => ?_); · simp only [↓set_get, Nat.reduceEqDiff, Bool.false_eq_true, ↓reduceIte, aenv0, aenvS, aenvN, one_ne, e2x, c1]; done) | (refine al_guard (b := false) rfl ?_ (fun h => Bool.noConfusion h) (fun _ => ?_); · simp only [↓set_get, Nat.reduceEqDiff, Bool.false_eq_true, ↓reduceIte, aenv0, aenvS, aenvN, one_ne, e2x, c1]; done) | (refine al_guard0 rfl ?_ ?_; · simp only [↓set_get, Nat.reduceEqDiff, Bool.false_eq_true, ↓reduceIte, aenv0, aenvS, aenvN, one_ne, e2x, c1]; done) | (refine al_none ?_ ?_ ?_ ?_; rotate_left 2; (· intro K hK; simp (disch := omega) only [go_sem, ↓set_get, ↓reduceIte, ↓o_bsl, ↓o_build, Nat.reduceEqDiff, Nat.reduceAdd, Nat.reduceMul, Int.reduceEq, Int.reduceNe, set_other, del_other, e2x, c1]; (repeat' (first | exact hK | (refine And.intro ?_ ?_) | assumption | omega))))))
  refine al_done ?_
  refine asc ?_
  refine awp_cj (fun ρ' s' => s' x = some (.cells (reqD (refQ l)) 98) ∧ s' c = some (.cells (reqD zeroQ) 98) ∧ s.le s' ∧ ρ' 0 = .str t ∧ ρ' 2 = .ptr c 0 ∧ ρ' 5 = .ptr x 0) (b := a1 == 2) (by simp only [aeval, ↓set_get, Nat.reduceEqDiff, Bool.false_eq_true, ↓reduceIte, aenv0, aenvS, aenvN, one_ne]) ?_ ?_ ?_
  · intro h2 K' hJ
    have h2 : a1 = 2 := beq_iff_eq.1 h2
    rw [if_pos h2] at hrq
    have u2 : splice (reqD ⟨a0, a1, 0, 0, 0⟩) 2 [.int .i64 a2] = reqD ⟨a0, a1, a2, 0, 0⟩ := rfl
    have u3 : splice (reqD ⟨a0, a1, a2, 0, 0⟩) 3 [.int .i64 a3] = reqD ⟨a0, a1, a2, a3, 0⟩ := rfl
    have u4 : splice (reqD ⟨a0, a1, a2, a3, 0⟩) 4 [.int .i64 a4] = reqD ⟨a0, a1, a2, a3, a4⟩ := rfl
    refine awp_draw1 [true, true, true, true, true, true, true, true, true, true, false, true, false, true, false] (by kernel_rfl) ?_
    refine runDX (And.intro p2 (And.intro p3 (And.intro p4 hVl))) ?_
    refine pa_nil ?_
    (repeat (first | (refine pt_skip ?_) | (refine pt_set ?_ ?_ ?_ ?_ ?_; rotate_left 2; (· intro K hK; simp (disch := omega) only [go_sem, ↓set_get, ↓reduceIte, ↓o_bsl, ↓o_build, Nat.reduceEqDiff, Nat.reduceAdd, Nat.reduceMul, Int.reduceEq, Int.reduceNe, set_other, del_other, e2x, hrl, u2, u3, u4, p2, p3, p4, hVl]; (repeat' (first | exact hK | (refine And.intro ?_ ?_) | assumption | omega))); (· ((repeat' (first | exact seen_nil | refine seen_skip (by decide +kernel) ?_ | refine seen_cons ?_ ?_))) <;> (simp (disch := omega) only [go_sem, ↓set_get, ↓reduceIte, ↓o_bsl, ↓o_build, Nat.reduceEqDiff, Nat.reduceAdd, Nat.reduceMul, Int.reduceEq, Int.reduceNe, set_other, del_other, e2x, hrl, u2, u3, u4, p2, p3, p4, hVl]; (repeat' (first | exact St.le.refl _ | rfl | (refine And.intro ?_ ?_) | assumption  | omega))))) | (refine pt_guard (b := true) rfl ?_ (fun _ => ?_) (fun h => absurd rfl h); · simp only [↓set_get, Nat.reduceEqDiff, Bool.false_eq_true, ↓reduceIte, aenv0, aenvS, aenvN, one_ne, e2x, hrl, u2, u3, u4, p2, p3, p4, hVl]; done) | (refine pt_guard (b := false) rfl ?_ (fun _ => ?_) (fun h => absurd rfl h); · simp only [↓set_get, Nat.reduceEqDiff, Bool.false_eq_true, ↓reduceIte, aenv0, aenvS, aenvN, one_ne, e2x, hrl, u2, u3, u4, p2, p3, p4, hVl]; done) | (refine pt_guard (b := true) rfl ?_ (fun h => Bool.noConfusion h) (fun _ => ?_); · simp only [↓set_get, Nat.reduceEqDiff, Bool.false_eq_true, ↓reduceIte, aenv0, aenvS, aenvN, one_ne, e2x, hrl, u2, u3, u4, p2, p3, p4, hVl]; done) | (refine pt_guard (b := false) rfl ?_ (fun h => Bool.noConfusion h) (fun _ => ?_); · simp only [↓set_get, Nat.reduceEqDiff, Bool.false_eq_true, ↓reduceIte, aenv0, aenvS, aenvN, one_ne, e2x, hrl, u2, u3, u4, p2, p3, p4, hVl]; done) | (refine pt_guard0 rfl ?_ ?_; · simp only [↓set_get, Nat.reduceEqDiff, Bool.false_eq_true, ↓reduceIte, aenv0, aenvS, aenvN, one_ne, e2x, hrl, u2, u3, u4, p2, p3, p4, hVl]; done) | (refine pt_none ?_ ?_ ?_ ?_ ?_; rotate_left 2; (· intro K hK; simp (disch := omega) only [go_sem, ↓set_get, ↓reduceIte, ↓o_bsl, ↓o_build, Nat.reduceEqDiff, Nat.reduceAdd, Nat.reduceMul, Int.reduceEq, Int.reduceNe, set_other, del_other, e2x, hrl, u2, u3, u4, p2, p3, p4, hVl]; (repeat' (first | exact hK | (refine And.intro ?_ ?_) | assumption | omega))); (· ((repeat' (first | exact seen_nil | refine seen_skip (by decide +kernel) ?_ | refine seen_cons ?_ ?_))) <;> (simp (disch := omega) only [go_sem, ↓set_get, ↓reduceIte, ↓o_bsl, ↓o_build, Nat.reduceEqDiff, Nat.reduceAdd, Nat.reduceMul, Int.reduceEq, Int.reduceNe, set_other, del_other, e2x, hrl, u2, u3, u4, p2, p3, p4, hVl]; (repeat' (first | exact St.le.refl _ | rfl | (refine And.intro ?_ ?_) | assumption  | omega)))))))
    refine pt_end ?_
    refine hJ _ _ (.done ⟨?_, ?_, ?_, ?_, ?_, ?_⟩)
    · rw [set_same, hrq]
    · rw [set_other _ kxc, set_other _ kxc, set_other _ kxc]; exact e2c
    · exact le_set2 (le_set2 (le_set2 hle2 hx0) hx0) hx0
    all_goals simp only [↓set_get, Nat.reduceEqDiff, Bool.false_eq_true, ↓reduceIte, aenv0, aenvS, aenvN, one_ne, g0, g2]
  · intro h2 K' hJ
    have h2 : ¬ a1 = 2 := beq_eq_false_iff_ne.1 h2
    rw [if_neg h2] at hrq
    refine asc ?_; refine awp_rj (fun ρ' s' => s' = s2 ∧ ρ' 0 = .str t ∧ ρ' 2 = .ptr c 0 ∧ ρ' 4 = .sl (l.length + 5) V none ∧ ρ' 5 = .ptr x 0 ∧ ρ' 51 = .bool (decide (a1 = 3 ∨ a1 = 4))) ?_ ?_
    · intro K2 hJ2
      (repeat' (first | (refine al_set ?_ ?_ ?_ ?_; rotate_left 2; (· intro K hK; simp (disch := omega) only [go_sem, ↓set_get, ↓reduceIte, ↓o_bsl, ↓o_build, Nat.reduceEqDiff, Nat.reduceAdd, Nat.reduceMul, Int.reduceEq, Int.reduceNe, set_other, del_other, e2x, c1]; (repeat' (first | exact hK | (refine And.intro ?_ ?_) | assumption | omega)))) | (refine al_guard (b := true) rfl ?_ (fun _ => ?_) (fun h => absurd rfl h); · simp only [↓set_get, Nat.reduceEqDiff, Bool.false_eq_true, ↓reduceIte, aenv0, aenvS, aenvN, one_ne, e2x, c1]; done) | (refine al_guard (b := false) rfl ?_ (fun _ => ?_) (fun h => absurd rfl h); · simp only [↓set_get, Nat.reduceEqDiff, Bool.false_eq_true, ↓reduceIte, aenv0, aenvS, aenvN, one_ne, e2x, c1]; done) | (refine al_guard (b := true) rfl ?_ (fun h => Bool.noConfusion h) (fun _ => ?_); · simp only [↓set_get, Nat.reduceEqDiff, Bool.false_eq_true, ↓reduceIte, aenv0, aenvS, aenvN, one_ne, e2x, c1]; done) | (refine al_guard (b := false) rfl ?_ (fun h => Bool.noConfusion h) (fun _ => ?_); · simp only [↓set_get, Nat.reduceEqDiff, Bool.false_eq_true, ↓reduceIte, aenv0, aenvS, aenvN, one_ne, e2x, c1]; done) | (refine al_guard0 rfl ?_ ?_; · simp only [↓set_get, Nat.reduceEqDiff, Bool.false_eq_true, ↓reduceIte, aenv0, aenvS, aenvN, one_ne, e2x, c1]; done) | (refine al_none ?_ ?_ ?_ ?_; rotate_left 2; (· intro K hK; simp (disch := omega) only [go_sem, ↓set_get, ↓reduceIte, ↓o_bsl, ↓o_build, Nat.reduceEqDiff, Nat.reduceAdd, Nat.reduceMul, Int.reduceEq, Int.reduceNe, set_other, del_other, e2x, c1]; (repeat' (first | exact hK | (refine And.intro ?_ ?_) | assumption | omega)))) | (refine al_guard rfl (by simp only [↓set_get, Nat.reduceEqDiff, Bool.false_eq_true, ↓reduceIte, aenv0, aenvS, aenvN, one_ne, e2x, c1]; rfl) (fun hb => ?_) (fun hb => ?_) <;> (try simp only [ne_eq, Bool.not_eq_true, Bool.not_eq_false] at hb) <;> have hb2 := hb <;> (try simp only [decide_eq_true_eq, decide_eq_false_iff_not, beq_iff_eq, beq_eq_false_iff_ne, bne_iff_ne, ne_eq, Bool.not_eq_true', Bool.not_eq_false'] at hb2) <;> (try rw [hb]))))
      all_goals refine al_nil (hJ2 _ _ ⟨rfl, ?_, ?_, ?_, ?_, ?_⟩)
      all_goals simp only [↓set_get, Nat.reduceEqDiff, Bool.false_eq_true, ↓reduceIte, aenv0, aenvS, aenvN, one_ne, g0, g2]
      all_goals (congr 1; rw [Bool.eq_iff_iff]; simp_all)
    rintro ρ s2 ⟨rfl, g0, g2, g4, g5, g51⟩
    by_cases h34 : a1 = 3 ∨ a1 = 4
    · rw [if_pos h34] at hrq
      rw [decide_eq_true h34] at g51
      have u2 : splice (reqD ⟨a0, a1, 0, 0, 0⟩) 2 [.int .i64 a2] = reqD ⟨a0, a1, a2, 0, 0⟩ := rfl
      have u4 : splice (reqD ⟨a0, a1, a2, 0, 0⟩) 4 [.int .i64 a3] = reqD ⟨a0, a1, a2, 0, a3⟩ := rfl
      refine acX g51 ?_ ?_
      · intro _
        refine awp_draw1 [true, true, true, true, true, true, true, false, true, false] (by kernel_rfl) ?_
        refine runDX (And.intro g4 (And.intro g5 (And.intro p2 (And.intro p3 hVl)))) ?_
        refine pa_nil ?_
        (repeat (first | (refine pt_skip ?_) | (refine pt_set ?_ ?_ ?_ ?_ ?_; rotate_left 2; (· intro K hK; simp (disch := omega) only [go_sem, ↓set_get, ↓reduceIte, ↓o_bsl, ↓o_build, Nat.reduceEqDiff, Nat.reduceAdd, Nat.reduceMul, Int.reduceEq, Int.reduceNe, set_other, del_other, g4, g5, e2x, hrl, u2, u4, p2, p3, hVl]; (repeat' (first | exact hK | (refine And.intro ?_ ?_) | assumption | omega))); (· ((repeat' (first | exact seen_nil | refine seen_skip (by decide +kernel) ?_ | refine seen_cons ?_ ?_))) <;> (simp (disch := omega) only [go_sem, ↓set_get, ↓reduceIte, ↓o_bsl, ↓o_build, Nat.reduceEqDiff, Nat.reduceAdd, Nat.reduceMul, Int.reduceEq, Int.reduceNe, set_other, del_other, g4, g5, e2x, hrl, u2, u4, p2, p3, hVl]; (repeat' (first | exact St.le.refl _ | rfl | (refine And.intro ?_ ?_) | assumption  | omega))))) | (refine pt_guard (b := true) rfl ?_ (fun _ => ?_) (fun h => absurd rfl h); · simp only [↓set_get, Nat.reduceEqDiff, Bool.false_eq_true, ↓reduceIte, aenv0, aenvS, aenvN, one_ne, g4, g5, e2x, hrl, u2, u4, p2, p3, hVl]; done) | (refine pt_guard (b := false) rfl ?_ (fun _ => ?_) (fun h => absurd rfl h); · simp only [↓set_get, Nat.reduceEqDiff, Bool.false_eq_true, ↓reduceIte, aenv0, aenvS, aenvN, one_ne, g4, g5, e2x, hrl, u2, u4, p2, p3, hVl]; done) | (refine pt_guard (b := true) rfl ?_ (fun h => Bool.noConfusion h) (fun _ => ?_); · simp only [↓set_get, Nat.reduceEqDiff, Bool.false_eq_true, ↓reduceIte, aenv0, aenvS, aenvN, one_ne, g4, g5, e2x, hrl, u2, u4, p2, p3, hVl]; done) | (refine pt_guard (b := false) rfl ?_ (fun h => Bool.noConfusion h) (fun _ => ?_); · simp only [↓set_get, Nat.reduceEqDiff, Bool.false_eq_true, ↓reduceIte, aenv0, aenvS, aenvN, one_ne, g4, g5, e2x, hrl, u2, u4, p2, p3, hVl]; done) | (refine pt_guard0 rfl ?_ ?_; · simp only [↓set_get, Nat.reduceEqDiff, Bool.false_eq_true, ↓reduceIte, aenv0, aenvS, aenvN, one_ne, g4, g5, e2x, hrl, u2, u4, p2, p3, hVl]; done) | (refine pt_none ?_ ?_ ?_ ?_ ?_; rotate_left 2; (· intro K hK; simp (disch := omega) only [go_sem, ↓set_get, ↓reduceIte, ↓o_bsl, ↓o_build, Nat.reduceEqDiff, Nat.reduceAdd, Nat.reduceMul, Int.reduceEq, Int.reduceNe, set_other, del_other, g4, g5, e2x, hrl, u2, u4, p2, p3, hVl]; (repeat' (first | exact hK | (refine And.intro ?_ ?_) | assumption | omega))); (· ((repeat' (first | exact seen_nil | refine seen_skip (by decide +kernel) ?_ | refine seen_cons ?_ ?_))) <;> (simp (disch := omega) only [go_sem, ↓set_get, ↓reduceIte, ↓o_bsl, ↓o_build, Nat.reduceEqDiff, Nat.reduceAdd, Nat.reduceMul, Int.reduceEq, Int.reduceNe, set_other, del_other, g4, g5, e2x, hrl, u2, u4, p2, p3, hVl]; (repeat' (first | exact St.le.refl _ | rfl | (refine And.intro ?_ ?_) | assumption  | omega)))))))
        refine pt_end ?_
        refine hJ _ _ (.done ⟨?_, ?_, ?_, ?_, ?_, ?_⟩)
        · rw [set_same, hrq]
        · rw [set_other _ kxc, set_other _ kxc]; exact e2c
        · exact le_set2 (le_set2 hle2 hx0) hx0
        all_goals simp only [↓set_get, Nat.reduceEqDiff, Bool.false_eq_true, ↓reduceIte, aenv0, aenvS, aenvN, one_ne, g0, g2, g5]
      · intro h; cases h
    · rw [if_neg h34] at hrq
      rw [decide_eq_false h34] at g51
      refine acX g51 ?_ ?_
      · intro h; cases h
      intro _
      refine awp_skip (hJ _ _ (.done ⟨by rw [hrq]; exact e2x, e2c, hle2, ?_, ?_, ?_⟩))
      all_goals simp only [↓set_get, Nat.reduceEqDiff, Bool.false_eq_true, ↓reduceIte, aenv0, aenvS, aenvN, one_ne, g0, g2, g5]
  rintro ρ τ ⟨ex, ec, hle, g0, g2, g5⟩
  obtain ⟨r, hr⟩ : ∃ r, refQ l = r := ⟨_, rfl⟩
  have hrb : ReqB r := hr ▸ refQ_b hlb
  rw [hr] at ex hRf
  have hok : RqOk t ↔ ROk r ∧ putR r = t := by rw [ref_getR, hRf]; exact ⟨fun h => h.2, fun h => ⟨hl, h⟩⟩
  have hlec : ∀ v, s.le (τ.set c v) := fun v => le_set2 hle hc
  refine rs ?_
  refine runX (And.intro g5 (And.intro ex (And.intro hrl take98))) ?_
  (refine al_set ?_ ?_ ?_ ?_; rotate_left 2; (· intro K hK; refine S1 ?_; refine Or.inl (rPutRequest_c hrb ?_); exact hK))
  rw [dPR_q]
  refine run ?_
  refine al_done ?_
  refine asc ?_; refine awp_rj (fun ρ' s' => s' = τ ∧ ρ' 2 = .ptr c 0 ∧ ρ' 5 = .ptr x 0 ∧ ρ' 71 = .bool (decide (¬ RqOk t))) ?_ ?_
  · intro K' hJ
    (repeat' (first | refine run1X g0 ?_ | (refine al_guard rfl (by simp only [↓set_get, Nat.reduceEqDiff, Bool.false_eq_true, ↓reduceIte, aenv0, aenvS, aenvN, one_ne, g0]; rfl) (fun hb => ?_) (fun hb => ?_) <;> (try simp only [ne_eq, Bool.not_eq_true, Bool.not_eq_false] at hb) <;> have hb2 := hb <;> (try simp only [decide_eq_true_eq, decide_eq_false_iff_not, beq_iff_eq, beq_eq_false_iff_ne, bne_iff_ne, ne_eq, Bool.not_eq_true', Bool.not_eq_false'] at hb2) <;> (try rw [hb]))))
    all_goals refine al_nil (hJ _ _ ⟨rfl, ?_, ?_, ?_⟩)
    all_goals simp only [↓set_get, Nat.reduceEqDiff, Bool.false_eq_true, ↓reduceIte, aenv0, aenvS, aenvN, one_ne, g2, g5]
    all_goals (congr 1; rw [Bool.eq_iff_iff]; simp_all [prE, prS])
  rintro ρ1 τ ⟨rfl, g2, g5, g71⟩
  by_cases hG : RqOk t
  · have e71 : decide (¬ RqOk t) = false := decide_eq_false (fun h => h hG)
    have hgr : getR t = r := by rw [ref_getR_eq hG, hRf]
    rw [hgr, grE, if_pos hG] at hK
    rw [e71] at g71
    refine asc ?_; refine aiX g71 ?_ ?_
    · intro h; cases h
    · intro _
      refine rs ?_
      (repeat (first | (refine al_set ?_ ?_ ?_ ?_; rotate_left 2; (· intro K hK; simp (disch := omega) only [go_sem, ↓set_get, ↓reduceIte, ↓o_bsl, ↓o_build, Nat.reduceEqDiff, Nat.reduceAdd, Nat.reduceMul, Int.reduceEq, Int.reduceNe, set_other, del_other, g5, g2, ex, ec, hrl, take98, spl98r]; (repeat' (first | exact hK | (refine And.intro ?_ ?_) | assumption | omega)))) | (refine al_guard (b := true) rfl ?_ (fun _ => ?_) (fun h => absurd rfl h); · simp only [↓set_get, Nat.reduceEqDiff, Bool.false_eq_true, ↓reduceIte, aenv0, aenvS, aenvN, one_ne, g5, g2, ex, ec, hrl, take98, spl98r]; done) | (refine al_guard (b := false) rfl ?_ (fun _ => ?_) (fun h => absurd rfl h); · simp only [↓set_get, Nat.reduceEqDiff, Bool.false_eq_true, ↓reduceIte, aenv0, aenvS, aenvN, one_ne, g5, g2, ex, ec, hrl, take98, spl98r]; done) | (refine al_guard (b := true) rfl ?_ (fun h => Bool.noConfusion h) (fun _ => ?_); · simp only [↓set_get, Nat.reduceEqDiff, Bool.false_eq_true, ↓reduceIte, aenv0, aenvS, aenvN, one_ne, g5, g2, ex, ec, hrl, take98, spl98r]; done) | (refine al_guard (b := false) rfl ?_ (fun h => Bool.noConfusion h) (fun _ => ?_); · simp only [↓set_get, Nat.reduceEqDiff, Bool.false_eq_true, ↓reduceIte, aenv0, aenvS, aenvN, one_ne, g5, g2, ex, ec, hrl, take98, spl98r]; done) | (refine al_guard0 rfl ?_ ?_; · simp only [↓set_get, Nat.reduceEqDiff, Bool.false_eq_true, ↓reduceIte, aenv0, aenvS, aenvN, one_ne, g5, g2, ex, ec, hrl, take98, spl98r]; done) | (refine al_none ?_ ?_ ?_ ?_; rotate_left 2; (· intro K hK; simp (disch := omega) only [go_sem, ↓set_get, ↓reduceIte, ↓o_bsl, ↓o_build, Nat.reduceEqDiff, Nat.reduceAdd, Nat.reduceMul, Int.reduceEq, Int.reduceNe, set_other, del_other, g5, g2, ex, ec, hrl, take98, spl98r]; (repeat' (first | exact hK | (refine And.intro ?_ ?_) | assumption | omega))))))
      refine al_done (awp_ret (afin_cell s (hlec _) ?_))
      simp only [ares, aone, ↓set_get, Nat.reduceEqDiff, Bool.false_eq_true, ↓reduceIte, aenv0, aenvS, aenvN, one_ne, g2, load_ptr, tagg98, tsz98, set_same]
      exact ⟨_, _, rfl, by simp only [read_t, hrl, List.drop_zero, take98]; exact ⟨by decide, hK⟩⟩
  · have e71 : decide (¬ RqOk t) = true := decide_eq_true hG
    have hgr : getR t = zeroQ := by rw [getR, if_neg hG]
    rw [hgr, grE, if_neg hG] at hK
    rw [e71] at g71
    refine asc ?_; refine aiX g71 ?_ ?_
    · intro _
      refine rs ?_
      (refine al_set ?_ ?_ ?_ ?_; rotate_left 2; (· intro K hK; refine S1 ?_; refine build98z ?_; exact hK))
      (repeat (first | (refine al_set ?_ ?_ ?_ ?_; rotate_left 2; (· intro K hK; simp (disch := omega) only [go_sem, ↓set_get, ↓reduceIte, ↓o_bsl, ↓o_build, Nat.reduceEqDiff, Nat.reduceAdd, Nat.reduceMul, Int.reduceEq, Int.reduceNe, set_other, del_other, g2, ec, hrl, spl98r]; (repeat' (first | exact hK | (refine And.intro ?_ ?_) | assumption | omega)))) | (refine al_guard (b := true) rfl ?_ (fun _ => ?_) (fun h => absurd rfl h); · simp only [↓set_get, Nat.reduceEqDiff, Bool.false_eq_true, ↓reduceIte, aenv0, aenvS, aenvN, one_ne, g2, ec, hrl, spl98r]; done) | (refine al_guard (b := false) rfl ?_ (fun _ => ?_) (fun h => absurd rfl h); · simp only [↓set_get, Nat.reduceEqDiff, Bool.false_eq_true, ↓reduceIte, aenv0, aenvS, aenvN, one_ne, g2, ec, hrl, spl98r]; done) | (refine al_guard (b := true) rfl ?_ (fun h => Bool.noConfusion h) (fun _ => ?_); · simp only [↓set_get, Nat.reduceEqDiff, Bool.false_eq_true, ↓reduceIte, aenv0, aenvS, aenvN, one_ne, g2, ec, hrl, spl98r]; done) | (refine al_guard (b := false) rfl ?_ (fun h => Bool.noConfusion h) (fun _ => ?_); · simp only [↓set_get, Nat.reduceEqDiff, Bool.false_eq_true, ↓reduceIte, aenv0, aenvS, aenvN, one_ne, g2, ec, hrl, spl98r]; done) | (refine al_guard0 rfl ?_ ?_; · simp only [↓set_get, Nat.reduceEqDiff, Bool.false_eq_true, ↓reduceIte, aenv0, aenvS, aenvN, one_ne, g2, ec, hrl, spl98r]; done) | (refine al_none ?_ ?_ ?_ ?_; rotate_left 2; (· intro K hK; simp (disch := omega) only [go_sem, ↓set_get, ↓reduceIte, ↓o_bsl, ↓o_build, Nat.reduceEqDiff, Nat.reduceAdd, Nat.reduceMul, Int.reduceEq, Int.reduceNe, set_other, del_other, g2, ec, hrl, spl98r]; (repeat' (first | exact hK | (refine And.intro ?_ ?_) | assumption | omega))))))
      refine al_done (awp_ret (afin_cell s (hlec _) ?_))
      simp only [ares, aone, ↓set_get, Nat.reduceEqDiff, Bool.false_eq_true, ↓reduceIte, aenv0, aenvS, aenvN, one_ne, g2, load_ptr, tagg98, tsz98, set_same]
      exact ⟨_, _, rfl, by simp only [read_t, hrl, List.drop_zero, take98]; exact ⟨by decide, hK⟩⟩
    · intro h; cases h
end Go.Proofs.Try
