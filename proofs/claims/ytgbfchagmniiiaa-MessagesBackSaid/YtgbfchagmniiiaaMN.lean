/- messages: the examples; MessagesPut; walked. -/
import Derived.Test.YtgbfchagmniiiaaMM
set_option maxRecDepth 8000
set_option linter.unusedSimpArgs false
set_option linter.unusedVariables false
namespace Go.Proofs.Try
open Go Go.Av
set_option pp.maxSteps 900
attribute [local irreducible] alist awp adraw apure
attribute [local go_sem] cellsOf_int cellsOf_bool cellsOf_str cellsOf_nilp cellsOf_nil cellsOf_e0 cellsOf_sl cellsOf_osl cellsOf_ptr cellsOf_eptr cellsOf_fn cellsOf_agg okc_int okc_bool okc_str okc_nilp okc_nil okc_e0 okc_sl okc_osl okc_ptr okc_eptr okc_fn okc_agg and_assoc splice_0n splice_0c splice_s load_ptr load_eptr read_t read_f store_p cells_inj set_same exists_and_left List.length_cons List.length_nil List.drop_zero List.drop_succ_cons List.take_succ_cons List.take_zero Option.isSome_some
variable {γ : Gl} {σ s : St} {K : D → St → Prop}
attribute [local go_sem] List.length_append natc0 eq_self sgD_len sgD_a spl91 splice_self List.length_replicate length_bytesD sgsD_len bne_self_eq_false Int.toNat_natCast sgD_h sgD_33 sgD_34 sgD_35 headD_a headD_len


def qeq (a b : Req) : Bool := a.id == b.id && (a.kind == b.kind && (a.fr == b.fr && (a.cnt == b.cnt && (a.size == b.size && true))))
theorem qeq_self (a : Req) : qeq a a = true := by simp [qeq]
theorem eqL98 (a b : Req) : eqL (reqD a) (reqD b) = some (qeq a b) := by
  simp only [reqD, eqL, eq1, qeq]
  simp
theorem fits98 (a : Req) : fits [.int .i64, .int .i64, .int .i64, .int .i64, .int .i64] (reqD a) = true := by
  simp only [reqD, fits, fit1, decide_true, Bool.true_and]
theorem abin_req {op : BinOp} {a b : Req} (hk : aeq op (qeq a b) s K) : abin prog op 98 (.agg (reqD a)) (.agg (reqD b)) s K :=
  abin_agg tagg98 eg98 ks98 (fits98 a) (fits98 b) (eqL98 a b) hk
def ex1 : Req := ⟨5, 1, 9, 0, 0⟩
def ex2 : Req := ⟨1, 2, 2, 3, 300⟩
def ex3 : Rep := ⟨5, 1, 82, [], [], [], (fun x hx => nomatch hx)⟩
theorem build98a (hk : K (.agg (reqD ex1)) s) : abuild prog 98 [(0, .int .i64 5), (1, .int .i64 1), (2, .int .i64 9)] s K := by
  simp only [abuild, zc98, pl98]
  exact hk
theorem build98b (hk : K (.agg (reqD ex2)) s) : abuild prog 98 [(0, .int .i64 1), (1, .int .i64 2), (2, .int .i64 2), (3, .int .i64 3), (4, .int .i64 300)] s K := by
  simp only [abuild, zc98, pl98]
  exact hk
theorem build100a (hk : K (.agg [.int .i64 5, .int .i64 1, .int .i64 82, .nil, .nil, .nil]) s) : abuild prog 100 [(0, .int .i64 5), (1, .int .i64 1), (2, .int .i64 82)] s K := by
  simp only [abuild, zc100, pl100]
  exact hk
theorem sm {n : Nat} (h : n < 128) : numB n = [UInt8.ofNat n] := by rw [numB_small h, Nat.mod_eq_of_lt h]
theorem ex1_put : dPR ex1 = .tup [.str [81, 5, 1], .int .i64 0] := by
  have h : ROk ex1 := by decide
  have e : putR ex1 = [81, 5, 1] := by
    show 81 :: nsB [5, 1] = _
    rw [nsB_cons, nsB_cons, nsB_nil, sm (by decide), sm (by decide)]; rfl
  rw [dPR, if_pos h, e]
theorem ex2_put : dPR ex2 = .tup [.str [81, 1, 2, 2, 3, 130, 44], .int .i64 0] ∧ putR ex2 = [81, 1, 2, 2, 3, 130, 44] := by
  have h : ROk ex2 := by decide
  have e : putR ex2 = [81, 1, 2, 2, 3, 130, 44] := by
    show 81 :: nsB [1, 2, 2, 3, 300] = _
    rw [nsB_cons, nsB_cons, nsB_cons, nsB_cons, nsB_cons, nsB_nil, show numB (300 : Int).toNat = [130, 44] from numB300, sm (by decide), sm (by decide), sm (by decide)]; rfl
  exact ⟨by rw [dPR, if_pos h, e], e⟩
theorem ex3_put : dPP ex3 = .tup [.str [82, 5, 1, 82], .int .i64 0] := by
  have h : POk ex3 := by decide
  have e : putP ex3 = [82, 5, 1, 82] := by
    show ((82 :: numB 5) ++ numB 1) ++ bodyB ex3 = _
    rw [show bodyB ex3 = numB 82 from rfl, sm (by decide), sm (by decide), sm (by decide)]; rfl
  rw [dPP, if_pos h, e]
theorem not_Rq0 : ¬ RqOk [] := by
  intro h
  have := (getR_some h).2.2
  cases this
theorem not_Rq1 : ¬ RqOk [81, 5] := by
  intro h
  obtain ⟨⟨a, b⟩, c, d⟩ := getR_some h
  obtain ⟨vs, e, _⟩ := nums_fold a.1 a.2 c
  have := congrArg List.length d
  rw [putR, e, nsB_cons, nsB_cons] at this
  simp only [List.length_cons, List.length_nil, List.length_append] at this
  have p1 := length_numB_pos (getR [81, 5]).id.toNat
  have p2 := length_numB_pos (getR [81, 5]).kind.toNat
  omega
theorem PutReply_z (hK : K (.tup [.str [82, 5, 1, 82], .int .i64 0]) s) : ACalls prog γ 71 [.agg [.int .i64 5, .int .i64 1, .int .i64 82, .nil, .nil, .nil]] s K := by
  refine acalls_wk (args' := [.agg (repD ex3)]) rfl ?_ (PutReply_c (r := ex3) ⟨⟨by decide, by decide, by decide⟩, (fun x hx => nomatch hx), ⟨by decide, by decide⟩, ⟨by decide, by decide⟩, ⟨by decide, by decide⟩⟩ (by rw [ex3_put]; exact hK))
  intro k d d' e e'
  match k, e, e' with
  | 0, e, e' =>
    cases e; cases e'
    refine .agg _ _ rfl fun j x y h h' => ?_
    match j, h, h' with
    | 0, h, h' => cases h; cases h'; exact .refl _
    | 1, h, h' => cases h; cases h'; exact .refl _
    | 2, h, h' => cases h; cases h'; exact .refl _
    | 3, h, h' => cases h; cases h'; exact .nil
    | 4, h, h' => cases h; cases h'; exact .nil
    | 5, h, h' => cases h; cases h'; exact .nil
    | j + 6, h, h' => simp at h
  | k + 1, e, e' => simp at e
theorem Spoken_c (hK : K (.bool true) s) : ACalls prog γ 68 [] s K := by
  obtain ⟨e2, p2⟩ := ex2_put
  obtain ⟨k2, v2⟩ := RqOk_put (r := ex2) (by decide) ⟨by decide, by decide⟩
  rw [p2] at k2 v2
  have hrl : ∀ r : Req, (reqD r).length = 5 := fun r => rfl
  refine acalls_of_awp (by kernel_rfl) func68 rfl (by kernel_rfl) rfl rfl (by kernel_rfl) (Nat.le_of_ble_eq_true rfl) ?_
  refine rs ?_
  refine run ?_
  refine al_done ?_
  refine rs ?_
  (refine al_set ?_ ?_ ?_ ?_; rotate_left 2; (· intro K hK; refine S1 ?_; refine build98a ?_; exact hK))
  (refine al_set ?_ ?_ ?_ ?_; rotate_left 2; (· intro K hK; refine S1 ?_; refine Or.inl (PutRequest_c ?_); exact hK))
  rw [ex1_put]
  refine run ?_
  refine al_done ?_
  refine rs ?_
  (refine al_set ?_ ?_ ?_ ?_; rotate_left 2; (· intro K hK; refine S1 ?_; refine build98b ?_; exact hK))
  (refine al_set ?_ ?_ ?_ ?_; rotate_left 2; (· intro K hK; refine S1 ?_; refine Or.inl (PutRequest_c ?_); exact hK))
  rw [e2]
  refine run ?_
  refine al_done ?_
  refine rs ?_
  (refine al_set ?_ ?_ ?_ ?_; rotate_left 2; (· intro K hK; refine S1 ?_; refine build100a ?_; exact hK))
  (refine al_set ?_ ?_ ?_ ?_; rotate_left 2; (· intro K hK; refine S1 ?_; refine Or.inl (PutReply_z ?_); exact hK))
  refine run ?_
  refine al_done ?_
  refine rs ?_
  (refine al_set ?_ ?_ ?_ ?_; rotate_left 2; (· intro K hK; refine S1 ?_; refine Or.inl (GetRequest_c (t := []) (by decide) ?_); exact hK))
  rw [getR, grE, if_neg not_Rq0, if_neg not_Rq0]
  refine run ?_
  (refine aF ?_; intro a ha; (try (have h_ha := ha; simp only [set_none] at h_ha)))
  refine runX (And.intro hrl spl98) ?_
  rw [set_set]
  refine al_done ?_
  refine rs ?_
  (refine al_set ?_ ?_ ?_ ?_; rotate_left 2; (· intro K hK; refine S1 ?_; refine Or.inl (GetRequest_c (t := [81, 5]) (by decide) ?_); exact hK))
  rw [getR, grE, if_neg not_Rq1, if_neg not_Rq1]
  refine run ?_
  (refine aF ?_; intro b hb; (try (have h_hb := hb; simp only [set_none] at h_hb)))
  refine runX (And.intro hrl spl98) ?_
  rw [set_set]
  refine al_done ?_
  refine rs ?_
  refine run ?_
  (refine al_set ?_ ?_ ?_ ?_; rotate_left 2; (· intro K hK; refine S1 ?_; refine Or.inl (GetRequest_c (t := [81, 1, 2, 2, 3, 130, 44]) (by decide) ?_); exact hK))
  rw [v2, grE, if_pos k2]
  refine run ?_
  (refine aF ?_; intro c hc; (try (have h_hc := hc; simp only [set_none] at h_hc)))
  refine runX (And.intro hrl spl98) ?_
  rw [set_set]
  refine al_done ?_
  refine rs ?_
  refine runX (And.intro hrl take98) ?_
  (refine al_set ?_ ?_ ?_ ?_; rotate_left 2; (· intro K hK; refine S1 ?_; refine build98b ?_; exact hK))
  refine run ?_
  (refine al_set ?_ ?_ ?_ ?_; rotate_left 2; (· intro K hK; refine S1 ?_; refine abin_req ?_; exact hK))
  rw [qeq_self]
  refine run ?_
  refine al_done (awp_ret (afin_ret (.forget s (((le_set _ ha).trans (le_set _ hb)).trans (le_set _ hc)) (.done ?_)))); simp only [ares, aone, ↓set_get, Nat.reduceEqDiff, Bool.false_eq_true, ↓reduceIte, aenv0, aenvS, aenvN, one_ne]
  exact hK
theorem MessagesPut_c {r : Req} {a b : Rep} (hr : ReqB r) (hfa : Fine17 a) (hfb : Fine17 b) (hia : I64 a.id ∧ I64 a.kind ∧ I64 a.code) (hK : K (.bool true) s) : ACalls prog γ 14 [.agg (reqD r), .agg (repD a), .agg (repD b)] s K := by
  have hrl : ∀ r : Req, (reqD r).length = 5 := fun r => rfl
  have hpl : ∀ r : Rep, (repD r).length = 6 := fun r => rfl
  have tk5 : ∀ r : Req, (reqD r).take 5 = reqD r := fun r => rfl
  have tk6 : ∀ r : Rep, (repD r).take 6 = repD r := fun r => rfl
  refine acalls_of_awp (by kernel_rfl) func14 rfl (by kernel_rfl) rfl rfl (by kernel_rfl) (Nat.le_of_ble_eq_true rfl) ?_
  refine rs ?_
  (refine aF ?_; intro x hx; (try (have h_hx := hx; simp only [set_none] at h_hx)))
  (refine aF ?_; intro y hy; (try (have h_hy := hy; simp only [set_none] at h_hy)))
  (refine aF ?_; intro z hz; (try (have h_hz := hz; simp only [set_none] at h_hz)))
  refine run ?_
  refine al_done ?_
  obtain ⟨kyx, hy0⟩ := keep_none hy
  obtain ⟨kzy, hz1⟩ := keep_none hz
  obtain ⟨kzx, hz0⟩ := keep_none hz1
  obtain ⟨s1, hs1⟩ : ∃ v, ((s.set x (.cells (reqD r) 98)).set y (.cells (repD a) 100)).set z (.cells (repD b) 100) = v := ⟨_, rfl⟩
  have hxc : s1 x = some (.cells (reqD r) 98) := by rw [← hs1, set_other _ (Ne.symm kzx), set_other _ (Ne.symm kyx)]; exact set_same _ _ _
  have hyc : s1 y = some (.cells (repD a) 100) := by rw [← hs1, set_other _ (Ne.symm kzy)]; exact set_same _ _ _
  have hzc : s1 z = some (.cells (repD b) 100) := by rw [← hs1]; exact set_same _ _ _
  have hle : s.le s1 := by rw [← hs1]; exact ((le_set _ hx).trans (le_set _ hy)).trans (le_set _ hz)
  rw [hs1]
  clear hs1 hx hy hz hy0 hz1 hz0
  refine asc ?_; refine awp_rj (fun ρ' s' => s' = s1 ∧ ρ' 3 = .ptr x 0 ∧ ρ' 4 = .ptr y 0 ∧ ρ' 5 = .ptr z 0 ∧ ρ' 20 = .bool (decide (¬ (small17 a ∧ small17 b)))) ?_ ?_
  · intro K' hJ
    (repeat' (first | refine run1X (And.intro hyc (And.intro hzc (And.intro hpl tk6))) ?_ | (refine al_set ?_ ?_ ?_ ?_; rotate_left 2; (· intro K hK; refine S1X (And.intro hyc (And.intro hzc (And.intro hpl tk6))) ?_; refine Or.inl (Great17_c hfa ?_); exact hK)) | (refine al_set ?_ ?_ ?_ ?_; rotate_left 2; (· intro K hK; refine S1X (And.intro hyc (And.intro hzc (And.intro hpl tk6))) ?_; refine Or.inl (Great17_c hfb ?_); exact hK)) | (refine al_guard rfl (by simp only [↓set_get, Nat.reduceEqDiff, Bool.false_eq_true, ↓reduceIte, aenv0, aenvS, aenvN, one_ne, hyc, hzc, hpl, tk6]; rfl) (fun hb => ?_) (fun hb => ?_) <;> (try simp only [ne_eq, Bool.not_eq_true, Bool.not_eq_false] at hb) <;> have hb2 := hb <;> (try simp only [decide_eq_true_eq, decide_eq_false_iff_not, beq_iff_eq, beq_eq_false_iff_ne, bne_iff_ne, ne_eq, Bool.not_eq_true', Bool.not_eq_false'] at hb2) <;> (try rw [hb]))))
    all_goals refine al_nil (hJ _ _ ⟨rfl, ?_, ?_, ?_, ?_⟩)
    all_goals simp only [↓set_get, Nat.reduceEqDiff, Bool.false_eq_true, ↓reduceIte, aenv0, aenvS, aenvN, one_ne]
    all_goals (congr 1; rw [Bool.eq_iff_iff]; simp_all)
  rintro ρ s1 ⟨rfl, g3, g4, g5, g20⟩
  refine asc ?_; refine aiX g20 ?_ ?_
  · intro _
    refine rs ?_
    (refine al_set ?_ ?_ ?_ ?_; rotate_left 2; (· intro K hK; refine S1 ?_; refine Or.inl (Spoken_c ?_); exact hK))
    refine run ?_
    refine al_done (awp_ret (afin_ret (.forget s hle (.done ?_)))); simp only [ares, aone, ↓set_get, Nat.reduceEqDiff, Bool.false_eq_true, ↓reduceIte, aenv0, aenvS, aenvN, one_ne]
    exact hK
  intro h
  obtain ⟨ha, hb⟩ := Decidable.not_not.1 (of_decide_eq_false h)
  have ffa := small_fin ha hia
  have fsa := small_finS ha
  have hself : decide (repEq a a) = true := decide_eq_true ⟨⟨⟨rfl, rfl⟩, rfl⟩, ⟨rfl, rfl⟩, rfl⟩
  refine rs ?_
  refine runX (And.intro g3 (And.intro hxc (And.intro hrl tk5))) ?_
  (refine al_set ?_ ?_ ?_ ?_; rotate_left 2; (· intro K hK; refine S1 ?_; refine Or.inl (PutRequest_c ?_); exact hK))
  rw [dPR_q]
  refine run ?_
  refine al_done ?_
  refine rs ?_
  refine runX (And.intro g3 (And.intro hxc (And.intro hrl tk5))) ?_
  (refine al_set ?_ ?_ ?_ ?_; rotate_left 2; (· intro K hK; refine S1 ?_; refine Or.inl (rPutRequest_c hr ?_); exact hK))
  rw [dPR_q]
  refine run ?_
  refine al_done ?_
  refine rs ?_
  refine runX (And.intro g4 (And.intro hyc (And.intro hpl tk6))) ?_
  (refine al_set ?_ ?_ ?_ ?_; rotate_left 2; (· intro K hK; refine S1 ?_; refine Or.inl (PutReply_c ffa ?_); exact hK))
  rw [dPP_q]
  refine run ?_
  refine al_done ?_
  refine rs ?_
  refine runX (And.intro g4 (And.intro hyc (And.intro hpl tk6))) ?_
  (refine al_set ?_ ?_ ?_ ?_; rotate_left 2; (· intro K hK; refine S1 ?_; refine Or.inl (rPutReply_c ffa ?_); exact hK))
  rw [dPP_q]
  refine run ?_
  refine al_done ?_
  refine asc ?_; refine awp_pure (by kernel_rfl) ?_
  refine runPX (And.intro g4 (And.intro g5 (And.intro hyc (And.intro hzc (And.intro hpl tk6))))) ?_
  (refine ap_set ?_ ?_ ?_; rotate_left 1; (· intro K hK; refine S0 ?_; refine Or.inl (Same17_c fsa ?_); exact hK))
  refine runPX (And.intro g4 (And.intro g5 (And.intro hyc (And.intro hzc (And.intro hpl tk6))))) ?_
  (refine ap_set ?_ ?_ ?_; rotate_left 1; (· intro K hK; refine S0 ?_; refine Or.inl (rSame17_c fsa ?_); exact hK))
  refine runPX (And.intro g4 (And.intro g5 (And.intro hyc (And.intro hzc (And.intro hpl tk6))))) ?_
  (refine ap_set ?_ ?_ ?_; rotate_left 1; (· intro K hK; refine S0 ?_; refine Or.inl (Same17_c fsa ?_); exact hK))
  rw [hself]
  refine runP ?_
  (refine ap_set ?_ ?_ ?_; rotate_left 1; (· intro K hK; refine S0 ?_; refine Or.inl (Spoken_c ?_); exact hK))
  refine runP ?_
  refine ap_done (awp_ret (afin_ret (.forget s hle (.done ?_)))); simp only [ares, aone, ↓set_get, Nat.reduceEqDiff, Bool.false_eq_true, ↓reduceIte, aenv0, aenvS, aenvN, one_ne]
  exact hK
end Go.Proofs.Try
