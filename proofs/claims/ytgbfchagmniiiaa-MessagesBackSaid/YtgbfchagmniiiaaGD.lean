/- gossip: a prefix cut, how many there are. -/
import Derived.Test.YtgbfchagmniiiaaGC
set_option maxRecDepth 8000
set_option linter.unusedSimpArgs false
set_option linter.unusedVariables false
namespace Go.Proofs.Try
open Go Go.Av
set_option pp.maxSteps 900
attribute [local irreducible] alist awp adraw apure
attribute [local go_sem] cellsOf_int cellsOf_bool cellsOf_str cellsOf_nilp cellsOf_nil cellsOf_e0 cellsOf_sl cellsOf_osl cellsOf_ptr cellsOf_eptr cellsOf_fn cellsOf_agg okc_int okc_bool okc_str okc_nilp okc_nil okc_e0 okc_sl okc_osl okc_ptr okc_eptr okc_fn okc_agg and_assoc splice_0n splice_0c splice_s load_ptr load_eptr read_t read_f store_p cells_inj set_same exists_and_left List.length_cons List.length_nil List.drop_zero List.drop_succ_cons List.take_succ_cons List.take_zero Option.isSome_some
variable {γ : Gl} {σ s : St} {K : D → St → Prop}
attribute [local go_sem] roD_len roD_33 roD_34 roD_35 roD_36 roD_h roD_a rosD_len headD_len headD_0 headD_a headD_r spl87 sgD_len sgD_0 sgD_33 sgD_34 sgD_35 sgD_a sgD_h sgD_r spl27 byt27 spl91 length_bytesD List.length_replicate splice_self sgsD_len headsD_len Int.toNat_natCast List.length_append

def pre (c : UInt8) (t : List UInt8) : Bool := decide (t.head? = some c)
theorem HasP_c {c : UInt8} {t : List UInt8} (ht : t.length ≤ 140737488355328) (hK : K (.bool (pre c t)) s) : ACalls prog γ 133 [.str t, .str [c]] s K := by
  refine acalls_of_awp (by kernel_rfl) func133 rfl (by kernel_rfl) rfl rfl (by kernel_rfl) (Nat.le_of_ble_eq_true rfl) ?_
  refine rs ?_
  refine run ?_
  refine al_done ?_
  refine asc ?_; refine awp_rj (fun ρ' s' => s' = s ∧ ρ' 4 = .bool (pre c t)) ?_ ?_
  · intro K' hJ
    (repeat' (first | refine run1 ?_ | (refine al_set ?_ ?_ ?_ ?_; rotate_left 2; (· intro K hK; refine S1 ?_; refine slice_str isStr9 (l := 0) (h := 1) rfl (bound_at (by omega) rfl) (by omega) (by omega) ?_; exact hK)) | (refine al_guard rfl (by simp only [↓set_get, Nat.reduceEqDiff, Bool.false_eq_true, ↓reduceIte, aenv0, aenvS, aenvN, one_ne]; rfl) (fun hb => ?_) (fun hb => ?_) <;> (try simp only [ne_eq, Bool.not_eq_true, Bool.not_eq_false] at hb) <;> have hb2 := hb <;> (try simp only [decide_eq_true_eq, decide_eq_false_iff_not, beq_iff_eq, beq_eq_false_iff_ne, bne_iff_ne, ne_eq, Bool.not_eq_true', Bool.not_eq_false'] at hb2) <;> (try rw [hb]))))
    all_goals refine al_nil (hJ _ _ ⟨rfl, ?_⟩)
    all_goals simp only [↓set_get, Nat.reduceEqDiff, Bool.false_eq_true, ↓reduceIte, aenv0, aenvS, aenvN, one_ne]
    all_goals congr 1
    all_goals cases t
    all_goals first | (simp [pre]; done) | (simp at hb2; done) | (simp at hb2; omega) | (rw [Bool.eq_iff_iff]; simp [pre]; done)
  rintro ρ1 s ⟨rfl, g4⟩
  refine awp_ret (afin_ret (.done ?_))
  simp only [ares, aone, g4]
  exact hK

def dCutP (c : UInt8) (t : List UInt8) : D := if pre c t = true then .tup [.str t.tail, .bool true] else .tup [.str t, .bool false]
theorem CutP_c {c : UInt8} {t : List UInt8} (ht : t.length ≤ 140737488355328) (hK : K (dCutP c t) s) : ACalls prog γ 132 [.str t, .str [c]] s K := by
  refine acalls_of_awp (by kernel_rfl) func132 rfl (by kernel_rfl) rfl rfl (by kernel_rfl) (Nat.le_of_ble_eq_true rfl) ?_
  refine rs ?_
  refine run ?_
  refine al_done ?_
  refine rs ?_
  refine run ?_
  (refine al_set ?_ ?_ ?_ ?_; rotate_left 2; (· intro K hK; refine S1 ?_; refine Or.inl (HasP_c ht ?_); exact hK))
  refine run ?_
  refine al_done ?_
  unfold dCutP at hK
  cases hp : pre c t
  · rw [hp] at hK
    refine asc ?_; refine ai ?_ ?_
    · intro _
      refine rs ?_
      refine run ?_
      refine rets ?_
      exact hK
    · intro h; cases h
  · rw [hp] at hK
    have hl : 1 ≤ t.length := by
      cases t with
      | nil => simp [pre] at hp
      | cons => simp
    have hd : t.drop 1 = t.tail := List.drop_one
    refine asc ?_; refine ai ?_ ?_
    · intro h; cases h
    · intro _
      refine rs ?_
      refine run ?_
      (refine al_set ?_ ?_ ?_ ?_; rotate_left 2; (· intro K hK; refine S1 ?_; refine slice_str isStr9 (l := 1) (h := t.length) (bound_at (by omega) rfl) rfl (by omega) (by omega) ?_; exact hK))
      rw [List.take_length, hd]
      refine run ?_
      refine rets ?_
      exact hK
theorem CutPre_c {c : UInt8} {t : List UInt8} (ht : t.length ≤ 140737488355328) (hK : K (dCutP c t) s) : ACalls prog γ 127 [.str t, .str [c]] s K := by
  refine acalls_of_awp (by kernel_rfl) func127 rfl (by kernel_rfl) rfl rfl (by kernel_rfl) (Nat.le_of_ble_eq_true rfl) ?_
  refine rs ?_
  refine run ?_
  refine al_done ?_
  refine rs ?_
  refine run ?_
  (refine al_set ?_ ?_ ?_ ?_; rotate_left 2; (· intro K hK; refine S1 ?_; refine Or.inl (CutP_c ht ?_); exact hK))
  unfold dCutP at hK ⊢
  cases hp : pre c t
  · rw [hp] at hK
    refine run ?_
    refine rets ?_
    exact hK
  · rw [hp] at hK
    refine run ?_
    refine rets ?_
    exact hK

def countB (c : UInt8) (t : List UInt8) : Option (Nat × List UInt8) := if pre c t = true then readB t.tail else none
theorem Count_c {c : UInt8} {t : List UInt8} (ht : t.length ≤ 140737488355328) (hK : K (dRead (countB c t)) s) : ACalls prog γ 114 [.str t, .str [c]] s K := by
  refine acalls_of_awp (by kernel_rfl) func114 rfl (by kernel_rfl) rfl rfl (by kernel_rfl) (Nat.le_of_ble_eq_true rfl) ?_
  refine rs ?_
  refine run ?_
  refine al_done ?_
  refine rs ?_
  refine run ?_
  (refine al_set ?_ ?_ ?_ ?_; rotate_left 2; (· intro K hK; refine S1 ?_; refine Or.inl (CutPre_c ht ?_); exact hK))
  unfold countB at hK
  unfold dCutP
  cases hp : pre c t
  · rw [hp] at hK
    simp only [Bool.false_eq_true, if_false]
    refine run ?_
    refine al_done ?_
    refine rs ?_
    refine run ?_
    refine al_done ?_
    refine asc ?_; refine ai ?_ ?_
    · intro _
      refine rs ?_
      refine run ?_
      refine rets ?_
      exact hK
    · intro h; cases h
  · rw [hp] at hK
    simp only [if_true] at hK ⊢
    refine run ?_
    refine al_done ?_
    refine rs ?_
    refine run ?_
    refine al_done ?_
    refine asc ?_; refine ai ?_ ?_
    · intro h; cases h
    · intro _
      have hl : t.tail.length ≤ 140737488355328 := by rw [List.length_tail]; omega
      refine rs ?_
      refine run ?_
      (refine al_set ?_ ?_ ?_ ?_; rotate_left 2; (· intro K hK; refine S1 ?_; refine Or.inl (Read_c hl ?_); exact hK))
      rw [dRead_q]
      refine run ?_
      refine rets ?_
      rw [dRead_q] at hK
      exact hK
end Go.Proofs.Try

/- gossip: known heads read. -/
set_option maxRecDepth 8000
set_option linter.unusedSimpArgs false
set_option linter.unusedVariables false
namespace Go.Proofs.Try
open Go Go.Av
set_option pp.maxSteps 900
attribute [local irreducible] alist awp adraw apure
attribute [local go_sem] cellsOf_int cellsOf_bool cellsOf_str cellsOf_nilp cellsOf_nil cellsOf_e0 cellsOf_sl cellsOf_osl cellsOf_ptr cellsOf_eptr cellsOf_fn cellsOf_agg okc_int okc_bool okc_str okc_nilp okc_nil okc_e0 okc_sl okc_osl okc_ptr okc_eptr okc_fn okc_agg and_assoc splice_0n splice_0c splice_s load_ptr load_eptr read_t read_f store_p cells_inj set_same exists_and_left List.length_cons List.length_nil List.drop_zero List.drop_succ_cons List.take_succ_cons List.take_zero Option.isSome_some
variable {γ : Gl} {σ s : St} {K : D → St → Prop}
attribute [local go_sem] roD_len roD_33 roD_34 roD_35 roD_36 roD_h roD_a rosD_len headD_len headD_0 headD_a headD_r spl87 sgD_len sgD_0 sgD_33 sgD_34 sgD_35 sgD_a sgD_h sgD_r spl27 byt27 spl91 length_bytesD List.length_replicate splice_self sgsD_len headsD_len Int.toNat_natCast List.length_append

def okH (t : List UInt8) : Prop := (readB t).isSome = true ∧ (unhashB (r1 t)).isSome = true ∧ (q1 t).1 ≤ 4096
instance (t : List UInt8) : Decidable (okH t) := by unfold okH; infer_instance
def hdH (t : List UInt8) : Head := ⟨((q1 t).1 : Nat), (q2 (r1 t)).1, (q2_len _).2⟩
def kN : Nat → List UInt8 → Option (List Head × List UInt8)
  | 0, r => some ([], r)
  | m + 1, r => if okH r then (kN m (r2 r)).map (fun p => (hdH r :: p.1, p.2)) else none
def getK (t : List UInt8) : Option (List Head) := match countB 68 t with
  | none => none
  | some (n, r) => if n ≤ 64 then (match kN n r with
    | some (l, []) => some l
    | _ => none) else none
def dGetK (t : List UInt8) : D := match getK t with
  | some l => .tup [.sl l.length (headsD l) none, .int .i64 0]
  | none => .tup [.sl 0 [] none, .int .i64 10]
theorem countB_len {c : UInt8} {t r : List UInt8} {n : Nat} (h : countB c t = some (n, r)) : r.length ≤ t.length ∧ n < 18446744073709551616 := by
  unfold countB at h
  split at h
  · have := readB_len h
    rw [List.length_tail] at this
    exact ⟨by omega, this.2⟩
  · cases h
theorem r1_len (t : List UInt8) : (r1 t).length ≤ t.length := (q1_len t).1
theorem r2_len (t : List UInt8) : (r2 t).length ≤ t.length := Nat.le_trans (q2_len (r1 t)).1 (r1_len t)

theorem gGetKnown_c {t : List UInt8} (ht : t.length ≤ 140737488355328) (hK : K (dGetK t) s) : ACalls prog γ 78 [.str t] s K := by
  refine acalls_of_awp (by kernel_rfl) func78 rfl (by kernel_rfl) rfl rfl (by kernel_rfl) (Nat.le_of_ble_eq_true rfl) ?_
  refine rs ?_
  refine run ?_
  refine al_done ?_
  refine rs ?_
  refine run ?_
  (refine al_set ?_ ?_ ?_ ?_; rotate_left 2; (· intro K hK; refine S1 ?_; refine Or.inl (Count_c ht ?_); exact hK))
  cases hc : countB 68 t with
  | none =>
    have hK : K (.tup [.sl 0 [] none, .int .i64 10]) s := by simpa [dGetK, getK, hc] using hK
    simp only [dRead]
    refine run ?_
    refine al_done ?_
    refine rs ?_
    refine run ?_
    refine al_done ?_
    refine asc ?_; refine ai ?_ ?_
    · intro _
      refine rs ?_
      refine run ?_
      refine al_nil (rx_nil (t := 2) (by simp only [↓set_get, Nat.reduceEqDiff, Bool.false_eq_true, ↓reduceIte, aenv0, aenvS, aenvN, one_ne]) (.done ?_))
      refine awp_ret (afin_ret (.done ?_)); simp only [ares, aone, ↓set_get, Nat.reduceEqDiff, Bool.false_eq_true, ↓reduceIte, aenv0, aenvS, aenvN, one_ne]
      exact hK
    · intro h; cases h
  | some p =>
  obtain ⟨n, r⟩ := p
  obtain ⟨hrl, hnl⟩ := countB_len hc
  simp only [dRead]
  refine run ?_
  refine al_done ?_
  refine rs ?_
  refine run ?_
  refine al_done ?_
  refine asc ?_; refine ai ?_ ?_
  · intro h
    have h : ¬ n ≤ 64 := by have := of_decide_eq_true h
                            omega
    have hK : K (.tup [.sl 0 [] none, .int .i64 10]) s := by simpa [dGetK, getK, hc, h] using hK
    refine rs ?_
    refine run ?_
    refine al_nil (rx_nil (t := 2) (by simp only [↓set_get, Nat.reduceEqDiff, Bool.false_eq_true, ↓reduceIte, aenv0, aenvS, aenvN, one_ne]) (.done ?_))
    refine awp_ret (afin_ret (.done ?_)); simp only [ares, aone, ↓set_get, Nat.reduceEqDiff, Bool.false_eq_true, ↓reduceIte, aenv0, aenvS, aenvN, one_ne]
    exact hK
  intro h
  have h : n ≤ 64 := by have := of_decide_eq_false h
                        omega
  have hg : getK t = (match kN n r with | some (l, []) => some l | _ => none) := by rw [getK, hc]; simp only [if_pos h]
  refine rs ?_
  refine run ?_
  refine al_done ?_
  refine rs ?_
  refine run ?_
  refine al_done ?_
  refine asc ?_; refine awp_while (fun m ρ τ => ∃ (done : List Head) (rest : List UInt8) (d : D), done.length + m = n ∧ rest.length ≤ r.length ∧ kN n r = (kN m rest).map (fun p => (done ++ p.1, p.2)) ∧ Own s 87 33 done.length (headsD done) d τ ∧ ρ 5 = .str rest ∧ ρ 7 = d ∧ ρ 25 = .int .u64 (n : Nat) ∧ ρ 26 = .int .u64 (done.length : Nat)) n ?_ ?_
  · refine ⟨[], r, .nil, by simp, Nat.le_refl _, by cases kN n r <;> simp, own_nil _ _ _, ?_, ?_, ?_, ?_⟩
    all_goals simp only [↓set_get, Nat.reduceEqDiff, Bool.false_eq_true, ↓reduceIte, aenv0, aenvS, aenvN, one_ne]
    rfl
  rintro m ρ τ ⟨done, rest, d, hlen, hrest, hu, hown, g5, g7, g25, g26⟩
  refine rs ?_
  refine runX (And.intro g25 g26) ?_
  refine al_done ?_
  refine asc ?_; refine ate ?_ ?_
  · intro hb2
    have hb2 : 0 < m := by have := of_decide_eq_true hb2
                           omega
    obtain ⟨m, rfl⟩ : ∃ j, m = j + 1 := ⟨m - 1, by omega⟩
    have e1 := r1_len rest
    have e2 := r2_len rest
    have n1 := (q1_len rest).2
    have n2 := (q2_len (r1 rest)).2
    have d1 : dRead (readB rest) = .tup [.int .u64 (q1 rest).1, .str (r1 rest), .bool (readB rest).isSome] := dRead_q rest
    have d2 : dUnhash (unhashB (r1 rest)) = .tup [.agg (bytesD (q2 (r1 rest)).1), .str (r2 rest), .bool (unhashB (r1 rest)).isSome] := dUnhash_q _
    refine asc ?_; refine awp_body ?_
    refine rs ?_
    refine runX g5 ?_
    (refine al_set ?_ ?_ ?_ ?_; rotate_left 2; (· intro K hK; refine S1 ?_; refine Or.inl (Read_c (by omega) ?_); exact hK))
    rw [d1]
    refine run ?_
    refine al_done ?_
    refine rs ?_
    refine run ?_
    (refine al_set ?_ ?_ ?_ ?_; rotate_left 2; (· intro K hK; refine S1 ?_; refine Or.inl (Unhash_c (by omega) ?_); exact hK))
    rw [d2]
    refine run ?_
    (refine aF ?_; intro i hi; (try (have h_hi := hi; simp only [set_none] at h_hi)))
    refine run ?_
    refine al_done ?_
    rw [set_set]
    have hσi := own_fresh hown hi
    have hof := own_frame (o := .cells (bytesD (q2 (r1 rest)).1) 27) hown hi
    refine asc ?_; refine awp_rj (fun ρ' s' => s' = τ.set i (.cells (bytesD (q2 (r1 rest)).1) 27) ∧ ρ' 7 = d ∧ ρ' 8 = .int .u64 (q1 rest).1 ∧ ρ' 9 = .str (r2 rest) ∧ ρ' 11 = .ptr i 0 ∧ ρ' 25 = .int .u64 (n : Nat) ∧ ρ' 26 = .int .u64 (done.length : Nat) ∧ ρ' 49 = .bool (decide (¬ okH rest))) ?_ ?_
    · intro K' hJ
      (repeat' (first | refine run1 ?_ | (refine al_guard rfl (by simp only [↓set_get, Nat.reduceEqDiff, Bool.false_eq_true, ↓reduceIte, aenv0, aenvS, aenvN, one_ne]; rfl) (fun hb => ?_) (fun hb => ?_) <;> (try simp only [ne_eq, Bool.not_eq_true, Bool.not_eq_false] at hb) <;> have hb2 := hb <;> (try simp only [decide_eq_true_eq, decide_eq_false_iff_not, beq_iff_eq, beq_eq_false_iff_ne, bne_iff_ne, ne_eq, Bool.not_eq_true', Bool.not_eq_false'] at hb2) <;> (try rw [hb]))))
      all_goals refine al_nil (hJ _ _ ⟨rfl, ?_, ?_, ?_, ?_, ?_, ?_, ?_⟩)
      all_goals simp only [↓set_get, Nat.reduceEqDiff, Bool.false_eq_true, ↓reduceIte, aenv0, aenvS, aenvN, one_ne, g7, g25, g26]
      all_goals (congr 1; rw [Bool.eq_iff_iff]; simp_all [okH]; try omega)
    rintro ρ1 _ ⟨rfl, g7, g8, g9, g11, g25, g26, g49⟩
    by_cases hok : okH rest
    · have h49 : decide (¬ okH rest) = false := decide_eq_false (fun h => h hok)
      have n3 : (q1 rest).1 ≤ 4096 := hok.2.2
      refine asc ?_; refine aiX g49 ?_ ?_
      · intro h; rw [h49] at h; cases h
      intro _
      have hcl := headD_len (hdH rest)
      refine awp_region ?_
      refine runX (And.intro g7 (And.intro g8 (And.intro g9 g11))) ?_
      (refine al_set ?_ ?_ ?_ ?_; rotate_left 2; (· intro K hK; refine S1 ?_; refine build87 n2 ?_; exact hK))
      (refine al_set ?_ ?_ ?_ ?_; rotate_left 2; (· intro K hK; refine S1 ?_; refine bsl_agg0 elt78 zc87 rfl hcl (by decide) ?_; exact hK))
      (refine al_rel ?_ ?_ ?_; rotate_left 1; (· intro K hK; simp (disch := (first | omega | (simp only [length_bytesD, List.length_append, List.length_cons, List.length_nil, List.length_map, List.length_replicate, List.length_take, List.length_drop]; omega))) only [go_sem, ↓set_get, ↓reduceIte, ↓o_bsl, ↓o_build, Nat.reduceEqDiff, Nat.reduceAdd, Nat.reduceMul, Int.reduceEq, Int.reduceNe,  xcells_sl, hcl]; refine own_app hof (m := 1) (by decide) hcl (by omega) ?_; exact hK))
      intro d' s' hown'
      obtain ⟨s3, hle3, hown3⟩ := own_unframe hown' hσi
      refine runX g9 ?_
      refine al_nil (.forget s3 hle3 (.done ?_))
      refine awp_region ?_
      refine runX g26 ?_
      refine al_nil ?_
      refine lq_next m (by omega) ⟨done ++ [hdH rest], r2 rest, d', by simp; omega, by omega, ?_, ?_, ?_, ?_, ?_, ?_⟩
      · rw [hu, kN, if_pos hok]; cases kN m (r2 rest) <;> simp
      · rw [List.length_append, headsD, rows_append, rows_one]; exact hown3
      · simp only [↓set_get, Nat.reduceEqDiff, Bool.false_eq_true, ↓reduceIte, aenv0, aenvS, aenvN, one_ne]
      · simp only [↓set_get, Nat.reduceEqDiff, Bool.false_eq_true, ↓reduceIte, aenv0, aenvS, aenvN, one_ne]
      · simp only [↓set_get, Nat.reduceEqDiff, Bool.false_eq_true, ↓reduceIte, aenv0, aenvS, aenvN, one_ne, g25]
      · simp only [↓set_get, Nat.reduceEqDiff, Bool.false_eq_true, ↓reduceIte, aenv0, aenvS, aenvN, one_ne]; congr 1; simp
    · have h49 : decide (¬ okH rest) = true := decide_eq_true hok
      have hnone : kN n r = none := by rw [hu, kN, if_neg hok]; rfl
      rw [hnone] at hg
      have hK : K (.tup [.sl 0 [] none, .int .i64 10]) s := by simpa [dGetK, hg] using hK
      refine asc ?_; refine aiX g49 ?_ ?_
      · intro _
        refine rs ?_
        refine run ?_
        refine al_nil (rx_nil (t := 2) (by simp only [↓set_get, Nat.reduceEqDiff, Bool.false_eq_true, ↓reduceIte, aenv0, aenvS, aenvN, one_ne]) (.forget s ((own_le' hown).trans (le_set _ hi)) (.done ?_)))
        refine awp_ret (afin_ret (.done ?_)); simp only [ares, aone, ↓set_get, Nat.reduceEqDiff, Bool.false_eq_true, ↓reduceIte, aenv0, aenvS, aenvN, one_ne]
        exact hK
      · intro h; rw [h49] at h; cases h
  · intro hb2
    have hb2 : m = 0 := by have := of_decide_eq_false hb2
                           omega
    subst hb2
    have hsome : kN n r = some (done, rest) := by rw [hu, kN]; simp
    rw [hsome] at hg
    refine lq_exit ?_
    refine rs ?_
    refine runX g5 ?_
    refine al_done ?_
    cases rest with
    | nil =>
      have hK : K (.tup [.sl done.length (headsD done) none, .int .i64 0]) s := by simpa [dGetK, hg] using hK
      refine asc ?_; refine ai ?_ ?_
      · intro h; simp at h
      intro _
      refine rs ?_
      refine runX g7 ?_
      refine al_nil (rx_own hown (t := 2) (by simp only [↓set_get, Nat.reduceEqDiff, Bool.false_eq_true, ↓reduceIte, aenv0, aenvS, aenvN, one_ne]) (.done ?_))
      refine awp_ret (afin_ret (.done ?_)); simp only [ares, aone, ↓set_get, Nat.reduceEqDiff, Bool.false_eq_true, ↓reduceIte, aenv0, aenvS, aenvN, one_ne]
      exact hK
    | cons u v =>
      have hK : K (.tup [.sl 0 [] none, .int .i64 10]) s := by simpa [dGetK, hg] using hK
      refine asc ?_; refine ai ?_ ?_
      · intro _
        refine rs ?_
        refine run ?_
        refine al_nil (rx_nil (t := 2) (by simp only [↓set_get, Nat.reduceEqDiff, Bool.false_eq_true, ↓reduceIte, aenv0, aenvS, aenvN, one_ne]) (.forget s (own_le' hown) (.done ?_)))
        refine awp_ret (afin_ret (.done ?_)); simp only [ares, aone, ↓set_get, Nat.reduceEqDiff, Bool.false_eq_true, ↓reduceIte, aenv0, aenvS, aenvN, one_ne]
        exact hK
      · intro h; simp at h
end Go.Proofs.Try

/- gossip: the examples. -/
set_option maxRecDepth 8000
set_option linter.unusedSimpArgs false
set_option linter.unusedVariables false
namespace Go.Proofs.Try
open Go Go.Av
set_option pp.maxSteps 900
attribute [local irreducible] alist awp adraw apure
attribute [local go_sem] cellsOf_int cellsOf_bool cellsOf_str cellsOf_nilp cellsOf_nil cellsOf_e0 cellsOf_sl cellsOf_osl cellsOf_ptr cellsOf_eptr cellsOf_fn cellsOf_agg okc_int okc_bool okc_str okc_nilp okc_nil okc_e0 okc_sl okc_osl okc_ptr okc_eptr okc_fn okc_agg and_assoc splice_0n splice_0c splice_s load_ptr load_eptr read_t read_f store_p cells_inj set_same exists_and_left List.length_cons List.length_nil List.drop_zero List.drop_succ_cons List.take_succ_cons List.take_zero Option.isSome_some
variable {γ : Gl} {σ s : St} {K : D → St → Prop}
attribute [local go_sem] roD_len roD_33 roD_34 roD_35 roD_36 roD_h roD_a rosD_len headD_len headD_0 headD_a headD_r spl87 sgD_len sgD_0 sgD_33 sgD_34 sgD_35 sgD_a sgD_h sgD_r spl27 byt27 spl91 length_bytesD List.length_replicate splice_self sgsD_len headsD_len Int.toNat_natCast List.length_append

def one32 : List UInt8 := 1 :: List.replicate 31 0
def roOf (n : Int) : Ro where
  head := ⟨n, one32, rfl⟩
  index := 0
  sig := [115]
  more := 0
  path := [zero32, zero32, zero32]
  hp := fun x hx => by simp at hx; rw [hx]; rfl
  m0 := by decide
  m1 := by decide
theorem build27 {K : D → St → Prop} (hk : K (.agg (bytesD one32)) s) : abuild prog 27 [(0, .int .u8 1)] s K := by
  have hf : afill (fun i => some (i * 1, 1)) (List.replicate 32 (D.int .u8 0)) [(0, .int .u8 1)] = some (bytesD one32) := by
    simp only [afill, cellsOf_int, okc_int, Nat.zero_mul]
    rw [if_pos ⟨trivial, rfl, by simp⟩]
    rfl
  simp only [abuild, zc27, show places prog 27 = some (fun i => some (i * 1, 1)) from by kernel_rfl, hf]
  exact hk
theorem make3 {K : D → St → Prop} (hk : K (pathD [zero32, zero32, zero32]) s) : amake prog 23 (.int .i64 3) (.int .i64 3) s K := by
  simp only [amake, elt23, zc27]
  exact ⟨trivial, by decide, by decide, .inr (.inr hk)⟩
theorem build134 {n : Int} {K : D → St → Prop} (hk : K (.agg (roD (roOf n))) s) : abuild prog 134 [(0, .agg (headD (roOf n).head)), (2, .str [115]), (4, pathD [zero32, zero32, zero32])] s K := by
  have hz : zc prog 134 = some (D.int .i64 0 :: (List.replicate 32 (.int .u8 0) ++ [.int .i64 0, .str [], .int .i8 0, .nil])) := zc134
  have hl := headD_len (roOf n).head
  have hf : afill (fun i => ([(0, 33), (33, 1), (34, 1), (35, 1), (36, 1)] : List (Nat × Nat)).toArray[i]?) (D.int .i64 0 :: (List.replicate 32 (.int .u8 0) ++ [.int .i64 0, .str [], .int .i8 0, .nil])) [(0, .agg (headD (roOf n).head)), (2, .str [115]), (4, pathD [zero32, zero32, zero32])] = some (roD (roOf n)) := by
    simp only [afill, List.getElem?_toArray, List.getElem?_cons_zero, List.getElem?_cons_succ, cellsOf_agg, okc_agg, cellsOf_str, okc_str, pathD, cellsOf_sl, okc_sl]
    rw [if_pos ⟨trivial, hl, by simp⟩]
    have e1 : splice (D.int .i64 0 :: (List.replicate 32 (.int .u8 0) ++ [.int .i64 0, .str [], .int .i8 0, .nil])) 0 (headD (roOf n).head) = headD (roOf n).head ++ [.int .i64 0, .str [], .int .i8 0, .nil] := by
      rw [splice, List.take_zero, List.nil_append, hl]; rfl
    rw [e1, if_pos ⟨trivial, rfl, by simp [hl]⟩]
    rfl
  simp only [abuild, hz, pl134, hf]
  exact hk
theorem signedOf_c {n : Int} (hK : K (.agg (sgD (signedO (roOf n)))) s) : ACalls prog γ 96 [.int .i64 n] s K := by
  refine acalls_of_awp (by kernel_rfl) func96 rfl (by kernel_rfl) rfl rfl (by kernel_rfl) (Nat.le_of_ble_eq_true rfl) ?_
  refine rs ?_
  (refine aF ?_; intro b hb; (try (have h_hb := hb; simp only [set_none] at h_hb)))
  refine al_done ?_
  refine rs ?_
  refine run ?_
  (refine al_set ?_ ?_ ?_ ?_; rotate_left 2; (· intro K hK; refine S1 ?_; refine build27 ?_; exact hK))
  refine run ?_
  (refine al_set ?_ ?_ ?_ ?_; rotate_left 2; (· intro K hK; refine S1 ?_; refine build87 (r := one32) rfl ?_; exact hK))
  refine run ?_
  (refine al_set ?_ ?_ ?_ ?_; rotate_left 2; (· intro K hK; refine S1 ?_; refine make3 ?_; exact hK))
  (refine al_set ?_ ?_ ?_ ?_; rotate_left 2; (· intro K hK; refine S1 ?_; refine build134 (n := n) ?_; exact hK))
  (refine al_set ?_ ?_ ?_ ?_; rotate_left 2; (· intro K hK; refine S1 ?_; refine Or.inl (Signed_c (by simp [roOf]) ?_); exact hK))
  refine run ?_
  refine al_done (awp_ret (afin_cell s ?_ ?_))
  · rw [set_set]; exact le_fresh hb (St.le.refl _)
  simp only [ares, aone, ↓set_get, Nat.reduceEqDiff, Bool.false_eq_true, ↓reduceIte, aenv0, aenvS, aenvN, one_ne, load_ptr, tagg91, tsz91, set_same]
  exact ⟨_, _, rfl, by simp only [read_t, sgD_len, List.drop_zero, sgD_a]; exact ⟨by decide, hK⟩⟩

def exO (n : Int) : SHead := signedO (roOf n)
theorem exO_valid {n : Int} (h0 : 0 ≤ n) (h1 : n ≤ 4096) : valid (exO n) := by
  refine ⟨h0, h1, (by show (0 : Int) ≤ 0; decide), (by show (0 : Int) ≤ 7; decide), ?_, rfl⟩
  show ((rep [115] 16384).take 16384).length = 16384
  rw [List.length_take, rep_len]; rfl
theorem miss_ex : miss [(exO 1).head] [] [exO 1, exO 2] = [exO 2] := by
  have h1 : ¬ want [(exO 1).head] [] (exO 1) := fun h => h.2.2 (by simp)
  have h2 : want [(exO 1).head] [] (exO 2) := by
    refine ⟨by decide, exO_valid (by decide) (by decide), ?_⟩
    intro h
    simp only [List.mem_singleton] at h
    have := congrArg Head.size h
    exact absurd this (by decide)
  rw [miss, if_neg h1, miss, if_pos h2, miss]; rfl
theorem bsl2 {x y : SHead} {K : D → St → Prop} (hk : K (.sl 2 (sgsD [x, y]) none) s) : abuildSl prog 79 2 [(0, .agg (sgD x)), (1, .agg (sgD y))] s K := by
  have hz : zc prog 91 = some zero91 := zc91
  have hx := sgD_len x
  have hy := sgD_len y
  have hzl : zero91.length = 36 := rfl
  have hf : afill (fun i => some (i * 36, 36)) (List.replicate 2 zero91).flatten [(0, .agg (sgD x)), (1, .agg (sgD y))] = some (sgsD [x, y]) := by
    have e0 : (List.replicate 2 zero91).flatten = zero91 ++ zero91 := by simp [List.replicate]
    have e1 : splice (zero91 ++ zero91) 0 (sgD x) = sgD x ++ zero91 := by
      rw [splice, List.take_zero, List.nil_append, hx, Nat.zero_add, List.drop_left' hzl]
    have e2 : splice (sgD x ++ zero91) 36 (sgD y) = sgD x ++ sgD y := by
      rw [splice, List.take_left' hx, hy, List.drop_of_length_le (by rw [List.length_append, hx, hzl]; decide), List.append_nil]
    have e3 : sgsD [x, y] = sgD x ++ sgD y := by simp [sgsD, rowsD]
    simp only [afill, cellsOf_agg, okc_agg, Nat.zero_mul, Nat.one_mul]
    rw [e0, if_pos ⟨trivial, hx, by rw [List.length_append, hzl]; decide⟩, e1, if_pos ⟨trivial, hy, by rw [List.length_append, hx, hzl]; decide⟩, e2, e3]
  simp only [abuildSl, elt79, hz, hf]
  exact ⟨by decide, .inr (.inr hk)⟩
theorem wk_nil1 : ∀ (k : Nat) d d', ([D.nil] : List D)[k]? = some d → ([D.sl 0 [] none] : List D)[k]? = some d' → Wk d d' := by
  intro k d d' e e'
  cases k with
  | zero => cases e; cases e'; exact .nil
  | succ k => cases e
theorem gPutKnown_nil (hK : K (.tup [.str [68, 0], .int .i64 0]) s) : ACalls prog γ 61 [.nil] s K := by
  refine acalls_wk (args' := [.sl 0 [] none]) rfl wk_nil1 ?_
  refine gPutKnown_c (L := []) (tk := none) (by decide) ?_
  have : dGK [] = .tup [.str [68, 0], .int .i64 0] := by
    rw [dGK, if_pos ⟨by decide, fun x hx => by cases hx⟩]
    have : gknown [] = [68, 0] := by rw [gknown, hB, numB]; show 68 :: (numAcc 0 [0] ++ []) = _; rw [numAcc]; rfl
    rw [this]
  rw [this]; exact hK
theorem gPut_nil (hK : K (.tup [.str [], .int .i64 2]) s) : ACalls prog γ 59 [.nil] s K := by
  refine acalls_wk (args' := [.sl 0 [] none]) rfl wk_nil1 ?_
  refine gPut_c (L := []) (tk := none) (by decide) ?_
  rw [dGP, if_neg (fun h => absurd h.1.1 (by decide))]; exact hK
theorem gGetKnown_G (hK : K (.tup [.sl 0 [] none, .int .i64 10]) s) : ACalls prog γ 78 [.str [71]] s K := by
  refine gGetKnown_c (by decide) ?_
  have : getK [71] = none := by rw [getK, countB, if_neg (by decide)]
  rw [dGetK, this]; exact hK

theorem talked_c (hK : K (.bool true) s) : ACalls prog γ 58 [] s K := by
  have hsl : ((sgsD [exO 2]).drop (Int.toNat 0 * 36)).take 33 = headD (exO 2).head := by
    rw [show Int.toNat 0 * 36 = 0 from rfl, List.drop_zero, sgsD, rows_one, sgD_h]
  have hh : heq (exO 2).head (exO 2).head = true := (heq_iff _ _).2 rfl
  refine acalls_of_awp (by kernel_rfl) func58 rfl (by kernel_rfl) rfl rfl (by kernel_rfl) (Nat.le_of_ble_eq_true rfl) ?_
  refine rs ?_
  refine run ?_
  refine al_done ?_
  refine rs ?_
  (refine al_set ?_ ?_ ?_ ?_; rotate_left 2; (· intro K hK; refine S1 ?_; refine Or.inl (gPutKnown_nil ?_); exact hK))
  refine run ?_
  refine al_done ?_
  refine rs ?_
  (refine al_set ?_ ?_ ?_ ?_; rotate_left 2; (· intro K hK; refine S1 ?_; refine Or.inl (gPut_nil ?_); exact hK))
  refine run ?_
  refine al_done ?_
  refine rs ?_
  (refine al_set ?_ ?_ ?_ ?_; rotate_left 2; (· intro K hK; refine S1 ?_; refine Or.inl (gGetKnown_G ?_); exact hK))
  refine run ?_
  refine al_done ?_
  refine rs ?_
  (refine al_set ?_ ?_ ?_ ?_; rotate_left 2; (· intro K hK; refine S1 ?_; refine Or.inl (signedOf_c ?_); exact hK))
  (refine al_set ?_ ?_ ?_ ?_; rotate_left 2; (· intro K hK; refine S1 ?_; refine Or.inl (signedOf_c ?_); exact hK))
  refine run ?_
  (refine aF ?_; intro b hb; (try (have h_hb := hb; simp only [set_none] at h_hb)))
  (refine aF ?_; intro c hc; (try (have h_hc := hc; simp only [set_none] at h_hc)))
  refine run ?_
  refine al_done ?_
  have hcb : c ≠ b := (set_none.1 hc).1
  have hle : s.le ((((s.set b (.cells zero91 91)).set c (.cells zero91 91)).set b (.cells (sgD (exO 1)) 91)).set c (.cells (sgD (exO 2)) 91)) := by
    have hsc := (set_none.1 hc).2
    intro j x hx; simp only [set_app]; grind
  refine rs ?_
  refine run ?_
  (refine al_set ?_ ?_ ?_ ?_; rotate_left 2; (· intro K hK; refine S1 ?_; refine bsl2 (x := exO 1) (y := exO 2) ?_; exact hK))
  refine run ?_
  (refine al_set ?_ ?_ ?_ ?_; rotate_left 2; (· intro K hK; refine S1 ?_; refine bsl_agg0 elt78 zc87 rfl (headD_len _) (by decide) ?_; exact hK))
  refine run ?_
  (refine al_set ?_ ?_ ?_ ?_; rotate_left 2; (· intro K hK; refine S1 ?_; refine Or.inl (gMissing_c (L := [exO 1, exO 2]) (H := [(exO 1).head]) (by decide) (by decide) ?_); exact hK))
  rw [dMiss, miss_ex, show [exO 2].length = 1 from rfl]
  refine run ?_
  refine al_done ?_
  refine asc ?_; refine awp_pure (by kernel_rfl) ?_
  have hc1 : ((1 : Nat) : Int) = 1 := rfl
  refine runPX (And.intro hc1 hsl) ?_
  (refine ap_set ?_ ?_ ?_; rotate_left 1; (· intro K hK; refine S0 ?_; refine abin_head (a := (exO 2).head) (b := (exO 2).head) ?_; exact hK))
  rw [hh]
  refine runP ?_
  refine ap_done ?_
  refine awp_ret (afin_ret (.forget s hle (.done ?_)))
  simp only [ares, aone, ↓set_get, Nat.reduceEqDiff, Bool.false_eq_true, ↓reduceIte, aenv0, aenvS, aenvN, one_ne]
  exact hK
end Go.Proofs.Try

/- gossip: the statement on what is put. -/
set_option maxRecDepth 8000
set_option linter.unusedSimpArgs false
set_option linter.unusedVariables false
namespace Go.Proofs.Try
open Go Go.Av
set_option pp.maxSteps 900
attribute [local irreducible] alist awp adraw apure
attribute [local go_sem] cellsOf_int cellsOf_bool cellsOf_str cellsOf_nilp cellsOf_nil cellsOf_e0 cellsOf_sl cellsOf_osl cellsOf_ptr cellsOf_eptr cellsOf_fn cellsOf_agg okc_int okc_bool okc_str okc_nilp okc_nil okc_e0 okc_sl okc_osl okc_ptr okc_eptr okc_fn okc_agg and_assoc splice_0n splice_0c splice_s load_ptr load_eptr read_t read_f store_p cells_inj set_same exists_and_left List.length_cons List.length_nil List.drop_zero List.drop_succ_cons List.take_succ_cons List.take_zero Option.isSome_some
variable {γ : Gl} {σ s : St} {K : D → St → Prop}
attribute [local go_sem] roD_len roD_33 roD_34 roD_35 roD_36 roD_h roD_a rosD_len headD_len headD_0 headD_a headD_r spl87 sgD_len sgD_0 sgD_33 sgD_34 sgD_35 sgD_a sgD_h sgD_r spl27 byt27 spl91 length_bytesD List.length_replicate splice_self sgsD_len headsD_len Int.toNat_natCast List.length_append

def gpS (L : List SHead) : List UInt8 := if GPOk L then gput L else []
def gpE (L : List SHead) : Int := if GPOk L then 0 else 2
theorem dGP_q (L : List SHead) : dGP L = .tup [.str (gpS L), .int .i64 (gpE L)] := by unfold dGP gpS gpE; split <;> rfl
def gkS (L : List Head) : List UInt8 := if GKOk L then gknown L else []
def gkE (L : List Head) : Int := if GKOk L then 0 else 2
theorem dGK_q (L : List Head) : dGK L = .tup [.str (gkS L), .int .i64 (gkE L)] := by unfold dGK gkS gkE; split <;> rfl

theorem GossipPut_c {L : List Ro} {H : List Head} {t1 t2 : Option (Nat × Nat)} (hf : Fine L) (hK : K (.bool true) s) : ACalls prog γ 11 [.sl L.length (rosD L) t1, .sl H.length (headsD H) t2] s K := by
  refine acalls_of_awp (by kernel_rfl) func11 rfl (by kernel_rfl) rfl rfl (by kernel_rfl) (Nat.le_of_ble_eq_true rfl) ?_
  refine rs ?_
  refine run ?_
  refine al_done ?_
  refine rs ?_
  refine run ?_
  (refine al_set ?_ ?_ ?_ ?_; rotate_left 2; (· intro K hK; refine S1 ?_; refine Or.inl (Sgd_c hf (by decide) ?_); exact hK))
  by_cases hg : SgOk L 5
  · rw [dSg, if_pos hg]
    have hL : L.length ≤ 5 := by have := hg.1; omega
    generalize hM : L.map signedO = M
    have hml : L.length = M.length := by rw [← hM, List.length_map]
    rw [hml] at hL
    rw [hml]
    refine run ?_
    refine al_done ?_
    refine rs ?_
    refine run ?_
    refine al_done ?_
    refine asc ?_; refine ai ?_ ?_
    · intro _
      refine rs ?_
      (refine al_set ?_ ?_ ?_ ?_; rotate_left 2; (· intro K hK; refine S1 ?_; refine Or.inl (talked_c ?_); exact hK))
      refine run ?_
      refine rets ?_
      exact hK
    intro h
    have h : H.length ≤ 80 := by have := of_decide_eq_false h
                                 omega
    refine rs ?_
    refine run ?_
    (refine al_set ?_ ?_ ?_ ?_; rotate_left 2; (· intro K hK; refine S1 ?_; refine Or.inl (gPut_c (by omega) ?_); exact hK))
    rw [dGP_q]
    refine run ?_
    refine al_done ?_
    refine rs ?_
    refine run ?_
    (refine al_set ?_ ?_ ?_ ?_; rotate_left 2; (· intro K hK; refine S1 ?_; refine Or.inl (rGPut_c (by omega) ?_); exact hK))
    rw [dGP_q]
    refine run ?_
    refine al_done ?_
    refine rs ?_
    refine run ?_
    (refine al_set ?_ ?_ ?_ ?_; rotate_left 2; (· intro K hK; refine S1 ?_; refine Or.inl (gPutKnown_c (by omega) ?_); exact hK))
    rw [dGK_q]
    refine run ?_
    refine al_done ?_
    refine rs ?_
    refine run ?_
    (refine al_set ?_ ?_ ?_ ?_; rotate_left 2; (· intro K hK; refine S1 ?_; refine Or.inl (rGPutKnown_c (by omega) ?_); exact hK))
    rw [dGK_q]
    refine run ?_
    refine al_done ?_
    refine rs ?_
    refine run ?_
    (refine al_set ?_ ?_ ?_ ?_; rotate_left 2; (· intro K hK; refine S1 ?_; refine Or.inl (talked_c ?_); exact hK))
    refine run ?_
    refine rets ?_
    exact hK
  · rw [dSg, if_neg hg]
    refine run ?_
    refine al_done ?_
    refine rs ?_
    refine run ?_
    refine al_done ?_
    refine asc ?_; refine ai ?_ ?_
    · intro _
      refine rs ?_
      (refine al_set ?_ ?_ ?_ ?_; rotate_left 2; (· intro K hK; refine S1 ?_; refine Or.inl (talked_c ?_); exact hK))
      refine run ?_
      refine rets ?_
      exact hK
    · intro h; cases h
end Go.Proofs.Try
