/- Heads compared, sought; a path copied. -/
import Derived.Test.YtgbfchagmniiiaaGB
set_option maxRecDepth 8000
set_option linter.unusedSimpArgs false
set_option linter.unusedVariables false
namespace Go.Proofs.Try
open Go Go.Av
set_option pp.maxSteps 900
attribute [local irreducible] alist awp adraw apure
attribute [local go_sem] cellsOf_int cellsOf_bool cellsOf_str cellsOf_nilp cellsOf_nil cellsOf_e0 cellsOf_sl cellsOf_osl cellsOf_ptr cellsOf_eptr cellsOf_fn cellsOf_agg okc_int okc_bool okc_str okc_nilp okc_nil okc_e0 okc_sl okc_osl okc_ptr okc_eptr okc_fn okc_agg and_assoc splice_0n splice_0c splice_s load_ptr load_eptr read_t read_f store_p cells_inj set_same exists_and_left List.length_cons List.length_nil List.drop_zero List.drop_succ_cons List.take_succ_cons List.take_zero Option.isSome_some
variable {γ : Gl} {σ s : St} {K : D → St → Prop}
attribute [local go_sem] roD_len roD_33 roD_34 roD_35 roD_36 roD_h roD_a rosD_len headD_len headD_0 headD_a headD_r spl87 sgD_len sgD_0 sgD_33 sgD_34 sgD_35 sgD_a sgD_h sgD_r spl27 byt27 spl91 length_bytesD List.length_replicate splice_self sgsD_len headsD_len Int.toNat_natCast List.length_append

def heq (a b : Head) : Bool := a.size == b.size && decide (a.root = b.root)
theorem heq_iff (a b : Head) : heq a b = true ↔ a = b := by
  unfold heq
  obtain ⟨a1, a2, a3⟩ := a
  obtain ⟨b1, b2, b3⟩ := b
  simp
instance : DecidableEq Head := fun a b => decidable_of_iff (heq a b = true) (heq_iff a b)
theorem heq_d (a b : Head) : heq a b = decide (a = b) := by
  rw [Bool.eq_iff_iff, heq_iff, decide_eq_true_iff]
theorem fits87 (h : Head) : fits (.int .i64 :: List.replicate 32 (.int .u8)) (headD h) = true := by
  simp only [headD, fits, fit1, decide_true, Bool.true_and]
  exact fits_bytes 32 _ h.hr
theorem eqL87 (a b : Head) : eqL (headD a) (headD b) = some (heq a b) := by
  simp only [headD, eqL, eq1, eqL_bytes _ _ (a.hr.trans b.hr.symm), heq]
  simp
theorem abin_head {op : BinOp} {a b : Head} {K : D → St → Prop} (hk : aeq op (heq a b) s K) : abin prog op 87 (.agg (headD a)) (.agg (headD b)) s K :=
  abin_agg tagg87 eg87 ks87 (fits87 a) (fits87 b) (eqL87 a b) hk

theorem Index_c {H : List Head} {h : Head} {tk : Option (Nat × Nat)} (hL : H.length ≤ 1000000) (hK : ∀ r : Int, (0 ≤ r ↔ h ∈ H) → K (.int .i64 r) s) : ACalls prog γ 126 [.sl H.length (headsD H) tk, .agg (headD h)] s K := by
  have hml := headsD_len H
  refine acalls_of_awp (by kernel_rfl) func126 rfl (by kernel_rfl) rfl rfl (by kernel_rfl) (Nat.le_of_ble_eq_true rfl) ?_
  refine rs ?_
  (refine aF ?_; intro b hb; (try (have h_hb := hb; simp only [set_none] at h_hb)))
  refine run ?_
  refine al_done ?_
  refine rs ?_
  refine run ?_
  refine al_done ?_
  refine asc ?_; refine awp_while (fun n ρ t => ∃ k : Nat, n = H.length - k ∧ k ≤ H.length ∧ h ∉ H.take k ∧ t = s.set b (.cells (headD h) 87) ∧ ρ 0 = .sl H.length (headsD H) tk ∧ ρ 3 = .ptr b 0 ∧ ρ 7 = .int .i64 (H.length : Nat) ∧ ρ 8 = .int .i64 (k : Nat)) H.length ?_ ?_
  · refine ⟨0, rfl, Nat.zero_le _, fun hx => by simp at hx, rfl, ?_, ?_, ?_, ?_⟩
    all_goals simp only [↓set_get, Nat.reduceEqDiff, Bool.false_eq_true, ↓reduceIte, aenv0, aenvS, aenvN, one_ne]
    rfl
  rintro n ρ _ ⟨k, rfl, hk, hv, rfl, h0, h3, h7, h8⟩
  refine rs ?_
  refine runX (And.intro h7 h8) ?_
  refine al_done ?_
  refine asc ?_; refine ate ?_ ?_
  · intro hb2
    have hb2 : k < H.length := by have := of_decide_eq_true hb2
                                  omega
    have hat : ((headsD H).drop (k * 33)).take 33 = headD H[k] := rows_at headD_len H hb2
    refine asc ?_; refine awp_body ?_
    refine rs ?_
    refine runX h8 ?_
    refine al_done ?_
    refine asc ?_; refine awp_pure (by kernel_rfl) ?_
    refine runPX (And.intro h0 (And.intro h3 hat)) ?_
    (refine ap_set ?_ ?_ ?_; rotate_left 1; (· intro K hK; refine S0 ?_; refine abin_head ?_; exact hK))
    refine ap_done ?_
    refine ac ?_ ?_
    · intro he
      have he : h = H[k] := (heq_iff _ _).1 he
      refine rs ?_
      refine run ?_
      refine al_done (awp_ret (afin_ret (.forget s (le_fresh hb (St.le.refl _)) (.done ?_))))
      simp only [ares, aone, ↓set_get, Nat.reduceEqDiff, Bool.false_eq_true, ↓reduceIte, aenv0, aenvS, aenvN, one_ne]
      exact hK _ ⟨fun _ => by rw [he]; exact List.getElem_mem hb2, fun _ => by omega⟩
    · intro he
      have he : h ≠ H[k] := fun e => by rw [(heq_iff _ _).2 e] at he; cases he
      refine awp_skip (Rx.done ?_)
      refine awp_region ?_
      refine runX h8 ?_
      refine al_nil ?_
      refine lq_next (H.length - (k + 1)) (by omega) ⟨k + 1, rfl, by omega, ?_, rfl, ?_, ?_, ?_, ?_⟩
      · rw [List.take_succ_eq_append_getElem hb2, List.mem_append, List.mem_singleton]
        exact fun hx => hx.elim hv he
      · simp only [↓set_get, Nat.reduceEqDiff, Bool.false_eq_true, ↓reduceIte, aenv0, aenvS, aenvN, one_ne, h0]
      · simp only [↓set_get, Nat.reduceEqDiff, Bool.false_eq_true, ↓reduceIte, aenv0, aenvS, aenvN, one_ne, h3]
      · simp only [↓set_get, Nat.reduceEqDiff, Bool.false_eq_true, ↓reduceIte, aenv0, aenvS, aenvN, one_ne, h7]
      · simp only [↓set_get, Nat.reduceEqDiff, Bool.false_eq_true, ↓reduceIte, aenv0, aenvS, aenvN, one_ne]; rfl
  · intro hb2
    have hb2 : k = H.length := by have := of_decide_eq_false hb2
                                  omega
    subst hb2
    rw [List.take_length] at hv
    refine lq_exit ?_
    refine rs ?_
    refine run ?_
    refine al_done (awp_ret (afin_ret (.forget s (le_fresh hb (St.le.refl _)) (.done ?_))))
    simp only [ares, aone, ↓set_get, Nat.reduceEqDiff, Bool.false_eq_true, ↓reduceIte, aenv0, aenvS, aenvN, one_ne]
    exact hK _ ⟨fun h => by omega, fun h => absurd h hv⟩

theorem Contains_c {H : List Head} {h : Head} {tk : Option (Nat × Nat)} (hL : H.length ≤ 1000000) (hK : K (.bool (decide (h ∈ H))) s) : ACalls prog γ 101 [.sl H.length (headsD H) tk, .agg (headD h)] s K := by
  have hml := headsD_len H
  refine acalls_of_awp (by kernel_rfl) func101 rfl (by kernel_rfl) rfl rfl (by kernel_rfl) (Nat.le_of_ble_eq_true rfl) ?_
  refine rs ?_
  (refine aF ?_; intro b hb; (try (have h_hb := hb; simp only [set_none] at h_hb)))
  refine run ?_
  refine al_done ?_
  refine rs ?_
  refine run ?_
  refine al_rel (fun d s' => ∃ r : Int, (0 ≤ r ↔ h ∈ H) ∧ d = .int .i64 r ∧ s' = s.set b (.cells (headD h) 87)) ?_ ?_
  · intro K hK
    simp (disch := omega) only [go_sem, ↓set_get, ↓reduceIte, ↓o_bsl, ↓o_build, Nat.reduceEqDiff, Nat.reduceAdd, Nat.reduceMul, Int.reduceEq, Int.reduceNe]
    exact Or.inl (Index_c hL fun r hr => hK _ _ ⟨r, hr, rfl, rfl⟩)
  rintro _ _ ⟨r, hr, rfl, rfl⟩
  refine run ?_
  refine al_done (awp_ret (afin_ret (.forget s (le_fresh hb (St.le.refl _)) (.done ?_))))
  simp only [ares, aone, ↓set_get, Nat.reduceEqDiff, Bool.false_eq_true, ↓reduceIte, aenv0, aenvS, aenvN, one_ne]
  have : decide (0 ≤ r) = decide (h ∈ H) := by rw [Bool.eq_iff_iff, decide_eq_true_iff, decide_eq_true_iff]; exact hr
  rw [this]; exact hK

theorem bsl0 {P : Program} {t e : TypeId} {sz by_ : Nat} {z : List D} (he : elt P t = some (e, sz, by_)) (hz : zc P e = some z) (hk : ∀ id, σ id = none → K (.sl 0 [] (some (id, sz))) (σ.set id (.tok e []))) : abuildSl P t 0 [] σ K := by
  simp only [abuildSl, he, hz, afill, List.replicate_zero, List.flatten_nil]
  exact ⟨by omega, .inl hk⟩
theorem Clone_c {n : Nat} {cs : List D} {tk : Option (Nat × Nat)} (h0 : 0 < n) (hl : cs.length = n * 32) (hn : n ≤ 1000000) (hK : K (.sl n cs none) s) : ACalls prog γ 102 [.sl n cs tk] s K := by
  refine acalls_of_awp (by kernel_rfl) func102 rfl (by kernel_rfl) rfl rfl (by kernel_rfl) (Nat.le_of_ble_eq_true rfl) ?_
  refine rs ?_
  refine run ?_
  refine al_done ?_
  refine rs ?_
  refine run ?_
  refine al_done ?_
  refine asc ?_; refine ai ?_ ?_
  · intro h; cases h
  intro _
  refine rs ?_
  refine run ?_
  (refine al_fresh ?_ ?_ ?_ ?_ ?_; rotate_left 3; (· intro K hK; refine S1 ?_; refine bsl0 elt23 zc27 ?_; exact hK); intro i hi; (try (have h_hi := hi; simp only [set_none] at h_hi)))
  have hown : Own s 27 32 0 [] (.sl 0 [] (some (i, 32))) (s.set i (.tok 27 [])) := .inr ⟨i, hi, rfl, rfl, rfl⟩
  refine run ?_
  (refine al_rel ?_ ?_ ?_; rotate_left 1; (· intro K hK; simp (disch := (first | omega | (simp only [length_bytesD, List.length_append, List.length_cons, List.length_nil, List.length_map, List.length_replicate, List.length_take, List.length_drop]; omega))) only [go_sem, ↓set_get, ↓reduceIte, ↓o_bsl, ↓o_build, Nat.reduceEqDiff, Nat.reduceAdd, Nat.reduceMul, Int.reduceEq, Int.reduceNe,  xcells_sl, hl]; refine own_app hown (m := n) h0 hl (by omega) ?_; exact hK))
  intro d' s' hown'
  rw [Nat.zero_add, List.nil_append] at hown'
  refine run ?_
  refine al_nil (rx_own hown' (t := 2) (by simp only [↓set_get, Nat.reduceEqDiff, Bool.false_eq_true, ↓reduceIte, aenv0, aenvS, aenvN, one_ne]) (.done ?_))
  refine awp_ret (afin_ret (.done ?_)); simp only [ares, aone, ↓set_get, Nat.reduceEqDiff, Bool.false_eq_true, ↓reduceIte, aenv0, aenvS, aenvN, one_ne]
  exact hK
end Go.Proofs.Try

/- gossip: what is missing. -/
set_option maxRecDepth 8000
set_option linter.unusedSimpArgs false
set_option linter.unusedVariables false
namespace Go.Proofs.Try
open Go Go.Av
set_option pp.maxSteps 900
attribute [local irreducible] alist awp adraw apure
attribute [local go_sem] cellsOf_int cellsOf_bool cellsOf_str cellsOf_nilp cellsOf_nil cellsOf_e0 cellsOf_sl cellsOf_osl cellsOf_ptr cellsOf_eptr cellsOf_fn cellsOf_agg okc_int okc_bool okc_str okc_nilp okc_nil okc_e0 okc_sl okc_osl okc_ptr okc_eptr okc_fn okc_agg and_assoc splice_0n splice_0c splice_s load_ptr load_eptr read_t read_f store_p cells_inj set_same exists_and_left List.length_cons List.length_nil List.drop_zero List.drop_succ_cons List.take_succ_cons List.take_zero Option.isSome_some
variable {γ : Gl} {σ s : St} {K : D → St → Prop}
attribute [local go_sem] roD_len roD_33 roD_34 roD_35 roD_36 roD_h roD_a rosD_len headD_len headD_0 headD_a headD_r spl87 sgD_len sgD_0 sgD_33 sgD_34 sgD_35 sgD_a sgD_h sgD_r spl27 byt27 spl91 length_bytesD List.length_replicate splice_self sgsD_len headsD_len Int.toNat_natCast List.length_append

def want (H : List Head) (M : List SHead) (x : SHead) : Prop := M.length < 3 ∧ valid x ∧ x.head ∉ H
instance (H : List Head) (M : List SHead) (x : SHead) : Decidable (want H M x) := by unfold want; infer_instance
def miss (H : List Head) : List SHead → List SHead → List SHead
  | M, [] => M
  | M, x :: L => miss H (if want H M x then M ++ [x] else M) L
def dMiss (L : List SHead) (H : List Head) : D := .sl (miss H [] L).length (sgsD (miss H [] L)) none
theorem spl35 {x : SHead} : splice (sgD x) 35 [pathD x.path] = sgD x := by
  have : sgD x = (headD x.head ++ [.int .i64 x.index, .str x.sig]) ++ [pathD x.path] := by simp [sgD, sealD]
  rw [this, splice, List.take_left' (by simp [headD_len]), List.drop_of_length_le (by simp [headD_len]), List.append_nil]

theorem own_shape {e : TypeId} {sz n : Nat} {cs : List D} {d : D} {s : St} (h : Own σ e sz n cs d s) : (d = .nil ∧ n = 0) ∨ ∃ tk, d = .sl n cs tk := by
  rcases h with ⟨rfl, rfl, rfl, _⟩ | ⟨id, _, _, rfl, _⟩
  · exact .inl ⟨rfl, rfl⟩
  · exact .inr ⟨_, rfl⟩
theorem gMissing_c {L : List SHead} {H : List Head} {t1 t2 : Option (Nat × Nat)} (hL : L.length ≤ 100000) (hH : H.length ≤ 100000) (hK : K (dMiss L H) s) : ACalls prog γ 64 [.sl L.length (sgsD L) t1, .sl H.length (headsD H) t2] s K := by
  have hml := sgsD_len L
  have hmh := headsD_len H
  refine acalls_of_awp (by kernel_rfl) func64 rfl (by kernel_rfl) rfl rfl (by kernel_rfl) (Nat.le_of_ble_eq_true rfl) ?_
  refine rs ?_
  refine run ?_
  refine al_done ?_
  refine rs ?_
  refine run ?_
  refine al_done ?_
  refine rs ?_
  refine run ?_
  refine al_done ?_
  refine asc ?_; refine awp_while (fun n ρ t => ∃ (k : Nat) (M : List SHead) (d : D), n = L.length - k ∧ k ≤ L.length ∧ M.length ≤ 3 ∧ miss H M (L.drop k) = miss H [] L ∧ Own s 91 36 M.length (sgsD M) d t ∧ ρ 1 = .sl H.length (headsD H) t2 ∧ ρ 5 = d ∧ ρ 8 = .sl L.length (sgsD L) t1 ∧ ρ 9 = .int .i64 (L.length : Nat) ∧ ρ 10 = .int .i64 (k : Nat)) L.length ?_ ?_
  · refine ⟨0, [], .nil, rfl, Nat.zero_le _, Nat.zero_le _, rfl, own_nil _ _ _, ?_, ?_, ?_, ?_, ?_⟩
    all_goals simp only [↓set_get, Nat.reduceEqDiff, Bool.false_eq_true, ↓reduceIte, aenv0, aenvS, aenvN, one_ne]
    rfl
  rintro n ρ t ⟨k, M, d, rfl, hk, hM, hmi, hown, g1, g5, g8, g9, g10⟩
  refine rs ?_
  refine runX (And.intro g9 g10) ?_
  refine al_done ?_
  refine asc ?_; refine ate ?_ ?_
  · intro hb2
    have hb2 : k < L.length := by have := of_decide_eq_true hb2
                                  omega
    have hat : ((sgsD L).drop (k * 36)).take 36 = sgD L[k] := rows_at sgD_len L hb2
    have hdr : L.drop k = L[k] :: L.drop (k + 1) := List.drop_eq_getElem_cons hb2
    rw [hdr, miss] at hmi
    generalize hx : L[k] = x at *
    refine asc ?_; refine awp_body ?_
    refine rs ?_
    refine runX (And.intro g8 (And.intro g10 hat)) ?_
    (refine aF ?_; intro y hy; (try (have h_hy := hy; simp only [set_none] at h_hy)))
    refine run ?_
    refine al_done ?_
    rw [set_set]
    have hσy := own_fresh hown hy
    have hof := own_frame (o := .cells (sgD x) 91) hown hy
    refine asc ?_; refine awp_rj (fun ρ' s' => s' = t.set y (.cells (sgD x) 91) ∧ ρ' 1 = .sl H.length (headsD H) t2 ∧ ρ' 5 = d ∧ ρ' 7 = .ptr y 0 ∧ ρ' 8 = .sl L.length (sgsD L) t1 ∧ ρ' 9 = .int .i64 (L.length : Nat) ∧ ρ' 10 = .int .i64 (k : Nat) ∧ ρ' 27 = .bool (decide (want H M x))) ?_ ?_
    · intro K' hJ
      rcases own_shape hown with ⟨e, h0⟩ | ⟨tk, e⟩
      all_goals rw [e] at g5
      all_goals rw [e] at hJ
      · (repeat' (first | refine run1X (And.intro g1 g5) ?_ | (refine al_set ?_ ?_ ?_ ?_; rotate_left 2; (· intro K hK; refine S1X (And.intro g1 g5) ?_; refine Or.inl (Valid_c ?_); exact hK)) | (refine al_set ?_ ?_ ?_ ?_; rotate_left 2; (· intro K hK; refine S1X (And.intro g1 g5) ?_; refine Or.inl (Contains_c (by omega) ?_); exact hK)) | (refine al_guard rfl (by simp only [↓set_get, Nat.reduceEqDiff, Bool.false_eq_true, ↓reduceIte, aenv0, aenvS, aenvN, one_ne, g1, g5]; rfl) (fun hb => ?_) (fun hb => ?_) <;> (try simp only [ne_eq, Bool.not_eq_true, Bool.not_eq_false] at hb) <;> have hb2 := hb <;> (try simp only [decide_eq_true_eq, decide_eq_false_iff_not, beq_iff_eq, beq_eq_false_iff_ne, bne_iff_ne, ne_eq, Bool.not_eq_true', Bool.not_eq_false'] at hb2) <;> (try rw [hb]))))
        all_goals refine al_nil (hJ _ _ ⟨rfl, ?_, ?_, ?_, ?_, ?_, ?_, ?_⟩)
        all_goals simp only [↓set_get, Nat.reduceEqDiff, Bool.false_eq_true, ↓reduceIte, aenv0, aenvS, aenvN, one_ne, g1, g5, g8, g9, g10]
        all_goals (congr 1; rw [Bool.eq_iff_iff]; first | (simp_all [want]; done) | (simp_all [want]; intros; omega) | (simp_all [want]; exact decide_eq_false (fun h => by have := h.1; omega)))
      · (repeat' (first | refine run1X (And.intro g1 g5) ?_ | (refine al_set ?_ ?_ ?_ ?_; rotate_left 2; (· intro K hK; refine S1X (And.intro g1 g5) ?_; refine Or.inl (Valid_c ?_); exact hK)) | (refine al_set ?_ ?_ ?_ ?_; rotate_left 2; (· intro K hK; refine S1X (And.intro g1 g5) ?_; refine Or.inl (Contains_c (by omega) ?_); exact hK)) | (refine al_guard rfl (by simp only [↓set_get, Nat.reduceEqDiff, Bool.false_eq_true, ↓reduceIte, aenv0, aenvS, aenvN, one_ne, g1, g5]; rfl) (fun hb => ?_) (fun hb => ?_) <;> (try simp only [ne_eq, Bool.not_eq_true, Bool.not_eq_false] at hb) <;> have hb2 := hb <;> (try simp only [decide_eq_true_eq, decide_eq_false_iff_not, beq_iff_eq, beq_eq_false_iff_ne, bne_iff_ne, ne_eq, Bool.not_eq_true', Bool.not_eq_false'] at hb2) <;> (try rw [hb]))))
        all_goals refine al_nil (hJ _ _ ⟨rfl, ?_, ?_, ?_, ?_, ?_, ?_, ?_⟩)
        all_goals simp only [↓set_get, Nat.reduceEqDiff, Bool.false_eq_true, ↓reduceIte, aenv0, aenvS, aenvN, one_ne, g1, g5, g8, g9, g10]
        all_goals (congr 1; rw [Bool.eq_iff_iff]; first | (simp_all [want]; done) | (simp_all [want]; intros; omega) | (simp_all [want]; exact decide_eq_false (fun h => by have := h.1; omega)))
    rintro ρ1 _ ⟨rfl, g1, g5, g7, g8, g9, g10, g27⟩
    refine acX g27 ?_ ?_
    · intro hw
      have hw : want H M x := of_decide_eq_true hw
      have hw' := hw
      obtain ⟨hM3, hvx, hnx⟩ := hw'
      have hp3 : x.path.length = 3 := hvx.2.2.2.2.2
      have hpl : (bytesD x.path.flatten).length = x.path.length * 32 := by rw [cells_len x.hp]
      rw [if_pos hw] at hmi
      refine rs ?_
      refine runX g7 ?_
      rw [pathD]
      (refine al_set ?_ ?_ ?_ ?_; rotate_left 2; (· intro K hK; refine S1 ?_; refine Or.inl (Clone_c (by omega) hpl (by omega) ?_); exact hK))
      refine runX g7 ?_
      refine al_done ?_
      rw [← pathD, spl35]
      have hcl := sgD_len x
      rw [set_set]
      refine awp_region ?_
      refine runX (And.intro g5 g7) ?_
      (refine al_set ?_ ?_ ?_ ?_; rotate_left 2; (· intro K hK; refine S1 ?_; refine bsl_agg0 elt79 zc91 rfl (sgD_len _) (by decide) ?_; exact hK))
      (refine al_rel ?_ ?_ ?_; rotate_left 1; (· intro K hK; simp (disch := (first | omega | (simp only [length_bytesD, List.length_append, List.length_cons, List.length_nil, List.length_map, List.length_replicate, List.length_take, List.length_drop]; omega))) only [go_sem, ↓set_get, ↓reduceIte, ↓o_bsl, ↓o_build, Nat.reduceEqDiff, Nat.reduceAdd, Nat.reduceMul, Int.reduceEq, Int.reduceNe,  xcells_sl, hcl]; refine own_app hof (m := 1) (by decide) hcl (by omega) ?_; exact hK))
      intro d' s' hown'
      obtain ⟨s3, hle3, hown3⟩ := own_unframe hown' hσy
      refine run ?_
      refine al_nil (.forget s3 hle3 (.done ?_))
      refine awp_region ?_
      refine runX g10 ?_
      refine al_nil ?_
      refine lq_next (L.length - (k + 1)) (by omega) ⟨k + 1, M ++ [x], d', rfl, by omega, by simp; omega, hmi, ?_, ?_, ?_, ?_, ?_, ?_⟩
      · rw [List.length_append, sgsD, rows_append, rows_one]; exact hown3
      · simp only [↓set_get, Nat.reduceEqDiff, Bool.false_eq_true, ↓reduceIte, aenv0, aenvS, aenvN, one_ne, g1]
      · simp only [↓set_get, Nat.reduceEqDiff, Bool.false_eq_true, ↓reduceIte, aenv0, aenvS, aenvN, one_ne]
      · simp only [↓set_get, Nat.reduceEqDiff, Bool.false_eq_true, ↓reduceIte, aenv0, aenvS, aenvN, one_ne, g8]
      · simp only [↓set_get, Nat.reduceEqDiff, Bool.false_eq_true, ↓reduceIte, aenv0, aenvS, aenvN, one_ne, g9]
      · simp only [↓set_get, Nat.reduceEqDiff, Bool.false_eq_true, ↓reduceIte, aenv0, aenvS, aenvN, one_ne]; rfl
    · intro hw
      have hw : ¬ want H M x := of_decide_eq_false hw
      rw [if_neg hw] at hmi
      refine awp_skip (Rx.forget t (le_set _ hy) (Rx.done ?_))
      refine awp_region ?_
      refine runX g10 ?_
      refine al_nil ?_
      refine lq_next (L.length - (k + 1)) (by omega) ⟨k + 1, M, d, rfl, by omega, hM, hmi, hown, ?_, ?_, ?_, ?_, ?_⟩
      · simp only [↓set_get, Nat.reduceEqDiff, Bool.false_eq_true, ↓reduceIte, aenv0, aenvS, aenvN, one_ne, g1]
      · simp only [↓set_get, Nat.reduceEqDiff, Bool.false_eq_true, ↓reduceIte, aenv0, aenvS, aenvN, one_ne, g5]
      · simp only [↓set_get, Nat.reduceEqDiff, Bool.false_eq_true, ↓reduceIte, aenv0, aenvS, aenvN, one_ne, g8]
      · simp only [↓set_get, Nat.reduceEqDiff, Bool.false_eq_true, ↓reduceIte, aenv0, aenvS, aenvN, one_ne, g9]
      · simp only [↓set_get, Nat.reduceEqDiff, Bool.false_eq_true, ↓reduceIte, aenv0, aenvS, aenvN, one_ne]; rfl
  · intro hb2
    have hb2 : k = L.length := by have := of_decide_eq_false hb2
                                  omega
    subst hb2
    rw [List.drop_length, miss] at hmi
    rw [dMiss, ← hmi] at hK
    refine lq_exit ?_
    refine rs ?_
    refine runX g5 ?_
    refine al_nil (rx_own hown (t := 4) (by simp only [↓set_get, Nat.reduceEqDiff, Bool.false_eq_true, ↓reduceIte, aenv0, aenvS, aenvN, one_ne]) (.done ?_))
    refine awp_ret (afin_ret (.done ?_)); simp only [ares, aone, ↓set_get, Nat.reduceEqDiff, Bool.false_eq_true, ↓reduceIte, aenv0, aenvS, aenvN, one_ne]
    exact hK
end Go.Proofs.Try

/- gossip: what is missing, the reference. -/
set_option maxRecDepth 8000
set_option linter.unusedSimpArgs false
set_option linter.unusedVariables false
namespace Go.Proofs.Try
open Go Go.Av
set_option pp.maxSteps 900
attribute [local irreducible] alist awp adraw apure
attribute [local go_sem] cellsOf_int cellsOf_bool cellsOf_str cellsOf_nilp cellsOf_nil cellsOf_e0 cellsOf_sl cellsOf_osl cellsOf_ptr cellsOf_eptr cellsOf_fn cellsOf_agg okc_int okc_bool okc_str okc_nilp okc_nil okc_e0 okc_sl okc_osl okc_ptr okc_eptr okc_fn okc_agg and_assoc splice_0n splice_0c splice_s load_ptr load_eptr read_t read_f store_p cells_inj set_same exists_and_left List.length_cons List.length_nil List.drop_zero List.drop_succ_cons List.take_succ_cons List.take_zero Option.isSome_some
variable {γ : Gl} {σ s : St} {K : D → St → Prop}
attribute [local go_sem] roD_len roD_33 roD_34 roD_35 roD_36 roD_h roD_a rosD_len headD_len headD_0 headD_a headD_r spl87 sgD_len sgD_0 sgD_33 sgD_34 sgD_35 sgD_a sgD_h sgD_r spl27 byt27 spl91 length_bytesD List.length_replicate splice_self sgsD_len headsD_len Int.toNat_natCast List.length_append

theorem miss_full {H : List Head} : ∀ (L M : List SHead), ¬ M.length < 3 → miss H M L = M
  | [], _, _ => rfl
  | x :: L, M, h => by rw [miss, if_neg (fun hw => h hw.1)]; exact miss_full L M h
def lack (x : SHead) (H : List Head) : Bool := decide (valid x ∧ x.head ∉ H)

theorem rMissing_c {L : List SHead} {H : List Head} {t1 t2 : Option (Nat × Nat)} (hL : L.length ≤ 100000) (hH : H.length ≤ 100000) (hK : K (dMiss L H) s) : ACalls prog γ 65 [.sl L.length (sgsD L) t1, .sl H.length (headsD H) t2] s K := by
  have hml := sgsD_len L
  have hmh := headsD_len H
  refine acalls_of_awp (by kernel_rfl) func65 rfl (by kernel_rfl) rfl rfl (by kernel_rfl) (Nat.le_of_ble_eq_true rfl) ?_
  refine rs ?_
  refine run ?_
  refine al_done ?_
  refine rs ?_
  refine run ?_
  refine al_done ?_
  refine rs ?_
  refine run ?_
  refine al_done ?_
  refine asc ?_; refine awp_while (fun n ρ t => ∃ (k : Nat) (M : List SHead) (d : D), n = L.length - k ∧ k ≤ L.length ∧ M.length ≤ 3 ∧ miss H M (L.drop k) = miss H [] L ∧ Own s 91 36 M.length (sgsD M) d t ∧ ρ 0 = .sl L.length (sgsD L) t1 ∧ ρ 1 = .sl H.length (headsD H) t2 ∧ ρ 5 = d ∧ ρ 6 = .int .i64 (k : Nat)) L.length ?_ ?_
  · refine ⟨0, [], .nil, rfl, Nat.zero_le _, Nat.zero_le _, rfl, own_nil _ _ _, ?_, ?_, ?_, ?_⟩
    all_goals simp only [↓set_get, Nat.reduceEqDiff, Bool.false_eq_true, ↓reduceIte, aenv0, aenvS, aenvN, one_ne]
    rfl
  rintro n ρ t ⟨k, M, d, rfl, hk, hM, hmi, hown, g0, g1, g5, g6⟩
  refine asc ?_; refine awp_rj (fun ρ' s' => s' = t ∧ ρ' 0 = .sl L.length (sgsD L) t1 ∧ ρ' 1 = .sl H.length (headsD H) t2 ∧ ρ' 5 = d ∧ ρ' 6 = .int .i64 (k : Nat) ∧ ρ' 17 = .bool (decide (k < L.length ∧ M.length < 3))) ?_ ?_
  · intro K' hJ
    rcases own_shape hown with ⟨e, h0⟩ | ⟨tk, e⟩
    all_goals rw [e] at g5
    all_goals rw [e] at hJ
    · (repeat' (first | refine run1X (And.intro g0 (And.intro g1 (And.intro g5 g6))) ?_ | (refine al_guard rfl (by simp only [↓set_get, Nat.reduceEqDiff, Bool.false_eq_true, ↓reduceIte, aenv0, aenvS, aenvN, one_ne, g0, g1, g5, g6]; rfl) (fun hb => ?_) (fun hb => ?_) <;> (try simp only [ne_eq, Bool.not_eq_true, Bool.not_eq_false] at hb) <;> have hb2 := hb <;> (try simp only [decide_eq_true_eq, decide_eq_false_iff_not, beq_iff_eq, beq_eq_false_iff_ne, bne_iff_ne, ne_eq, Bool.not_eq_true', Bool.not_eq_false'] at hb2) <;> (try rw [hb]))))
      all_goals refine al_nil (hJ _ _ ⟨rfl, ?_, ?_, ?_, ?_, ?_⟩)
      all_goals simp only [↓set_get, Nat.reduceEqDiff, Bool.false_eq_true, ↓reduceIte, aenv0, aenvS, aenvN, one_ne, g0, g1, g5, g6]
      all_goals (first | exact bool_t (by omega) | exact bool_f (by omega) | exact bool_s (by (first | rw [decide_eq_true_eq] | rw [beq_iff_eq] | rw [bne_iff_ne]); omega))
    · (repeat' (first | refine run1X (And.intro g0 (And.intro g1 (And.intro g5 g6))) ?_ | (refine al_guard rfl (by simp only [↓set_get, Nat.reduceEqDiff, Bool.false_eq_true, ↓reduceIte, aenv0, aenvS, aenvN, one_ne, g0, g1, g5, g6]; rfl) (fun hb => ?_) (fun hb => ?_) <;> (try simp only [ne_eq, Bool.not_eq_true, Bool.not_eq_false] at hb) <;> have hb2 := hb <;> (try simp only [decide_eq_true_eq, decide_eq_false_iff_not, beq_iff_eq, beq_eq_false_iff_ne, bne_iff_ne, ne_eq, Bool.not_eq_true', Bool.not_eq_false'] at hb2) <;> (try rw [hb]))))
      all_goals refine al_nil (hJ _ _ ⟨rfl, ?_, ?_, ?_, ?_, ?_⟩)
      all_goals simp only [↓set_get, Nat.reduceEqDiff, Bool.false_eq_true, ↓reduceIte, aenv0, aenvS, aenvN, one_ne, g0, g1, g5, g6]
      all_goals (first | exact bool_t (by omega) | exact bool_f (by omega) | exact bool_s (by (first | rw [decide_eq_true_eq] | rw [beq_iff_eq] | rw [bne_iff_ne]); omega))
  rintro ρ1 t ⟨rfl, g0, g1, g5, g6, g17⟩
  refine asc ?_; refine ateX g17 ?_ ?_
  · intro hb2
    have hb2 : k < L.length ∧ M.length < 3 := of_decide_eq_true hb2
    obtain ⟨hb2, hM3⟩ := hb2
    have hat : ((sgsD L).drop (k * 36)).take 36 = sgD L[k] := rows_at sgD_len L hb2
    have hdr : L.drop k = L[k] :: L.drop (k + 1) := List.drop_eq_getElem_cons hb2
    have hah : ((sgsD L).drop (k * 36)).take 33 = headD L[k].head := by
      have : ((sgsD L).drop (k * 36)).take 33 = (((sgsD L).drop (k * 36)).take 36).take 33 := by rw [List.take_take]; rfl
      rw [this, hat, sgD_h]
    rw [hdr, miss] at hmi
    generalize hx : L[k] = x at *
    refine asc ?_; refine awp_body ?_
    refine rs ?_
    refine runX (And.intro g0 (And.intro g6 hat)) ?_
    (refine al_set ?_ ?_ ?_ ?_; rotate_left 2; (· intro K hK; refine S1 ?_; refine Or.inl (rValid_c ?_); exact hK))
    refine run ?_
    refine al_done ?_
    refine rs ?_
    refine run ?_
    refine al_done ?_
    refine asc ?_; refine awp_while (fun n ρ t' => ∃ j : Nat, n = H.length - j ∧ j ≤ H.length ∧ t' = t ∧ ρ 0 = .sl L.length (sgsD L) t1 ∧ ρ 1 = .sl H.length (headsD H) t2 ∧ ρ 5 = d ∧ ρ 6 = .int .i64 (k : Nat) ∧ ρ 7 = .bool (lack x (H.take j)) ∧ ρ 8 = .int .i64 (j : Nat)) H.length ?_ ?_
    · refine ⟨0, rfl, Nat.zero_le _, rfl, ?_, ?_, ?_, ?_, ?_, ?_⟩
      all_goals simp only [↓set_get, Nat.reduceEqDiff, Bool.false_eq_true, ↓reduceIte, aenv0, aenvS, aenvN, one_ne, g0, g1, g5, g6]
      · simp [lack]
      · rfl
    · rintro n ρ t ⟨j, rfl, hj, rfl, g0, g1, g5, g6, g7, g8⟩
      refine rs ?_
      refine runX (And.intro g1 g8) ?_
      refine al_done ?_
      refine asc ?_; refine ate ?_ ?_
      · intro hb3
        have hb3 : j < H.length := by have := of_decide_eq_true hb3
                                      omega
        have hht : ((headsD H).drop (j * 33)).take 33 = headD H[j] := rows_at headD_len H hb3
        refine asc ?_; refine awp_body ?_
        refine awp_draw1 [true, true, true, true, true, true, true, true, true, true, true, true, true, true] (by kernel_rfl) ?_
        have hnext : lack x (H.take (j + 1)) = (lack x (H.take j) && !heq H[j] x.head) := by
          rw [List.take_succ_eq_append_getElem hb3]
          unfold lack
          rw [Bool.eq_iff_iff, heq_d]
          simp only [List.mem_append, List.mem_singleton, decide_eq_true_eq, Bool.and_eq_true, Bool.not_eq_true', decide_eq_false_iff_not, not_or]
          constructor
          · rintro ⟨a, b, c⟩; exact ⟨⟨a, b⟩, fun e => c e.symm⟩
          · rintro ⟨⟨a, b⟩, c⟩; exact ⟨a, b, fun e => c e.symm⟩
        cases hc : lack x (H.take j)
        · rw [hc] at g7 hnext
          refine runDX (And.intro g0 (And.intro g1 (And.intro g6 (And.intro g7 (And.intro g8 (And.intro hat (And.intro hah hht))))))) ?_
          simp only [Env.put]
          refine runDX (And.intro g0 (And.intro g1 (And.intro g6 (And.intro g7 (And.intro g8 (And.intro hat (And.intro hah hht))))))) ?_
          refine pa_nil ?_
          refine passes ?_
          refine pt_end (.done ?_)
          refine awp_region ?_
          refine runX g8 ?_
          refine al_nil ?_
          refine lq_next (H.length - (j + 1)) (by omega) ⟨j + 1, rfl, by omega, rfl, ?_, ?_, ?_, ?_, ?_, ?_⟩
          all_goals simp only [↓set_get, Nat.reduceEqDiff, Bool.false_eq_true, ↓reduceIte, aenv0, aenvS, aenvN, one_ne, g0, g1, g5, g6]
          · rw [hnext]; rfl
          · rfl
        · rw [hc] at g7 hnext
          refine runDX (And.intro g0 (And.intro g1 (And.intro g6 (And.intro g7 (And.intro g8 (And.intro hat (And.intro hah hht))))))) ?_
          (refine pa_set ?_ ?_ ?_; rotate_left 1; (· intro K hK; refine S1 ?_; refine abin_head ?_; exact hK))
          refine runDX (And.intro g0 (And.intro g1 (And.intro g6 (And.intro g7 (And.intro g8 (And.intro hat (And.intro hah hht))))))) ?_
          refine pa_nil ?_
          refine passes ?_
          refine pt_end (.done ?_)
          refine awp_region ?_
          refine runX g8 ?_
          refine al_nil ?_
          refine lq_next (H.length - (j + 1)) (by omega) ⟨j + 1, rfl, by omega, rfl, ?_, ?_, ?_, ?_, ?_, ?_⟩
          all_goals simp only [↓set_get, Nat.reduceEqDiff, Bool.false_eq_true, ↓reduceIte, aenv0, aenvS, aenvN, one_ne, g0, g1, g5, g6]
          · rw [hnext]; rfl
          · rfl
      · intro hb3
        have hb3 : j = H.length := by have := of_decide_eq_false hb3
                                      omega
        subst hb3
        rw [List.take_length] at g7
        refine lq_exit ?_
        refine rs ?_
        refine runX g7 ?_
        refine al_done ?_
        refine ac ?_ ?_
        · intro hw
          have hw : valid x ∧ x.head ∉ H := of_decide_eq_true hw
          rw [if_pos ⟨hM3, hw⟩] at hmi
          have hcl := sgD_len x
          refine awp_region ?_
          refine runX (And.intro g0 (And.intro g5 (And.intro g6 hat))) ?_
          (refine al_set ?_ ?_ ?_ ?_; rotate_left 2; (· intro K hK; refine S1 ?_; refine bsl_agg0 elt79 zc91 rfl (sgD_len _) (by decide) ?_; exact hK))
          (refine al_rel ?_ ?_ ?_; rotate_left 1; (· intro K hK; simp (disch := (first | omega | (simp only [length_bytesD, List.length_append, List.length_cons, List.length_nil, List.length_map, List.length_replicate, List.length_take, List.length_drop]; omega))) only [go_sem, ↓set_get, ↓reduceIte, ↓o_bsl, ↓o_build, Nat.reduceEqDiff, Nat.reduceAdd, Nat.reduceMul, Int.reduceEq, Int.reduceNe,  xcells_sl, hcl]; refine own_app hown (m := 1) (by decide) hcl (by omega) ?_; exact hK))
          intro d' s' hown'
          refine run ?_
          refine al_nil (.done ?_)
          refine awp_region ?_
          refine runX g6 ?_
          refine al_nil (Rx.done ⟨L.length - (k + 1), by omega, k + 1, M ++ [x], d', rfl, by omega, by simp; omega, hmi, ?_, ?_, ?_, ?_, ?_⟩)
          · rw [List.length_append, sgsD, rows_append, rows_one]; exact hown'
          all_goals simp only [↓set_get, Nat.reduceEqDiff, Bool.false_eq_true, ↓reduceIte, aenv0, aenvS, aenvN, one_ne, g0, g1]
          rfl
        · intro hw
          have hw : ¬ (valid x ∧ x.head ∉ H) := of_decide_eq_false hw
          rw [if_neg (fun h => hw h.2)] at hmi
          refine awp_skip (Rx.done ?_)
          refine awp_region ?_
          refine runX g6 ?_
          refine al_nil (Rx.done ⟨L.length - (k + 1), by omega, k + 1, M, d, rfl, by omega, hM, hmi, hown, ?_, ?_, ?_, ?_⟩)
          all_goals simp only [↓set_get, Nat.reduceEqDiff, Bool.false_eq_true, ↓reduceIte, aenv0, aenvS, aenvN, one_ne, g0, g1, g5]
          rfl
  · intro hb2
    have hb2 : ¬ (k < L.length ∧ M.length < 3) := of_decide_eq_false hb2
    have hmi : M = miss H [] L := by
      by_cases h3 : M.length < 3
      · have : k = L.length := by omega
        subst this
        rw [List.drop_length, miss] at hmi
        exact hmi
      · rw [miss_full _ _ h3] at hmi; exact hmi
    rw [dMiss, ← hmi] at hK
    refine lq_exit ?_
    refine rs ?_
    refine runX g5 ?_
    refine al_nil (rx_own hown (t := 4) (by simp only [↓set_get, Nat.reduceEqDiff, Bool.false_eq_true, ↓reduceIte, aenv0, aenvS, aenvN, one_ne]) (.done ?_))
    refine awp_ret (afin_ret (.done ?_)); simp only [ares, aone, ↓set_get, Nat.reduceEqDiff, Bool.false_eq_true, ↓reduceIte, aenv0, aenvS, aenvN, one_ne]
    exact hK
end Go.Proofs.Try

/- Signed heads compared. -/
set_option maxRecDepth 8000
set_option linter.unusedSimpArgs false
set_option linter.unusedVariables false
namespace Go.Proofs.Try
open Go Go.Av
set_option pp.maxSteps 900
attribute [local irreducible] alist awp adraw apure
attribute [local go_sem] cellsOf_int cellsOf_bool cellsOf_str cellsOf_nilp cellsOf_nil cellsOf_e0 cellsOf_sl cellsOf_osl cellsOf_ptr cellsOf_eptr cellsOf_fn cellsOf_agg okc_int okc_bool okc_str okc_nilp okc_nil okc_e0 okc_sl okc_osl okc_ptr okc_eptr okc_fn okc_agg and_assoc splice_0n splice_0c splice_s load_ptr load_eptr read_t read_f store_p cells_inj set_same exists_and_left List.length_cons List.length_nil List.drop_zero List.drop_succ_cons List.take_succ_cons List.take_zero Option.isSome_some
variable {γ : Gl} {σ s : St} {K : D → St → Prop}
attribute [local go_sem] roD_len roD_33 roD_34 roD_35 roD_36 roD_h roD_a rosD_len headD_len headD_0 headD_a headD_r spl87 sgD_len sgD_0 sgD_33 sgD_34 sgD_35 sgD_a sgD_h sgD_r spl27 byt27 spl91 length_bytesD List.length_replicate splice_self sgsD_len headsD_len Int.toNat_natCast List.length_append

theorem abin_h32 {op : BinOp} {a b : List UInt8} {K : D → St → Prop} (ha : a.length = 32) (hb : b.length = 32) (hk : aeq op (decide (a = b)) s K) : abin prog op 27 (.agg (bytesD a)) (.agg (bytesD b)) s K :=
  abin_agg tagg27 guard27 kinds27 (fits_bytes 32 _ ha) (fits_bytes 32 _ hb) (eqL_bytes _ _ (ha.trans hb.symm)) hk
theorem sh_iff (x y : SHead) : x = y ↔ x.head = y.head ∧ x.index = y.index ∧ x.sig = y.sig ∧ x.path = y.path := by
  constructor
  · rintro rfl; exact ⟨rfl, rfl, rfl, rfl⟩
  · rintro ⟨a, b, c, d⟩; exact SHead.ext (by rw [a]) (by rw [a]) b c d
instance : DecidableEq SHead := fun x y => decidable_of_iff _ (sh_iff x y).symm
def alike (x y : SHead) : Prop := x.head = y.head ∧ x.index = y.index ∧ x.sig = y.sig ∧ x.path.length = y.path.length
instance (x y : SHead) : Decidable (alike x y) := by unfold alike; infer_instance

theorem rSame_c {x y : SHead} (hx : x.path.length ≤ 1000000) (hK : K (.bool (decide (x = y))) s) : ACalls prog γ 100 [.agg (sgD x), .agg (sgD y)] s K := by
  refine acalls_of_awp (by kernel_rfl) func100 rfl (by kernel_rfl) rfl rfl (by kernel_rfl) (Nat.le_of_ble_eq_true rfl) ?_
  refine rs ?_
  (refine aF ?_; intro b hb; (try (have h_hb := hb; simp only [set_none] at h_hb)))
  refine run ?_
  (refine aF ?_; intro c hc; (try (have h_hc := hc; simp only [set_none] at h_hc)))
  refine run ?_
  refine al_done ?_
  have hcb : c ≠ b := (set_none.1 hc).1
  have hsc : s c = none := (set_none.1 hc).2
  refine asc ?_; refine awp_rj (fun ρ' s' => s' = (s.set b (.cells (sgD x) 91)).set c (.cells (sgD y) 91) ∧ ρ' 2 = .ptr b 0 ∧ ρ' 3 = .ptr c 0 ∧ ρ' 39 = .bool (decide (¬ alike x y))) ?_ ?_
  · intro K' hJ
    (repeat (first | (refine al_set ?_ ?_ ?_ ?_; rotate_left 2; (· intro K hK; simp (disch := omega) only [go_sem, ↓set_get, ↓reduceIte, ↓o_bsl, ↓o_build, Nat.reduceEqDiff, Nat.reduceAdd, Nat.reduceMul, Int.reduceEq, Int.reduceNe, set_other, del_other, pathD]; (repeat' (first | exact hK | (refine And.intro ?_ ?_) | assumption | omega)))) | (refine al_guard (b := true) rfl ?_ (fun _ => ?_) (fun h => absurd rfl h); · simp only [↓set_get, Nat.reduceEqDiff, Bool.false_eq_true, ↓reduceIte, aenv0, aenvS, aenvN, one_ne, pathD]; done) | (refine al_guard (b := false) rfl ?_ (fun _ => ?_) (fun h => absurd rfl h); · simp only [↓set_get, Nat.reduceEqDiff, Bool.false_eq_true, ↓reduceIte, aenv0, aenvS, aenvN, one_ne, pathD]; done) | (refine al_guard (b := true) rfl ?_ (fun h => Bool.noConfusion h) (fun _ => ?_); · simp only [↓set_get, Nat.reduceEqDiff, Bool.false_eq_true, ↓reduceIte, aenv0, aenvS, aenvN, one_ne, pathD]; done) | (refine al_guard (b := false) rfl ?_ (fun h => Bool.noConfusion h) (fun _ => ?_); · simp only [↓set_get, Nat.reduceEqDiff, Bool.false_eq_true, ↓reduceIte, aenv0, aenvS, aenvN, one_ne, pathD]; done) | (refine al_guard0 rfl ?_ ?_; · simp only [↓set_get, Nat.reduceEqDiff, Bool.false_eq_true, ↓reduceIte, aenv0, aenvS, aenvN, one_ne, pathD]; done) | (refine al_none ?_ ?_ ?_ ?_; rotate_left 2; (· intro K hK; simp (disch := omega) only [go_sem, ↓set_get, ↓reduceIte, ↓o_bsl, ↓o_build, Nat.reduceEqDiff, Nat.reduceAdd, Nat.reduceMul, Int.reduceEq, Int.reduceNe, set_other, del_other, pathD]; (repeat' (first | exact hK | (refine And.intro ?_ ?_) | assumption | omega))))))
    (refine al_set ?_ ?_ ?_ ?_; rotate_left 2; (· intro K hK; refine S1 ?_; refine abin_head ?_; exact hK))
    (repeat' (first | (refine al_set ?_ ?_ ?_ ?_; rotate_left 2; (· intro K hK; simp (disch := omega) only [go_sem, ↓set_get, ↓reduceIte, ↓o_bsl, ↓o_build, Nat.reduceEqDiff, Nat.reduceAdd, Nat.reduceMul, Int.reduceEq, Int.reduceNe, set_other, del_other, pathD]; (repeat' (first | exact hK | (refine And.intro ?_ ?_) | assumption | omega)))) | (refine al_guard (b := true) rfl ?_ (fun _ => ?_) (fun h => absurd rfl h); · simp only [↓set_get, Nat.reduceEqDiff, Bool.false_eq_true, ↓reduceIte, aenv0, aenvS, aenvN, one_ne, pathD]; done) | (refine al_guard (b := false) rfl ?_ (fun _ => ?_) (fun h => absurd rfl h); · simp only [↓set_get, Nat.reduceEqDiff, Bool.false_eq_true, ↓reduceIte, aenv0, aenvS, aenvN, one_ne, pathD]; done) | (refine al_guard (b := true) rfl ?_ (fun h => Bool.noConfusion h) (fun _ => ?_); · simp only [↓set_get, Nat.reduceEqDiff, Bool.false_eq_true, ↓reduceIte, aenv0, aenvS, aenvN, one_ne, pathD]; done) | (refine al_guard (b := false) rfl ?_ (fun h => Bool.noConfusion h) (fun _ => ?_); · simp only [↓set_get, Nat.reduceEqDiff, Bool.false_eq_true, ↓reduceIte, aenv0, aenvS, aenvN, one_ne, pathD]; done) | (refine al_guard0 rfl ?_ ?_; · simp only [↓set_get, Nat.reduceEqDiff, Bool.false_eq_true, ↓reduceIte, aenv0, aenvS, aenvN, one_ne, pathD]; done) | (refine al_none ?_ ?_ ?_ ?_; rotate_left 2; (· intro K hK; simp (disch := omega) only [go_sem, ↓set_get, ↓reduceIte, ↓o_bsl, ↓o_build, Nat.reduceEqDiff, Nat.reduceAdd, Nat.reduceMul, Int.reduceEq, Int.reduceNe, set_other, del_other, pathD]; (repeat' (first | exact hK | (refine And.intro ?_ ?_) | assumption | omega)))) | (refine al_guard rfl (by simp only [↓set_get, Nat.reduceEqDiff, Bool.false_eq_true, ↓reduceIte, aenv0, aenvS, aenvN, one_ne, pathD]; rfl) (fun hb => ?_) (fun hb => ?_) <;> (try simp only [ne_eq, Bool.not_eq_true, Bool.not_eq_false] at hb) <;> have hb2 := hb <;> (try simp only [decide_eq_true_eq, decide_eq_false_iff_not, beq_iff_eq, beq_eq_false_iff_ne, bne_iff_ne, ne_eq, Bool.not_eq_true', Bool.not_eq_false'] at hb2) <;> (try rw [hb]))))
    all_goals refine al_nil (hJ _ _ ⟨rfl, ?_, ?_, ?_⟩)
    all_goals try simp only [↓set_get, Nat.reduceEqDiff, Bool.false_eq_true, ↓reduceIte, aenv0, aenvS, aenvN, one_ne]
    all_goals (congr 1; rw [Bool.eq_iff_iff]; simp_all [alike, heq_d]; try omega)
  rintro ρ1 _ ⟨rfl, g2, g3, g39⟩
  have hle : s.le ((s.set b (.cells (sgD x) 91)).set c (.cells (sgD y) 91)) := (le_set _ hb).trans (le_set _ hc)
  by_cases hal : alike x y
  · obtain ⟨a1, a2, a3, a4⟩ := hal
    have h39 : decide (¬ alike x y) = false := decide_eq_false (fun h => h ⟨a1, a2, a3, a4⟩)
    refine asc ?_; refine aiX g39 ?_ ?_
    · intro h; rw [h39] at h; cases h
    intro _
    refine rs ?_
    refine run ?_
    refine al_done ?_
    refine asc ?_; refine awp_while (fun n ρ t => ∃ k : Nat, n = x.path.length - k ∧ k ≤ x.path.length ∧ t = (s.set b (.cells (sgD x) 91)).set c (.cells (sgD y) 91) ∧ (∀ j (hj : j < k) (h1 : j < x.path.length) (h2 : j < y.path.length), x.path[j] = y.path[j]) ∧ ρ 2 = .ptr b 0 ∧ ρ 3 = .ptr c 0 ∧ ρ 5 = .int .i64 (k : Nat)) x.path.length ?_ ?_
    · refine ⟨0, rfl, Nat.zero_le _, rfl, fun j hj => by omega, ?_, ?_, ?_⟩
      all_goals simp only [↓set_get, Nat.reduceEqDiff, Bool.false_eq_true, ↓reduceIte, aenv0, aenvS, aenvN, one_ne, g2, g3]
      rfl
    rintro n ρ _ ⟨k, rfl, hk, rfl, hq, g2, g3, g5⟩
    refine rs ?_
    (repeat (first | (refine al_set ?_ ?_ ?_ ?_; rotate_left 2; (· intro K hK; simp (disch := omega) only [go_sem, ↓set_get, ↓reduceIte, ↓o_bsl, ↓o_build, Nat.reduceEqDiff, Nat.reduceAdd, Nat.reduceMul, Int.reduceEq, Int.reduceNe, set_other, del_other, g2, g5, pathD]; (repeat' (first | exact hK | (refine And.intro ?_ ?_) | assumption | omega)))) | (refine al_guard (b := true) rfl ?_ (fun _ => ?_) (fun h => absurd rfl h); · simp only [↓set_get, Nat.reduceEqDiff, Bool.false_eq_true, ↓reduceIte, aenv0, aenvS, aenvN, one_ne, g2, g5, pathD]; done) | (refine al_guard (b := false) rfl ?_ (fun _ => ?_) (fun h => absurd rfl h); · simp only [↓set_get, Nat.reduceEqDiff, Bool.false_eq_true, ↓reduceIte, aenv0, aenvS, aenvN, one_ne, g2, g5, pathD]; done) | (refine al_guard (b := true) rfl ?_ (fun h => Bool.noConfusion h) (fun _ => ?_); · simp only [↓set_get, Nat.reduceEqDiff, Bool.false_eq_true, ↓reduceIte, aenv0, aenvS, aenvN, one_ne, g2, g5, pathD]; done) | (refine al_guard (b := false) rfl ?_ (fun h => Bool.noConfusion h) (fun _ => ?_); · simp only [↓set_get, Nat.reduceEqDiff, Bool.false_eq_true, ↓reduceIte, aenv0, aenvS, aenvN, one_ne, g2, g5, pathD]; done) | (refine al_guard0 rfl ?_ ?_; · simp only [↓set_get, Nat.reduceEqDiff, Bool.false_eq_true, ↓reduceIte, aenv0, aenvS, aenvN, one_ne, g2, g5, pathD]; done) | (refine al_none ?_ ?_ ?_ ?_; rotate_left 2; (· intro K hK; simp (disch := omega) only [go_sem, ↓set_get, ↓reduceIte, ↓o_bsl, ↓o_build, Nat.reduceEqDiff, Nat.reduceAdd, Nat.reduceMul, Int.reduceEq, Int.reduceNe, set_other, del_other, g2, g5, pathD]; (repeat' (first | exact hK | (refine And.intro ?_ ?_) | assumption | omega))))))
    refine al_done ?_
    refine asc ?_; refine ate ?_ ?_
    · intro hb2
      have hb2 : k < x.path.length := by have := of_decide_eq_true hb2
                                         omega
      have hb3 : k < y.path.length := by omega
      have l1 := x.hp _ (List.getElem_mem hb2)
      have l2 := y.hp _ (List.getElem_mem hb3)
      have t1 : ((bytesD x.path.flatten).drop (k * 32)).take 32 = bytesD x.path[k] := cells_at x.hp hb2
      have t2 : ((bytesD y.path.flatten).drop (k * 32)).take 32 = bytesD y.path[k] := cells_at y.hp hb3
      have c1 := cells_len x.hp
      have c2 := cells_len y.hp
      have c3 := flat_len x.hp
      have c4 := flat_len y.hp
      refine asc ?_; refine awp_body ?_
      refine asc ?_; refine awp_pure (by kernel_rfl) ?_
      (repeat (first | (refine ap_set ?_ ?_ ?_; rotate_left 1; (· intro K hK; simp (disch := omega) only [go_sem, ↓set_get, ↓reduceIte, ↓o_bsl, ↓o_build, Nat.reduceEqDiff, Nat.reduceAdd, Nat.reduceMul, Int.reduceEq, Int.reduceNe, set_other, del_other, g2, g3, g5, pathD, t1, t2]; (repeat' (first | exact hK | (refine And.intro ?_ ?_) | assumption | omega)))) | (refine ap_guard (b := true) rfl ?_ (fun _ => ?_) (fun h => absurd rfl h); · simp only [↓set_get, Nat.reduceEqDiff, Bool.false_eq_true, ↓reduceIte, aenv0, aenvS, aenvN, one_ne, g2, g3, g5, pathD, t1, t2]; done) | (refine ap_guard (b := false) rfl ?_ (fun _ => ?_) (fun h => absurd rfl h); · simp only [↓set_get, Nat.reduceEqDiff, Bool.false_eq_true, ↓reduceIte, aenv0, aenvS, aenvN, one_ne, g2, g3, g5, pathD, t1, t2]; done) | (refine ap_guard (b := true) rfl ?_ (fun h => Bool.noConfusion h) (fun _ => ?_); · simp only [↓set_get, Nat.reduceEqDiff, Bool.false_eq_true, ↓reduceIte, aenv0, aenvS, aenvN, one_ne, g2, g3, g5, pathD, t1, t2]; done) | (refine ap_guard (b := false) rfl ?_ (fun h => Bool.noConfusion h) (fun _ => ?_); · simp only [↓set_get, Nat.reduceEqDiff, Bool.false_eq_true, ↓reduceIte, aenv0, aenvS, aenvN, one_ne, g2, g3, g5, pathD, t1, t2]; done) | (refine ap_guard0 rfl ?_ ?_; · simp only [↓set_get, Nat.reduceEqDiff, Bool.false_eq_true, ↓reduceIte, aenv0, aenvS, aenvN, one_ne, g2, g3, g5, pathD, t1, t2]; done)))
      (refine ap_set ?_ ?_ ?_; rotate_left 1; (· intro K hK; refine S0 ?_; refine abin_h32 l1 l2 ?_; exact hK))
      refine ap_done ?_
      refine ac ?_ ?_
      · intro hne
        have hne : ¬ x.path = y.path := by
          intro e; simp [e] at hne
        have hne : ¬ x = y := fun e => hne (by rw [e])
        rw [decide_eq_false hne] at hK
        refine rs ?_
        refine run ?_
        refine al_done (awp_ret (afin_ret (.forget s hle (.done ?_))))
        simp only [ares, aone, ↓set_get, Nat.reduceEqDiff, Bool.false_eq_true, ↓reduceIte, aenv0, aenvS, aenvN, one_ne]
        exact hK
      · intro he
        have he : x.path[k] = y.path[k] := by simpa using he
        refine awp_skip (Rx.done ?_)
        refine awp_region ?_
        refine runX g5 ?_
        refine al_nil ?_
        refine lq_next (x.path.length - (k + 1)) (by omega) ⟨k + 1, rfl, by omega, rfl, ?_, ?_, ?_, ?_⟩
        · intro j hj h1 h2
          rcases Nat.lt_or_ge j k with hjk | hjk
          · exact hq j hjk h1 h2
          · have : j = k := by omega
            subst this; exact he
        · simp only [↓set_get, Nat.reduceEqDiff, Bool.false_eq_true, ↓reduceIte, aenv0, aenvS, aenvN, one_ne, g2]
        · simp only [↓set_get, Nat.reduceEqDiff, Bool.false_eq_true, ↓reduceIte, aenv0, aenvS, aenvN, one_ne, g3]
        · simp only [↓set_get, Nat.reduceEqDiff, Bool.false_eq_true, ↓reduceIte, aenv0, aenvS, aenvN, one_ne]; rfl
    · intro hb2
      have hb2 : k = x.path.length := by have := of_decide_eq_false hb2
                                         omega
      subst hb2
      have he : x.path = y.path := List.ext_getElem a4 fun j h1 h2 => hq j h1 h1 h2
      have he : x = y := (sh_iff x y).2 ⟨a1, a2, a3, he⟩
      rw [decide_eq_true he] at hK
      refine lq_exit ?_
      refine rs ?_
      refine run ?_
      refine al_done (awp_ret (afin_ret (.forget s hle (.done ?_))))
      simp only [ares, aone, ↓set_get, Nat.reduceEqDiff, Bool.false_eq_true, ↓reduceIte, aenv0, aenvS, aenvN, one_ne]
      exact hK
  · have hne : ¬ x = y := fun e => hal (by rw [e]; exact ⟨rfl, rfl, rfl, rfl⟩)
    rw [decide_eq_false hne] at hK
    refine asc ?_; refine aiX g39 ?_ ?_
    · intro _
      refine rs ?_
      refine run ?_
      refine al_done (awp_ret (afin_ret (.forget s hle (.done ?_))))
      simp only [ares, aone, ↓set_get, Nat.reduceEqDiff, Bool.false_eq_true, ↓reduceIte, aenv0, aenvS, aenvN, one_ne]
      exact hK
    · intro h; simp [hal] at h

def Short (L : List SHead) : Prop := ∀ x ∈ L, x.path.length ≤ 1000000
theorem SameL_c {L M : List SHead} {t1 t2 : Option (Nat × Nat)} (hs : Short L) (hL : L.length ≤ 1000000) (hK : K (.bool (decide (L = M))) s) : ACalls prog γ 63 [.sl L.length (sgsD L) t1, .sl M.length (sgsD M) t2] s K := by
  have hml := sgsD_len L
  have hmm := sgsD_len M
  refine acalls_of_awp (by kernel_rfl) func63 rfl (by kernel_rfl) rfl rfl (by kernel_rfl) (Nat.le_of_ble_eq_true rfl) ?_
  refine rs ?_
  refine run ?_
  refine al_done ?_
  refine rs ?_
  refine run ?_
  refine al_done ?_
  refine asc ?_; refine ai ?_ ?_
  · intro h
    have h : ¬ L = M := by rintro rfl; simp at h
    rw [decide_eq_false h] at hK
    refine rs ?_
    refine run ?_
    refine rets ?_
    exact hK
  intro h
  have h : L.length = M.length := by have : ¬ ((L.length : Int) ≠ M.length) := by simpa using h
                                     omega
  refine rs ?_
  refine run ?_
  refine al_done ?_
  refine asc ?_; refine awp_while (fun n ρ t => ∃ k : Nat, n = L.length - k ∧ k ≤ L.length ∧ t = s ∧ (∀ j (hj : j < k) (h1 : j < L.length) (h2 : j < M.length), L[j] = M[j]) ∧ ρ 0 = .sl L.length (sgsD L) t1 ∧ ρ 1 = .sl M.length (sgsD M) t2 ∧ ρ 5 = .int .i64 (k : Nat)) L.length ?_ ?_
  · refine ⟨0, rfl, Nat.zero_le _, rfl, fun j hj => by omega, ?_, ?_, ?_⟩
    all_goals simp only [↓set_get, Nat.reduceEqDiff, Bool.false_eq_true, ↓reduceIte, aenv0, aenvS, aenvN, one_ne]
    rfl
  rintro n ρ s ⟨k, rfl, hk, rfl, hq, g0, g1, g5⟩
  refine rs ?_
  refine runX (And.intro g0 g5) ?_
  refine al_done ?_
  refine asc ?_; refine ate ?_ ?_
  · intro hb2
    have hb2 : k < L.length := by have := of_decide_eq_true hb2
                                  omega
    have hb3 : k < M.length := by omega
    have hat : ((sgsD L).drop (k * 36)).take 36 = sgD L[k] := rows_at sgD_len L hb2
    have hbt : ((sgsD M).drop (k * 36)).take 36 = sgD M[k] := rows_at sgD_len M hb3
    have hsk := hs _ (List.getElem_mem hb2)
    refine asc ?_; refine awp_body ?_
    refine asc ?_; refine awp_pure (by kernel_rfl) ?_
    refine runPX (And.intro g0 (And.intro g1 (And.intro g5 (And.intro hat hbt)))) ?_
    (refine ap_set ?_ ?_ ?_; rotate_left 1; (· intro K hK; refine S0 ?_; refine Or.inl (rSame_c hsk ?_); exact hK))
    refine runP ?_
    refine ap_done ?_
    refine ac ?_ ?_
    · intro hne
      have hne : ¬ L = M := by
        rintro rfl; simp at hne
      rw [decide_eq_false hne] at hK
      refine rs ?_
      refine run ?_
      refine rets ?_
      exact hK
    · intro he
      have he : L[k] = M[k] := by simpa using he
      refine awp_skip (Rx.done ?_)
      refine awp_region ?_
      refine runX g5 ?_
      refine al_nil ?_
      refine lq_next (L.length - (k + 1)) (by omega) ⟨k + 1, rfl, by omega, rfl, ?_, ?_, ?_, ?_⟩
      · intro j hj h1 h2
        rcases Nat.lt_or_ge j k with hjk | hjk
        · exact hq j hjk h1 h2
        · have : j = k := by omega
          subst this; exact he
      · simp only [↓set_get, Nat.reduceEqDiff, Bool.false_eq_true, ↓reduceIte, aenv0, aenvS, aenvN, one_ne, g0]
      · simp only [↓set_get, Nat.reduceEqDiff, Bool.false_eq_true, ↓reduceIte, aenv0, aenvS, aenvN, one_ne, g1]
      · simp only [↓set_get, Nat.reduceEqDiff, Bool.false_eq_true, ↓reduceIte, aenv0, aenvS, aenvN, one_ne]; rfl
  · intro hb2
    have hb2 : k = L.length := by have := of_decide_eq_false hb2
                                  omega
    subst hb2
    have he : L = M := List.ext_getElem h fun j h1 h2 => hq j h1 h1 h2
    rw [decide_eq_true he] at hK
    refine lq_exit ?_
    refine rs ?_
    refine run ?_
    refine rets ?_
    exact hK
end Go.Proofs.Try
