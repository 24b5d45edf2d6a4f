/- gossip, the stage's theorem: the walk. -/
import Derived.Test.YtgbfchagmniiiaaGG
set_option maxRecDepth 8000
set_option linter.unusedSimpArgs false
set_option linter.unusedVariables false
namespace Go.Proofs.Try
open Go Go.Av
set_option pp.maxSteps 900
attribute [local irreducible] alist awp adraw apure
attribute [local go_sem] cellsOf_int cellsOf_bool cellsOf_str cellsOf_nilp cellsOf_nil cellsOf_e0 cellsOf_sl cellsOf_osl cellsOf_ptr cellsOf_eptr cellsOf_fn cellsOf_agg okc_int okc_bool okc_str okc_nilp okc_nil okc_e0 okc_sl okc_osl okc_ptr okc_eptr okc_fn okc_agg and_assoc splice_0n splice_0c splice_s load_ptr load_eptr read_t read_f store_p cells_inj set_same exists_and_left List.length_cons List.length_nil List.drop_zero List.drop_succ_cons List.take_succ_cons List.take_zero Option.isSome_some
variable {γ : Gl} {σ s : St} {K : D → St → Prop}
attribute [local go_sem] roD_len roD_33 roD_34 roD_35 roD_36 roD_h roD_a rosD_len headD_len headD_0 headD_a headD_r spl87 sgD_len sgD_0 sgD_33 sgD_34 sgD_35 sgD_a sgD_h sgD_r spl27 byt27 spl91 length_bytesD List.length_replicate splice_self sgsD_len headsD_len Int.toNat_natCast List.length_append

theorem cast0 : ((0 : Nat) : Int) = 0 := rfl
attribute [local go_sem] bne_self_eq_false cast0
theorem len_newo {t : TypeId} {e : TypeId} {sz n : Nat} {cs : List D} {d : D} {s' : St} (h : NewO s e sz n cs d s') (hs : isSl prog t = true) (hk : K (.int .i64 n) s') : alen prog t d s' K := by
  rcases h with ⟨rfl, rfl, rfl, rfl⟩ | ⟨id, h0, rfl, rfl⟩
  · exact ⟨hs, hk⟩
  · exact ⟨hs, hk⟩
theorem rx_newo {Q : Env → St → Prop} {ρ : Env} {e : TypeId} {sz n t : Nat} {cs : List D} {d : D} {s' : St} (h : NewO s e sz n cs d s') (ht : ρ t = d) (hl : cs.length = n * sz) (hq : Rx Q (ρ.set t (.sl n cs none)) s) : Rx Q ρ s' := by
  rcases h with ⟨rfl, rfl, rfl, rfl⟩ | ⟨id, h0, rfl, rfl⟩
  · exact rx_nil ht hq
  · refine rx_frz1 ht (set_same _ _ _) hl ?_
    rw [del_set _ h0]; exact hq
theorem splice_rsz (Y : List SHead) {k : Nat} (h : k < Y.length) : splice (sgsD Y) (k * 36) [.int .i64 (k : Nat)] = sgsD (Y.set k (rsz k Y[k])) := by
  have e1 : Y.take k ++ Y[k] :: Y.drop (k + 1) = Y := by
    have := List.take_append_drop k Y
    rwa [List.drop_eq_getElem_cons h] at this
  have hl : (sgsD (Y.take k)).length = k * 36 := by rw [sgsD_len, List.length_take]; congr 1; omega
  have e2 : sgsD Y = sgsD (Y.take k) ++ (.int .i64 Y[k].head.size :: ((sgD Y[k]).drop 1 ++ sgsD (Y.drop (k + 1)))) := by
    have : sgsD Y = sgsD (Y.take k ++ ([Y[k]] ++ Y.drop (k + 1))) := by rw [List.singleton_append, e1]
    rw [this, sgsD, rows_append, rows_append, rows_one]; rfl
  have e3 : sgsD (Y.set k (rsz k Y[k])) = sgsD (Y.take k) ++ (.int .i64 (k : Nat) :: ((sgD Y[k]).drop 1 ++ sgsD (Y.drop (k + 1)))) := by
    rw [List.set_eq_take_append_cons_drop, if_pos h]
    have : Y.take k ++ rsz k Y[k] :: Y.drop (k + 1) = Y.take k ++ ([rsz k Y[k]] ++ Y.drop (k + 1)) := by rw [List.singleton_append]
    rw [this, sgsD, rows_append, rows_append, rows_one]; rfl
  rw [e2, e3, splice, ← hl, List.take_left, List.length_singleton, List.drop_append, List.append_assoc]
  rw [List.drop_of_length_le (by omega), show (sgsD (Y.take k)).length + 1 - (sgsD (Y.take k)).length = 1 by omega]
  rfl
theorem gMissing_w {L : List SHead} {H : List Head} {t1 : Option (Nat × Nat)} {d : D} {s' : St} (ho : Own s 87 33 H.length (headsD H) d s') (hL : L.length ≤ 100000) (hH : H.length ≤ 100000) (hK : K (dMiss L H) s') : ACalls prog γ 64 [.sl L.length (sgsD L) t1, d] s' K :=
  acalls_wk (args' := [.sl L.length (sgsD L) t1, .sl H.length (headsD H) none]) rfl (wk2 (own_wk ho)) (gMissing_c hL hH hK)
theorem vals_app (X Y : List SHead) : vals (X ++ Y) = vals X ++ vals Y := List.filter_append ..
theorem vals_valid {X : List SHead} : ∀ x ∈ vals X, valid x := fun x hx => of_decide_eq_true (List.mem_filter.1 hx).2
theorem vals_len (X : List SHead) : (vals X).length ≤ X.length := List.length_filter_le _ _
theorem vals_step (M : List SHead) {k : Nat} (h : k < M.length) : (vals (rszL 0 (M.take (k + 1)))).length = (vals (rszL 0 (M.take k))).length + if valid (rsz k M[k]) then 1 else 0 := by
  have ht : (M.take k).length = k := by rw [List.length_take]; omega
  rw [List.take_succ_eq_append_getElem h, rszL_app, vals_app, List.length_append, ht, Nat.zero_add]
  congr 1
  rw [rszL, rszL, vals, List.filter_cons]
  by_cases hv : valid (rsz k M[k])
  · rw [if_pos (decide_eq_true hv), if_pos hv]; rfl
  · rw [if_neg (by simpa using hv), if_neg hv]; rfl

theorem GossipAll_c {L : List Ro} {t1 : Option (Nat × Nat)} (hf : Fine L) (hK : K (.bool true) s) : ACalls prog γ 13 [.sl L.length (rosD L) t1] s K := by
  refine acalls_of_awp (by kernel_rfl) func13 rfl (by kernel_rfl) rfl rfl (by kernel_rfl) (Nat.le_of_ble_eq_true rfl) ?_
  refine rs ?_
  refine run ?_
  refine al_done ?_
  by_cases hg : SgOk L 10
  case neg =>
    refine rs ?_
    refine run ?_
    (refine al_set ?_ ?_ ?_ ?_; rotate_left 2; (· intro K hK; refine S1 ?_; refine Or.inl (Sgd_c hf (by decide) ?_); exact hK))
    rw [dSg, if_neg hg]
    refine run ?_
    refine al_done ?_
    refine rs ?_
    refine run ?_
    refine al_done ?_
    refine asc ?_; refine ai ?_ ?_
    · intro _
      refine rs ?_
      (refine al_set ?_ ?_ ?_ ?_; rotate_left 2; (· intro K hK; refine S1 ?_; refine Or.inl (talked_c ?_); exact hK))
      refine run ?_
      refine rets ?_
      exact hK
    · intro h; cases h
  have hL : L.length ≤ 10 := by have := hg.1; omega
  obtain ⟨M, hM⟩ : ∃ M, L.map signedO = M := ⟨_, rfl⟩
  have hml : M.length = L.length := by rw [← hM, List.length_map]
  refine asc ?_; refine awp_rj (fun ρ' s' => ∃ d, NewO s 91 36 M.length (sgsD M) d s' ∧ ρ' 3 = d ∧ ρ' 4 = .bool true) ?_ ?_
  · intro K' hJ
    refine run ?_
    refine al_rel (fun d' s' => ∃ d, d' = .tup [d, .bool true] ∧ NewO s 91 36 M.length (sgsD M) d s') ?_ ?_
    · intro K2 hK2
      refine S1 ?_
      refine Or.inl (Sgd_o hf (by decide) (fun h => absurd hg h) (fun _ d t hd => ?_))
      refine hK2 _ _ ⟨d, rfl, ?_⟩
      rw [hml, ← hM]; exact hd
    · rintro _ s' ⟨d, rfl, hd⟩
      refine run ?_
      refine al_nil (hJ _ _ ⟨d, hd, ?_, ?_⟩)
      all_goals simp only [↓set_get, Nat.reduceEqDiff, Bool.false_eq_true, ↓reduceIte, aenv0, aenvS, aenvN, one_ne]
  rintro ρ1 s1 ⟨d, hd, g3, g4⟩
  refine rs ?_
  refine runX g4 ?_
  refine al_done ?_
  refine asc ?_; refine ai ?_ ?_
  · intro h; cases h
  intro _
  refine rs ?_
  refine run ?_
  refine al_done ?_
  refine rs ?_
  refine run ?_
  refine al_done ?_
  refine asc ?_; refine awp_while (fun n ρ τ => ∃ k : Nat, n = M.length - k ∧ k ≤ M.length ∧ NewO s 91 36 M.length (sgsD (updL M k)) d τ ∧ ρ 3 = d ∧ ρ 5 = .int .i64 ((vals (rszL 0 (M.take k))).length : Nat) ∧ ρ 6 = .int .i64 (k : Nat)) M.length ?_ ?_
  · refine ⟨0, rfl, Nat.zero_le _, ?_, ?_, ?_, ?_⟩
    · have : updL M 0 = M := by rw [updL, List.take_zero, List.drop_zero]; rfl
      rw [this]; exact hd
    all_goals simp only [↓set_get, Nat.reduceEqDiff, Bool.false_eq_true, ↓reduceIte, aenv0, aenvS, aenvN, one_ne, g3]
    all_goals rfl
  · rintro n ρ τ ⟨k, rfl, hk, hown, g3, g5, g6⟩
    refine asc ?_; refine awp_rj (fun ρ' s' => s' = τ ∧ ρ' 3 = d ∧ ρ' 5 = .int .i64 ((vals (rszL 0 (M.take k))).length : Nat) ∧ ρ' 6 = .int .i64 (k : Nat) ∧ ρ' 24 = .bool (decide (k < M.length))) ?_ ?_
    · intro K' hJ
      rcases hown with ⟨h0, h1, rfl, rfl⟩ | ⟨id, hid, rfl, rfl⟩
      all_goals refine runX (And.intro g3 g6) ?_
      all_goals refine al_nil (hJ _ _ ⟨rfl, ?_, ?_, ?_, ?_⟩)
      all_goals simp only [↓set_get, Nat.reduceEqDiff, Bool.false_eq_true, ↓reduceIte, aenv0, aenvS, aenvN, one_ne, g3, g5, g6]
      all_goals (first | exact bool_t (by omega) | exact bool_f (by omega) | exact bool_s (by (first | rw [decide_eq_true_eq] | rw [beq_iff_eq] | rw [bne_iff_ne]); omega))
    rintro ρ τ ⟨rfl, g3, g5, g6, g24⟩
    refine asc ?_; refine ateX g24 ?_ ?_
    · intro hb2
      have hb2 : k < M.length := by have := of_decide_eq_true hb2
                                    omega
      rcases hown with ⟨h0, _⟩ | ⟨id, hid, rfl, rfl⟩
      · omega
      have hul := updL_len M k
      have hcl : k * 36 < M.length * 36 := by omega
      have hv5 : (vals (rszL 0 (M.take k))).length ≤ 10 := by
        have h1 := vals_len (rszL 0 (M.take k))
        rw [rszL_len, List.length_take] at h1; omega
      refine asc ?_; refine awp_body ?_
      refine rs ?_
      refine runX (And.intro g3 (And.intro g6 hul)) ?_
      have hkl : k < (updL M k).length := by omega
      rw [set_set, splice_rsz _ hkl, updL_at M hb2, updL_set M hb2]
      have hul2 := updL_len M (k + 1)
      have hk2 : k < (updL M (k + 1)).length := by omega
      have hat : ((sgsD (updL M (k + 1))).drop (k * 36)).take 36 = sgD (rsz k M[k]) := by
        have e := rows_at sgD_len (updL M (k + 1)) hk2
        have e2 : (updL M (k + 1))[k] = rsz k M[k] := by
          have h3 : (updL M (k + 1))[k]? = some (rsz k M[k]) := by rw [← updL_set M hb2, List.getElem?_set_self (by omega)]
          rw [List.getElem?_eq_getElem hk2] at h3
          exact Option.some.inj h3
        rw [e2] at e; exact e
      refine al_done ?_
      refine rs ?_
      refine runX (And.intro g3 (And.intro g6 (And.intro hul2 hat))) ?_
      (refine al_set ?_ ?_ ?_ ?_; rotate_left 2; (· intro K hK; refine S1 ?_; refine Or.inl (Valid_c ?_); exact hK))
      refine al_done ?_
      have hst := vals_step M hb2
      refine ac ?_ ?_
      · intro hv
        have hv : valid (rsz k M[k]) := of_decide_eq_true hv
        rw [if_pos hv] at hst
        refine awp_region ?_
        refine runX g5 ?_
        refine al_nil (.done ?_)
        refine awp_region ?_
        refine runX g6 ?_
        refine al_nil ?_
        refine lq_next (M.length - (k + 1)) (by omega) ⟨k + 1, rfl, by omega, .inr ⟨id, hid, rfl, rfl⟩, ?_, ?_, ?_⟩
        all_goals simp only [↓set_get, Nat.reduceEqDiff, Bool.false_eq_true, ↓reduceIte, aenv0, aenvS, aenvN, one_ne, g3, hst]
        all_goals rfl
      · intro hv
        have hv : ¬ valid (rsz k M[k]) := of_decide_eq_false hv
        rw [if_neg hv] at hst
        refine awp_skip (.done ?_)
        refine awp_region ?_
        refine runX g6 ?_
        refine al_nil ?_
        refine lq_next (M.length - (k + 1)) (by omega) ⟨k + 1, rfl, by omega, .inr ⟨id, hid, rfl, rfl⟩, ?_, ?_, ?_⟩
        all_goals simp only [↓set_get, Nat.reduceEqDiff, Bool.false_eq_true, ↓reduceIte, aenv0, aenvS, aenvN, one_ne, g3, g5, hst]
        all_goals rfl
    · intro hb2
      have hb2 : k = M.length := by have := of_decide_eq_false hb2
                                    omega
      subst hb2
      rw [List.take_length] at g5
      rw [updL_all] at hown
      obtain ⟨X, hX⟩ : ∃ X, rszL 0 M = X := ⟨_, rfl⟩
      have hxl : X.length = M.length := by rw [← hX, rszL_len]
      have hp : X.Pairwise (fun a b => a.head ≠ b.head) := hX ▸ rszL_ne M 0
      rw [hX] at hown g5
      have hvl := vals_len X
      obtain ⟨V, hV⟩ : ∃ V, vals X = V := ⟨_, rfl⟩
      have hmt : ∀ n, miss ((V.take n).map SHead.head) [] X = (V.drop n).take 3 := fun n => by rw [← hV]; exact miss_turn hp n
      have hvv : ∀ x ∈ V, valid x := hV ▸ vals_valid
      rw [hV] at g5 hvl
      rw [← hxl] at hown
      have hcl := sgsD_len X
      refine lq_exit ?_
      refine rs ?_
      refine run ?_
      refine al_nil (rx_newo hown (t := 3) (by simp only [↓set_get, Nat.reduceEqDiff, Bool.false_eq_true, ↓reduceIte, aenv0, aenvS, aenvN, one_ne, g3]) hcl (.done ?_))
      clear hown
      refine rs ?_
      refine run ?_
      refine al_done ?_
      refine asc ?_; refine awp_while (fun n ρ τ => ∃ (j : Nat) (d : D), n = (V.length + 2) / 3 - j ∧ j ≤ (V.length + 2) / 3 ∧ Own s 87 33 ((V.take (3 * j)).map SHead.head).length (headsD ((V.take (3 * j)).map SHead.head)) d τ ∧ ρ 3 = .sl X.length (sgsD X) none ∧ ρ 5 = .int .i64 (V.length : Nat) ∧ ρ 7 = d ∧ ρ 8 = .int .i64 (j : Nat)) ((V.length + 2) / 3) ?_ ?_
      · refine ⟨0, .nil, rfl, Nat.zero_le _, own_nil _ _ _, ?_, ?_, ?_, ?_⟩
        all_goals simp only [↓set_get, Nat.reduceEqDiff, Bool.false_eq_true, ↓reduceIte, aenv0, aenvS, aenvN, one_ne, g5]
        rfl
      rintro n ρ τ ⟨j, d, rfl, hj, hown, g3, g5, g7, g8⟩
      refine rs ?_
      refine runX (And.intro g5 g8) ?_
      refine al_done ?_
      refine asc ?_; refine ate ?_ ?_
      · intro hb2
        have hb2 : (j : Int) < (V.length + 3 - 1) / 3 := of_decide_eq_true hb2
        have h3j : 3 * j < V.length := by omega
        obtain ⟨W, hW⟩ : ∃ W, (V.drop (3 * j)).take 3 = W := ⟨_, rfl⟩
        have hwl : W.length = min 3 (V.length - 3 * j) := by rw [← hW, List.length_take, List.length_drop]
        have hwv : ∀ x ∈ W, valid x := fun x hx => hvv x (List.mem_of_mem_drop (List.mem_of_mem_take (hW ▸ hx)))
        have hgp : GPOk W := ⟨by omega, hwv⟩
        have hel : ((V.take (3 * j)).map SHead.head).length = 3 * j := by rw [List.length_map, List.length_take]; omega
        have hmj := hmt (3 * j)
        rw [hW] at hmj
        have hmm := sgsD_len W
        refine asc ?_; refine awp_body ?_
        refine rs ?_
        refine runX (And.intro g3 g7) ?_
        (refine al_set ?_ ?_ ?_ ?_; rotate_left 2; (· intro K hK; refine S1 ?_; refine Or.inl (gMissing_w hown (by omega) (by omega) ?_); exact hK))
        rw [dMiss, hmj]
        refine run ?_
        refine al_done ?_
        refine rs ?_
        refine run ?_
        (refine al_set ?_ ?_ ?_ ?_; rotate_left 2; (· intro K hK; refine S1 ?_; refine Or.inl (gPut_c (by omega) ?_); exact hK))
        rw [dGP, if_pos hgp]
        refine run ?_
        refine al_done ?_
        refine asc ?_; refine awp_rj (fun ρ' s' => s' = τ ∧ ρ' 3 = .sl X.length (sgsD X) none ∧ ρ' 5 = .int .i64 (V.length : Nat) ∧ ρ' 7 = d ∧ ρ' 8 = .int .i64 (j : Nat) ∧ ρ' 9 = .sl W.length (sgsD W) none ∧ ρ' 67 = .bool false) ?_ ?_
        · intro K' hJ
          rcases own_shape hown with ⟨rfl, h0⟩ | ⟨tk, rfl⟩
          all_goals refine runX (And.intro g5 g7) ?_
          all_goals refine al_nil (hJ _ _ ⟨rfl, ?_, ?_, ?_, ?_, ?_, ?_⟩)
          all_goals simp only [↓set_get, Nat.reduceEqDiff, Bool.false_eq_true, ↓reduceIte, aenv0, aenvS, aenvN, one_ne, g3, g5, g7, g8]
          · have hz : ((V.take (3 * j)).map SHead.head).length = 0 := h0
            congr 1
            rw [bne_eq_false_iff_eq]
            split <;> omega
          · congr 1
            rw [bne_eq_false_iff_eq]
            split <;> omega
        rintro ρ τ ⟨rfl, g3, g5, g7, g8, g9, g67⟩
        refine asc ?_; refine aiX g67 ?_ ?_
        · intro h; cases h
        intro _
        refine rs ?_
        refine run ?_
        refine al_done ?_
        refine awp_while1 (fun n ρ τ => ∃ (i : Nat) (d : D), n = W.length - i ∧ i ≤ W.length ∧ Own s 87 33 ((V.take (3 * j)).map SHead.head ++ (W.take i).map SHead.head).length (headsD ((V.take (3 * j)).map SHead.head ++ (W.take i).map SHead.head)) d τ ∧ ρ 3 = .sl X.length (sgsD X) none ∧ ρ 5 = .int .i64 (V.length : Nat) ∧ ρ 7 = d ∧ ρ 8 = .int .i64 (j : Nat) ∧ ρ 9 = .sl W.length (sgsD W) none ∧ ρ 12 = .int .i64 (i : Nat)) W.length ?_ ?_
        · refine ⟨0, d, rfl, Nat.zero_le _, ?_, ?_, ?_, ?_, ?_, ?_, ?_⟩
          · rw [List.take_zero, List.map_nil, List.append_nil]; exact hown
          all_goals simp only [↓set_get, Nat.reduceEqDiff, Bool.false_eq_true, ↓reduceIte, aenv0, aenvS, aenvN, one_ne, g3, g5, g7, g8, g9]
          rfl
        rintro n ρ τ ⟨i, d, rfl, hi, hown, g3, g5, g7, g8, g9, g12⟩
        refine rs ?_
        refine runX (And.intro g9 g12) ?_
        refine al_done ?_
        refine asc ?_; refine ate ?_ ?_
        · intro hb3
          have hb3 : i < W.length := by have := of_decide_eq_true hb3
                                        omega
          have hah : ((sgsD W).drop (i * 36)).take 33 = headD W[i].head := by
            have : ((sgsD W).drop (i * 36)).take 33 = (((sgsD W).drop (i * 36)).take 36).take 33 := by rw [List.take_take]; rfl
            rw [this, show ((sgsD W).drop (i * 36)).take 36 = sgD W[i] from rows_at sgD_len W hb3, sgD_h]
          have hcl := headD_len W[i].head
          have hlen : ((V.take (3 * j)).map SHead.head ++ (W.take i).map SHead.head).length = 3 * j + i := by rw [List.length_append, hel, List.length_map, List.length_take]; omega
          refine asc ?_; refine awp_body ?_
          refine awp_region ?_
          refine runX (And.intro g7 (And.intro g9 (And.intro g12 hah))) ?_
          (refine al_set ?_ ?_ ?_ ?_; rotate_left 2; (· intro K hK; refine S1 ?_; refine bsl_agg0 elt78 zc87 rfl hcl (by decide) ?_; exact hK))
          (refine al_rel ?_ ?_ ?_; rotate_left 1; (· intro K hK; simp (disch := (first | omega | (simp only [length_bytesD, List.length_append, List.length_cons, List.length_nil, List.length_map, List.length_replicate, List.length_take, List.length_drop]; omega))) only [go_sem, ↓set_get, ↓reduceIte, ↓o_bsl, ↓o_build, Nat.reduceEqDiff, Nat.reduceAdd, Nat.reduceMul, Int.reduceEq, Int.reduceNe,  xcells_sl, hcl]; refine own_app hown (m := 1) (by decide) hcl (by omega) ?_; exact hK))
          intro d2 s2 hown2
          refine run ?_
          refine al_nil (.done ?_)
          refine awp_region ?_
          refine runX g12 ?_
          refine al_nil ?_
          refine lq1_next (W.length - (i + 1)) (by omega) ⟨i + 1, d2, rfl, by omega, ?_, ?_, ?_, ?_, ?_, ?_, ?_⟩
          · rw [List.take_succ_eq_append_getElem hb3, List.map_append, ← List.append_assoc, List.length_append, headsD, rows_append]
            have : rowsD headD ([W[i]].map SHead.head) = headD W[i].head := by rw [List.map_cons, List.map_nil, rows_one]
            rw [this]; exact hown2
          all_goals simp only [↓set_get, Nat.reduceEqDiff, Bool.false_eq_true, ↓reduceIte, aenv0, aenvS, aenvN, one_ne, g3, g5, g8, g9]
          rfl
        · intro hb3
          have hb3 : i = W.length := by have := of_decide_eq_false hb3
                                        omega
          subst hb3
          rw [List.take_length] at hown
          have e : (V.take (3 * (j + 1))).map SHead.head = (V.take (3 * j)).map SHead.head ++ W.map SHead.head := by
            rw [show 3 * (j + 1) = 3 * j + 3 by omega, List.take_add, hW, List.map_append]
          rw [← e] at hown
          refine lq1_exit ?_
          refine Rx.done ?_
          refine awp_region ?_
          refine runX g8 ?_
          refine al_nil ?_
          refine lq_next ((V.length + 2) / 3 - (j + 1)) (by omega) ⟨j + 1, d, rfl, by omega, hown, ?_, ?_, ?_, ?_⟩
          all_goals simp only [↓set_get, Nat.reduceEqDiff, Bool.false_eq_true, ↓reduceIte, aenv0, aenvS, aenvN, one_ne, g3, g5, g7]
          rfl
      · intro hb2
        have hb2 : ¬ (j : Int) < (V.length + 3 - 1) / 3 := of_decide_eq_false hb2
        have h3j : V.length ≤ 3 * j := by omega
        rw [List.take_of_length_le h3j] at hown
        have hm0 := hmt (3 * j)
        rw [List.take_of_length_le h3j, List.drop_of_length_le h3j, List.take_nil] at hm0
        have hvl2 : (V.map SHead.head).length = V.length := List.length_map ..
        simp only [LQ, if_true]
        refine rx_own hown (t := 7) (by simp only [↓set_get, Nat.reduceEqDiff, Bool.false_eq_true, ↓reduceIte, aenv0, aenvS, aenvN, one_ne, g7]) (.done ?_)
        clear hown
        refine rs ?_
        refine runX g3 ?_
        (refine al_set ?_ ?_ ?_ ?_; rotate_left 2; (· intro K hK; refine S1 ?_; refine Or.inl (gMissing_c (by omega) (by omega) ?_); exact hK))
        rw [show dMiss X (V.map SHead.head) = .sl 0 [] none by rw [dMiss, hm0]; rfl]
        refine runX (And.intro g5 hvl2) ?_
        (refine al_set ?_ ?_ ?_ ?_; rotate_left 2; (· intro K hK; refine S1 ?_; refine Or.inl (talked_c ?_); exact hK))
        refine run ?_
        refine rets ?_
        exact hK
end Go.Proofs.Try
