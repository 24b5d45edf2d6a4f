/- GossipBack, walked. -/
import Derived.Test.YtgbfchagmniiiaaGL
set_option maxRecDepth 8000
set_option linter.unusedSimpArgs false
set_option linter.unusedVariables false
namespace Go.Proofs.Try
open Go Go.Av
set_option pp.maxSteps 900
attribute [local irreducible] alist awp adraw apure
attribute [local go_sem] cellsOf_int cellsOf_bool cellsOf_str cellsOf_nilp cellsOf_nil cellsOf_e0 cellsOf_sl cellsOf_osl cellsOf_ptr cellsOf_eptr cellsOf_fn cellsOf_agg okc_int okc_bool okc_str okc_nilp okc_nil okc_e0 okc_sl okc_osl okc_ptr okc_eptr okc_fn okc_agg and_assoc splice_0n splice_0c splice_s load_ptr load_eptr read_t read_f store_p cells_inj set_same exists_and_left List.length_cons List.length_nil List.drop_zero List.drop_succ_cons List.take_succ_cons List.take_zero Option.isSome_some
variable {γ : Gl} {σ s : St} {K : D → St → Prop}
attribute [local go_sem] roD_len roD_33 roD_34 roD_35 roD_36 roD_h roD_a rosD_len headD_len headD_0 headD_a headD_r spl87 sgD_len sgD_0 sgD_33 sgD_34 sgD_35 sgD_a sgD_h sgD_r spl27 byt27 spl91 length_bytesD List.length_replicate splice_self sgsD_len headsD_len Int.toNat_natCast List.length_append bne_self_eq_false
theorem dG_some {t : List UInt8} {L : List SHead} (h : getG t = some L) : dGetG t = .tup [.sl L.length (sgsD L) none, .int .i64 0] := by rw [dGetG, h]
theorem dG_none {t : List UInt8} (h : getG t = none) : dGetG t = .tup [.sl 0 [] none, .int .i64 10] := by rw [dGetG, h]
theorem dK_some {t : List UInt8} {L : List Head} (h : getK t = some L) : dGetK t = .tup [.sl L.length (headsD L) none, .int .i64 0] := by rw [dGetK, h]
theorem dK_none {t : List UInt8} (h : getK t = none) : dGetK t = .tup [.sl 0 [] none, .int .i64 10] := by rw [dGetK, h]
theorem drop_ne {t : List UInt8} {k : Nat} (h : k < t.length) : t.drop k ≠ [] := by
  intro e
  have := congrArg List.length e
  rw [List.length_drop, List.length_nil] at this; omega

theorem GossipBack_c {L : List Ro} {H : List Head} {c : Int} {t1 t2 : Option (Nat × Nat)} (hf : Fine L) (hc : 0 ≤ c ∧ c < 65536) (hK : K (.bool true) s) : ACalls prog γ 16 [.sl L.length (rosD L) t1, .sl H.length (headsD H) t2, .int .u16 c] s K := by
  have hmh := headsD_len H
  obtain ⟨c, rfl⟩ : ∃ x : Nat, c = (x : Nat) := ⟨c.toNat, by omega⟩
  refine acalls_of_awp (by kernel_rfl) func16 rfl (by kernel_rfl) rfl rfl (by kernel_rfl) (Nat.le_of_ble_eq_true rfl) ?_
  refine rs ?_
  refine run ?_
  refine al_done ?_
  refine rs ?_
  refine run ?_
  (refine al_set ?_ ?_ ?_ ?_; rotate_left 2; (· intro K hK; refine S1 ?_; refine Or.inl (Sgd_c hf (by decide) ?_); exact hK))
  by_cases hg : SgOk L 3
  case neg =>
    rw [dSg, if_neg hg]
    refine run ?_
    refine al_done ?_
    refine rs ?_
    refine run ?_
    refine al_done ?_
    refine asc ?_; refine ai ?_ ?_
    · intro _
      refine rs ?_
      (refine al_set ?_ ?_ ?_ ?_; rotate_left 2; (· intro K hK; refine S1 ?_; refine Or.inl (talked_c ?_); exact hK))
      refine run ?_
      refine rets ?_
      exact hK
    · intro h; cases h
  rw [dSg, if_pos hg]
  have hL : L.length ≤ 3 := by have := hg.1; omega
  generalize hM : L.map signedO = M
  have hml : L.length = M.length := by rw [← hM, List.length_map]
  rw [hml] at hL
  rw [hml]
  have hmm := sgsD_len M
  refine run ?_
  refine al_done ?_
  refine rs ?_
  refine run ?_
  refine al_done ?_
  refine asc ?_; refine ai ?_ ?_
  · intro _
    refine rs ?_
    (refine al_set ?_ ?_ ?_ ?_; rotate_left 2; (· intro K hK; refine S1 ?_; refine Or.inl (talked_c ?_); exact hK))
    refine run ?_
    refine rets ?_
    exact hK
  intro h
  have hH : H.length ≤ 64 := by have := of_decide_eq_false h
                                omega
  refine rs ?_
  refine run ?_
  (refine al_set ?_ ?_ ?_ ?_; rotate_left 2; (· intro K hK; refine S1 ?_; refine Or.inl (gPut_c (by omega) ?_); exact hK))
  rw [dGP_q]
  refine run ?_
  refine al_done ?_
  refine rs ?_
  refine run ?_
  refine al_done ?_
  refine asc ?_; refine aij (fun ρ' s' => s' = s ∧ ρ' 1 = .sl H.length (headsD H) t2 ∧ ρ' 2 = .int .u16 (c : Nat)) ?_ ?_ ?_
  · intro he K' hJ
    have hgp : GPOk M := by
      by_cases h : GPOk M
      · exact h
      · simp [gpE, h] at he
    have hS : gpS M = gput M := if_pos hgp
    have hlen := gpS_len M
    rw [hS] at hlen ⊢
    have hpos : 0 < (gput M).length := by simp [gput]
    obtain ⟨k, hk, hkl⟩ : ∃ k : Nat, (c : Int) % ((gput M).length : Int) = (k : Nat) ∧ k < (gput M).length := ⟨c % (gput M).length, (Int.natCast_emod _ _).symm, Nat.mod_lt _ hpos⟩
    have e1 := dG_some (getG_iff.2 ⟨hgp, rfl⟩)
    have e2 := dG_none (getG_cut hgp (drop_ne hkl) (List.take_append_drop k (gput M)))
    have e3 := dG_none (getG_more hgp (u := [0]) (by decide))
    have e4 : dGetK (gput M) = .tup [.sl 0 [] none, .int .i64 10] := dK_none (by have := getK_G M []; rwa [List.append_nil] at this)
    have hsh : Short M := fun y hy => by have := (hgp.2 y hy).2.2.2.2.2; omega
    have hne : ((gput M).length : Int) ≠ 0 := by omega
    have hb0 : (((gput M).length : Int) == 0) = false := by rw [beq_eq_false_iff_ne]; exact hne
    refine rs ?_
    refine run ?_
    (refine al_set ?_ ?_ ?_ ?_; rotate_left 2; (· intro K hK; refine S1 ?_; refine Or.inl (gGet_c (by omega) ?_); exact hK))
    rw [e1]
    refine run ?_
    refine al_done ?_
    refine rs ?_
    refine runX hb0 ?_
    (refine al_set ?_ ?_ ?_ ?_; rotate_left 2; (· intro K hK; refine S1 ?_; refine Or.inl (SameL_c hsh (by omega) ?_); exact hK))
    rw [decide_eq_true rfl]
    refine run ?_
    refine al_done ?_
    refine asc ?_; refine ai ?_ ?_
    · intro h; cases h
    intro _
    refine rs ?_
    refine runX hk ?_
    (refine al_set ?_ ?_ ?_ ?_; rotate_left 2; (· intro K hK; refine S1 ?_; refine slice_str isStr9 (l := 0) (h := k) rfl (bound_at (by omega) (by omega)) (by omega) (by omega) ?_; exact hK))
    refine run ?_
    (refine al_set ?_ ?_ ?_ ?_; rotate_left 2; (· intro K hK; refine S1 ?_; refine Or.inl (gGet_c (by rw [List.length_take]; omega) ?_); exact hK))
    rw [e2]
    refine run ?_
    refine al_done ?_
    refine rs ?_
    refine run ?_
    (refine al_set ?_ ?_ ?_ ?_; rotate_left 2; (· intro K hK; refine S1 ?_; refine Or.inl (gGet_c (by rw [List.length_append, List.length_singleton]; omega) ?_); exact hK))
    rw [e3]
    refine run ?_
    refine al_done ?_
    refine rs ?_
    refine run ?_
    (refine al_set ?_ ?_ ?_ ?_; rotate_left 2; (· intro K hK; refine S1 ?_; refine Or.inl (gGetKnown_c (by omega) ?_); exact hK))
    rw [e4]
    refine run ?_
    refine al_done ?_
    refine rs ?_
    refine run ?_
    refine al_done ?_
    refine ac ?_ ?_
    · intro h; cases h
    intro _
    refine awp_skip (hJ _ _ (.done ⟨rfl, ?_, ?_⟩))
    all_goals simp only [↓set_get, Nat.reduceEqDiff, Bool.false_eq_true, ↓reduceIte, aenv0, aenvS, aenvN, one_ne]
  · intro _
    refine ⟨rfl, ?_, ?_⟩
    all_goals simp only [↓set_get, Nat.reduceEqDiff, Bool.false_eq_true, ↓reduceIte, aenv0, aenvS, aenvN, one_ne]
  rintro ρ1 s ⟨rfl, g1, g2⟩
  refine rs ?_
  refine runX g1 ?_
  (refine al_set ?_ ?_ ?_ ?_; rotate_left 2; (· intro K hK; refine S1 ?_; refine Or.inl (gPutKnown_c (by omega) ?_); exact hK))
  rw [dGK]
  by_cases hgk : GKOk H
  case neg =>
    rw [if_neg hgk]
    refine run ?_
    refine al_done ?_
    refine rs ?_
    refine run ?_
    refine al_done ?_
    refine asc ?_; refine ai ?_ ?_
    · intro _
      refine rs ?_
      refine run ?_
      (refine al_set ?_ ?_ ?_ ?_; rotate_left 2; (· intro K hK; refine S1 ?_; refine Or.inl (talked_c ?_); exact hK))
      refine run ?_
      refine rets ?_
      exact hK
    · intro h; cases h
  rw [if_pos hgk]
  refine run ?_
  refine al_done ?_
  refine rs ?_
  refine run ?_
  refine al_done ?_
  refine asc ?_; refine ai ?_ ?_
  · intro h; cases h
  intro _
  have hlen := gkS_len H
  rw [gkS, if_pos hgk] at hlen
  have hpos : 0 < (gknown H).length := by simp [gknown]
  obtain ⟨k, hk, hkl⟩ : ∃ k : Nat, (c : Int) % ((gknown H).length : Int) = (k : Nat) ∧ k < (gknown H).length := ⟨c % (gknown H).length, (Int.natCast_emod _ _).symm, Nat.mod_lt _ hpos⟩
  have e1 := dK_some (getK_iff.2 ⟨hgk, rfl⟩)
  have e2 := dK_none (getK_cut hgk (drop_ne hkl) (List.take_append_drop k (gknown H)))
  have e3 := dK_none (getK_more hgk (u := [0]) (by decide))
  have e4 : dGetG (gknown H) = .tup [.sl 0 [] none, .int .i64 10] := dG_none (by have := getG_K H []; rwa [List.append_nil] at this)
  have hne : ((gknown H).length : Int) ≠ 0 := by omega
  have hb0 : (((gknown H).length : Int) == 0) = false := by rw [beq_eq_false_iff_ne]; exact hne
  refine rs ?_
  refine run ?_
  (refine al_set ?_ ?_ ?_ ?_; rotate_left 2; (· intro K hK; refine S1 ?_; refine Or.inl (gGetKnown_c (by omega) ?_); exact hK))
  rw [e1]
  refine run ?_
  refine al_done ?_
  refine rs ?_
  refine runX (And.intro hb0 g1) ?_
  (refine al_set ?_ ?_ ?_ ?_; rotate_left 2; (· intro K hK; refine S1 ?_; refine Or.inl (Heads_c (by omega) ?_); exact hK))
  rw [decide_eq_true rfl]
  refine run ?_
  refine al_done ?_
  refine asc ?_; refine ai ?_ ?_
  · intro h; cases h
  intro _
  refine rs ?_
  refine runX (And.intro hk g2) ?_
  (refine al_set ?_ ?_ ?_ ?_; rotate_left 2; (· intro K hK; refine S1 ?_; refine slice_str isStr9 (l := 0) (h := k) rfl (bound_at (by omega) (by omega)) (by omega) (by omega) ?_; exact hK))
  refine run ?_
  (refine al_set ?_ ?_ ?_ ?_; rotate_left 2; (· intro K hK; refine S1 ?_; refine Or.inl (gGetKnown_c (by rw [List.length_take]; omega) ?_); exact hK))
  rw [e2]
  refine run ?_
  refine al_done ?_
  refine rs ?_
  refine run ?_
  (refine al_set ?_ ?_ ?_ ?_; rotate_left 2; (· intro K hK; refine S1 ?_; refine Or.inl (gGetKnown_c (by rw [List.length_append, List.length_singleton]; omega) ?_); exact hK))
  rw [e3]
  refine run ?_
  refine al_done ?_
  refine rs ?_
  refine run ?_
  (refine al_set ?_ ?_ ?_ ?_; rotate_left 2; (· intro K hK; refine S1 ?_; refine Or.inl (gGet_c (by omega) ?_); exact hK))
  rw [e4]
  refine run ?_
  refine al_done ?_
  refine rs ?_
  refine run ?_
  (refine al_set ?_ ?_ ?_ ?_; rotate_left 2; (· intro K hK; refine S1 ?_; refine Or.inl (talked_c ?_); exact hK))
  refine run ?_
  refine rets ?_
  exact hK
end Go.Proofs.Try
