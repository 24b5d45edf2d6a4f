/- Heads that are signed, as cells; whether they may be. -/
import Derived.Test.YtgbfchagmniiiaaEx
import Derived.Test.YtgbfchagmniiiaaRw
import Derived.Test.YtgbfchagmniiiaaTyB
import Derived.Test.YtgbfchagmniiiaaSpA
import Derived.Test.YtgbfchagmniiiaaCA
set_option maxRecDepth 8000
set_option linter.unusedSimpArgs false
set_option linter.unusedVariables false
namespace Go.Proofs.Try
open Go Go.Av
set_option pp.maxSteps 900
attribute [local irreducible] alist awp adraw apure
attribute [local go_sem] cellsOf_int cellsOf_bool cellsOf_str cellsOf_nilp cellsOf_nil cellsOf_e0 cellsOf_sl cellsOf_osl cellsOf_ptr cellsOf_eptr cellsOf_fn cellsOf_agg okc_int okc_bool okc_str okc_nilp okc_nil okc_e0 okc_sl okc_osl okc_ptr okc_eptr okc_fn okc_agg and_assoc splice_0n splice_0c splice_s load_ptr load_eptr read_t read_f store_p cells_inj set_same exists_and_left List.length_cons List.length_nil List.drop_zero List.drop_succ_cons List.take_succ_cons List.take_zero Option.isSome_some
variable {γ : Gl} {σ s : St} {K : D → St → Prop}

structure Head where
  size : Int
  root : List UInt8
  hr : root.length = 32
structure SHead where
  head : Head
  index : Int
  sig : List UInt8
  path : List (List UInt8)
  hp : All32 path
def headD (h : Head) : List D := .int .i64 h.size :: bytesD h.root
theorem headD_len (h : Head) : (headD h).length = 33 := by simp [headD, length_bytesD, h.hr]
def pathD (p : List (List UInt8)) : D := .sl p.length (bytesD p.flatten) none
def sealD (x : SHead) : List D := [.int .i64 x.index, .str x.sig, pathD x.path]
def sgD (x : SHead) : List D := headD x.head ++ sealD x
theorem sgD_len (x : SHead) : (sgD x).length = 36 := by simp [sgD, headD_len, sealD]
theorem headD_0 (h : Head) : (headD h)[0]? = some (.int .i64 h.size) := rfl
theorem headD_r (h : Head) : ((headD h).drop 1).take 32 = bytesD h.root := by
  simp only [headD, List.drop_succ_cons, List.drop_zero]
  rw [List.take_of_length_le (by rw [length_bytesD, h.hr]; exact Nat.le_refl _)]
theorem headD_a (h : Head) : (headD h).take 33 = headD h := List.take_of_length_le (by rw [headD_len]; exact Nat.le_refl _)
theorem sgD_0 (x : SHead) : (sgD x)[0]? = some (.int .i64 x.head.size) := rfl
theorem sgD_at (x : SHead) (k : Nat) : (sgD x)[33 + k]? = (sealD x)[k]? := by
  rw [sgD, List.getElem?_append_right (by rw [headD_len]; omega), headD_len, Nat.add_sub_cancel_left]
theorem sgD_33 (x : SHead) : (sgD x)[33]? = some (.int .i64 x.index) := sgD_at x 0
theorem sgD_34 (x : SHead) : (sgD x)[34]? = some (.str x.sig) := sgD_at x 1
theorem sgD_35 (x : SHead) : (sgD x)[35]? = some (pathD x.path) := sgD_at x 2
theorem sgD_h (x : SHead) : (sgD x).take 33 = headD x.head := List.take_left' (headD_len _)
theorem sgD_r (x : SHead) : ((sgD x).drop 1).take 32 = bytesD x.head.root := by
  have : sgD x = .int .i64 x.head.size :: (bytesD x.head.root ++ sealD x) := rfl
  rw [this, List.drop_succ_cons, List.drop_zero]
  exact List.take_left' (by rw [length_bytesD, x.head.hr])
theorem sgD_a (x : SHead) : (sgD x).take 36 = sgD x := List.take_of_length_le (by rw [sgD_len]; exact Nat.le_refl _)
theorem sgD_s (x : SHead) : ((sgD x).drop 33).take 3 = sealD x := by
  rw [sgD, List.drop_left' (headD_len _)]; rfl
def sgsD (l : List SHead) : List D := rowsD sgD l
theorem sgsD_len (l : List SHead) : (sgsD l).length = l.length * 36 := rows_len sgD_len l
def headsD (l : List Head) : List D := rowsD headD l
theorem headsD_len (l : List Head) : (headsD l).length = l.length * 33 := rows_len headD_len l

def valid (x : SHead) : Prop := 0 ≤ x.head.size ∧ x.head.size ≤ 4096 ∧ 0 ≤ x.index ∧ x.index ≤ 7 ∧ x.sig.length = 16384 ∧ x.path.length = 3
instance (x : SHead) : Decidable (valid x) := by unfold valid; infer_instance
attribute [local go_sem] sgD_len sgD_0 sgD_33 sgD_34 sgD_35 sgD_a sgD_h sgD_r

theorem Valid_c {x : SHead} (hK : K (.bool (decide (valid x))) s) : ACalls prog γ 66 [.agg (sgD x)] s K := by
  refine acalls_of_awp (by kernel_rfl) func66 rfl (by kernel_rfl) rfl rfl (by kernel_rfl) (Nat.le_of_ble_eq_true rfl) ?_
  refine rs ?_
  (refine aF ?_; intro b hb; (try (have h_hb := hb; simp only [set_none] at h_hb)))
  refine run ?_
  refine al_done ?_
  refine asc ?_; refine awp_rj (fun ρ' s' => s' = s.set b (.cells (sgD x) 91) ∧ ρ' 1 = .ptr b 0 ∧ ρ' 3 = .bool (decide (0 ≤ x.head.size ∧ x.head.size ≤ 4096))) ?_ ?_
  · intro K' hJ
    (repeat' (first | refine run1 ?_ | (refine al_guard rfl (by simp only [↓set_get, Nat.reduceEqDiff, Bool.false_eq_true, ↓reduceIte, aenv0, aenvS, aenvN, one_ne]; rfl) (fun hb => ?_) (fun hb => ?_) <;> (try simp only [ne_eq, Bool.not_eq_true, Bool.not_eq_false] at hb) <;> have hb2 := hb <;> (try simp only [decide_eq_true_eq, decide_eq_false_iff_not, beq_iff_eq, beq_eq_false_iff_ne, bne_iff_ne, ne_eq, Bool.not_eq_true', Bool.not_eq_false'] at hb2) <;> (try rw [hb]))))
    all_goals refine al_nil (hJ _ _ ⟨rfl, ?_, ?_⟩)
    all_goals simp only [↓set_get, Nat.reduceEqDiff, Bool.false_eq_true, ↓reduceIte, aenv0, aenvS, aenvN, one_ne]
    all_goals (first | exact bool_t (by omega) | exact bool_f (by omega) | exact bool_s (by (first | rw [decide_eq_true_eq] | rw [beq_iff_eq] | rw [bne_iff_ne]); omega))
  rintro ρ1 _ ⟨rfl, g1, g3⟩
  refine asc ?_; refine awp_rj (fun ρ' s' => s' = s.set b (.cells (sgD x) 91) ∧ ρ' 2 = .bool (decide (valid x))) ?_ ?_
  · intro K' hJ
    refine runX g3 ?_
    (repeat' (first | (refine al_set ?_ ?_ ?_ ?_; rotate_left 2; (· intro K hK; simp (disch := omega) only [go_sem, ↓set_get, ↓reduceIte, ↓o_bsl, ↓o_build, Nat.reduceEqDiff, Nat.reduceAdd, Nat.reduceMul, Int.reduceEq, Int.reduceNe, set_other, del_other, g1, g3, pathD]; (repeat' (first | exact hK | (refine And.intro ?_ ?_) | assumption | omega)))) | (refine al_guard (b := true) rfl ?_ (fun _ => ?_) (fun h => absurd rfl h); · simp only [↓set_get, Nat.reduceEqDiff, Bool.false_eq_true, ↓reduceIte, aenv0, aenvS, aenvN, one_ne, g1, g3, pathD]; done) | (refine al_guard (b := false) rfl ?_ (fun _ => ?_) (fun h => absurd rfl h); · simp only [↓set_get, Nat.reduceEqDiff, Bool.false_eq_true, ↓reduceIte, aenv0, aenvS, aenvN, one_ne, g1, g3, pathD]; done) | (refine al_guard (b := true) rfl ?_ (fun h => Bool.noConfusion h) (fun _ => ?_); · simp only [↓set_get, Nat.reduceEqDiff, Bool.false_eq_true, ↓reduceIte, aenv0, aenvS, aenvN, one_ne, g1, g3, pathD]; done) | (refine al_guard (b := false) rfl ?_ (fun h => Bool.noConfusion h) (fun _ => ?_); · simp only [↓set_get, Nat.reduceEqDiff, Bool.false_eq_true, ↓reduceIte, aenv0, aenvS, aenvN, one_ne, g1, g3, pathD]; done) | (refine al_guard0 rfl ?_ ?_; · simp only [↓set_get, Nat.reduceEqDiff, Bool.false_eq_true, ↓reduceIte, aenv0, aenvS, aenvN, one_ne, g1, g3, pathD]; done) | (refine al_none ?_ ?_ ?_ ?_; rotate_left 2; (· intro K hK; simp (disch := omega) only [go_sem, ↓set_get, ↓reduceIte, ↓o_bsl, ↓o_build, Nat.reduceEqDiff, Nat.reduceAdd, Nat.reduceMul, Int.reduceEq, Int.reduceNe, set_other, del_other, g1, g3, pathD]; (repeat' (first | exact hK | (refine And.intro ?_ ?_) | assumption | omega)))) | (refine al_guard rfl (by simp only [↓set_get, Nat.reduceEqDiff, Bool.false_eq_true, ↓reduceIte, aenv0, aenvS, aenvN, one_ne, g1, g3, pathD]; rfl) (fun hb => ?_) (fun hb => ?_) <;> (try simp only [ne_eq, Bool.not_eq_true, Bool.not_eq_false] at hb) <;> have hb2 := hb <;> (try simp only [decide_eq_true_eq, decide_eq_false_iff_not, beq_iff_eq, beq_eq_false_iff_ne, bne_iff_ne, ne_eq, Bool.not_eq_true', Bool.not_eq_false'] at hb2) <;> (try rw [hb]))))
    all_goals refine al_nil (hJ _ _ ⟨rfl, ?_⟩)
    all_goals simp only [↓set_get, Nat.reduceEqDiff, Bool.false_eq_true, ↓reduceIte, aenv0, aenvS, aenvN, one_ne]
    all_goals (first | exact bool_t (by unfold valid; omega) | exact bool_f (by unfold valid; omega) | exact bool_s (by unfold valid; (first | rw [decide_eq_true_eq] | rw [beq_iff_eq] | rw [bne_iff_ne]); omega))
  rintro ρ2 _ ⟨rfl, g2⟩
  refine awp_ret (afin_ret (.forget s (le_fresh hb (St.le.refl _)) (.done ?_)))
  simp only [ares, aone, ↓set_get, Nat.reduceEqDiff, Bool.false_eq_true, ↓reduceIte, aenv0, aenvS, aenvN, one_ne, g2]
  exact hK
end Go.Proofs.Try

/- Heads that are signed: their bytes. -/
set_option maxRecDepth 8000
set_option linter.unusedSimpArgs false
set_option linter.unusedVariables false
namespace Go.Proofs.Try
open Go Go.Av
set_option pp.maxSteps 900
attribute [local irreducible] alist awp adraw apure
attribute [local go_sem] cellsOf_int cellsOf_bool cellsOf_str cellsOf_nilp cellsOf_nil cellsOf_e0 cellsOf_sl cellsOf_osl cellsOf_ptr cellsOf_eptr cellsOf_fn cellsOf_agg okc_int okc_bool okc_str okc_nilp okc_nil okc_e0 okc_sl okc_osl okc_ptr okc_eptr okc_fn okc_agg and_assoc splice_0n splice_0c splice_s load_ptr load_eptr read_t read_f store_p cells_inj set_same exists_and_left List.length_cons List.length_nil List.drop_zero List.drop_succ_cons List.take_succ_cons List.take_zero Option.isSome_some
variable {γ : Gl} {σ s : St} {K : D → St → Prop}
attribute [local go_sem] sgD_len sgD_0 sgD_33 sgD_34 sgD_35 sgD_a sgD_h sgD_r

theorem rValid_c {x : SHead} (hK : K (.bool (decide (valid x))) s) : ACalls prog γ 103 [.agg (sgD x)] s K := by
  refine acalls_of_awp (by kernel_rfl) func103 rfl (by kernel_rfl) rfl rfl (by kernel_rfl) (Nat.le_of_ble_eq_true rfl) ?_
  refine rs ?_
  (refine aF ?_; intro b hb; (try (have h_hb := hb; simp only [set_none] at h_hb)))
  refine run ?_
  refine al_done ?_
  refine asc ?_; refine awp_rj (fun ρ' s' => s' = s.set b (.cells (sgD x) 91) ∧ ρ' 2 = .bool (decide (valid x))) ?_ ?_
  · intro K' hJ
    (repeat' (first | (refine al_set ?_ ?_ ?_ ?_; rotate_left 2; (· intro K hK; simp (disch := omega) only [go_sem, ↓set_get, ↓reduceIte, ↓o_bsl, ↓o_build, Nat.reduceEqDiff, Nat.reduceAdd, Nat.reduceMul, Int.reduceEq, Int.reduceNe, set_other, del_other, pathD]; (repeat' (first | exact hK | (refine And.intro ?_ ?_) | assumption | omega)))) | (refine al_guard (b := true) rfl ?_ (fun _ => ?_) (fun h => absurd rfl h); · simp only [↓set_get, Nat.reduceEqDiff, Bool.false_eq_true, ↓reduceIte, aenv0, aenvS, aenvN, one_ne, pathD]; done) | (refine al_guard (b := false) rfl ?_ (fun _ => ?_) (fun h => absurd rfl h); · simp only [↓set_get, Nat.reduceEqDiff, Bool.false_eq_true, ↓reduceIte, aenv0, aenvS, aenvN, one_ne, pathD]; done) | (refine al_guard (b := true) rfl ?_ (fun h => Bool.noConfusion h) (fun _ => ?_); · simp only [↓set_get, Nat.reduceEqDiff, Bool.false_eq_true, ↓reduceIte, aenv0, aenvS, aenvN, one_ne, pathD]; done) | (refine al_guard (b := false) rfl ?_ (fun h => Bool.noConfusion h) (fun _ => ?_); · simp only [↓set_get, Nat.reduceEqDiff, Bool.false_eq_true, ↓reduceIte, aenv0, aenvS, aenvN, one_ne, pathD]; done) | (refine al_guard0 rfl ?_ ?_; · simp only [↓set_get, Nat.reduceEqDiff, Bool.false_eq_true, ↓reduceIte, aenv0, aenvS, aenvN, one_ne, pathD]; done) | (refine al_none ?_ ?_ ?_ ?_; rotate_left 2; (· intro K hK; simp (disch := omega) only [go_sem, ↓set_get, ↓reduceIte, ↓o_bsl, ↓o_build, Nat.reduceEqDiff, Nat.reduceAdd, Nat.reduceMul, Int.reduceEq, Int.reduceNe, set_other, del_other, pathD]; (repeat' (first | exact hK | (refine And.intro ?_ ?_) | assumption | omega)))) | (refine al_guard rfl (by simp only [↓set_get, Nat.reduceEqDiff, Bool.false_eq_true, ↓reduceIte, aenv0, aenvS, aenvN, one_ne, pathD]; rfl) (fun hb => ?_) (fun hb => ?_) <;> (try simp only [ne_eq, Bool.not_eq_true, Bool.not_eq_false] at hb) <;> have hb2 := hb <;> (try simp only [decide_eq_true_eq, decide_eq_false_iff_not, beq_iff_eq, beq_eq_false_iff_ne, bne_iff_ne, ne_eq, Bool.not_eq_true', Bool.not_eq_false'] at hb2) <;> (try rw [hb]))))
    all_goals refine al_nil (hJ _ _ ⟨rfl, ?_⟩)
    all_goals simp only [↓set_get, Nat.reduceEqDiff, Bool.false_eq_true, ↓reduceIte, aenv0, aenvS, aenvN, one_ne]
    all_goals (first | exact bool_t (by unfold valid; omega) | exact bool_f (by unfold valid; omega) | exact bool_s (by unfold valid; (first | rw [decide_eq_true_eq] | rw [beq_iff_eq] | rw [bne_iff_ne]); omega))
  rintro ρ2 _ ⟨rfl, g2⟩
  refine awp_ret (afin_ret (.forget s (le_fresh hb (St.le.refl _)) (.done ?_)))
  simp only [ares, aone, ↓set_get, Nat.reduceEqDiff, Bool.false_eq_true, ↓reduceIte, aenv0, aenvS, aenvN, one_ne, g2]
  exact hK

def textB (t : List UInt8) : List UInt8 := numB t.length ++ t
def putB (x : SHead) : List UInt8 := (((numB x.head.size.toNat ++ x.head.root) ++ numB x.index.toNat) ++ textB x.sig) ++ hashesB x.path
def dPut (x : SHead) : D := if valid x then .tup [.str (putB x), .int .i64 0] else .tup [.str [], .int .i64 2]
theorem putB_len {x : SHead} (h : valid x) : (putB x).length ≤ 17000 := by
  obtain ⟨h1, h2, h3, h4, h5, h6⟩ := h
  have l1 := length_numB (n := x.head.size.toNat) (by omega)
  have l2 := length_numB (n := x.index.toNat) (by omega)
  have l3 := length_numB (n := x.sig.length) (by omega)
  have l4 := length_numB (n := x.path.length) (by omega)
  have l5 := flat_len x.hp
  have l6 := x.head.hr
  rw [putB, textB, hashesB, if_neg (by omega)]
  simp only [List.length_append]; omega

theorem Put_c {x : SHead} (hK : K (dPut x) s) : ACalls prog γ 97 [.agg (sgD x)] s K := by
  unfold dPut at hK
  refine acalls_of_awp (by kernel_rfl) func97 rfl (by kernel_rfl) rfl rfl (by kernel_rfl) (Nat.le_of_ble_eq_true rfl) ?_
  refine rs ?_
  (refine aF ?_; intro b hb; (try (have h_hb := hb; simp only [set_none] at h_hb)))
  refine run ?_
  refine al_done ?_
  refine rs ?_
  refine run ?_
  (refine al_set ?_ ?_ ?_ ?_; rotate_left 2; (· intro K hK; refine S1 ?_; refine Or.inl (Valid_c ?_); exact hK))
  refine run ?_
  refine al_done ?_
  by_cases hv : valid x
  · have e1 : (!decide (valid x)) = false := by simp [hv]
    refine asc ?_; refine ai ?_ ?_
    · intro h; rw [e1] at h; cases h
    · intro _
      rw [if_pos hv] at hK
      obtain ⟨h1, h2, h3, h4, h5, h6⟩ := hv
      have l1 := length_numB (n := x.head.size.toNat) (by omega)
      have l2 := length_numB (n := x.index.toNat) (by omega)
      have l3 := length_numB (n := x.sig.length) (by omega)
      have l4 := length_numB (n := x.path.length) (by omega)
      have l5 := flat_len x.hp
      have l6 := x.head.hr
      have l7 : (textB x.sig).length ≤ 16394 := by rw [textB, List.length_append]; omega
      have l8 : (hashesB x.path).length ≤ 106 := by rw [hashesB, if_neg (by omega), List.length_append]; omega
      refine asc ?_; refine awp_pure (by kernel_rfl) ?_
      refine runP ?_
      (refine ap_set ?_ ?_ ?_; rotate_left 1; (· intro K hK; refine S0 ?_; refine Or.inl (Num_c (by omega) (by omega) ?_); exact hK))
      refine runP ?_
      (refine ap_set ?_ ?_ ?_; rotate_left 1; (· intro K hK; refine S0 ?_; refine Or.inl (Hash_c x.head.hr ?_); exact hK))
      (repeat (first | (refine ap_set ?_ ?_ ?_; rotate_left 1; (· intro K hK; simp (disch := omega) only [go_sem, ↓set_get, ↓reduceIte, ↓o_bsl, ↓o_build, Nat.reduceEqDiff, Nat.reduceAdd, Nat.reduceMul, Int.reduceEq, Int.reduceNe, set_other, del_other, List.length_append]; (repeat' (first | exact hK | (refine And.intro ?_ ?_) | assumption | omega)))) | (refine ap_guard (b := true) rfl ?_ (fun _ => ?_) (fun h => absurd rfl h); · simp only [↓set_get, Nat.reduceEqDiff, Bool.false_eq_true, ↓reduceIte, aenv0, aenvS, aenvN, one_ne, List.length_append]; done) | (refine ap_guard (b := false) rfl ?_ (fun _ => ?_) (fun h => absurd rfl h); · simp only [↓set_get, Nat.reduceEqDiff, Bool.false_eq_true, ↓reduceIte, aenv0, aenvS, aenvN, one_ne, List.length_append]; done) | (refine ap_guard (b := true) rfl ?_ (fun h => Bool.noConfusion h) (fun _ => ?_); · simp only [↓set_get, Nat.reduceEqDiff, Bool.false_eq_true, ↓reduceIte, aenv0, aenvS, aenvN, one_ne, List.length_append]; done) | (refine ap_guard (b := false) rfl ?_ (fun h => Bool.noConfusion h) (fun _ => ?_); · simp only [↓set_get, Nat.reduceEqDiff, Bool.false_eq_true, ↓reduceIte, aenv0, aenvS, aenvN, one_ne, List.length_append]; done) | (refine ap_guard0 rfl ?_ ?_; · simp only [↓set_get, Nat.reduceEqDiff, Bool.false_eq_true, ↓reduceIte, aenv0, aenvS, aenvN, one_ne, List.length_append]; done)))
      (refine ap_set ?_ ?_ ?_; rotate_left 1; (· intro K hK; refine S0 ?_; refine Or.inl (Num_c (by omega) (by omega) ?_); exact hK))
      (repeat (first | (refine ap_set ?_ ?_ ?_; rotate_left 1; (· intro K hK; simp (disch := omega) only [go_sem, ↓set_get, ↓reduceIte, ↓o_bsl, ↓o_build, Nat.reduceEqDiff, Nat.reduceAdd, Nat.reduceMul, Int.reduceEq, Int.reduceNe, set_other, del_other, List.length_append]; (repeat' (first | exact hK | (refine And.intro ?_ ?_) | assumption | omega)))) | (refine ap_guard (b := true) rfl ?_ (fun _ => ?_) (fun h => absurd rfl h); · simp only [↓set_get, Nat.reduceEqDiff, Bool.false_eq_true, ↓reduceIte, aenv0, aenvS, aenvN, one_ne, List.length_append]; done) | (refine ap_guard (b := false) rfl ?_ (fun _ => ?_) (fun h => absurd rfl h); · simp only [↓set_get, Nat.reduceEqDiff, Bool.false_eq_true, ↓reduceIte, aenv0, aenvS, aenvN, one_ne, List.length_append]; done) | (refine ap_guard (b := true) rfl ?_ (fun h => Bool.noConfusion h) (fun _ => ?_); · simp only [↓set_get, Nat.reduceEqDiff, Bool.false_eq_true, ↓reduceIte, aenv0, aenvS, aenvN, one_ne, List.length_append]; done) | (refine ap_guard (b := false) rfl ?_ (fun h => Bool.noConfusion h) (fun _ => ?_); · simp only [↓set_get, Nat.reduceEqDiff, Bool.false_eq_true, ↓reduceIte, aenv0, aenvS, aenvN, one_ne, List.length_append]; done) | (refine ap_guard0 rfl ?_ ?_; · simp only [↓set_get, Nat.reduceEqDiff, Bool.false_eq_true, ↓reduceIte, aenv0, aenvS, aenvN, one_ne, List.length_append]; done)))
      (refine ap_set ?_ ?_ ?_; rotate_left 1; (· intro K hK; refine S0 ?_; refine Or.inl (Text_c (by omega) ?_); exact hK))
      (repeat (first | (refine ap_set ?_ ?_ ?_; rotate_left 1; (· intro K hK; simp (disch := omega) only [go_sem, ↓set_get, ↓reduceIte, ↓o_bsl, ↓o_build, Nat.reduceEqDiff, Nat.reduceAdd, Nat.reduceMul, Int.reduceEq, Int.reduceNe, set_other, del_other, List.length_append, pathD]; (repeat' (first | exact hK | (refine And.intro ?_ ?_) | assumption | omega)))) | (refine ap_guard (b := true) rfl ?_ (fun _ => ?_) (fun h => absurd rfl h); · simp only [↓set_get, Nat.reduceEqDiff, Bool.false_eq_true, ↓reduceIte, aenv0, aenvS, aenvN, one_ne, List.length_append, pathD]; done) | (refine ap_guard (b := false) rfl ?_ (fun _ => ?_) (fun h => absurd rfl h); · simp only [↓set_get, Nat.reduceEqDiff, Bool.false_eq_true, ↓reduceIte, aenv0, aenvS, aenvN, one_ne, List.length_append, pathD]; done) | (refine ap_guard (b := true) rfl ?_ (fun h => Bool.noConfusion h) (fun _ => ?_); · simp only [↓set_get, Nat.reduceEqDiff, Bool.false_eq_true, ↓reduceIte, aenv0, aenvS, aenvN, one_ne, List.length_append, pathD]; done) | (refine ap_guard (b := false) rfl ?_ (fun h => Bool.noConfusion h) (fun _ => ?_); · simp only [↓set_get, Nat.reduceEqDiff, Bool.false_eq_true, ↓reduceIte, aenv0, aenvS, aenvN, one_ne, List.length_append, pathD]; done) | (refine ap_guard0 rfl ?_ ?_; · simp only [↓set_get, Nat.reduceEqDiff, Bool.false_eq_true, ↓reduceIte, aenv0, aenvS, aenvN, one_ne, List.length_append, pathD]; done)))
      (refine ap_set ?_ ?_ ?_; rotate_left 1; (· intro K hK; refine S0 ?_; refine Or.inl (Hashes_c x.hp (by omega) ?_); exact hK))
      (repeat (first | (refine ap_set ?_ ?_ ?_; rotate_left 1; (· intro K hK; simp (disch := omega) only [go_sem, ↓set_get, ↓reduceIte, ↓o_bsl, ↓o_build, Nat.reduceEqDiff, Nat.reduceAdd, Nat.reduceMul, Int.reduceEq, Int.reduceNe, set_other, del_other, List.length_append]; (repeat' (first | exact hK | (refine And.intro ?_ ?_) | assumption | omega)))) | (refine ap_guard (b := true) rfl ?_ (fun _ => ?_) (fun h => absurd rfl h); · simp only [↓set_get, Nat.reduceEqDiff, Bool.false_eq_true, ↓reduceIte, aenv0, aenvS, aenvN, one_ne, List.length_append]; done) | (refine ap_guard (b := false) rfl ?_ (fun _ => ?_) (fun h => absurd rfl h); · simp only [↓set_get, Nat.reduceEqDiff, Bool.false_eq_true, ↓reduceIte, aenv0, aenvS, aenvN, one_ne, List.length_append]; done) | (refine ap_guard (b := true) rfl ?_ (fun h => Bool.noConfusion h) (fun _ => ?_); · simp only [↓set_get, Nat.reduceEqDiff, Bool.false_eq_true, ↓reduceIte, aenv0, aenvS, aenvN, one_ne, List.length_append]; done) | (refine ap_guard (b := false) rfl ?_ (fun h => Bool.noConfusion h) (fun _ => ?_); · simp only [↓set_get, Nat.reduceEqDiff, Bool.false_eq_true, ↓reduceIte, aenv0, aenvS, aenvN, one_ne, List.length_append]; done) | (refine ap_guard0 rfl ?_ ?_; · simp only [↓set_get, Nat.reduceEqDiff, Bool.false_eq_true, ↓reduceIte, aenv0, aenvS, aenvN, one_ne, List.length_append]; done)))
      refine ap_done ?_
      refine awp_ret (afin_ret (.forget s (le_fresh hb (St.le.refl _)) (.done ?_)))
      simp only [ares, aone, ↓set_get, Nat.reduceEqDiff, Bool.false_eq_true, ↓reduceIte, aenv0, aenvS, aenvN, one_ne]
      exact hK
  · have e1 : (!decide (valid x)) = true := by simp [hv]
    rw [if_neg hv] at hK
    refine asc ?_; refine ai ?_ ?_
    · intro _
      refine rs ?_
      refine run ?_
      refine al_done (awp_ret (afin_ret (.forget s (le_fresh hb (St.le.refl _)) (.done ?_))))
      simp only [ares, aone, ↓set_get, Nat.reduceEqDiff, Bool.false_eq_true, ↓reduceIte, aenv0, aenvS, aenvN, one_ne]
      exact hK
    · intro h; rw [e1] at h; cases h
theorem rPut_c {x : SHead} (hK : K (dPut x) s) : ACalls prog γ 98 [.agg (sgD x)] s K := by
  unfold dPut at hK
  refine acalls_of_awp (by kernel_rfl) func98 rfl (by kernel_rfl) rfl rfl (by kernel_rfl) (Nat.le_of_ble_eq_true rfl) ?_
  refine rs ?_
  (refine aF ?_; intro b hb; (try (have h_hb := hb; simp only [set_none] at h_hb)))
  refine run ?_
  refine al_done ?_
  refine rs ?_
  refine run ?_
  (refine al_set ?_ ?_ ?_ ?_; rotate_left 2; (· intro K hK; refine S1 ?_; refine Or.inl (rValid_c ?_); exact hK))
  refine run ?_
  refine al_done ?_
  by_cases hv : valid x
  · have e1 : (!decide (valid x)) = false := by simp [hv]
    refine asc ?_; refine ai ?_ ?_
    · intro h; rw [e1] at h; cases h
    · intro _
      rw [if_pos hv] at hK
      obtain ⟨h1, h2, h3, h4, h5, h6⟩ := hv
      have l1 := length_numB (n := x.head.size.toNat) (by omega)
      have l2 := length_numB (n := x.index.toNat) (by omega)
      have l3 := length_numB (n := x.sig.length) (by omega)
      have l4 := length_numB (n := x.path.length) (by omega)
      have l5 := flat_len x.hp
      have l6 := x.head.hr
      have l7 : (textB x.sig).length ≤ 16394 := by rw [textB, List.length_append]; omega
      have l8 : (hashesB x.path).length ≤ 106 := by rw [hashesB, if_neg (by omega), List.length_append]; omega
      refine asc ?_; refine awp_pure (by kernel_rfl) ?_
      refine runP ?_
      (refine ap_set ?_ ?_ ?_; rotate_left 1; (· intro K hK; refine S0 ?_; refine Or.inl (rNum_c (by omega) (by omega) ?_); exact hK))
      refine runP ?_
      (refine ap_set ?_ ?_ ?_; rotate_left 1; (· intro K hK; refine S0 ?_; refine Or.inl (rHash_c x.head.hr ?_); exact hK))
      (repeat (first | (refine ap_set ?_ ?_ ?_; rotate_left 1; (· intro K hK; simp (disch := omega) only [go_sem, ↓set_get, ↓reduceIte, ↓o_bsl, ↓o_build, Nat.reduceEqDiff, Nat.reduceAdd, Nat.reduceMul, Int.reduceEq, Int.reduceNe, set_other, del_other, List.length_append]; (repeat' (first | exact hK | (refine And.intro ?_ ?_) | assumption | omega)))) | (refine ap_guard (b := true) rfl ?_ (fun _ => ?_) (fun h => absurd rfl h); · simp only [↓set_get, Nat.reduceEqDiff, Bool.false_eq_true, ↓reduceIte, aenv0, aenvS, aenvN, one_ne, List.length_append]; done) | (refine ap_guard (b := false) rfl ?_ (fun _ => ?_) (fun h => absurd rfl h); · simp only [↓set_get, Nat.reduceEqDiff, Bool.false_eq_true, ↓reduceIte, aenv0, aenvS, aenvN, one_ne, List.length_append]; done) | (refine ap_guard (b := true) rfl ?_ (fun h => Bool.noConfusion h) (fun _ => ?_); · simp only [↓set_get, Nat.reduceEqDiff, Bool.false_eq_true, ↓reduceIte, aenv0, aenvS, aenvN, one_ne, List.length_append]; done) | (refine ap_guard (b := false) rfl ?_ (fun h => Bool.noConfusion h) (fun _ => ?_); · simp only [↓set_get, Nat.reduceEqDiff, Bool.false_eq_true, ↓reduceIte, aenv0, aenvS, aenvN, one_ne, List.length_append]; done) | (refine ap_guard0 rfl ?_ ?_; · simp only [↓set_get, Nat.reduceEqDiff, Bool.false_eq_true, ↓reduceIte, aenv0, aenvS, aenvN, one_ne, List.length_append]; done)))
      (refine ap_set ?_ ?_ ?_; rotate_left 1; (· intro K hK; refine S0 ?_; refine Or.inl (rNum_c (by omega) (by omega) ?_); exact hK))
      (repeat (first | (refine ap_set ?_ ?_ ?_; rotate_left 1; (· intro K hK; simp (disch := omega) only [go_sem, ↓set_get, ↓reduceIte, ↓o_bsl, ↓o_build, Nat.reduceEqDiff, Nat.reduceAdd, Nat.reduceMul, Int.reduceEq, Int.reduceNe, set_other, del_other, List.length_append]; (repeat' (first | exact hK | (refine And.intro ?_ ?_) | assumption | omega)))) | (refine ap_guard (b := true) rfl ?_ (fun _ => ?_) (fun h => absurd rfl h); · simp only [↓set_get, Nat.reduceEqDiff, Bool.false_eq_true, ↓reduceIte, aenv0, aenvS, aenvN, one_ne, List.length_append]; done) | (refine ap_guard (b := false) rfl ?_ (fun _ => ?_) (fun h => absurd rfl h); · simp only [↓set_get, Nat.reduceEqDiff, Bool.false_eq_true, ↓reduceIte, aenv0, aenvS, aenvN, one_ne, List.length_append]; done) | (refine ap_guard (b := true) rfl ?_ (fun h => Bool.noConfusion h) (fun _ => ?_); · simp only [↓set_get, Nat.reduceEqDiff, Bool.false_eq_true, ↓reduceIte, aenv0, aenvS, aenvN, one_ne, List.length_append]; done) | (refine ap_guard (b := false) rfl ?_ (fun h => Bool.noConfusion h) (fun _ => ?_); · simp only [↓set_get, Nat.reduceEqDiff, Bool.false_eq_true, ↓reduceIte, aenv0, aenvS, aenvN, one_ne, List.length_append]; done) | (refine ap_guard0 rfl ?_ ?_; · simp only [↓set_get, Nat.reduceEqDiff, Bool.false_eq_true, ↓reduceIte, aenv0, aenvS, aenvN, one_ne, List.length_append]; done)))
      (refine ap_set ?_ ?_ ?_; rotate_left 1; (· intro K hK; refine S0 ?_; refine Or.inl (rText_c (by omega) ?_); exact hK))
      (repeat (first | (refine ap_set ?_ ?_ ?_; rotate_left 1; (· intro K hK; simp (disch := omega) only [go_sem, ↓set_get, ↓reduceIte, ↓o_bsl, ↓o_build, Nat.reduceEqDiff, Nat.reduceAdd, Nat.reduceMul, Int.reduceEq, Int.reduceNe, set_other, del_other, List.length_append, pathD]; (repeat' (first | exact hK | (refine And.intro ?_ ?_) | assumption | omega)))) | (refine ap_guard (b := true) rfl ?_ (fun _ => ?_) (fun h => absurd rfl h); · simp only [↓set_get, Nat.reduceEqDiff, Bool.false_eq_true, ↓reduceIte, aenv0, aenvS, aenvN, one_ne, List.length_append, pathD]; done) | (refine ap_guard (b := false) rfl ?_ (fun _ => ?_) (fun h => absurd rfl h); · simp only [↓set_get, Nat.reduceEqDiff, Bool.false_eq_true, ↓reduceIte, aenv0, aenvS, aenvN, one_ne, List.length_append, pathD]; done) | (refine ap_guard (b := true) rfl ?_ (fun h => Bool.noConfusion h) (fun _ => ?_); · simp only [↓set_get, Nat.reduceEqDiff, Bool.false_eq_true, ↓reduceIte, aenv0, aenvS, aenvN, one_ne, List.length_append, pathD]; done) | (refine ap_guard (b := false) rfl ?_ (fun h => Bool.noConfusion h) (fun _ => ?_); · simp only [↓set_get, Nat.reduceEqDiff, Bool.false_eq_true, ↓reduceIte, aenv0, aenvS, aenvN, one_ne, List.length_append, pathD]; done) | (refine ap_guard0 rfl ?_ ?_; · simp only [↓set_get, Nat.reduceEqDiff, Bool.false_eq_true, ↓reduceIte, aenv0, aenvS, aenvN, one_ne, List.length_append, pathD]; done)))
      (refine ap_set ?_ ?_ ?_; rotate_left 1; (· intro K hK; refine S0 ?_; refine Or.inl (rHashes_c x.hp (by omega) ?_); exact hK))
      (repeat (first | (refine ap_set ?_ ?_ ?_; rotate_left 1; (· intro K hK; simp (disch := omega) only [go_sem, ↓set_get, ↓reduceIte, ↓o_bsl, ↓o_build, Nat.reduceEqDiff, Nat.reduceAdd, Nat.reduceMul, Int.reduceEq, Int.reduceNe, set_other, del_other, List.length_append]; (repeat' (first | exact hK | (refine And.intro ?_ ?_) | assumption | omega)))) | (refine ap_guard (b := true) rfl ?_ (fun _ => ?_) (fun h => absurd rfl h); · simp only [↓set_get, Nat.reduceEqDiff, Bool.false_eq_true, ↓reduceIte, aenv0, aenvS, aenvN, one_ne, List.length_append]; done) | (refine ap_guard (b := false) rfl ?_ (fun _ => ?_) (fun h => absurd rfl h); · simp only [↓set_get, Nat.reduceEqDiff, Bool.false_eq_true, ↓reduceIte, aenv0, aenvS, aenvN, one_ne, List.length_append]; done) | (refine ap_guard (b := true) rfl ?_ (fun h => Bool.noConfusion h) (fun _ => ?_); · simp only [↓set_get, Nat.reduceEqDiff, Bool.false_eq_true, ↓reduceIte, aenv0, aenvS, aenvN, one_ne, List.length_append]; done) | (refine ap_guard (b := false) rfl ?_ (fun h => Bool.noConfusion h) (fun _ => ?_); · simp only [↓set_get, Nat.reduceEqDiff, Bool.false_eq_true, ↓reduceIte, aenv0, aenvS, aenvN, one_ne, List.length_append]; done) | (refine ap_guard0 rfl ?_ ?_; · simp only [↓set_get, Nat.reduceEqDiff, Bool.false_eq_true, ↓reduceIte, aenv0, aenvS, aenvN, one_ne, List.length_append]; done)))
      refine ap_done ?_
      refine awp_ret (afin_ret (.forget s (le_fresh hb (St.le.refl _)) (.done ?_)))
      simp only [ares, aone, ↓set_get, Nat.reduceEqDiff, Bool.false_eq_true, ↓reduceIte, aenv0, aenvS, aenvN, one_ne]
      exact hK
  · have e1 : (!decide (valid x)) = true := by simp [hv]
    rw [if_neg hv] at hK
    refine asc ?_; refine ai ?_ ?_
    · intro _
      refine rs ?_
      refine run ?_
      refine al_done (awp_ret (afin_ret (.forget s (le_fresh hb (St.le.refl _)) (.done ?_))))
      simp only [ares, aone, ↓set_get, Nat.reduceEqDiff, Bool.false_eq_true, ↓reduceIte, aenv0, aenvS, aenvN, one_ne]
      exact hK
    · intro h; rw [e1] at h; cases h
end Go.Proofs.Try

/- Heads that are signed: what bytes say; the plain part, and how they are built. -/
set_option maxRecDepth 8000
set_option linter.unusedSimpArgs false
set_option linter.unusedVariables false
namespace Go.Proofs.Try
open Go Go.Av
variable {γ : Gl} {σ s : St} {K : D → St → Prop}

theorem build87 {n : Int} {r : List UInt8} (hr : r.length = 32) (hk : K (.agg (.int .i64 n :: bytesD r)) s) : abuild prog 87 [(0, .int .i64 n), (1, .agg (bytesD r))] s K := by
  have hl : (bytesD r).length = 32 := by rw [length_bytesD, hr]
  have hz : zc prog 87 = some (D.int .i64 0 :: List.replicate 32 (.int .u8 0)) := zc87
  have hf : afill (fun i => ([(0, 1), (1, 32)] : List (Nat × Nat)).toArray[i]?) (D.int .i64 0 :: List.replicate 32 (.int .u8 0)) [(0, .int .i64 n), (1, .agg (bytesD r))] = some (.int .i64 n :: bytesD r) := by
    simp only [afill, List.getElem?_toArray, List.getElem?_cons_zero, List.getElem?_cons_succ, cellsOf_int, okc_int, cellsOf_agg, okc_agg]
    rw [if_pos ⟨trivial, rfl, by simp⟩, splice_0c, splice_0n]
    rw [if_pos ⟨trivial, hl, by simp⟩, show splice (D.int .i64 n :: List.replicate 32 (.int .u8 0)) 1 (bytesD r) = D.int .i64 n :: splice (List.replicate 32 (.int .u8 0)) 0 (bytesD r) from splice_s, splice_whole (by simp [hl])]
  simp only [abuild, hz, pl87, hf]
  exact hk
theorem build89 {n : Int} {t : List UInt8} {p : List (List UInt8)} (hk : K (.agg [.int .i64 n, .str t, pathD p]) s) : abuild prog 89 [(0, .int .i64 n), (1, .str t), (2, pathD p)] s K := by
  have hf : afill (fun i => ([(0, 1), (1, 1), (2, 1)] : List (Nat × Nat)).toArray[i]?) [D.int .i64 0, .str [], .nil] [(0, .int .i64 n), (1, .str t), (2, pathD p)] = some [.int .i64 n, .str t, pathD p] := by
    simp [afill, okc, D.one, cellsOf, pathD, splice]
  simp only [abuild, zc89, pl89, hf]
  exact hk
theorem build91 {x : SHead} (hk : K (.agg (sgD x)) s) : abuild prog 91 [(0, .agg (headD x.head)), (1, .agg (sealD x))] s K := by
  have hl := headD_len x.head
  have hz : zc prog 91 = some (D.int .i64 0 :: (List.replicate 32 (.int .u8 0) ++ [.int .i64 0, .str [], .nil])) := zc91
  have hf : afill (fun i => ([(0, 33), (33, 3)] : List (Nat × Nat)).toArray[i]?) (D.int .i64 0 :: (List.replicate 32 (.int .u8 0) ++ [.int .i64 0, .str [], .nil])) [(0, .agg (headD x.head)), (1, .agg (sealD x))] = some (sgD x) := by
    simp only [afill, List.getElem?_toArray, List.getElem?_cons_zero, List.getElem?_cons_succ, cellsOf_agg, okc_agg]
    have e1 : splice (D.int .i64 0 :: (List.replicate 32 (.int .u8 0) ++ [.int .i64 0, .str [], .nil])) 0 (headD x.head) = headD x.head ++ [.int .i64 0, .str [], .nil] := by
      rw [splice, List.take_zero, List.nil_append, hl]; rfl
    have e2 : splice (headD x.head ++ [.int .i64 0, .str [], .nil]) 33 (sealD x) = sgD x := by
      rw [splice, List.take_left' hl, List.drop_of_length_le (by simp [hl, sealD]), List.append_nil]; rfl
    rw [if_pos ⟨trivial, hl, by simp⟩, e1, if_pos ⟨trivial, rfl, by simp [hl]⟩, e2]
  simp only [abuild, hz, pl91, hf]
  exact hk

def q1 (t : List UInt8) : Nat × List UInt8 := (readB t).getD (0, [])
def q2 (t : List UInt8) : List UInt8 × List UInt8 := (unhashB t).getD (zero32, [])
def q4 (t : List UInt8) : List UInt8 × List UInt8 := (cutB t).getD ([], [])
def q5 (t : List UInt8) : List (List UInt8) × List UInt8 := (unhashesB t).getD ([], [])
theorem dRead_q (t : List UInt8) : dRead (readB t) = .tup [.int .u64 (q1 t).1, .str (q1 t).2, .bool (readB t).isSome] := by
  unfold q1; cases readB t <;> rfl
theorem dUnhash_q (t : List UInt8) : dUnhash (unhashB t) = .tup [.agg (bytesD (q2 t).1), .str (q2 t).2, .bool (unhashB t).isSome] := by
  unfold q2; cases unhashB t <;> rfl
theorem dCut_q (t : List UInt8) : dCut (cutB t) = .tup [.str (q4 t).1, .str (q4 t).2, .bool (cutB t).isSome] := by
  unfold q4; cases cutB t <;> rfl
theorem dUnhs_q (t : List UInt8) : dUnhs (unhashesB t) = .tup [pathD (q5 t).1, .str (q5 t).2, .bool (unhashesB t).isSome] := by
  unfold q5; cases unhashesB t <;> rfl
theorem q1_len (t : List UInt8) : (q1 t).2.length ≤ t.length ∧ (q1 t).1 < 18446744073709551616 := by
  unfold q1
  cases h : readB t with
  | none => simp
  | some p => obtain ⟨n, r⟩ := p; have := readB_len h; show r.length ≤ t.length ∧ n < 18446744073709551616; exact ⟨Nat.le_of_lt this.1, this.2⟩
theorem q2_len (t : List UInt8) : (q2 t).2.length ≤ t.length ∧ (q2 t).1.length = 32 := by
  unfold q2
  cases h : unhashB t with
  | none => exact ⟨Nat.zero_le _, rfl⟩
  | some p =>
    unfold unhashB takeB at h
    split at h
    · cases h
    · cases h; simp; omega
theorem q4_len (t : List UInt8) : (q4 t).2.length ≤ t.length ∧ (q4 t).1.length ≤ t.length := by
  unfold q4
  cases h : cutB t with
  | none => simp
  | some p =>
    unfold cutB at h
    cases hr : readB t with
    | none => rw [hr] at h; cases h
    | some q =>
      obtain ⟨n, r⟩ := q
      have hl := readB_len hr
      rw [hr] at h
      have h : takeB r n = some p := h
      unfold takeB at h
      split at h
      · cases h
      · cases h; simp; omega
theorem q5_len (t : List UInt8) : (q5 t).2.length ≤ t.length ∧ All32 (q5 t).1 ∧ (q5 t).1.length ≤ 64 := by
  unfold q5
  cases h : unhashesB t with
  | none => exact ⟨Nat.zero_le _, fun x hx => (by cases hx), Nat.zero_le _⟩
  | some p =>
    obtain ⟨hs, r⟩ := p
    obtain ⟨a, b, c⟩ := unhashes_len h
    exact ⟨by rw [c]; simp; omega, a, b⟩

/-- The rests, one behind the other. -/
def r1 (t : List UInt8) : List UInt8 := (q1 t).2
def r2 (t : List UInt8) : List UInt8 := (q2 (r1 t)).2
def r3 (t : List UInt8) : List UInt8 := (q1 (r2 t)).2
def r4 (t : List UInt8) : List UInt8 := (q4 (r3 t)).2
def r5 (t : List UInt8) : List UInt8 := (q5 (r4 t)).2
def all5 (t : List UInt8) : Bool := (readB t).isSome && ((unhashB (r1 t)).isSome && ((readB (r2 t)).isSome && ((cutB (r3 t)).isSome && (unhashesB (r4 t)).isSome)))
def getX (t : List UInt8) : SHead where
  head := { size := ((min (q1 t).1 1073741824 : Nat) : Int), root := (q2 (r1 t)).1, hr := (q2_len _).2 }
  index := ((min (q1 (r2 t)).1 1073741824 : Nat) : Int)
  sig := (q4 (r3 t)).1
  path := (q5 (r4 t)).1
  hp := (q5_len _).2.1
def GetOk (t : List UInt8) : Prop := all5 t = true ∧ r5 t = [] ∧ valid (getX t)
instance (t : List UInt8) : Decidable (GetOk t) := by unfold GetOk; infer_instance
def zeroS : SHead := ⟨⟨0, zero32, rfl⟩, 0, [], [], fun x hx => (by cases hx)⟩
def dGet (t : List UInt8) : D := if GetOk t then .tup [.agg (sgD (getX t)), .int .i64 0] else .tup [.agg (sgD zeroS), .int .i64 10]

theorem q1_put {n : Nat} (h : n < 18446744073709551616) (r : List UInt8) : q1 (numB n ++ r) = (n, r) ∧ (readB (numB n ++ r)).isSome = true := by
  rw [q1, readB_numB h]; exact ⟨rfl, rfl⟩
theorem q2_put {h : List UInt8} (hh : h.length = 32) (r : List UInt8) : q2 (h ++ r) = (h, r) ∧ (unhashB (h ++ r)).isSome = true := by
  have : unhashB (h ++ r) = some (h, r) := by rw [unhashB, takeB, if_neg (by rw [List.length_append]; omega), List.take_left' hh, List.drop_left' hh]
  rw [q2, this]; exact ⟨rfl, rfl⟩
theorem q4_put {t : List UInt8} (h : t.length < 18446744073709551616) (r : List UInt8) : q4 (textB t ++ r) = (t, r) ∧ (cutB (textB t ++ r)).isSome = true := by
  have e : cutB (textB t ++ r) = some (t, r) := by
    rw [textB, List.append_assoc, cutB, readB_numB h]
    show takeB (t ++ r) t.length = _
    rw [takeB, if_neg (by rw [List.length_append]; omega), List.take_left, List.drop_left]
  rw [q4, e]; exact ⟨rfl, rfl⟩
theorem q5_put {hs : List (List UInt8)} (a : All32 hs) (h : hs.length ≤ 64) (r : List UInt8) : q5 (hashesB hs ++ r) = (hs, r) ∧ (unhashesB (hashesB hs ++ r)).isSome = true := by
  have e : unhashesB (hashesB hs ++ r) = some (hs, r) := by rw [hashesB, if_neg (by omega), List.append_assoc]; exact unhashes_put a h r
  rw [q5, e]; exact ⟨rfl, rfl⟩

/-- What stands there, where all was read. -/
theorem all5_eq {t : List UInt8} (h : all5 t = true) : t = ((((numB (q1 t).1 ++ (q2 (r1 t)).1) ++ numB (q1 (r2 t)).1) ++ textB (q4 (r3 t)).1) ++ hashesB (q5 (r4 t)).1) ++ r5 t := by
  simp only [all5, Bool.and_eq_true] at h
  obtain ⟨h1, h2, h3, h4, h5⟩ := h
  have e1 : t = numB (q1 t).1 ++ r1 t := by
    rw [r1, q1]
    obtain ⟨⟨n, r⟩, e⟩ := Option.isSome_iff_exists.1 h1
    rw [e]; exact (readB_some e).2
  have e2 : r1 t = (q2 (r1 t)).1 ++ r2 t := by
    rw [r2, q2]
    obtain ⟨⟨n, r⟩, e⟩ := Option.isSome_iff_exists.1 h2
    rw [e]
    unfold unhashB takeB at e
    split at e
    · cases e
    · cases e; exact (List.take_append_drop _ _).symm
  have e3 : r2 t = numB (q1 (r2 t)).1 ++ r3 t := by
    rw [r3, q1]
    obtain ⟨⟨n, r⟩, e⟩ := Option.isSome_iff_exists.1 h3
    rw [e]; exact (readB_some e).2
  have e4 : r3 t = textB (q4 (r3 t)).1 ++ r4 t := by
    rw [r4, q4]
    obtain ⟨⟨u, r⟩, e⟩ := Option.isSome_iff_exists.1 h4
    rw [e]
    unfold cutB at e
    cases hr : readB (r3 t) with
    | none => rw [hr] at e; cases e
    | some q =>
      obtain ⟨n, v⟩ := q
      rw [hr] at e
      have e : takeB v n = some (u, r) := e
      have hl := (readB_some hr).2
      unfold takeB at e
      split at e
      · cases e
      · rename_i hn
        cases e
        have hlen : (v.take n).length = n := by rw [List.length_take]; omega
        show r3 t = textB (v.take n) ++ v.drop n
        rw [textB, hlen, List.append_assoc, List.take_append_drop]
        exact hl
  have e5 : r4 t = hashesB (q5 (r4 t)).1 ++ r5 t := by
    rw [r5, q5]
    obtain ⟨⟨u, r⟩, e⟩ := Option.isSome_iff_exists.1 h5
    rw [e]
    obtain ⟨a, b, c⟩ := unhashes_len e
    show r4 t = hashesB u ++ r
    rw [hashesB, if_neg (by omega), List.append_assoc]; exact c
  have e := e1.trans (congrArg (numB (q1 t).1 ++ ·) (e2.trans (congrArg ((q2 (r1 t)).1 ++ ·) (e3.trans (congrArg (numB (q1 (r2 t)).1 ++ ·) (e4.trans (congrArg (textB (q4 (r3 t)).1 ++ ·) e5)))))))
  simpa only [List.append_assoc] using e

theorem SHead.ext {a b : SHead} (h1 : a.head.size = b.head.size) (h2 : a.head.root = b.head.root) (h3 : a.index = b.index) (h4 : a.sig = b.sig) (h5 : a.path = b.path) : a = b := by
  obtain ⟨⟨a1, a2, _⟩, a3, a4, a5, _⟩ := a
  obtain ⟨⟨b1, b2, _⟩, b3, b4, b5, _⟩ := b
  simp only at h1 h2 h3 h4 h5
  subst h1; subst h2; subst h3; subst h4; subst h5; rfl

/-- What is put is got. -/
theorem get_put {x : SHead} (h : valid x) : GetOk (putB x) ∧ getX (putB x) = x := by
  have hv := h
  obtain ⟨h1, h2, h3, h4, h5, h6⟩ := h
  have e0 : putB x = numB x.head.size.toNat ++ (x.head.root ++ (numB x.index.toNat ++ (textB x.sig ++ (hashesB x.path ++ [])))) := by
    simp only [putB, List.append_assoc, List.append_nil]
  obtain ⟨a1, b1⟩ := q1_put (n := x.head.size.toNat) (by omega) (x.head.root ++ (numB x.index.toNat ++ (textB x.sig ++ (hashesB x.path ++ []))))
  obtain ⟨a2, b2⟩ := q2_put x.head.hr (numB x.index.toNat ++ (textB x.sig ++ (hashesB x.path ++ [])))
  obtain ⟨a3, b3⟩ := q1_put (n := x.index.toNat) (by omega) (textB x.sig ++ (hashesB x.path ++ []))
  obtain ⟨a4, b4⟩ := q4_put (t := x.sig) (by omega) (hashesB x.path ++ [])
  obtain ⟨a5, b5⟩ := q5_put x.hp (by omega) []
  have c1 : r1 (putB x) = x.head.root ++ (numB x.index.toNat ++ (textB x.sig ++ (hashesB x.path ++ []))) := by rw [r1, e0, a1]
  have c2 : r2 (putB x) = numB x.index.toNat ++ (textB x.sig ++ (hashesB x.path ++ [])) := by rw [r2, c1, a2]
  have c3 : r3 (putB x) = textB x.sig ++ (hashesB x.path ++ []) := by rw [r3, c2, a3]
  have c4 : r4 (putB x) = hashesB x.path ++ [] := by rw [r4, c3, a4]
  have c5 : r5 (putB x) = [] := by rw [r5, c4, a5]
  have hx : getX (putB x) = x := by
    refine SHead.ext ?_ ?_ ?_ ?_ ?_
    · show ((min (q1 (putB x)).1 1073741824 : Nat) : Int) = _
      rw [e0, a1]; simp only; omega
    · show (q2 (r1 (putB x))).1 = _
      rw [c1, a2]
    · show ((min (q1 (r2 (putB x))).1 1073741824 : Nat) : Int) = _
      rw [c2, a3]; simp only; omega
    · show (q4 (r3 (putB x))).1 = _
      rw [c3, a4]
    · show (q5 (r4 (putB x))).1 = _
      rw [c4, a5]
  refine ⟨⟨?_, c5, by rw [hx]; exact hv⟩, hx⟩
  simp only [all5, c1, c2, c3, c4, b2, b3, b4, b5]
  rw [e0, b1]; rfl
/-- What is got is put as that. -/
theorem put_get {t : List UInt8} (h : GetOk t) : putB (getX t) = t := by
  obtain ⟨h1, h2, h3, h4, h5, h6, _⟩ := h
  have e := all5_eq h1
  rw [h2, List.append_nil] at e
  have e1 : (getX t).head.size = ((min (q1 t).1 1073741824 : Nat) : Int) := rfl
  have e2 : (getX t).index = ((min (q1 (r2 t)).1 1073741824 : Nat) : Int) := rfl
  rw [e1] at h3 h4
  rw [e2] at h5 h6
  have e3 : (getX t).head.size.toNat = (q1 t).1 := by rw [e1]; omega
  have e4 : (getX t).index.toNat = (q1 (r2 t)).1 := by rw [e2]; omega
  rw [putB, e3, e4]
  exact e.symm
theorem get_iff {t : List UInt8} : GetOk t ↔ ∃ x, valid x ∧ t = putB x :=
  ⟨fun h => ⟨getX t, h.2.2, (put_get h).symm⟩, fun ⟨x, h, e⟩ => e ▸ (get_put h).1⟩
end Go.Proofs.Try

/- Heads that are signed: read, walked. -/
set_option maxRecDepth 8000
set_option linter.unusedSimpArgs false
set_option linter.unusedVariables false
namespace Go.Proofs.Try
open Go Go.Av
set_option pp.maxSteps 900
attribute [local irreducible] alist awp adraw apure
attribute [local go_sem] cellsOf_int cellsOf_bool cellsOf_str cellsOf_nilp cellsOf_nil cellsOf_e0 cellsOf_sl cellsOf_osl cellsOf_ptr cellsOf_eptr cellsOf_fn cellsOf_agg okc_int okc_bool okc_str okc_nilp okc_nil okc_e0 okc_sl okc_osl okc_ptr okc_eptr okc_fn okc_agg and_assoc splice_0n splice_0c splice_s load_ptr load_eptr read_t read_f store_p cells_inj set_same exists_and_left List.length_cons List.length_nil List.drop_zero List.drop_succ_cons List.take_succ_cons List.take_zero Option.isSome_some
variable {γ : Gl} {σ s : St} {K : D → St → Prop}
attribute [local go_sem] sgD_len sgD_0 sgD_33 sgD_34 sgD_35 sgD_a sgD_h sgD_r

theorem set_none {σ : St} {i j : Nat} {o : Ob} : (σ.set i o) j = none ↔ j ≠ i ∧ σ j = none := by
  simp only [St.set]
  split
  · simp_all
  · simp_all
theorem Small_c {n : Nat} (hn : n < 18446744073709551616) (hK : K (.int .i64 ((min n 1073741824 : Nat) : Int)) s) : ACalls prog γ 128 [.int .u64 n] s K := by
  refine acalls_of_awp (by kernel_rfl) func128 rfl (by kernel_rfl) rfl rfl (by kernel_rfl) (Nat.le_of_ble_eq_true rfl) ?_
  refine rs ?_
  refine run ?_
  refine al_done ?_
  refine rs ?_
  refine run ?_
  refine rets ?_
  have e : ((min n 1073741824 : Nat) : Int) = if (1073741824 : Int) < (n : Int) then 1073741824 else (n : Int) := by split <;> omega
  rw [e] at hK
  exact hK

theorem spl27 {h : List UInt8} (hh : h.length = 32) : splice (List.replicate 32 (D.int .u8 0)) 0 (bytesD h) = bytesD h := splice_whole (by simp [length_bytesD, hh])
theorem byt27 {h : List UInt8} (hh : h.length = 32) : (bytesD h).take 32 = bytesD h := List.take_of_length_le (by simp [length_bytesD, hh])
theorem spl91 {x : SHead} : splice (D.int .i64 0 :: (List.replicate 32 (.int .u8 0) ++ [.int .i64 0, .str [], .nil])) 0 (sgD x) = sgD x := splice_whole (by simp [sgD_len])
attribute [local go_sem] spl27 byt27 spl91 length_bytesD List.length_replicate List.length_append

theorem wk_last {a : List D} {d d' : D} (h : Wk d d') : ∀ (k : Nat) x x', (a ++ [d])[k]? = some x → (a ++ [d'])[k]? = some x' → Wk x x' := by
  intro k x x' e e'
  by_cases hk : k < a.length
  · rw [List.getElem?_append_left hk] at e e'
    rw [e] at e'; cases e'; exact .refl _
  · rw [List.getElem?_append_right (by omega)] at e e'
    cases hj : k - a.length with
    | zero => rw [hj] at e e'; cases e; cases e'; exact h
    | succ n => rw [hj] at e; cases e
def zero91 : List D := D.int .i64 0 :: (List.replicate 32 (.int .u8 0) ++ [.int .i64 0, .str [], .nil])
theorem zero_wk : ∀ (k : Nat) x x', zero91[k]? = some x → (sgD zeroS)[k]? = some x' → Wk x x' := by
  have e1 : zero91 = (D.int .i64 0 :: (List.replicate 32 (.int .u8 0) ++ [.int .i64 0, .str []])) ++ [.nil] := by simp [zero91]
  have e2 : sgD zeroS = (D.int .i64 0 :: (List.replicate 32 (.int .u8 0) ++ [.int .i64 0, .str []])) ++ [pathD []] := rfl
  rw [e1, e2]
  exact wk_last Wk.nil
theorem splice_self {l : List D} : splice l 0 l = l := splice_whole rfl
attribute [local go_sem] splice_self

theorem Get_c {t : List UInt8} (hb : t.length ≤ 140737488355328) (hK : K (dGet t) s) : ACalls prog γ 115 [.str t] s K := by
  have l1 := q1_len t
  have l2 := q2_len (r1 t)
  have l3 := q1_len (r2 t)
  have l4 := q4_len (r3 t)
  have l5 := q5_len (r4 t)
  have f1 : (r1 t).length ≤ t.length := l1.1
  have f2 : (r2 t).length ≤ (r1 t).length := l2.1
  have f3 : (r3 t).length ≤ (r2 t).length := l3.1
  have f4 : (r4 t).length ≤ (r3 t).length := l4.1
  obtain ⟨_, g1⟩ := l1
  obtain ⟨_, g2⟩ := l2
  obtain ⟨_, g3⟩ := l3
  have d1 : dRead (readB t) = .tup [.int .u64 (q1 t).1, .str (r1 t), .bool (readB t).isSome] := dRead_q t
  have d2 : dUnhash (unhashB (r1 t)) = .tup [.agg (bytesD (q2 (r1 t)).1), .str (r2 t), .bool (unhashB (r1 t)).isSome] := dUnhash_q _
  have d3 : dRead (readB (r2 t)) = .tup [.int .u64 (q1 (r2 t)).1, .str (r3 t), .bool (readB (r2 t)).isSome] := dRead_q _
  have d4 : dCut (cutB (r3 t)) = .tup [.str (q4 (r3 t)).1, .str (r4 t), .bool (cutB (r3 t)).isSome] := dCut_q _
  have d5 : dUnhs (unhashesB (r4 t)) = .tup [pathD (q5 (r4 t)).1, .str (r5 t), .bool (unhashesB (r4 t)).isSome] := dUnhs_q _
  refine acalls_of_awp (by kernel_rfl) func115 rfl (by kernel_rfl) rfl rfl (by kernel_rfl) (Nat.le_of_ble_eq_true rfl) ?_
  refine rs ?_
  (refine aF ?_; intro b hb; (try (have h_hb := hb; simp only [set_none] at h_hb)))
  refine run ?_
  refine al_done ?_
  refine rs ?_
  refine run ?_
  (refine al_set ?_ ?_ ?_ ?_; rotate_left 2; (· intro K hK; refine S1 ?_; refine Or.inl (Read_c (by omega) ?_); exact hK))
  rw [d1]
  refine run ?_
  refine al_done ?_
  refine rs ?_
  refine run ?_
  (refine al_set ?_ ?_ ?_ ?_; rotate_left 2; (· intro K hK; refine S1 ?_; refine Or.inl (Unhash_c (by omega) ?_); exact hK))
  rw [d2]
  refine run ?_
  (refine aF ?_; intro c hc; (try (have h_hc := hc; simp only [set_none] at h_hc)))
  refine run ?_
  refine al_done ?_
  refine rs ?_
  refine run ?_
  (refine al_set ?_ ?_ ?_ ?_; rotate_left 2; (· intro K hK; refine S1 ?_; refine Or.inl (Read_c (by omega) ?_); exact hK))
  rw [d3]
  refine run ?_
  refine al_done ?_
  refine rs ?_
  refine run ?_
  (refine al_set ?_ ?_ ?_ ?_; rotate_left 2; (· intro K hK; refine S1 ?_; refine Or.inl (Cut_c (by omega) ?_); exact hK))
  rw [d4]
  refine run ?_
  refine al_done ?_
  refine rs ?_
  refine run ?_
  (refine al_set ?_ ?_ ?_ ?_; rotate_left 2; (· intro K hK; refine S1 ?_; refine Or.inl (Unhashes_c (by omega) ?_); exact hK))
  rw [d5]
  refine run ?_
  refine al_done ?_
  refine asc ?_; refine awp_draw [true, true, true, true, true, true, true, true, true, true, false, false] (by kernel_rfl) ?_
  refine runD ?_
  (refine pa_set ?_ ?_ ?_; rotate_left 1; (· intro K hK; refine S1 ?_; refine Or.inl (Small_c (by omega) ?_); exact hK))
  refine runD ?_
  (refine pa_set ?_ ?_ ?_; rotate_left 1; (· intro K hK; refine S1 ?_; refine build87 g2 ?_; exact hK))
  refine runD ?_
  (refine pa_set ?_ ?_ ?_; rotate_left 1; (· intro K hK; refine S1 ?_; refine Or.inl (Small_c (by omega) ?_); exact hK))
  refine runD ?_
  (refine pa_set ?_ ?_ ?_; rotate_left 1; (· intro K hK; refine S1 ?_; refine build89 ?_; exact hK))
  (refine pa_set ?_ ?_ ?_; rotate_left 1; (· intro K hK; refine S1 ?_; refine build91 (x := getX t) ?_; exact hK))
  refine runD ?_
  refine pa_nil ?_
  
  (repeat (first | (refine pt_skip ?_) | (refine pt_set ?_ ?_ ?_ ?_ ?_; rotate_left 2; (· intro K hK; simp (disch := omega) only [go_sem, ↓set_get, ↓reduceIte, ↓o_bsl, ↓o_build, Nat.reduceEqDiff, Nat.reduceAdd, Nat.reduceMul, Int.reduceEq, Int.reduceNe, set_other, del_other]; (repeat' (first | exact hK | (refine And.intro ?_ ?_) | assumption | omega))); (· ((repeat' (first | exact seen_nil | refine seen_skip (by decide +kernel) ?_ | refine seen_cons ?_ ?_))) <;> (simp (disch := omega) only [go_sem, ↓set_get, ↓reduceIte, ↓o_bsl, ↓o_build, Nat.reduceEqDiff, Nat.reduceAdd, Nat.reduceMul, Int.reduceEq, Int.reduceNe, set_other, del_other]; (repeat' (first | exact St.le.refl _ | rfl | (refine And.intro ?_ ?_) | assumption | (refine Or.inl (Small_c (by omega) ?_)) | (refine build87 g2 ?_) | (refine build89 ?_) | (refine build91 (x := getX t) ?_)  | omega))))) | (refine pt_guard (b := true) rfl ?_ (fun _ => ?_) (fun h => absurd rfl h); · simp only [↓set_get, Nat.reduceEqDiff, Bool.false_eq_true, ↓reduceIte, aenv0, aenvS, aenvN, one_ne]; done) | (refine pt_guard (b := false) rfl ?_ (fun _ => ?_) (fun h => absurd rfl h); · simp only [↓set_get, Nat.reduceEqDiff, Bool.false_eq_true, ↓reduceIte, aenv0, aenvS, aenvN, one_ne]; done) | (refine pt_guard (b := true) rfl ?_ (fun h => Bool.noConfusion h) (fun _ => ?_); · simp only [↓set_get, Nat.reduceEqDiff, Bool.false_eq_true, ↓reduceIte, aenv0, aenvS, aenvN, one_ne]; done) | (refine pt_guard (b := false) rfl ?_ (fun h => Bool.noConfusion h) (fun _ => ?_); · simp only [↓set_get, Nat.reduceEqDiff, Bool.false_eq_true, ↓reduceIte, aenv0, aenvS, aenvN, one_ne]; done) | (refine pt_guard0 rfl ?_ ?_; · simp only [↓set_get, Nat.reduceEqDiff, Bool.false_eq_true, ↓reduceIte, aenv0, aenvS, aenvN, one_ne]; done) | (refine pt_none ?_ ?_ ?_ ?_ ?_; rotate_left 2; (· intro K hK; simp (disch := omega) only [go_sem, ↓set_get, ↓reduceIte, ↓o_bsl, ↓o_build, Nat.reduceEqDiff, Nat.reduceAdd, Nat.reduceMul, Int.reduceEq, Int.reduceNe, set_other, del_other]; (repeat' (first | exact hK | (refine And.intro ?_ ?_) | assumption | omega))); (· ((repeat' (first | exact seen_nil | refine seen_skip (by decide +kernel) ?_ | refine seen_cons ?_ ?_))) <;> (simp (disch := omega) only [go_sem, ↓set_get, ↓reduceIte, ↓o_bsl, ↓o_build, Nat.reduceEqDiff, Nat.reduceAdd, Nat.reduceMul, Int.reduceEq, Int.reduceNe, set_other, del_other]; (repeat' (first | exact St.le.refl _ | rfl | (refine And.intro ?_ ?_) | assumption | (refine Or.inl (Small_c (by omega) ?_)) | (refine build87 g2 ?_) | (refine build89 ?_) | (refine build91 (x := getX t) ?_)  | omega)))))))
  (refine pt_fresh ?_ ?_ ?_ ?_ ?_; rotate_left 3; (· intro K hK; simp (disch := omega) only [go_sem, ↓set_get, ↓reduceIte, ↓o_bsl, ↓o_build, Nat.reduceEqDiff, Nat.reduceAdd, Nat.reduceMul, Int.reduceEq, Int.reduceNe, aalloc, abox, anew]; (repeat (first | exact hK | (refine And.intro ?_ ?_; rfl)))); intro y hy; (try (have h_hy := hy; simp only [set_none] at h_hy)); refine And.intro ?_ ?_; (· ((repeat' (first | exact seen_nil | refine seen_skip (by decide +kernel) ?_ | refine seen_cons ?_ ?_))) <;> (simp (disch := omega) only [go_sem, ↓set_get, ↓reduceIte, ↓o_bsl, ↓o_build, Nat.reduceEqDiff, Nat.reduceAdd, Nat.reduceMul, Int.reduceEq, Int.reduceNe, set_other, del_other]; (repeat' (first | exact St.le.refl _ | rfl | (refine And.intro ?_ ?_) | assumption | (refine Or.inl (Small_c (by omega) ?_)) | (refine build87 g2 ?_) | (refine build89 ?_) | (refine build91 (x := getX t) ?_)  | omega)))))
  (repeat (first | (refine pt_skip ?_) | (refine pt_set ?_ ?_ ?_ ?_ ?_; rotate_left 2; (· intro K hK; simp (disch := omega) only [go_sem, ↓set_get, ↓reduceIte, ↓o_bsl, ↓o_build, Nat.reduceEqDiff, Nat.reduceAdd, Nat.reduceMul, Int.reduceEq, Int.reduceNe, set_other, del_other]; (repeat' (first | exact hK | (refine And.intro ?_ ?_) | assumption | omega))); (· ((repeat' (first | exact seen_nil | refine seen_skip (by decide +kernel) ?_ | refine seen_cons ?_ ?_))) <;> (simp (disch := omega) only [go_sem, ↓set_get, ↓reduceIte, ↓o_bsl, ↓o_build, Nat.reduceEqDiff, Nat.reduceAdd, Nat.reduceMul, Int.reduceEq, Int.reduceNe, set_other, del_other]; (repeat' (first | exact St.le.refl _ | rfl | (refine And.intro ?_ ?_) | assumption | (refine Or.inl (Small_c (by omega) ?_)) | (refine build87 g2 ?_) | (refine build89 ?_) | (refine build91 (x := getX t) ?_)  | omega))))) | (refine pt_guard (b := true) rfl ?_ (fun _ => ?_) (fun h => absurd rfl h); · simp only [↓set_get, Nat.reduceEqDiff, Bool.false_eq_true, ↓reduceIte, aenv0, aenvS, aenvN, one_ne]; done) | (refine pt_guard (b := false) rfl ?_ (fun _ => ?_) (fun h => absurd rfl h); · simp only [↓set_get, Nat.reduceEqDiff, Bool.false_eq_true, ↓reduceIte, aenv0, aenvS, aenvN, one_ne]; done) | (refine pt_guard (b := true) rfl ?_ (fun h => Bool.noConfusion h) (fun _ => ?_); · simp only [↓set_get, Nat.reduceEqDiff, Bool.false_eq_true, ↓reduceIte, aenv0, aenvS, aenvN, one_ne]; done) | (refine pt_guard (b := false) rfl ?_ (fun h => Bool.noConfusion h) (fun _ => ?_); · simp only [↓set_get, Nat.reduceEqDiff, Bool.false_eq_true, ↓reduceIte, aenv0, aenvS, aenvN, one_ne]; done) | (refine pt_guard0 rfl ?_ ?_; · simp only [↓set_get, Nat.reduceEqDiff, Bool.false_eq_true, ↓reduceIte, aenv0, aenvS, aenvN, one_ne]; done) | (refine pt_none ?_ ?_ ?_ ?_ ?_; rotate_left 2; (· intro K hK; simp (disch := omega) only [go_sem, ↓set_get, ↓reduceIte, ↓o_bsl, ↓o_build, Nat.reduceEqDiff, Nat.reduceAdd, Nat.reduceMul, Int.reduceEq, Int.reduceNe, set_other, del_other]; (repeat' (first | exact hK | (refine And.intro ?_ ?_) | assumption | omega))); (· ((repeat' (first | exact seen_nil | refine seen_skip (by decide +kernel) ?_ | refine seen_cons ?_ ?_))) <;> (simp (disch := omega) only [go_sem, ↓set_get, ↓reduceIte, ↓o_bsl, ↓o_build, Nat.reduceEqDiff, Nat.reduceAdd, Nat.reduceMul, Int.reduceEq, Int.reduceNe, set_other, del_other]; (repeat' (first | exact St.le.refl _ | rfl | (refine And.intro ?_ ?_) | assumption | (refine Or.inl (Small_c (by omega) ?_)) | (refine build87 g2 ?_) | (refine build89 ?_) | (refine build91 (x := getX t) ?_)  | omega)))))))
  refine pt_done ?_
  refine asc ?_; refine awp_rj (fun ρ' s' => s' y = some (.cells (sgD (getX t)) 91) ∧ s' b = some (.cells (D.int .i64 0 :: (List.replicate 32 (.int .u8 0) ++ [.int .i64 0, .str [], .nil])) 91) ∧ (∀ v, s.le (s'.set b v)) ∧ b ≠ y ∧ ρ' 2 = .ptr b 0 ∧ ρ' 15 = .ptr y 0 ∧ ρ' 82 = .bool (decide (¬ GetOk t))) ?_ ?_
  · intro K' hJ
    (repeat' (first | refine run1 ?_ | (refine al_set ?_ ?_ ?_ ?_; rotate_left 2; (· intro K hK; refine S1 ?_; refine Or.inl (Valid_c ?_); exact hK)) | (refine al_guard rfl (by simp only [↓set_get, Nat.reduceEqDiff, Bool.false_eq_true, ↓reduceIte, aenv0, aenvS, aenvN, one_ne]; rfl) (fun hb => ?_) (fun hb => ?_) <;> (try simp only [ne_eq, Bool.not_eq_true, Bool.not_eq_false] at hb) <;> have hb2 := hb <;> (try simp only [decide_eq_true_eq, decide_eq_false_iff_not, beq_iff_eq, beq_eq_false_iff_ne, bne_iff_ne, ne_eq, Bool.not_eq_true', Bool.not_eq_false'] at hb2) <;> (try rw [hb]))))
    all_goals refine al_nil (hJ _ _ ⟨?_, ?_, ?_, ?_, ?_, ?_, ?_⟩)
    all_goals try simp only [↓set_get, Nat.reduceEqDiff, Bool.false_eq_true, ↓reduceIte, aenv0, aenvS, aenvN, one_ne]
    all_goals first
      | rfl
      | omega
      | (simp (disch := omega) only [set_same, set_other]; done)
      | (intro v; intro j x hx; simp only [set_app]; grind)
      | (congr 1; simp_all [GetOk, all5]; done)
  rintro ρ1 s1 ⟨hy1, hb1, hle, hne, g2, g15, g82⟩
  by_cases hG : GetOk t
  · simp only [dGet, if_pos hG] at hK
    refine asc ?_; refine aiX g82 ?_ ?_
    · intro h; simp [hG] at h
    · intro _
      refine rs ?_
      refine runX (And.intro g15 (And.intro g2 (And.intro hy1 hb1))) ?_
      refine al_done (awp_ret (afin_cell s (hle _) ?_))
      simp only [ares, aone, ↓set_get, Nat.reduceEqDiff, Bool.false_eq_true, ↓reduceIte, aenv0, aenvS, aenvN, one_ne, g2, load_ptr, tagg91, tsz91, set_same]
      exact ⟨_, _, rfl, by simp only [read_t, sgD_len, List.drop_zero, sgD_a]; exact ⟨by decide, hK⟩⟩
  · simp only [dGet, if_neg hG] at hK
    refine asc ?_; refine aiX g82 ?_ ?_
    · intro _
      refine rs ?_
      (repeat (first | (refine al_set ?_ ?_ ?_ ?_; rotate_left 2; (· intro K hK; simp (disch := omega) only [go_sem, ↓set_get, ↓reduceIte, ↓o_bsl, ↓o_build, Nat.reduceEqDiff, Nat.reduceAdd, Nat.reduceMul, Int.reduceEq, Int.reduceNe, set_other, del_other, g15, g2, hy1, hb1, abuild, afill]; (repeat' (first | exact hK | (refine And.intro ?_ ?_) | assumption | omega)))) | (refine al_guard (b := true) rfl ?_ (fun _ => ?_) (fun h => absurd rfl h); · simp only [↓set_get, Nat.reduceEqDiff, Bool.false_eq_true, ↓reduceIte, aenv0, aenvS, aenvN, one_ne, g15, g2, hy1, hb1, abuild, afill]; done) | (refine al_guard (b := false) rfl ?_ (fun _ => ?_) (fun h => absurd rfl h); · simp only [↓set_get, Nat.reduceEqDiff, Bool.false_eq_true, ↓reduceIte, aenv0, aenvS, aenvN, one_ne, g15, g2, hy1, hb1, abuild, afill]; done) | (refine al_guard (b := true) rfl ?_ (fun h => Bool.noConfusion h) (fun _ => ?_); · simp only [↓set_get, Nat.reduceEqDiff, Bool.false_eq_true, ↓reduceIte, aenv0, aenvS, aenvN, one_ne, g15, g2, hy1, hb1, abuild, afill]; done) | (refine al_guard (b := false) rfl ?_ (fun h => Bool.noConfusion h) (fun _ => ?_); · simp only [↓set_get, Nat.reduceEqDiff, Bool.false_eq_true, ↓reduceIte, aenv0, aenvS, aenvN, one_ne, g15, g2, hy1, hb1, abuild, afill]; done) | (refine al_guard0 rfl ?_ ?_; · simp only [↓set_get, Nat.reduceEqDiff, Bool.false_eq_true, ↓reduceIte, aenv0, aenvS, aenvN, one_ne, g15, g2, hy1, hb1, abuild, afill]; done) | (refine al_none ?_ ?_ ?_ ?_; rotate_left 2; (· intro K hK; simp (disch := omega) only [go_sem, ↓set_get, ↓reduceIte, ↓o_bsl, ↓o_build, Nat.reduceEqDiff, Nat.reduceAdd, Nat.reduceMul, Int.reduceEq, Int.reduceNe, set_other, del_other, g15, g2, hy1, hb1, abuild, afill]; (repeat' (first | exact hK | (refine And.intro ?_ ?_) | assumption | omega))))))
      refine al_done (awp_ret (afin_rx (rx_cells (id := b) (l := zero91) (l' := sgD zeroS) (T := 91) (set_same _ _ _) (by decide +kernel) zero_wk (.done ?_))))
      simp only [ares, aone, ↓set_get, Nat.reduceEqDiff, Bool.false_eq_true, ↓reduceIte, aenv0, aenvS, aenvN, one_ne, g2, load_ptr, tagg91, tsz91, set_same, set_set]
      exact ⟨_, _, rfl, by simp only [read_t, sgD_len, List.drop_zero, sgD_a]; exact ⟨by decide, s, hle _, hK⟩⟩
    · intro h; simp [hG] at h
end Go.Proofs.Try

/- Heads that are signed: read by the reference, walked. -/
set_option maxRecDepth 8000
set_option linter.unusedSimpArgs false
set_option linter.unusedVariables false
namespace Go.Proofs.Try
open Go Go.Av
set_option pp.maxSteps 900
attribute [local irreducible] alist awp adraw apure
attribute [local go_sem] cellsOf_int cellsOf_bool cellsOf_str cellsOf_nilp cellsOf_nil cellsOf_e0 cellsOf_sl cellsOf_osl cellsOf_ptr cellsOf_eptr cellsOf_fn cellsOf_agg okc_int okc_bool okc_str okc_nilp okc_nil okc_e0 okc_sl okc_osl okc_ptr okc_eptr okc_fn okc_agg and_assoc splice_0n splice_0c splice_s load_ptr load_eptr read_t read_f store_p cells_inj set_same exists_and_left List.length_cons List.length_nil List.drop_zero List.drop_succ_cons List.take_succ_cons List.take_zero Option.isSome_some
variable {γ : Gl} {σ s : St} {K : D → St → Prop}
attribute [local go_sem] sgD_len sgD_0 sgD_33 sgD_34 sgD_35 sgD_a sgD_h sgD_r

attribute [local go_sem] spl27 byt27 spl91 length_bytesD List.length_replicate List.length_append splice_self

def G1 (t : List UInt8) : Prop := all5 t = true ∧ (q1 t).1 ≤ 4096 ∧ (q1 (r2 t)).1 ≤ 7
instance (t : List UInt8) : Decidable (G1 t) := by unfold G1; infer_instance
theorem g1_of {t : List UInt8} (h : GetOk t) : G1 t := by
  obtain ⟨h1, h2, h3, h4, h5, h6, _⟩ := h
  have e1 : (getX t).head.size = ((min (q1 t).1 1073741824 : Nat) : Int) := rfl
  have e2 : (getX t).index = ((min (q1 (r2 t)).1 1073741824 : Nat) : Int) := rfl
  rw [e1] at h4
  rw [e2] at h6
  exact ⟨h1, by omega, by omega⟩
theorem g1_ok {t : List UInt8} (hv : valid (getX t)) (e : putB (getX t) = t) : GetOk t := get_iff.2 ⟨_, hv, e.symm⟩

def pS (x : SHead) : List UInt8 := if valid x then putB x else []
def pE (x : SHead) : Int := if valid x then 0 else 2
theorem dPut_q (x : SHead) : dPut x = .tup [.str (pS x), .int .i64 (pE x)] := by
  unfold dPut pS pE; split <;> rfl
theorem ok_iff {t : List UInt8} (h : G1 t) : GetOk t ↔ pE (getX t) = 0 ∧ pS (getX t) = t := by
  unfold pE pS
  constructor
  · intro hg; rw [if_pos hg.2.2, if_pos hg.2.2]; exact ⟨rfl, put_get hg⟩
  · rintro ⟨a, b⟩
    by_cases hv : valid (getX t)
    · rw [if_pos hv] at b; exact g1_ok hv b
    · rw [if_neg hv] at a; cases a

theorem rGet_c {t : List UInt8} (hb : t.length ≤ 140737488355328) (hK : K (dGet t) s) : ACalls prog γ 116 [.str t] s K := by
  have l1 := q1_len t
  have l2 := q2_len (r1 t)
  have l3 := q1_len (r2 t)
  have l4 := q4_len (r3 t)
  have l5 := q5_len (r4 t)
  have f1 : (r1 t).length ≤ t.length := l1.1
  have f2 : (r2 t).length ≤ (r1 t).length := l2.1
  have f3 : (r3 t).length ≤ (r2 t).length := l3.1
  have f4 : (r4 t).length ≤ (r3 t).length := l4.1
  obtain ⟨_, g1⟩ := l1
  obtain ⟨_, g2⟩ := l2
  obtain ⟨_, g3⟩ := l3
  have d1 : dRead (readB t) = .tup [.int .u64 (q1 t).1, .str (r1 t), .bool (readB t).isSome] := dRead_q t
  have d2 : dUnhash (unhashB (r1 t)) = .tup [.agg (bytesD (q2 (r1 t)).1), .str (r2 t), .bool (unhashB (r1 t)).isSome] := dUnhash_q _
  have d3 : dRead (readB (r2 t)) = .tup [.int .u64 (q1 (r2 t)).1, .str (r3 t), .bool (readB (r2 t)).isSome] := dRead_q _
  have d4 : dCut (cutB (r3 t)) = .tup [.str (q4 (r3 t)).1, .str (r4 t), .bool (cutB (r3 t)).isSome] := dCut_q _
  have d5 : dUnhs (unhashesB (r4 t)) = .tup [pathD (q5 (r4 t)).1, .str (r5 t), .bool (unhashesB (r4 t)).isSome] := dUnhs_q _
  refine acalls_of_awp (by kernel_rfl) func116 rfl (by kernel_rfl) rfl rfl (by kernel_rfl) (Nat.le_of_ble_eq_true rfl) ?_
  refine rs ?_
  (refine aF ?_; intro b hb; (try (have h_hb := hb; simp only [set_none] at h_hb)))
  refine run ?_
  refine al_done ?_
  refine rs ?_
  refine run ?_
  (refine al_set ?_ ?_ ?_ ?_; rotate_left 2; (· intro K hK; refine S1 ?_; refine Or.inl (rRead_c (by omega) ?_); exact hK))
  rw [d1]
  refine run ?_
  refine al_done ?_
  refine rs ?_
  refine run ?_
  (refine al_set ?_ ?_ ?_ ?_; rotate_left 2; (· intro K hK; refine S1 ?_; refine Or.inl (rUnhash_c (by omega) ?_); exact hK))
  rw [d2]
  refine run ?_
  (refine aF ?_; intro c hc; (try (have h_hc := hc; simp only [set_none] at h_hc)))
  refine run ?_
  refine al_done ?_
  refine rs ?_
  refine run ?_
  (refine al_set ?_ ?_ ?_ ?_; rotate_left 2; (· intro K hK; refine S1 ?_; refine Or.inl (rRead_c (by omega) ?_); exact hK))
  rw [d3]
  refine run ?_
  refine al_done ?_
  refine rs ?_
  refine run ?_
  (refine al_set ?_ ?_ ?_ ?_; rotate_left 2; (· intro K hK; refine S1 ?_; refine Or.inl (rCut_c (by omega) ?_); exact hK))
  rw [d4]
  refine run ?_
  refine al_done ?_
  refine rs ?_
  refine run ?_
  (refine al_set ?_ ?_ ?_ ?_; rotate_left 2; (· intro K hK; refine S1 ?_; refine Or.inl (rUnhashes_c (by omega) ?_); exact hK))
  rw [d5]
  refine run ?_
  refine al_done ?_
  refine asc ?_; refine awp_rj (fun ρ' s' => s' = (s.set b (.cells (D.int .i64 0 :: (List.replicate 32 (.int .u8 0) ++ [.int .i64 0, .str [], .nil])) 91)).set c (.cells (bytesD (q2 (r1 t)).1) 27) ∧ ρ' 0 = .str t ∧ ρ' 2 = .ptr b 0 ∧ ρ' 4 = .int .u64 (q1 t).1 ∧ ρ' 7 = .ptr c 0 ∧ ρ' 9 = .int .u64 (q1 (r2 t)).1 ∧ ρ' 11 = .str (q4 (r3 t)).1 ∧ ρ' 13 = pathD (q5 (r4 t)).1 ∧ ρ' 74 = .bool (decide (¬ G1 t))) ?_ ?_
  · intro K' hJ
    (repeat' (first | refine run1 ?_ | (refine al_guard rfl (by simp only [↓set_get, Nat.reduceEqDiff, Bool.false_eq_true, ↓reduceIte, aenv0, aenvS, aenvN, one_ne]; rfl) (fun hb => ?_) (fun hb => ?_) <;> (try simp only [ne_eq, Bool.not_eq_true, Bool.not_eq_false] at hb) <;> have hb2 := hb <;> (try simp only [decide_eq_true_eq, decide_eq_false_iff_not, beq_iff_eq, beq_eq_false_iff_ne, bne_iff_ne, ne_eq, Bool.not_eq_true', Bool.not_eq_false'] at hb2) <;> (try rw [hb]))))
    all_goals refine al_nil (hJ _ _ ⟨by rw [set_set], ?_, ?_, ?_, ?_, ?_, ?_, ?_, ?_⟩)
    all_goals try simp only [↓set_get, Nat.reduceEqDiff, Bool.false_eq_true, ↓reduceIte, aenv0, aenvS, aenvN, one_ne]
    all_goals first
      | rfl
      | (congr 1; simp_all [G1, all5]; done)
      | (congr 1; simp_all [G1, all5]; omega)
      | (congr 1; rw [Bool.eq_iff_iff]; simp_all [G1, all5]; omega)
  rintro ρ1 _ ⟨rfl, g0, g2, g4, g7, g9, g11, g13, g74⟩
  by_cases hG : G1 t
  · refine asc ?_; refine aiX g74 ?_ ?_
    · intro h; simp [hG] at h
    · intro _
      have e1 : (getX t).head.size = (((q1 t).1 : Nat) : Int) := by
        show ((min (q1 t).1 1073741824 : Nat) : Int) = _
        obtain ⟨_, h, _⟩ := hG
        omega
      have e2 : (getX t).index = (((q1 (r2 t)).1 : Nat) : Int) := by
        show ((min (q1 (r2 t)).1 1073741824 : Nat) : Int) = _
        obtain ⟨_, _, h⟩ := hG
        omega
      have e3 : headD (getX t).head = .int .i64 (((q1 t).1 : Nat) : Int) :: bytesD (q2 (r1 t)).1 := by rw [headD, e1]; rfl
      have e4 : sealD (getX t) = [.int .i64 (((q1 (r2 t)).1 : Nat) : Int), .str (q4 (r3 t)).1, pathD (q5 (r4 t)).1] := by rw [sealD, e2]; rfl
      have hb91 : ∀ (s' : St) (K' : D → St → Prop), K' (.agg (sgD (getX t))) s' → abuild prog 91 [(0, .agg (.int .i64 (((q1 t).1 : Nat) : Int) :: bytesD (q2 (r1 t)).1)), (1, .agg [.int .i64 (((q1 (r2 t)).1 : Nat) : Int), .str (q4 (r3 t)).1, pathD (q5 (r4 t)).1])] s' K' := by
        intro s' K' h
        rw [← e3, ← e4]
        exact build91 h
      have i1 : (((q1 t).1 : Nat) : Int) ≤ 4096 := by obtain ⟨_, h, _⟩ := hG; omega
      have i2 : (((q1 (r2 t)).1 : Nat) : Int) ≤ 7 := by obtain ⟨_, _, h⟩ := hG; omega
      refine rs ?_
      refine runX (And.intro g4 (And.intro g7 (And.intro g9 (And.intro g11 g13)))) ?_
      (refine al_set ?_ ?_ ?_ ?_; rotate_left 2; (· intro K hK; refine S1 ?_; refine build87 (q2_len (r1 t)).2 ?_; exact hK))
      refine runX (And.intro g4 (And.intro g7 (And.intro g9 (And.intro g11 g13)))) ?_
      (refine al_set ?_ ?_ ?_ ?_; rotate_left 2; (· intro K hK; refine S1 ?_; refine build89 ?_; exact hK))
      refine run ?_
      (refine al_set ?_ ?_ ?_ ?_; rotate_left 2; (· intro K hK; refine S1 ?_; refine hb91 _ _ ?_; exact hK))
      (refine aF ?_; intro y hy; (try (have h_hy := hy; simp only [set_none] at h_hy)))
      refine run ?_
      refine al_done ?_
      refine rs ?_
      refine run ?_
      (refine al_set ?_ ?_ ?_ ?_; rotate_left 2; (· intro K hK; refine S1 ?_; refine Or.inl (rPut_c ?_); exact hK))
      rw [dPut_q]
      refine run ?_
      refine al_done ?_
      have hp := ok_iff hG
      refine asc ?_; refine awp_rj (fun ρ' s' => s' = ((s.set b (.cells (D.int .i64 0 :: (List.replicate 32 (.int .u8 0) ++ [.int .i64 0, .str [], .nil])) 91)).set c (.cells (bytesD (q2 (r1 t)).1) 27)).set y (.cells (sgD (getX t)) 91) ∧ ρ' 2 = .ptr b 0 ∧ ρ' 16 = .ptr y 0 ∧ ρ' 97 = .bool (decide (¬ GetOk t))) ?_ ?_
      · intro K' hJ
        (repeat' (first | refine run1X g0 ?_ | (refine al_guard rfl (by simp only [↓set_get, Nat.reduceEqDiff, Bool.false_eq_true, ↓reduceIte, aenv0, aenvS, aenvN, one_ne, g0]; rfl) (fun hb => ?_) (fun hb => ?_) <;> (try simp only [ne_eq, Bool.not_eq_true, Bool.not_eq_false] at hb) <;> have hb2 := hb <;> (try simp only [decide_eq_true_eq, decide_eq_false_iff_not, beq_iff_eq, beq_eq_false_iff_ne, bne_iff_ne, ne_eq, Bool.not_eq_true', Bool.not_eq_false'] at hb2) <;> (try rw [hb]))))
        all_goals refine al_nil (hJ _ _ ⟨by rw [set_set], ?_, ?_, ?_⟩)
        all_goals try simp only [↓set_get, Nat.reduceEqDiff, Bool.false_eq_true, ↓reduceIte, aenv0, aenvS, aenvN, one_ne]
        all_goals first
          | exact g2
          | (congr 1; rw [Bool.eq_iff_iff]; simp_all; done)
      rintro ρ2 _ ⟨rfl, k2, k16, k97⟩
      by_cases hO : GetOk t
      · simp only [dGet, if_pos hO] at hK
        refine asc ?_; refine aiX k97 ?_ ?_
        · intro h; simp [hO] at h
        · intro _
          refine rs ?_
          refine runX (And.intro k16 k2) ?_
          refine al_done (awp_ret (afin_cell s ?_ ?_))
          · intro j x hx; simp only [set_app]; grind
          simp only [ares, aone, ↓set_get, Nat.reduceEqDiff, Bool.false_eq_true, ↓reduceIte, aenv0, aenvS, aenvN, one_ne, k2, load_ptr, tagg91, tsz91, set_same]
          exact ⟨_, _, rfl, by simp only [read_t, sgD_len, List.drop_zero, sgD_a]; exact ⟨by decide, hK⟩⟩
      · simp only [dGet, if_neg hO] at hK
        refine asc ?_; refine aiX k97 ?_ ?_
        · intro _
          refine rs ?_
          (repeat (first | (refine al_set ?_ ?_ ?_ ?_; rotate_left 2; (· intro K hK; simp (disch := omega) only [go_sem, ↓set_get, ↓reduceIte, ↓o_bsl, ↓o_build, Nat.reduceEqDiff, Nat.reduceAdd, Nat.reduceMul, Int.reduceEq, Int.reduceNe, set_other, del_other, k2, abuild, afill]; (repeat' (first | exact hK | (refine And.intro ?_ ?_) | assumption | omega)))) | (refine al_guard (b := true) rfl ?_ (fun _ => ?_) (fun h => absurd rfl h); · simp only [↓set_get, Nat.reduceEqDiff, Bool.false_eq_true, ↓reduceIte, aenv0, aenvS, aenvN, one_ne, k2, abuild, afill]; done) | (refine al_guard (b := false) rfl ?_ (fun _ => ?_) (fun h => absurd rfl h); · simp only [↓set_get, Nat.reduceEqDiff, Bool.false_eq_true, ↓reduceIte, aenv0, aenvS, aenvN, one_ne, k2, abuild, afill]; done) | (refine al_guard (b := true) rfl ?_ (fun h => Bool.noConfusion h) (fun _ => ?_); · simp only [↓set_get, Nat.reduceEqDiff, Bool.false_eq_true, ↓reduceIte, aenv0, aenvS, aenvN, one_ne, k2, abuild, afill]; done) | (refine al_guard (b := false) rfl ?_ (fun h => Bool.noConfusion h) (fun _ => ?_); · simp only [↓set_get, Nat.reduceEqDiff, Bool.false_eq_true, ↓reduceIte, aenv0, aenvS, aenvN, one_ne, k2, abuild, afill]; done) | (refine al_guard0 rfl ?_ ?_; · simp only [↓set_get, Nat.reduceEqDiff, Bool.false_eq_true, ↓reduceIte, aenv0, aenvS, aenvN, one_ne, k2, abuild, afill]; done) | (refine al_none ?_ ?_ ?_ ?_; rotate_left 2; (· intro K hK; simp (disch := omega) only [go_sem, ↓set_get, ↓reduceIte, ↓o_bsl, ↓o_build, Nat.reduceEqDiff, Nat.reduceAdd, Nat.reduceMul, Int.reduceEq, Int.reduceNe, set_other, del_other, k2, abuild, afill]; (repeat' (first | exact hK | (refine And.intro ?_ ?_) | assumption | omega))))))
          refine al_done (awp_ret (afin_rx (rx_cells (id := b) (l := zero91) (l' := sgD zeroS) (T := 91) (set_same _ _ _) (by decide +kernel) zero_wk (.done ?_))))
          simp only [ares, aone, ↓set_get, Nat.reduceEqDiff, Bool.false_eq_true, ↓reduceIte, aenv0, aenvS, aenvN, one_ne, k2, load_ptr, tagg91, tsz91, set_same, set_set]
          exact ⟨_, _, rfl, by simp only [read_t, sgD_len, List.drop_zero, sgD_a]; exact ⟨by decide, s, by intro j x hx; simp only [set_app]; grind, hK⟩⟩
        · intro h; simp [hO] at h
  · have hG' : ¬ GetOk t := fun h => hG (g1_of h)
    simp only [dGet, if_neg hG'] at hK
    refine asc ?_; refine aiX g74 ?_ ?_
    · intro _
      refine rs ?_
      (repeat (first | (refine al_set ?_ ?_ ?_ ?_; rotate_left 2; (· intro K hK; simp (disch := omega) only [go_sem, ↓set_get, ↓reduceIte, ↓o_bsl, ↓o_build, Nat.reduceEqDiff, Nat.reduceAdd, Nat.reduceMul, Int.reduceEq, Int.reduceNe, set_other, del_other, g2, abuild, afill]; (repeat' (first | exact hK | (refine And.intro ?_ ?_) | assumption | omega)))) | (refine al_guard (b := true) rfl ?_ (fun _ => ?_) (fun h => absurd rfl h); · simp only [↓set_get, Nat.reduceEqDiff, Bool.false_eq_true, ↓reduceIte, aenv0, aenvS, aenvN, one_ne, g2, abuild, afill]; done) | (refine al_guard (b := false) rfl ?_ (fun _ => ?_) (fun h => absurd rfl h); · simp only [↓set_get, Nat.reduceEqDiff, Bool.false_eq_true, ↓reduceIte, aenv0, aenvS, aenvN, one_ne, g2, abuild, afill]; done) | (refine al_guard (b := true) rfl ?_ (fun h => Bool.noConfusion h) (fun _ => ?_); · simp only [↓set_get, Nat.reduceEqDiff, Bool.false_eq_true, ↓reduceIte, aenv0, aenvS, aenvN, one_ne, g2, abuild, afill]; done) | (refine al_guard (b := false) rfl ?_ (fun h => Bool.noConfusion h) (fun _ => ?_); · simp only [↓set_get, Nat.reduceEqDiff, Bool.false_eq_true, ↓reduceIte, aenv0, aenvS, aenvN, one_ne, g2, abuild, afill]; done) | (refine al_guard0 rfl ?_ ?_; · simp only [↓set_get, Nat.reduceEqDiff, Bool.false_eq_true, ↓reduceIte, aenv0, aenvS, aenvN, one_ne, g2, abuild, afill]; done) | (refine al_none ?_ ?_ ?_ ?_; rotate_left 2; (· intro K hK; simp (disch := omega) only [go_sem, ↓set_get, ↓reduceIte, ↓o_bsl, ↓o_build, Nat.reduceEqDiff, Nat.reduceAdd, Nat.reduceMul, Int.reduceEq, Int.reduceNe, set_other, del_other, g2, abuild, afill]; (repeat' (first | exact hK | (refine And.intro ?_ ?_) | assumption | omega))))))
      refine al_done (awp_ret (afin_rx (rx_cells (id := b) (l := zero91) (l' := sgD zeroS) (T := 91) (set_same _ _ _) (by decide +kernel) zero_wk (.done ?_))))
      simp only [ares, aone, ↓set_get, Nat.reduceEqDiff, Bool.false_eq_true, ↓reduceIte, aenv0, aenvS, aenvN, one_ne, g2, load_ptr, tagg91, tsz91, set_same, set_set]
      exact ⟨_, _, rfl, by simp only [read_t, sgD_len, List.drop_zero, sgD_a]; exact ⟨by decide, s, by intro j x hx; simp only [set_app]; grind, hK⟩⟩
    · intro h; simp [hG] at h
end Go.Proofs.Try
