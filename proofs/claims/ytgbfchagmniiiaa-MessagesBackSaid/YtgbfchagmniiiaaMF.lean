/- messages: replies, the plain laws of what is put; heads and entries put, walked. -/
import Derived.Test.YtgbfchagmniiiaaME
import Derived.Test.YtgbfchagmniiiaaGB
set_option maxRecDepth 8000
set_option linter.unusedSimpArgs false
set_option linter.unusedVariables false
namespace Go.Proofs.Try
open Go Go.Av
set_option pp.maxSteps 900
attribute [local irreducible] alist awp adraw apure
attribute [local go_sem] cellsOf_int cellsOf_bool cellsOf_str cellsOf_nilp cellsOf_nil cellsOf_e0 cellsOf_sl cellsOf_osl cellsOf_ptr cellsOf_eptr cellsOf_fn cellsOf_agg okc_int okc_bool okc_str okc_nilp okc_nil okc_e0 okc_sl okc_osl okc_ptr okc_eptr okc_fn okc_agg and_assoc splice_0n splice_0c splice_s load_ptr load_eptr read_t read_f store_p cells_inj set_same exists_and_left List.length_cons List.length_nil List.drop_zero List.drop_succ_cons List.take_succ_cons List.take_zero Option.isSome_some
variable {γ : Gl} {σ s : St} {K : D → St → Prop}
attribute [local go_sem] List.length_append natc0 eq_self sgD_len sgD_a spl91 splice_self List.length_replicate length_bytesD sgsD_len bne_self_eq_false Int.toNat_natCast

def txD (l : List (List UInt8)) : List D := l.map D.str
theorem txD_len (l : List (List UInt8)) : (txD l).length = l.length := List.length_map ..
theorem txD_at (l : List (List UInt8)) {k : Nat} (h : k < l.length) : (txD l)[k]? = some (.str l[k]) := by rw [txD, List.getElem?_map, List.getElem?_eq_getElem h]; rfl
structure Rep where
  id : Int
  kind : Int
  code : Int
  heads : List SHead
  entries : List (List UInt8)
  proof : List (List UInt8)
  hp : All32 proof
def repD (r : Rep) : List D := [.int .i64 r.id, .int .i64 r.kind, .int .i64 r.code, .sl r.heads.length (sgsD r.heads) none, .sl r.entries.length (txD r.entries) none, pathD r.proof]
theorem repD_len (r : Rep) : (repD r).length = 6 := rfl
def allV (L : List SHead) : Prop := ∀ x ∈ L, valid x
instance (L : List SHead) : Decidable (allV L) := by unfold allV; infer_instance
def shortE (l : List (List UInt8)) : Prop := ∀ x ∈ l, x.length ≤ 200
instance (l : List (List UInt8)) : Decidable (shortE l) := by unfold shortE; infer_instance
def enB (l : List (List UInt8)) : List UInt8 := (l.map textB).flatten
theorem enB_cons (x : List UInt8) (l : List (List UInt8)) : enB (x :: l) = textB x ++ enB l := by simp [enB]
theorem enB_add (l : List (List UInt8)) (x : List UInt8) : enB (l ++ [x]) = enB l ++ textB x := by simp [enB]
theorem enB_len {n : Nat} (hn : n ≤ 1000000) : ∀ {l : List (List UInt8)}, (∀ x ∈ l, x.length ≤ n) → (enB l).length ≤ l.length * (n + 10)
  | [], _ => by simp [enB]
  | x :: l, h => by
    have h1 := h x (by simp)
    have h2 := textB_len (t := x) (by omega)
    have h3 := enB_len hn (l := l) (fun y hy => h y (by simp [hy]))
    rw [enB_cons, List.length_append, List.length_cons, Nat.add_mul]
    omega
def entB (l : List (List UInt8)) : List UInt8 := numB l.length ++ enB l
def dSig (L : List SHead) (m : Int) : D := if allV L then .tup [.str (gB L), .bool (decide ((L.length : Int) = m))] else .tup [.str [], .bool false]
def dSigR (L : List SHead) : D := if allV L then .tup [.str (gB L), .bool true] else .tup [.str [], .bool false]
def dEnt (l : List (List UInt8)) : D := if shortE l then .tup [.str (entB l), .bool (decide (l.length ≤ 16))] else .tup [.str [], .bool false]
theorem Text_t {t : List UInt8} (h : t.length ≤ 140737488355328) (hK : K (.str (textB t)) s) : ACalls prog γ 25 [.str t] s K := Text_c h hK
theorem rText_t {t : List UInt8} (h : t.length ≤ 140737488355328) (hK : K (.str (textB t)) s) : ACalls prog γ 26 [.str t] s K := rText_c h hK
theorem allV_take {L : List SHead} {k : Nat} (h : ∀ x ∈ L.take k, valid x) (hk : k < L.length) (hv : valid L[k]) : ∀ x ∈ L.take (k + 1), valid x := by
  rw [List.take_succ_eq_append_getElem hk]
  intro x hx
  rcases List.mem_append.1 hx with hx | hx
  · exact h x hx
  · rw [List.mem_singleton] at hx; rw [hx]; exact hv

theorem mSigned_c {L : List SHead} {m : Int} {tk : Option (Nat × Nat)} (hL : L.length ≤ 1000) (hK : K (dSig L m) s) : ACalls prog γ 107 [.sl L.length (sgsD L) tk, .int .i64 m] s K := by
  have hml := sgsD_len L
  refine acalls_of_awp (by kernel_rfl) func107 rfl (by kernel_rfl) rfl rfl (by kernel_rfl) (Nat.le_of_ble_eq_true rfl) ?_
  refine rs ?_
  refine run ?_
  refine al_done ?_
  refine rs ?_
  refine run ?_
  refine al_done ?_
  refine rs ?_
  refine run ?_
  refine al_done ?_
  refine asc ?_; refine awp_while (fun n ρ τ => ∃ k : Nat, n = L.length - k ∧ k ≤ L.length ∧ τ = s ∧ (∀ x ∈ L.take k, valid x) ∧ ρ 0 = .sl L.length (sgsD L) tk ∧ ρ 1 = .int .i64 m ∧ ρ 6 = .str (gB (L.take k)) ∧ ρ 11 = .sl L.length (sgsD L) tk ∧ ρ 12 = .int .i64 (L.length : Nat) ∧ ρ 13 = .int .i64 (k : Nat)) L.length ?_ ?_
  · refine ⟨0, rfl, Nat.zero_le _, rfl, (by simp), ?_, ?_, ?_, ?_, ?_, ?_⟩
    all_goals simp only [↓set_get, Nat.reduceEqDiff, Bool.false_eq_true, ↓reduceIte, aenv0, aenvS, aenvN, one_ne]
    all_goals rfl
  rintro n ρ s ⟨k, rfl, hk, rfl, hv, g0, g1, g6, g11, g12, g13⟩
  refine rs ?_
  refine runX (And.intro g12 g13) ?_
  refine al_done ?_
  refine asc ?_; refine ate ?_ ?_
  · intro hb2
    have hb2 : k < L.length := by have := of_decide_eq_true hb2
                                  omega
    have hat : ((sgsD L).drop (k * 36)).take 36 = sgD L[k] := rows_at sgD_len L hb2
    have hgl := gB_len hv
    have htl : (L.take k).length ≤ 1000 := by rw [List.length_take]; omega
    refine asc ?_; refine awp_body ?_
    refine rs ?_
    refine runX (And.intro g11 (And.intro g13 hat)) ?_
    (refine aF ?_; intro y hy; (try (have h_hy := hy; simp only [set_none] at h_hy)))
    refine run ?_
    rw [set_set]
    refine al_done ?_
    refine rs ?_
    refine run ?_
    (refine al_set ?_ ?_ ?_ ?_; rotate_left 2; (· intro K hK; refine S1 ?_; refine Or.inl (Put_c ?_); exact hK))
    rw [dPut_q]
    refine run ?_
    refine al_done ?_
    refine rs ?_
    refine run ?_
    refine al_done ?_
    by_cases hvk : valid L[k]
    · rw [pS, pE, if_pos hvk, if_pos hvk]
      refine asc ?_; refine ai ?_ ?_
      · intro h; cases h
      intro _
      have hpl := putB_len hvk
      have htx := textB_len (t := putB L[k]) (by omega)
      refine awp_region ?_
      refine runX g6 ?_
      (refine al_set ?_ ?_ ?_ ?_; rotate_left 2; (· intro K hK; refine S1 ?_; refine Or.inl (Text_t (by omega) ?_); exact hK))
      refine run ?_
      refine al_nil (.forget s (le_set _ hy) (.done ?_))
      refine awp_region ?_
      refine runX g13 ?_
      refine al_nil ?_
      refine lq_next (L.length - (k + 1)) (by omega) ⟨k + 1, rfl, by omega, rfl, allV_take hv hb2 hvk, ?_, ?_, ?_, ?_, ?_, ?_⟩
      · simp only [↓set_get, Nat.reduceEqDiff, Bool.false_eq_true, ↓reduceIte, aenv0, aenvS, aenvN, one_ne, g0]
      · simp only [↓set_get, Nat.reduceEqDiff, Bool.false_eq_true, ↓reduceIte, aenv0, aenvS, aenvN, one_ne, g1]
      · simp only [↓set_get, Nat.reduceEqDiff, Bool.false_eq_true, ↓reduceIte, aenv0, aenvS, aenvN, one_ne]; rw [List.take_succ_eq_append_getElem hb2, gB_add]
      · simp only [↓set_get, Nat.reduceEqDiff, Bool.false_eq_true, ↓reduceIte, aenv0, aenvS, aenvN, one_ne, g11]
      · simp only [↓set_get, Nat.reduceEqDiff, Bool.false_eq_true, ↓reduceIte, aenv0, aenvS, aenvN, one_ne, g12]
      · simp only [↓set_get, Nat.reduceEqDiff, Bool.false_eq_true, ↓reduceIte, aenv0, aenvS, aenvN, one_ne]; rfl
    · have hno : ¬ allV L := fun h => hvk (h _ (List.getElem_mem hb2))
      rw [dSig, if_neg hno] at hK
      rw [pS, pE, if_neg hvk, if_neg hvk]
      refine asc ?_; refine ai ?_ ?_
      · intro _
        refine rs ?_
        refine run ?_
        refine al_done (awp_ret (afin_ret (.forget s (le_set _ hy) (.done ?_)))); simp only [ares, aone, ↓set_get, Nat.reduceEqDiff, Bool.false_eq_true, ↓reduceIte, aenv0, aenvS, aenvN, one_ne]
        exact hK
      · intro h; cases h
  · intro hb2
    have hb2 : k = L.length := by have := of_decide_eq_false hb2
                                  omega
    subst hb2
    rw [List.take_length] at hv g6
    rw [dSig, if_pos (show allV L from hv)] at hK
    refine lq_exit ?_
    refine rs ?_
    refine runX (And.intro g0 (And.intro g1 g6)) ?_
    refine rets ?_
    have : ((L.length : Int) == m) = decide ((L.length : Int) = m) := by rw [Bool.eq_iff_iff]; simp
    rw [this]
    exact hK
theorem rSigned_c {L : List SHead} {tk : Option (Nat × Nat)} (hL : L.length ≤ 1000) (hK : K (dSigR L) s) : ACalls prog γ 109 [.sl L.length (sgsD L) tk] s K := by
  have hml := sgsD_len L
  refine acalls_of_awp (by kernel_rfl) func109 rfl (by kernel_rfl) rfl rfl (by kernel_rfl) (Nat.le_of_ble_eq_true rfl) ?_
  refine rs ?_
  refine run ?_
  refine al_done ?_
  refine rs ?_
  refine run ?_
  refine al_done ?_
  refine rs ?_
  refine run ?_
  refine al_done ?_
  refine asc ?_; refine awp_while (fun n ρ τ => ∃ k : Nat, n = L.length - k ∧ k ≤ L.length ∧ τ = s ∧ (∀ x ∈ L.take k, valid x) ∧ ρ 0 = .sl L.length (sgsD L) tk ∧ ρ 4 = .str (gB (L.take k)) ∧ ρ 5 = .int .i64 (k : Nat)) L.length ?_ ?_
  · refine ⟨0, rfl, Nat.zero_le _, rfl, (by simp), ?_, ?_, ?_⟩
    all_goals simp only [↓set_get, Nat.reduceEqDiff, Bool.false_eq_true, ↓reduceIte, aenv0, aenvS, aenvN, one_ne]
    all_goals rfl
  rintro n ρ s ⟨k, rfl, hk, rfl, hv, g0, g4, g5⟩
  refine rs ?_
  refine runX (And.intro g0 g5) ?_
  refine al_done ?_
  refine asc ?_; refine ate ?_ ?_
  · intro hb2
    have hb2 : k < L.length := by have := of_decide_eq_true hb2
                                  omega
    have hat : ((sgsD L).drop (k * 36)).take 36 = sgD L[k] := rows_at sgD_len L hb2
    have hgl := gB_len hv
    have htl : (L.take k).length ≤ 1000 := by rw [List.length_take]; omega
    refine asc ?_; refine awp_body ?_
    refine rs ?_
    refine runX (And.intro g0 (And.intro g5 hat)) ?_
    (refine al_set ?_ ?_ ?_ ?_; rotate_left 2; (· intro K hK; refine S1 ?_; refine Or.inl (rPut_c ?_); exact hK))
    rw [dPut_q]
    refine run ?_
    refine al_done ?_
    refine rs ?_
    refine run ?_
    refine al_done ?_
    by_cases hvk : valid L[k]
    · rw [pS, pE, if_pos hvk, if_pos hvk]
      refine asc ?_; refine ai ?_ ?_
      · intro h; cases h
      intro _
      have hpl := putB_len hvk
      have htx := textB_len (t := putB L[k]) (by omega)
      refine awp_region ?_
      refine runX g4 ?_
      (refine al_set ?_ ?_ ?_ ?_; rotate_left 2; (· intro K hK; refine S1 ?_; refine Or.inl (rText_t (by omega) ?_); exact hK))
      refine run ?_
      refine al_nil (.done ?_)
      refine awp_region ?_
      refine runX g5 ?_
      refine al_nil ?_
      refine lq_next (L.length - (k + 1)) (by omega) ⟨k + 1, rfl, by omega, rfl, allV_take hv hb2 hvk, ?_, ?_, ?_⟩
      · simp only [↓set_get, Nat.reduceEqDiff, Bool.false_eq_true, ↓reduceIte, aenv0, aenvS, aenvN, one_ne, g0]
      · simp only [↓set_get, Nat.reduceEqDiff, Bool.false_eq_true, ↓reduceIte, aenv0, aenvS, aenvN, one_ne]; rw [List.take_succ_eq_append_getElem hb2, gB_add]
      · simp only [↓set_get, Nat.reduceEqDiff, Bool.false_eq_true, ↓reduceIte, aenv0, aenvS, aenvN, one_ne]; rfl
    · have hno : ¬ allV L := fun h => hvk (h _ (List.getElem_mem hb2))
      rw [dSigR, if_neg hno] at hK
      rw [pS, pE, if_neg hvk, if_neg hvk]
      refine asc ?_; refine ai ?_ ?_
      · intro _
        refine rs ?_
        refine run ?_
        refine rets ?_
        exact hK
      · intro h; cases h
  · intro hb2
    have hb2 : k = L.length := by have := of_decide_eq_false hb2
                                  omega
    subst hb2
    rw [List.take_length] at hv g4
    rw [dSigR, if_pos (show allV L from hv)] at hK
    refine lq_exit ?_
    refine rs ?_
    refine runX g4 ?_
    refine rets ?_
    exact hK
theorem shortE_take {l : List (List UInt8)} {k : Nat} (h : ∀ x ∈ l.take k, x.length ≤ 200) (hk : k < l.length) (hv : l[k].length ≤ 200) : ∀ x ∈ l.take (k + 1), x.length ≤ 200 := by
  rw [List.take_succ_eq_append_getElem hk]
  intro x hx
  rcases List.mem_append.1 hx with hx | hx
  · exact h x hx
  · rw [List.mem_singleton] at hx; rw [hx]; exact hv
theorem mEntries_c {l : List (List UInt8)} {tk : Option (Nat × Nat)} (hL : l.length ≤ 1000) (hl : ∀ x ∈ l, x.length ≤ 9223372036854775807) (hK : K (dEnt l) s) : ACalls prog γ 108 [.sl l.length (txD l) tk] s K := by
  have hml := txD_len l
  have hnl := length_numB (n := l.length) (by omega)
  refine acalls_of_awp (by kernel_rfl) func108 rfl (by kernel_rfl) rfl rfl (by kernel_rfl) (Nat.le_of_ble_eq_true rfl) ?_
  refine rs ?_
  refine run ?_
  refine al_done ?_
  refine rs ?_
  refine run ?_
  (refine al_set ?_ ?_ ?_ ?_; rotate_left 2; (· intro K hK; refine S1 ?_; refine Or.inl (Num_n (by omega) ?_); exact hK))
  refine run ?_
  refine al_done ?_
  refine rs ?_
  refine run ?_
  refine al_done ?_
  refine asc ?_; refine awp_while (fun n ρ τ => ∃ k : Nat, n = l.length - k ∧ k ≤ l.length ∧ τ = s ∧ (∀ x ∈ l.take k, x.length ≤ 200) ∧ ρ 0 = .sl l.length (txD l) tk ∧ ρ 4 = .str (numB l.length ++ enB (l.take k)) ∧ ρ 11 = .sl l.length (txD l) tk ∧ ρ 12 = .int .i64 (l.length : Nat) ∧ ρ 13 = .int .i64 (k : Nat)) l.length ?_ ?_
  · refine ⟨0, rfl, Nat.zero_le _, rfl, (by simp), ?_, ?_, ?_, ?_, ?_⟩
    all_goals simp only [↓set_get, Nat.reduceEqDiff, Bool.false_eq_true, ↓reduceIte, aenv0, aenvS, aenvN, one_ne]
    · simp [enB]
    · rfl
  rintro n ρ s ⟨k, rfl, hk, rfl, hv, g0, g4, g11, g12, g13⟩
  refine rs ?_
  refine runX (And.intro g12 g13) ?_
  refine al_done ?_
  refine asc ?_; refine ate ?_ ?_
  · intro hb2
    have hb2 : k < l.length := by have := of_decide_eq_true hb2
                                  omega
    have hat := txD_at l hb2
    have hgl := enB_len (n := 200) (by decide) hv
    have htl : (l.take k).length ≤ 1000 := by rw [List.length_take]; omega
    have hlk := hl _ (List.getElem_mem hb2)
    refine asc ?_; refine awp_body ?_
    refine rs ?_
    refine runX (And.intro g11 (And.intro g13 (And.intro hat hml))) ?_
    refine al_done ?_
    refine rs ?_
    refine run ?_
    refine al_done ?_
    refine asc ?_; refine ai ?_ ?_
    · intro h
      have h := of_decide_eq_true h
      have hno : ¬ shortE l := fun hh => by have := hh _ (List.getElem_mem hb2); omega
      rw [dEnt, if_neg hno] at hK
      refine rs ?_
      refine run ?_
      refine rets ?_
      exact hK
    · intro h
      have h : l[k].length ≤ 200 := by have := of_decide_eq_false h
                                       omega
      have htx := textB_len (t := l[k]) (by omega)
      refine awp_region ?_
      refine runX g4 ?_
      (refine al_set ?_ ?_ ?_ ?_; rotate_left 2; (· intro K hK; refine S1 ?_; refine Or.inl (Text_t (by omega) ?_); exact hK))
      refine run ?_
      refine al_nil (.done ?_)
      refine awp_region ?_
      refine runX g13 ?_
      refine al_nil ?_
      refine lq_next (l.length - (k + 1)) (by omega) ⟨k + 1, rfl, by omega, rfl, shortE_take hv hb2 h, ?_, ?_, ?_, ?_, ?_⟩
      · simp only [↓set_get, Nat.reduceEqDiff, Bool.false_eq_true, ↓reduceIte, aenv0, aenvS, aenvN, one_ne, g0]
      · simp only [↓set_get, Nat.reduceEqDiff, Bool.false_eq_true, ↓reduceIte, aenv0, aenvS, aenvN, one_ne]; rw [List.take_succ_eq_append_getElem hb2, enB_add, List.append_assoc]
      · simp only [↓set_get, Nat.reduceEqDiff, Bool.false_eq_true, ↓reduceIte, aenv0, aenvS, aenvN, one_ne, g11]
      · simp only [↓set_get, Nat.reduceEqDiff, Bool.false_eq_true, ↓reduceIte, aenv0, aenvS, aenvN, one_ne, g12]
      · simp only [↓set_get, Nat.reduceEqDiff, Bool.false_eq_true, ↓reduceIte, aenv0, aenvS, aenvN, one_ne]; rfl
  · intro hb2
    have hb2 : k = l.length := by have := of_decide_eq_false hb2
                                  omega
    subst hb2
    rw [List.take_length] at hv g4
    rw [dEnt, if_pos (show shortE l from hv)] at hK
    refine lq_exit ?_
    refine rs ?_
    refine runX (And.intro g0 g4) ?_
    refine rets ?_
    have : decide ((l.length : Int) ≤ 16) = decide (l.length ≤ 16) := by rw [decide_eq_decide]; omega
    rw [this]
    exact hK
end Go.Proofs.Try
