/- gossip: heads put, walked. -/
import Derived.Test.YtgbfchagmniiiaaGA
set_option maxRecDepth 8000
set_option linter.unusedSimpArgs false
set_option linter.unusedVariables false
namespace Go.Proofs.Try
open Go Go.Av
set_option pp.maxSteps 900
attribute [local irreducible] alist awp adraw apure
attribute [local go_sem] cellsOf_int cellsOf_bool cellsOf_str cellsOf_nilp cellsOf_nil cellsOf_e0 cellsOf_sl cellsOf_osl cellsOf_ptr cellsOf_eptr cellsOf_fn cellsOf_agg okc_int okc_bool okc_str okc_nilp okc_nil okc_e0 okc_sl okc_osl okc_ptr okc_eptr okc_fn okc_agg and_assoc splice_0n splice_0c splice_s load_ptr load_eptr read_t read_f store_p cells_inj set_same exists_and_left List.length_cons List.length_nil List.drop_zero List.drop_succ_cons List.take_succ_cons List.take_zero Option.isSome_some
variable {γ : Gl} {σ s : St} {K : D → St → Prop}
attribute [local go_sem] sgD_len sgD_0 sgD_33 sgD_34 sgD_35 sgD_a sgD_h sgD_r spl27 byt27 spl91 length_bytesD List.length_replicate splice_self sgsD_len headsD_len Int.toNat_natCast List.length_append

theorem Num_n {n : Nat} (h : n < 18446744073709551616) (hK : K (.str (numB n)) s) : ACalls prog γ 23 [.int .u64 n] s K := Num_c (by omega) (by omega) (by rw [Int.toNat_natCast]; exact hK)
theorem rNum_n {n : Nat} (h : n < 18446744073709551616) (hK : K (.str (numB n)) s) : ACalls prog γ 24 [.int .u64 n] s K := rNum_c (by omega) (by omega) (by rw [Int.toNat_natCast]; exact hK)

theorem Bld.none {σ s : St} {id i : Nat} {l : List UInt8} (h : Bld σ id l s) (hi : s i = none) : σ i = none := by
  cases hq : σ i with
  | none => rfl
  | some o => have := h.le i o hq; rw [hi] at this; cases this
theorem String_r {id : Nat} {l : List UInt8} (hb : Bld σ id l s) (h0 : 0 < l.length) (hl : l.length ≤ 140737488355328) (hK : ∀ s', s' = σ → K (.str l) s') : ACalls prog γ 88 [.ptr id 0] s K := String_c hb h0 hl (hK _ rfl)
def gB (L : List SHead) : List UInt8 := (L.map (fun x => textB (putB x))).flatten
theorem gB_add (L : List SHead) (x : SHead) : gB (L ++ [x]) = gB L ++ textB (putB x) := by simp [gB]
theorem textB_len {t : List UInt8} (h : t.length < 18446744073709551616) : (textB t).length ≤ t.length + 10 := by
  have := length_numB h
  rw [textB, List.length_append]; omega
theorem gB_len {L : List SHead} (h : ∀ x ∈ L, valid x) : (gB L).length ≤ L.length * 17010 := by
  induction L with
  | nil => simp [gB]
  | cons x L ih =>
    have h1 := putB_len (h x (by simp))
    have h2 := textB_len (t := putB x) (by omega)
    have h3 := ih (fun y hy => h y (by simp [hy]))
    have : gB (x :: L) = textB (putB x) ++ gB L := by simp [gB]
    rw [this, List.length_append, List.length_cons]; omega
def GPOk (L : List SHead) : Prop := (1 ≤ L.length ∧ L.length ≤ 3) ∧ ∀ x ∈ L, valid x
instance (L : List SHead) : Decidable (GPOk L) := by unfold GPOk; infer_instance
def gput (L : List SHead) : List UInt8 := 71 :: (numB L.length ++ gB L)
def dGP (L : List SHead) : D := if GPOk L then .tup [.str (gput L), .int .i64 0] else .tup [.str [], .int .i64 2]

theorem gPut_c {L : List SHead} {tk : Option (Nat × Nat)} (hL : L.length ≤ 1000) (hK : K (dGP L) s) : ACalls prog γ 59 [.sl L.length (sgsD L) tk] s K := by
  have hml := sgsD_len L
  have hn10 := length_numB (n := L.length) (by omega)
  refine acalls_of_awp (by kernel_rfl) func59 rfl (by kernel_rfl) rfl rfl (by kernel_rfl) (Nat.le_of_ble_eq_true rfl) ?_
  refine rs ?_
  refine run ?_
  refine al_done ?_
  refine asc ?_; refine awp_rj (fun ρ' s' => s' = s ∧ ρ' 0 = .sl L.length (sgsD L) tk ∧ ρ' 16 = .bool (decide (¬ (1 ≤ L.length ∧ L.length ≤ 3)))) ?_ ?_
  · intro K' hJ
    (repeat' (first | refine run1 ?_ | (refine al_guard rfl (by simp only [↓set_get, Nat.reduceEqDiff, Bool.false_eq_true, ↓reduceIte, aenv0, aenvS, aenvN, one_ne]; rfl) (fun hb => ?_) (fun hb => ?_) <;> (try simp only [ne_eq, Bool.not_eq_true, Bool.not_eq_false] at hb) <;> have hb2 := hb <;> (try simp only [decide_eq_true_eq, decide_eq_false_iff_not, beq_iff_eq, beq_eq_false_iff_ne, bne_iff_ne, ne_eq, Bool.not_eq_true', Bool.not_eq_false'] at hb2) <;> (try rw [hb]))))
    all_goals refine al_nil (hJ _ _ ⟨rfl, ?_, ?_⟩)
    all_goals simp only [↓set_get, Nat.reduceEqDiff, Bool.false_eq_true, ↓reduceIte, aenv0, aenvS, aenvN, one_ne]
    all_goals (first | exact bool_t (by omega) | exact bool_f (by omega) | exact bool_s (by (first | rw [decide_eq_true_eq] | rw [beq_iff_eq] | rw [bne_iff_ne]); omega))
  rintro ρ1 s ⟨rfl, g0, g16⟩
  refine asc ?_; refine aiX g16 ?_ ?_
  · intro h
    have h : ¬ (1 ≤ L.length ∧ L.length ≤ 3) := of_decide_eq_true h
    rw [dGP, if_neg (fun hh => h hh.1)] at hK
    refine rs ?_
    refine run ?_
    refine rets ?_
    exact hK
  intro h
  have h : 1 ≤ L.length ∧ L.length ≤ 3 := Decidable.not_not.1 (of_decide_eq_false h)
  refine rs ?_
  (refine aF ?_; intro id hid; (try (have h_hid := hid; simp only [set_none] at h_hid)))
  refine al_done ?_
  have hb0 : Bld s id [] (s.set id (.cells [.nilp, .nil] 122)) := ⟨hid, .nilp, .inl rfl, .inl ⟨rfl, rfl⟩⟩
  refine rs ?_
  refine runX g0 ?_
  (refine al_set ?_ ?_ ?_ ?_; rotate_left 2; (· intro K hK; refine S1 ?_; refine Or.inl (Num_n (by omega) ?_); exact hK))
  refine run ?_
  (refine al_rel (fun d s' => d = .tup [.int .i64 (((71 :: numB L.length).length : Nat) : Int), .nili] ∧ (Bld s id (71 :: numB L.length)) s') ?_ ?_; (· intro K hK; refine S1 ?_; exact Or.inl (WriteString_c hb0 (by simp; omega) (fun s' h' => hK _ _ ⟨rfl, h'⟩))); rintro _ s1 ⟨rfl, hb1⟩)
  refine run ?_
  refine al_done ?_
  refine rs ?_
  refine runX g0 ?_
  refine al_done ?_
  refine asc ?_; refine awp_while (fun m ρ t => ∃ k : Nat, m = L.length - k ∧ k ≤ L.length ∧ (∀ x ∈ L.take k, valid x) ∧ Bld s id (71 :: (numB L.length ++ gB (L.take k))) t ∧ ρ 4 = .ptr id 0 ∧ ρ 23 = .sl L.length (sgsD L) tk ∧ ρ 24 = .int .i64 (L.length : Nat) ∧ ρ 25 = .int .i64 (k : Nat)) L.length ?_ ?_
  · refine ⟨0, rfl, by omega, fun x hx => by simp at hx, ?_, ?_, ?_, ?_, ?_⟩
    · simpa [gB] using hb1
    all_goals simp only [↓set_get, Nat.reduceEqDiff, Bool.false_eq_true, ↓reduceIte, aenv0, aenvS, aenvN, one_ne]
    rfl
  rintro m ρ t ⟨k, rfl, hk, hv, hbk, h4, h23, h24, h25⟩
  refine rs ?_
  refine runX (And.intro h24 h25) ?_
  refine al_done ?_
  refine asc ?_; refine ate ?_ ?_
  · intro hb2
    have hb2 : k < L.length := by have := of_decide_eq_true hb2
                                  omega
    have hat : ((sgsD L).drop (k * 36)).take 36 = sgD L[k] := rows_at sgD_len L hb2
    have hgl := gB_len hv
    have htl : (L.take k).length = k := by rw [List.length_take]; omega
    refine asc ?_; refine awp_body ?_
    refine rs ?_
    refine runX (And.intro h23 (And.intro h25 hat)) ?_
    (refine aF ?_; intro y hy; (try (have h_hy := hy; simp only [set_none] at h_hy)))
    refine run ?_
    refine al_done ?_
    refine rs ?_
    refine run ?_
    (refine al_set ?_ ?_ ?_ ?_; rotate_left 2; (· intro K hK; refine S1 ?_; refine Or.inl (Put_c ?_); exact hK))
    rw [dPut_q]
    refine run ?_
    refine al_done ?_
    refine rs ?_
    refine run ?_
    refine al_done ?_
    have hyt : t y = none := hy
    by_cases hvk : valid L[k]
    · rw [pS, pE, if_pos hvk, if_pos hvk]
      refine asc ?_; refine ai ?_ ?_
      · intro h; cases h
      intro _
      have hpl := putB_len hvk
      have htx := textB_len (t := putB L[k]) (by omega)
      have hbf := hbk.frame (o := .cells (sgD L[k]) 91) hyt
      refine awp_region ?_
      refine run ?_
      (refine al_set ?_ ?_ ?_ ?_; rotate_left 2; (· intro K hK; refine S1 ?_; refine Or.inl (Text_c (by omega) ?_); exact hK))
      rw [← textB]
      refine run ?_
      rw [set_set]
      (refine al_rel (fun d s' => d = .tup [.int .i64 (((textB (putB L[k])).length : Nat) : Int), .nili] ∧ (Bld (s.set y (.cells (sgD L[k]) 91)) id (71 :: (numB L.length ++ gB (L.take k)) ++ textB (putB L[k]))) s') ?_ ?_; (· intro K hK; refine S1X h4 ?_; exact Or.inl (WriteString_c hbf (by simp only [List.length_cons, List.length_append]; omega) (fun s' h' => hK _ _ ⟨rfl, h'⟩))); rintro _ s2 ⟨rfl, hbn⟩)
      obtain ⟨s3, hle3, hb3⟩ := hbn.unframe (hbk.none hyt)
      refine al_nil (.forget s3 hle3 (.done ?_))
      refine awp_region ?_
      refine runX h25 ?_
      refine al_nil ?_
      refine lq_next (L.length - (k + 1)) (by omega) ⟨k + 1, rfl, by omega, ?_, ?_, ?_, ?_, ?_, ?_⟩
      · intro x hx
        rw [List.take_succ_eq_append_getElem hb2, List.mem_append, List.mem_singleton] at hx
        rcases hx with hx | rfl
        · exact hv x hx
        · exact hvk
      · rw [List.take_succ_eq_append_getElem hb2, gB_add, ← List.append_assoc, ← List.cons_append]; exact hb3
      · simp only [↓set_get, Nat.reduceEqDiff, Bool.false_eq_true, ↓reduceIte, aenv0, aenvS, aenvN, one_ne, h4]
      · simp only [↓set_get, Nat.reduceEqDiff, Bool.false_eq_true, ↓reduceIte, aenv0, aenvS, aenvN, one_ne, h23]
      · simp only [↓set_get, Nat.reduceEqDiff, Bool.false_eq_true, ↓reduceIte, aenv0, aenvS, aenvN, one_ne, h24]
      · simp only [↓set_get, Nat.reduceEqDiff, Bool.false_eq_true, ↓reduceIte, aenv0, aenvS, aenvN, one_ne]; rfl
    · rw [pS, pE, if_neg hvk, if_neg hvk]
      rw [dGP, if_neg (fun hh => hvk (hh.2 _ (List.getElem_mem hb2)))] at hK
      refine asc ?_; refine ai ?_ ?_
      · intro _
        refine rs ?_
        refine run ?_
        refine al_done (awp_ret (afin_ret (.forget s ?_ (.done ?_))))
        · rw [set_set]; exact hbk.le.trans (le_set _ hyt)
        simp only [ares, aone, ↓set_get, Nat.reduceEqDiff, Bool.false_eq_true, ↓reduceIte, aenv0, aenvS, aenvN, one_ne]
        exact hK
      · intro h; cases h
  · intro hb2
    have hb2 : k = L.length := by have := of_decide_eq_false hb2
                                  omega
    subst hb2
    rw [List.take_length] at hbk hv
    have hgl := gB_len hv
    rw [dGP, if_pos ⟨h, hv⟩] at hK
    refine lq_exit ?_
    refine rs ?_
    (refine al_rel (fun d s' => d = .str (gput L) ∧ ((· = s)) s') ?_ ?_; (· intro K hK; refine S1X h4 ?_; exact Or.inl (String_r hbk (by simp) (by simp only [List.length_cons, List.length_append]; omega) (fun s' h' => hK _ _ ⟨rfl, h'⟩))); rintro _ s3 ⟨rfl, h3⟩)
    subst h3
    refine run ?_
    refine rets ?_
    exact hK
end Go.Proofs.Try

/- gossip: known heads put, walked; the reference's puts. -/
set_option maxRecDepth 8000
set_option linter.unusedSimpArgs false
set_option linter.unusedVariables false
namespace Go.Proofs.Try
open Go Go.Av
set_option pp.maxSteps 900
attribute [local irreducible] alist awp adraw apure
attribute [local go_sem] cellsOf_int cellsOf_bool cellsOf_str cellsOf_nilp cellsOf_nil cellsOf_e0 cellsOf_sl cellsOf_osl cellsOf_ptr cellsOf_eptr cellsOf_fn cellsOf_agg okc_int okc_bool okc_str okc_nilp okc_nil okc_e0 okc_sl okc_osl okc_ptr okc_eptr okc_fn okc_agg and_assoc splice_0n splice_0c splice_s load_ptr load_eptr read_t read_f store_p cells_inj set_same exists_and_left List.length_cons List.length_nil List.drop_zero List.drop_succ_cons List.take_succ_cons List.take_zero Option.isSome_some
variable {γ : Gl} {σ s : St} {K : D → St → Prop}
theorem spl87 {h : Head} : splice (D.int .i64 0 :: List.replicate 32 (.int .u8 0)) 0 (headD h) = headD h := splice_whole (by simp [headD_len])
attribute [local go_sem] headD_len headD_0 headD_a headD_r spl87 sgD_len sgD_0 sgD_33 sgD_34 sgD_35 sgD_a sgD_h sgD_r spl27 byt27 spl91 length_bytesD List.length_replicate splice_self sgsD_len headsD_len Int.toNat_natCast List.length_append

def may (h : Head) : Prop := 0 ≤ h.size ∧ h.size ≤ 4096
instance (h : Head) : Decidable (may h) := by unfold may; infer_instance
theorem May_c {h : Head} (hK : K (.bool (decide (may h))) s) : ACalls prog γ 99 [.agg (headD h)] s K := by
  refine acalls_of_awp (by kernel_rfl) func99 rfl (by kernel_rfl) rfl rfl (by kernel_rfl) (Nat.le_of_ble_eq_true rfl) ?_
  refine rs ?_
  (refine aF ?_; intro b hb; (try (have h_hb := hb; simp only [set_none] at h_hb)))
  refine run ?_
  refine al_done ?_
  refine asc ?_; refine awp_rj (fun ρ' s' => s' = s.set b (.cells (headD h) 87) ∧ ρ' 2 = .bool (decide (may h))) ?_ ?_
  · intro K' hJ
    (repeat' (first | refine run1 ?_ | (refine al_guard rfl (by simp only [↓set_get, Nat.reduceEqDiff, Bool.false_eq_true, ↓reduceIte, aenv0, aenvS, aenvN, one_ne]; rfl) (fun hb => ?_) (fun hb => ?_) <;> (try simp only [ne_eq, Bool.not_eq_true, Bool.not_eq_false] at hb) <;> have hb2 := hb <;> (try simp only [decide_eq_true_eq, decide_eq_false_iff_not, beq_iff_eq, beq_eq_false_iff_ne, bne_iff_ne, ne_eq, Bool.not_eq_true', Bool.not_eq_false'] at hb2) <;> (try rw [hb]))))
    all_goals refine al_nil (hJ _ _ ⟨rfl, ?_⟩)
    all_goals simp only [↓set_get, Nat.reduceEqDiff, Bool.false_eq_true, ↓reduceIte, aenv0, aenvS, aenvN, one_ne]
    all_goals (first | exact bool_t (by unfold may; omega) | exact bool_f (by unfold may; omega) | exact bool_s (by unfold may; (first | rw [decide_eq_true_eq] | rw [beq_iff_eq] | rw [bne_iff_ne]); omega))
  rintro ρ2 _ ⟨rfl, g2⟩
  refine awp_ret (afin_ret (.forget s (le_fresh hb (St.le.refl _)) (.done ?_)))
  simp only [ares, aone, ↓set_get, Nat.reduceEqDiff, Bool.false_eq_true, ↓reduceIte, aenv0, aenvS, aenvN, one_ne, g2]
  exact hK

def h1B (h : Head) : List UInt8 := numB h.size.toNat ++ h.root
def hB (L : List Head) : List UInt8 := (L.map h1B).flatten
theorem hB_add (L : List Head) (x : Head) : hB (L ++ [x]) = hB L ++ h1B x := by simp [hB]
theorem h1B_len {h : Head} (hm : may h) : (h1B h).length ≤ 42 := by
  have l1 := length_numB (n := h.size.toNat) (by have := hm.2; omega)
  have l6 := h.hr
  rw [h1B, List.length_append]; omega
theorem hB_len {L : List Head} (h : ∀ x ∈ L, may x) : (hB L).length ≤ L.length * 42 := by
  induction L with
  | nil => simp [hB]
  | cons x L ih =>
    have h1 := h1B_len (h x (by simp))
    have h3 := ih (fun y hy => h y (by simp [hy]))
    have : hB (x :: L) = h1B x ++ hB L := by simp [hB]
    rw [this, List.length_append, List.length_cons]; omega
def GKOk (L : List Head) : Prop := L.length ≤ 64 ∧ ∀ x ∈ L, may x
instance (L : List Head) : Decidable (GKOk L) := by unfold GKOk; infer_instance
def gknown (L : List Head) : List UInt8 := 68 :: (numB L.length ++ hB L)
def dGK (L : List Head) : D := if GKOk L then .tup [.str (gknown L), .int .i64 0] else .tup [.str [], .int .i64 2]

theorem gPutKnown_c {L : List Head} {tk : Option (Nat × Nat)} (hL : L.length ≤ 100000) (hK : K (dGK L) s) : ACalls prog γ 61 [.sl L.length (headsD L) tk] s K := by
  have hml := headsD_len L
  have hn10 := length_numB (n := L.length) (by omega)
  refine acalls_of_awp (by kernel_rfl) func61 rfl (by kernel_rfl) rfl rfl (by kernel_rfl) (Nat.le_of_ble_eq_true rfl) ?_
  refine rs ?_
  refine run ?_
  refine al_done ?_
  refine rs ?_
  refine run ?_
  refine al_done ?_
  refine asc ?_; refine ai ?_ ?_
  · intro h
    have h : ¬ L.length ≤ 64 := by have := of_decide_eq_true h
                                   omega
    rw [dGK, if_neg (fun hh => h hh.1)] at hK
    refine rs ?_
    refine run ?_
    refine rets ?_
    exact hK
  intro h
  have h : L.length ≤ 64 := by have := of_decide_eq_false h
                               omega
  refine rs ?_
  (refine aF ?_; intro id hid; (try (have h_hid := hid; simp only [set_none] at h_hid)))
  refine al_done ?_
  have hb0 : Bld s id [] (s.set id (.cells [.nilp, .nil] 122)) := ⟨hid, .nilp, .inl rfl, .inl ⟨rfl, rfl⟩⟩
  refine rs ?_
  refine run ?_
  (refine al_set ?_ ?_ ?_ ?_; rotate_left 2; (· intro K hK; refine S1 ?_; refine Or.inl (Num_n (by omega) ?_); exact hK))
  refine run ?_
  (refine al_rel (fun d s' => d = .tup [.int .i64 (((68 :: numB L.length).length : Nat) : Int), .nili] ∧ (Bld s id (68 :: numB L.length)) s') ?_ ?_; (· intro K hK; refine S1 ?_; exact Or.inl (WriteString_c hb0 (by simp; omega) (fun s' h' => hK _ _ ⟨rfl, h'⟩))); rintro _ s1 ⟨rfl, hb1⟩)
  refine run ?_
  refine al_done ?_
  refine rs ?_
  refine run ?_
  refine al_done ?_
  refine asc ?_; refine awp_while (fun m ρ t => ∃ k : Nat, m = L.length - k ∧ k ≤ L.length ∧ (∀ x ∈ L.take k, may x) ∧ Bld s id (68 :: (numB L.length ++ hB (L.take k))) t ∧ ρ 4 = .ptr id 0 ∧ ρ 16 = .sl L.length (headsD L) tk ∧ ρ 17 = .int .i64 (L.length : Nat) ∧ ρ 18 = .int .i64 (k : Nat)) L.length ?_ ?_
  · refine ⟨0, rfl, by omega, fun x hx => by simp at hx, ?_, ?_, ?_, ?_, ?_⟩
    · simpa [hB] using hb1
    all_goals simp only [↓set_get, Nat.reduceEqDiff, Bool.false_eq_true, ↓reduceIte, aenv0, aenvS, aenvN, one_ne]
    rfl
  rintro m ρ t ⟨k, rfl, hk, hv, hbk, h4, h23, h24, h25⟩
  refine rs ?_
  refine runX (And.intro h24 h25) ?_
  refine al_done ?_
  refine asc ?_; refine ate ?_ ?_
  · intro hb2
    have hb2 : k < L.length := by have := of_decide_eq_true hb2
                                  omega
    have hat : ((headsD L).drop (k * 33)).take 33 = headD L[k] := rows_at headD_len L hb2
    have hgl := hB_len hv
    have htl : (L.take k).length = k := by rw [List.length_take]; omega
    refine asc ?_; refine awp_body ?_
    refine rs ?_
    refine runX (And.intro h23 (And.intro h25 hat)) ?_
    (refine aF ?_; intro y hy; (try (have h_hy := hy; simp only [set_none] at h_hy)))
    refine run ?_
    refine al_done ?_
    have hyt : t y = none := hy
    refine rs ?_
    refine run ?_
    (refine al_set ?_ ?_ ?_ ?_; rotate_left 2; (· intro K hK; refine S1 ?_; refine Or.inl (May_c ?_); exact hK))
    refine run ?_
    refine al_done ?_
    by_cases hvk : may L[k]
    · refine asc ?_; refine ai ?_ ?_
      · intro h; simp [hvk] at h
      intro _
      have hpl := h1B_len hvk
      have hm := hvk
      obtain ⟨hm1, hm2⟩ := hm
      have hbf := hbk.frame (o := .cells (headD L[k]) 87) hyt
      have hr := L[k].hr
      have l1 := length_numB (n := L[k].size.toNat) (by omega)
      rw [set_set]
      refine awp_draw1 [true, true, true, true, true, true, true, true, false] (by kernel_rfl) ?_
      refine runD ?_
      (refine pa_set ?_ ?_ ?_; rotate_left 1; (· intro K hK; refine S1 ?_; refine Or.inl (Num_c hm1 (by omega) ?_); exact hK))
      refine runD ?_
      (refine pa_set ?_ ?_ ?_; rotate_left 1; (· intro K hK; refine S1 ?_; refine Or.inl (Hash_c hr ?_); exact hK))
      refine runD ?_
      rw [show numB L[k].size.toNat ++ L[k].root = h1B L[k] from rfl]
      refine pa_nil ?_
      refine passes ?_
      (refine pt_rel (fun d s' => d = .tup [.int .i64 (((h1B L[k]).length : Nat) : Int), .nili] ∧ (Bld (s.set y (.cells (headD L[k]) 87)) id (68 :: (numB L.length ++ hB (L.take k)) ++ h1B L[k])) s') ?_ ?_; (· intro K hK; refine S1X h4 ?_; exact Or.inl (WriteString_c hbf (by simp only [List.length_cons, List.length_append]; omega) (fun s' h' => hK _ _ ⟨rfl, h'⟩))); rintro _ s2 ⟨rfl, hbn⟩)
      refine And.intro ?_ ?_
      (· (repeat' (first | exact seen_nil | refine seen_skip (by decide +kernel) ?_ | refine seen_cons ?_ ?_)))
      obtain ⟨s3, hle3, hb3⟩ := hbn.unframe (hbk.none hyt)
      refine pt_end ?_
      refine Rx.forget s3 hle3 (.done ?_)
      refine awp_region ?_
      refine runX h25 ?_
      refine al_nil ?_
      refine lq_next (L.length - (k + 1)) (by omega) ⟨k + 1, rfl, by omega, ?_, ?_, ?_, ?_, ?_, ?_⟩
      · intro x hx
        rw [List.take_succ_eq_append_getElem hb2, List.mem_append, List.mem_singleton] at hx
        rcases hx with hx | rfl
        · exact hv x hx
        · exact hvk
      · rw [List.take_succ_eq_append_getElem hb2, hB_add, ← List.append_assoc, ← List.cons_append]; exact hb3
      · simp only [↓set_get, Nat.reduceEqDiff, Bool.false_eq_true, ↓reduceIte, aenv0, aenvS, aenvN, one_ne, h4]
      · simp only [↓set_get, Nat.reduceEqDiff, Bool.false_eq_true, ↓reduceIte, aenv0, aenvS, aenvN, one_ne, h23]
      · simp only [↓set_get, Nat.reduceEqDiff, Bool.false_eq_true, ↓reduceIte, aenv0, aenvS, aenvN, one_ne, h24]
      · simp only [↓set_get, Nat.reduceEqDiff, Bool.false_eq_true, ↓reduceIte, aenv0, aenvS, aenvN, one_ne]; rfl
    · rw [dGK, if_neg (fun hh => hvk (hh.2 _ (List.getElem_mem hb2)))] at hK
      refine asc ?_; refine ai ?_ ?_
      · intro _
        refine rs ?_
        refine run ?_
        refine al_done (awp_ret (afin_ret (.forget s ?_ (.done ?_))))
        · rw [set_set]; exact hbk.le.trans (le_set _ hyt)
        simp only [ares, aone, ↓set_get, Nat.reduceEqDiff, Bool.false_eq_true, ↓reduceIte, aenv0, aenvS, aenvN, one_ne]
        exact hK
      · intro h; simp [hvk] at h
  · intro hb2
    have hb2 : k = L.length := by have := of_decide_eq_false hb2
                                  omega
    subst hb2
    rw [List.take_length] at hbk hv
    have hgl := hB_len hv
    rw [dGK, if_pos ⟨h, hv⟩] at hK
    refine lq_exit ?_
    refine rs ?_
    (refine al_rel (fun d s' => d = .str (gknown L) ∧ ((· = s)) s') ?_ ?_; (· intro K hK; refine S1X h4 ?_; exact Or.inl (String_r hbk (by simp) (by simp only [List.length_cons, List.length_append]; omega) (fun s' h' => hK _ _ ⟨rfl, h'⟩))); rintro _ s3 ⟨rfl, h3⟩)
    subst h3
    refine run ?_
    refine rets ?_
    exact hK
end Go.Proofs.Try

/- gossip: the reference's puts, walked. -/
set_option maxRecDepth 8000
set_option linter.unusedSimpArgs false
set_option linter.unusedVariables false
namespace Go.Proofs.Try
open Go Go.Av
set_option pp.maxSteps 900
attribute [local irreducible] alist awp adraw apure
attribute [local go_sem] cellsOf_int cellsOf_bool cellsOf_str cellsOf_nilp cellsOf_nil cellsOf_e0 cellsOf_sl cellsOf_osl cellsOf_ptr cellsOf_eptr cellsOf_fn cellsOf_agg okc_int okc_bool okc_str okc_nilp okc_nil okc_e0 okc_sl okc_osl okc_ptr okc_eptr okc_fn okc_agg and_assoc splice_0n splice_0c splice_s load_ptr load_eptr read_t read_f store_p cells_inj set_same exists_and_left List.length_cons List.length_nil List.drop_zero List.drop_succ_cons List.take_succ_cons List.take_zero Option.isSome_some
variable {γ : Gl} {σ s : St} {K : D → St → Prop}
attribute [local go_sem] headD_len headD_0 headD_a headD_r spl87 sgD_len sgD_0 sgD_33 sgD_34 sgD_35 sgD_a sgD_h sgD_r spl27 byt27 spl91 length_bytesD List.length_replicate splice_self sgsD_len headsD_len Int.toNat_natCast List.length_append

theorem rGPut_c {L : List SHead} {tk : Option (Nat × Nat)} (hL : L.length ≤ 1000) (hK : K (dGP L) s) : ACalls prog γ 60 [.sl L.length (sgsD L) tk] s K := by
  have hml := sgsD_len L
  have hn10 := length_numB (n := L.length) (by omega)
  refine acalls_of_awp (by kernel_rfl) func60 rfl (by kernel_rfl) rfl rfl (by kernel_rfl) (Nat.le_of_ble_eq_true rfl) ?_
  refine rs ?_
  refine run ?_
  refine al_done ?_
  refine asc ?_; refine awp_rj (fun ρ' s' => s' = s ∧ ρ' 0 = .sl L.length (sgsD L) tk ∧ ρ' 15 = .bool (decide (¬ (1 ≤ L.length ∧ L.length ≤ 3)))) ?_ ?_
  · intro K' hJ
    (repeat' (first | refine run1 ?_ | (refine al_guard rfl (by simp only [↓set_get, Nat.reduceEqDiff, Bool.false_eq_true, ↓reduceIte, aenv0, aenvS, aenvN, one_ne]; rfl) (fun hb => ?_) (fun hb => ?_) <;> (try simp only [ne_eq, Bool.not_eq_true, Bool.not_eq_false] at hb) <;> have hb2 := hb <;> (try simp only [decide_eq_true_eq, decide_eq_false_iff_not, beq_iff_eq, beq_eq_false_iff_ne, bne_iff_ne, ne_eq, Bool.not_eq_true', Bool.not_eq_false'] at hb2) <;> (try rw [hb]))))
    all_goals refine al_nil (hJ _ _ ⟨rfl, ?_, ?_⟩)
    all_goals simp only [↓set_get, Nat.reduceEqDiff, Bool.false_eq_true, ↓reduceIte, aenv0, aenvS, aenvN, one_ne]
    all_goals (first | exact bool_t (by omega) | exact bool_f (by omega) | exact bool_s (by (first | rw [decide_eq_true_eq] | rw [beq_iff_eq] | rw [bne_iff_ne]); omega))
  rintro ρ1 s ⟨rfl, g0, g16⟩
  refine asc ?_; refine aiX g16 ?_ ?_
  · intro h
    have h : ¬ (1 ≤ L.length ∧ L.length ≤ 3) := of_decide_eq_true h
    rw [dGP, if_neg (fun hh => h hh.1)] at hK
    refine rs ?_
    refine run ?_
    refine rets ?_
    exact hK
  intro h
  have h : 1 ≤ L.length ∧ L.length ≤ 3 := Decidable.not_not.1 (of_decide_eq_false h)
  refine rs ?_
  refine runX g0 ?_
  (refine al_set ?_ ?_ ?_ ?_; rotate_left 2; (· intro K hK; refine S1 ?_; refine Or.inl (rNum_n (by omega) ?_); exact hK))
  refine run ?_
  refine al_done ?_
  refine rs ?_
  refine run ?_
  refine al_done ?_
  refine asc ?_; refine awp_while (fun m ρ t => ∃ k : Nat, m = L.length - k ∧ k ≤ L.length ∧ (∀ x ∈ L.take k, valid x) ∧ t = s ∧ ρ 0 = .sl L.length (sgsD L) tk ∧ ρ 4 = .str (71 :: (numB L.length ++ gB (L.take k))) ∧ ρ 5 = .int .i64 (k : Nat)) L.length ?_ ?_
  · refine ⟨0, rfl, by omega, fun x hx => by simp at hx, rfl, ?_, ?_, ?_⟩
    · simp only [↓set_get, Nat.reduceEqDiff, Bool.false_eq_true, ↓reduceIte, aenv0, aenvS, aenvN, one_ne, g0]
    · simp only [↓set_get, Nat.reduceEqDiff, Bool.false_eq_true, ↓reduceIte, aenv0, aenvS, aenvN, one_ne]; simp [gB]
    · simp only [↓set_get, Nat.reduceEqDiff, Bool.false_eq_true, ↓reduceIte, aenv0, aenvS, aenvN, one_ne]; rfl
  rintro m ρ s ⟨k, rfl, hk, hv, rfl, h0, h4, h5⟩
  have hgl := gB_len hv
  have htl : (L.take k).length = k := by rw [List.length_take]; omega
  refine rs ?_
  refine runX (And.intro h0 h5) ?_
  refine al_done ?_
  refine asc ?_; refine ate ?_ ?_
  · intro hb2
    have hb2 : k < L.length := by have := of_decide_eq_true hb2
                                  omega
    have hat : ((sgsD L).drop (k * 36)).take 36 = sgD L[k] := rows_at sgD_len L hb2
    refine asc ?_; refine awp_body ?_
    refine rs ?_
    refine runX (And.intro h0 (And.intro h5 hat)) ?_
    (refine al_set ?_ ?_ ?_ ?_; rotate_left 2; (· intro K hK; refine S1 ?_; refine Or.inl (rPut_c ?_); exact hK))
    rw [dPut_q]
    refine run ?_
    refine al_done ?_
    refine rs ?_
    refine run ?_
    refine al_done ?_
    by_cases hvk : valid L[k]
    · rw [pS, pE, if_pos hvk, if_pos hvk]
      refine asc ?_; refine ai ?_ ?_
      · intro h; cases h
      intro _
      have hpl := putB_len hvk
      have htx := textB_len (t := putB L[k]) (by omega)
      refine awp_region ?_
      refine runX h4 ?_
      (refine al_set ?_ ?_ ?_ ?_; rotate_left 2; (· intro K hK; refine S1 ?_; refine Or.inl (rText_c (by omega) ?_); exact hK))
      rw [← textB]
      (repeat (first | (refine al_set ?_ ?_ ?_ ?_; rotate_left 2; (· intro K hK; simp (disch := omega) only [go_sem, ↓set_get, ↓reduceIte, ↓o_bsl, ↓o_build, Nat.reduceEqDiff, Nat.reduceAdd, Nat.reduceMul, Int.reduceEq, Int.reduceNe, set_other, del_other, List.length_cons]; (repeat' (first | exact hK | (refine And.intro ?_ ?_) | assumption | omega)))) | (refine al_guard (b := true) rfl ?_ (fun _ => ?_) (fun h => absurd rfl h); · simp only [↓set_get, Nat.reduceEqDiff, Bool.false_eq_true, ↓reduceIte, aenv0, aenvS, aenvN, one_ne, List.length_cons]; done) | (refine al_guard (b := false) rfl ?_ (fun _ => ?_) (fun h => absurd rfl h); · simp only [↓set_get, Nat.reduceEqDiff, Bool.false_eq_true, ↓reduceIte, aenv0, aenvS, aenvN, one_ne, List.length_cons]; done) | (refine al_guard (b := true) rfl ?_ (fun h => Bool.noConfusion h) (fun _ => ?_); · simp only [↓set_get, Nat.reduceEqDiff, Bool.false_eq_true, ↓reduceIte, aenv0, aenvS, aenvN, one_ne, List.length_cons]; done) | (refine al_guard (b := false) rfl ?_ (fun h => Bool.noConfusion h) (fun _ => ?_); · simp only [↓set_get, Nat.reduceEqDiff, Bool.false_eq_true, ↓reduceIte, aenv0, aenvS, aenvN, one_ne, List.length_cons]; done) | (refine al_guard0 rfl ?_ ?_; · simp only [↓set_get, Nat.reduceEqDiff, Bool.false_eq_true, ↓reduceIte, aenv0, aenvS, aenvN, one_ne, List.length_cons]; done) | (refine al_none ?_ ?_ ?_ ?_; rotate_left 2; (· intro K hK; simp (disch := omega) only [go_sem, ↓set_get, ↓reduceIte, ↓o_bsl, ↓o_build, Nat.reduceEqDiff, Nat.reduceAdd, Nat.reduceMul, Int.reduceEq, Int.reduceNe, set_other, del_other, List.length_cons]; (repeat' (first | exact hK | (refine And.intro ?_ ?_) | assumption | omega))))))
      refine al_nil (.done ?_)
      refine awp_region ?_
      refine runX h5 ?_
      refine al_nil ?_
      refine lq_next (L.length - (k + 1)) (by omega) ⟨k + 1, rfl, by omega, ?_, rfl, ?_, ?_, ?_⟩
      · intro x hx
        rw [List.take_succ_eq_append_getElem hb2, List.mem_append, List.mem_singleton] at hx
        rcases hx with hx | rfl
        · exact hv x hx
        · exact hvk
      · simp only [↓set_get, Nat.reduceEqDiff, Bool.false_eq_true, ↓reduceIte, aenv0, aenvS, aenvN, one_ne, h0]
      · simp only [↓set_get, Nat.reduceEqDiff, Bool.false_eq_true, ↓reduceIte, aenv0, aenvS, aenvN, one_ne]; rw [List.take_succ_eq_append_getElem hb2, gB_add, ← List.append_assoc, ← List.cons_append]
      · simp only [↓set_get, Nat.reduceEqDiff, Bool.false_eq_true, ↓reduceIte, aenv0, aenvS, aenvN, one_ne]; rfl
    · rw [pS, pE, if_neg hvk, if_neg hvk]
      rw [dGP, if_neg (fun hh => hvk (hh.2 _ (List.getElem_mem hb2)))] at hK
      refine asc ?_; refine ai ?_ ?_
      · intro _
        refine rs ?_
        refine run ?_
        refine rets ?_
        exact hK
      · intro h; cases h
  · intro hb2
    have hb2 : k = L.length := by have := of_decide_eq_false hb2
                                  omega
    subst hb2
    rw [List.take_length] at h4 hv
    rw [dGP, if_pos ⟨h, hv⟩] at hK
    refine lq_exit ?_
    refine rs ?_
    refine runX h4 ?_
    refine rets ?_
    exact hK

theorem rows_root (L : List Head) {k : Nat} (h : k < L.length) : ((headsD L).drop (k * 33 + 1)).take 32 = bytesD L[k].root := by
  have e := rows_at headD_len L h
  have : ((headsD L).drop (k * 33 + 1)).take 32 = ((((headsD L).drop (k * 33)).take 33).drop 1).take 32 := by
    rw [List.drop_take, List.drop_drop, List.take_take]; rfl
  rw [this]
  rw [show ((headsD L).drop (k * 33)).take 33 = headD L[k] from e]
  exact headD_r _
theorem rGPutKnown_c {L : List Head} {tk : Option (Nat × Nat)} (hL : L.length ≤ 100000) (hK : K (dGK L) s) : ACalls prog γ 62 [.sl L.length (headsD L) tk] s K := by
  have hml := headsD_len L
  have hn10 := length_numB (n := L.length) (by omega)
  refine acalls_of_awp (by kernel_rfl) func62 rfl (by kernel_rfl) rfl rfl (by kernel_rfl) (Nat.le_of_ble_eq_true rfl) ?_
  refine rs ?_
  refine run ?_
  refine al_done ?_
  refine rs ?_
  refine run ?_
  refine al_done ?_
  refine asc ?_; refine ai ?_ ?_
  · intro h
    have h : ¬ L.length ≤ 64 := by have := of_decide_eq_true h
                                   omega
    rw [dGK, if_neg (fun hh => h hh.1)] at hK
    refine rs ?_
    refine run ?_
    refine rets ?_
    exact hK
  intro h
  have h : L.length ≤ 64 := by have := of_decide_eq_false h
                               omega
  refine rs ?_
  refine run ?_
  (refine al_set ?_ ?_ ?_ ?_; rotate_left 2; (· intro K hK; refine S1 ?_; refine Or.inl (rNum_n (by omega) ?_); exact hK))
  refine run ?_
  refine al_done ?_
  refine rs ?_
  refine run ?_
  refine al_done ?_
  refine asc ?_; refine awp_while (fun m ρ t => ∃ k : Nat, m = L.length - k ∧ k ≤ L.length ∧ (∀ x ∈ L.take k, may x) ∧ t = s ∧ ρ 0 = .sl L.length (headsD L) tk ∧ ρ 4 = .str (68 :: (numB L.length ++ hB (L.take k))) ∧ ρ 5 = .int .i64 (k : Nat)) L.length ?_ ?_
  · refine ⟨0, rfl, by omega, fun x hx => by simp at hx, rfl, ?_, ?_, ?_⟩
    · simp only [↓set_get, Nat.reduceEqDiff, Bool.false_eq_true, ↓reduceIte, aenv0, aenvS, aenvN, one_ne]
    · simp only [↓set_get, Nat.reduceEqDiff, Bool.false_eq_true, ↓reduceIte, aenv0, aenvS, aenvN, one_ne]; simp [hB]
    · simp only [↓set_get, Nat.reduceEqDiff, Bool.false_eq_true, ↓reduceIte, aenv0, aenvS, aenvN, one_ne]; rfl
  rintro m ρ s ⟨k, rfl, hk, hv, rfl, h0, h4, h5⟩
  have hgl := hB_len hv
  have htl : (L.take k).length = k := by rw [List.length_take]; omega
  refine rs ?_
  refine runX (And.intro h0 h5) ?_
  refine al_done ?_
  refine asc ?_; refine ate ?_ ?_
  · intro hb2
    have hb2 : k < L.length := by have := of_decide_eq_true hb2
                                  omega
    have hat : (headsD L)[k * 33]? = some (.int .i64 L[k].size) := (rows_cell headD_len L (o := 0) hb2 (by decide)).trans (headD_0 _)
    have hrt : ((headsD L).drop (k * 33 + 1)).take 32 = bytesD L[k].root := rows_root L hb2
    refine asc ?_; refine awp_body ?_
    refine asc ?_; refine awp_rj (fun ρ' s' => s' = s ∧ ρ' 0 = .sl L.length (headsD L) tk ∧ ρ' 4 = .str (68 :: (numB L.length ++ hB (L.take k))) ∧ ρ' 5 = .int .i64 (k : Nat) ∧ ρ' 33 = .bool (decide (¬ may L[k]))) ?_ ?_
    · intro K' hJ
      (repeat' (first | refine run1X (And.intro h0 (And.intro h5 hat)) ?_ | (refine al_guard rfl (by simp only [↓set_get, Nat.reduceEqDiff, Bool.false_eq_true, ↓reduceIte, aenv0, aenvS, aenvN, one_ne, h0, h5, hat]; rfl) (fun hb => ?_) (fun hb => ?_) <;> (try simp only [ne_eq, Bool.not_eq_true, Bool.not_eq_false] at hb) <;> have hb2 := hb <;> (try simp only [decide_eq_true_eq, decide_eq_false_iff_not, beq_iff_eq, beq_eq_false_iff_ne, bne_iff_ne, ne_eq, Bool.not_eq_true', Bool.not_eq_false'] at hb2) <;> (try rw [hb]))))
      all_goals refine al_nil (hJ _ _ ⟨rfl, ?_, ?_, ?_, ?_⟩)
      all_goals simp only [↓set_get, Nat.reduceEqDiff, Bool.false_eq_true, ↓reduceIte, aenv0, aenvS, aenvN, one_ne, h0, h4, h5]
      all_goals (first | exact bool_t (by unfold may; omega) | exact bool_f (by unfold may; omega) | exact bool_s (by unfold may; (first | rw [decide_eq_true_eq] | rw [beq_iff_eq] | rw [bne_iff_ne]); omega))
    rintro ρ1 s ⟨rfl, h0, h4, h5, h33⟩
    by_cases hvk : may L[k]
    · refine asc ?_; refine aiX h33 ?_ ?_
      · intro h; simp [hvk] at h
      intro _
      have hpl := h1B_len hvk
      have hm := hvk
      obtain ⟨hm1, hm2⟩ := hm
      have hr := L[k].hr
      have l1 := length_numB (n := L[k].size.toNat) (by omega)
      refine awp_draw1 [true, true, true, true, true, true, true, true, true, true, true, true, true, true, true, true, true] (by kernel_rfl) ?_
      refine runDX (And.intro h0 (And.intro h4 (And.intro h5 hat))) ?_
      (refine pa_set ?_ ?_ ?_; rotate_left 1; (· intro K hK; refine S1 ?_; refine Or.inl (rNum_c hm1 (by omega) ?_); exact hK))
      (repeat (first | (refine pa_skip ?_) | (refine pa_set ?_ ?_ ?_; rotate_left 1; (· intro K hK; simp (disch := omega) only [go_sem, ↓set_get, ↓reduceIte, ↓o_bsl, ↓o_build, Nat.reduceEqDiff, Nat.reduceAdd, Nat.reduceMul, Int.reduceEq, Int.reduceNe, set_other, del_other, h0, h4, h5, hrt, List.length_cons]; (repeat' (first | exact hK | (refine And.intro ?_ ?_) | assumption | omega)))) | (refine pa_guard (b := true) rfl ?_ (fun _ => ?_) (fun h => absurd rfl h); · simp only [↓set_get, Nat.reduceEqDiff, Bool.false_eq_true, ↓reduceIte, aenv0, aenvS, aenvN, one_ne, h0, h4, h5, hrt, List.length_cons]; done) | (refine pa_guard (b := false) rfl ?_ (fun _ => ?_) (fun h => absurd rfl h); · simp only [↓set_get, Nat.reduceEqDiff, Bool.false_eq_true, ↓reduceIte, aenv0, aenvS, aenvN, one_ne, h0, h4, h5, hrt, List.length_cons]; done) | (refine pa_guard (b := true) rfl ?_ (fun h => Bool.noConfusion h) (fun _ => ?_); · simp only [↓set_get, Nat.reduceEqDiff, Bool.false_eq_true, ↓reduceIte, aenv0, aenvS, aenvN, one_ne, h0, h4, h5, hrt, List.length_cons]; done) | (refine pa_guard (b := false) rfl ?_ (fun h => Bool.noConfusion h) (fun _ => ?_); · simp only [↓set_get, Nat.reduceEqDiff, Bool.false_eq_true, ↓reduceIte, aenv0, aenvS, aenvN, one_ne, h0, h4, h5, hrt, List.length_cons]; done) | (refine pa_guard0 rfl ?_ ?_; · simp only [↓set_get, Nat.reduceEqDiff, Bool.false_eq_true, ↓reduceIte, aenv0, aenvS, aenvN, one_ne, h0, h4, h5, hrt, List.length_cons]; done)))
      (refine pa_set ?_ ?_ ?_; rotate_left 1; (· intro K hK; refine S1 ?_; refine Or.inl (rHash_c hr ?_); exact hK))
      (repeat (first | (refine pa_skip ?_) | (refine pa_set ?_ ?_ ?_; rotate_left 1; (· intro K hK; simp (disch := omega) only [go_sem, ↓set_get, ↓reduceIte, ↓o_bsl, ↓o_build, Nat.reduceEqDiff, Nat.reduceAdd, Nat.reduceMul, Int.reduceEq, Int.reduceNe, set_other, del_other, h0, h4, h5, hrt, List.length_cons]; (repeat' (first | exact hK | (refine And.intro ?_ ?_) | assumption | omega)))) | (refine pa_guard (b := true) rfl ?_ (fun _ => ?_) (fun h => absurd rfl h); · simp only [↓set_get, Nat.reduceEqDiff, Bool.false_eq_true, ↓reduceIte, aenv0, aenvS, aenvN, one_ne, h0, h4, h5, hrt, List.length_cons]; done) | (refine pa_guard (b := false) rfl ?_ (fun _ => ?_) (fun h => absurd rfl h); · simp only [↓set_get, Nat.reduceEqDiff, Bool.false_eq_true, ↓reduceIte, aenv0, aenvS, aenvN, one_ne, h0, h4, h5, hrt, List.length_cons]; done) | (refine pa_guard (b := true) rfl ?_ (fun h => Bool.noConfusion h) (fun _ => ?_); · simp only [↓set_get, Nat.reduceEqDiff, Bool.false_eq_true, ↓reduceIte, aenv0, aenvS, aenvN, one_ne, h0, h4, h5, hrt, List.length_cons]; done) | (refine pa_guard (b := false) rfl ?_ (fun h => Bool.noConfusion h) (fun _ => ?_); · simp only [↓set_get, Nat.reduceEqDiff, Bool.false_eq_true, ↓reduceIte, aenv0, aenvS, aenvN, one_ne, h0, h4, h5, hrt, List.length_cons]; done) | (refine pa_guard0 rfl ?_ ?_; · simp only [↓set_get, Nat.reduceEqDiff, Bool.false_eq_true, ↓reduceIte, aenv0, aenvS, aenvN, one_ne, h0, h4, h5, hrt, List.length_cons]; done)))
      refine pa_nil ?_
      refine passes ?_
      refine pt_end (.done ?_)
      refine awp_region ?_
      refine runX h5 ?_
      refine al_nil ?_
      refine lq_next (L.length - (k + 1)) (by omega) ⟨k + 1, rfl, by omega, ?_, rfl, ?_, ?_, ?_⟩
      · intro x hx
        rw [List.take_succ_eq_append_getElem hb2, List.mem_append, List.mem_singleton] at hx
        rcases hx with hx | rfl
        · exact hv x hx
        · exact hvk
      · simp only [↓set_get, Nat.reduceEqDiff, Bool.false_eq_true, ↓reduceIte, aenv0, aenvS, aenvN, one_ne, h0]
      · simp only [↓set_get, Nat.reduceEqDiff, Bool.false_eq_true, ↓reduceIte, aenv0, aenvS, aenvN, one_ne]; rw [List.take_succ_eq_append_getElem hb2, hB_add, h1B]; simp only [List.cons_append, List.append_assoc]
      · simp only [↓set_get, Nat.reduceEqDiff, Bool.false_eq_true, ↓reduceIte, aenv0, aenvS, aenvN, one_ne]; rfl
    · rw [dGK, if_neg (fun hh => hvk (hh.2 _ (List.getElem_mem hb2)))] at hK
      refine asc ?_; refine aiX h33 ?_ ?_
      · intro _
        refine rs ?_
        refine run ?_
        refine rets ?_
        exact hK
      · intro h; simp [hvk] at h
  · intro hb2
    have hb2 : k = L.length := by have := of_decide_eq_false hb2
                                  omega
    subst hb2
    rw [List.take_length] at h4 hv
    rw [dGK, if_pos ⟨h, hv⟩] at hK
    refine lq_exit ?_
    refine rs ?_
    refine runX h4 ?_
    refine rets ?_
    exact hK
end Go.Proofs.Try

/- Rough heads: as cells; too great; the signed ones. -/
set_option maxRecDepth 8000
set_option linter.unusedSimpArgs false
set_option linter.unusedVariables false
namespace Go.Proofs.Try
open Go Go.Av
set_option pp.maxSteps 900
attribute [local irreducible] alist awp adraw apure
attribute [local go_sem] cellsOf_int cellsOf_bool cellsOf_str cellsOf_nilp cellsOf_nil cellsOf_e0 cellsOf_sl cellsOf_osl cellsOf_ptr cellsOf_eptr cellsOf_fn cellsOf_agg okc_int okc_bool okc_str okc_nilp okc_nil okc_e0 okc_sl okc_osl okc_ptr okc_eptr okc_fn okc_agg and_assoc splice_0n splice_0c splice_s load_ptr load_eptr read_t read_f store_p cells_inj set_same exists_and_left List.length_cons List.length_nil List.drop_zero List.drop_succ_cons List.take_succ_cons List.take_zero Option.isSome_some
variable {γ : Gl} {σ s : St} {K : D → St → Prop}

structure Ro where
  head : Head
  index : Int
  sig : List UInt8
  more : Int
  path : List (List UInt8)
  hp : All32 path
  m0 : -128 ≤ more
  m1 : more ≤ 127
def tailD (x : Ro) : List D := [.int .i64 x.index, .str x.sig, .int .i8 x.more, pathD x.path]
def roD (x : Ro) : List D := headD x.head ++ tailD x
theorem roD_len (x : Ro) : (roD x).length = 37 := by simp [roD, headD_len, tailD]
theorem roD_at (x : Ro) (k : Nat) : (roD x)[33 + k]? = (tailD x)[k]? := by
  rw [roD, List.getElem?_append_right (by rw [headD_len]; omega), headD_len, Nat.add_sub_cancel_left]
theorem roD_33 (x : Ro) : (roD x)[33]? = some (.int .i64 x.index) := roD_at x 0
theorem roD_34 (x : Ro) : (roD x)[34]? = some (.str x.sig) := roD_at x 1
theorem roD_35 (x : Ro) : (roD x)[35]? = some (.int .i8 x.more) := roD_at x 2
theorem roD_36 (x : Ro) : (roD x)[36]? = some (pathD x.path) := roD_at x 3
theorem roD_h (x : Ro) : (roD x).take 33 = headD x.head := List.take_left' (headD_len _)
theorem roD_a (x : Ro) : (roD x).take 37 = roD x := List.take_of_length_le (by rw [roD_len]; exact Nat.le_refl _)
def rosD (l : List Ro) : List D := rowsD roD l
theorem rosD_len (l : List Ro) : (rosD l).length = l.length * 37 := rows_len roD_len l
attribute [local go_sem] roD_len roD_33 roD_34 roD_35 roD_36 roD_h roD_a headD_len headD_0 headD_a headD_r spl87 sgD_len sgD_0 sgD_33 sgD_34 sgD_35 sgD_a sgD_h sgD_r spl27 byt27 spl91 length_bytesD List.length_replicate splice_self sgsD_len headsD_len Int.toNat_natCast List.length_append

def greatR (x : Ro) : Prop := 300 < x.sig.length ∨ 40 < x.path.length
instance (x : Ro) : Decidable (greatR x) := by unfold greatR; infer_instance
theorem Great_c {x : Ro} (hs : x.sig.length ≤ 9223372036854775807) (hK : K (.bool (decide (greatR x))) s) : ACalls prog γ 94 [.agg (roD x)] s K := by
  refine acalls_of_awp (by kernel_rfl) func94 rfl (by kernel_rfl) rfl rfl (by kernel_rfl) (Nat.le_of_ble_eq_true rfl) ?_
  refine rs ?_
  (refine aF ?_; intro b hb; (try (have h_hb := hb; simp only [set_none] at h_hb)))
  refine run ?_
  refine al_done ?_
  refine asc ?_; refine awp_rj (fun ρ' s' => s' = s.set b (.cells (roD x) 134) ∧ ρ' 2 = .bool (decide (greatR x))) ?_ ?_
  · intro K' hJ
    (repeat' (first | (refine al_set ?_ ?_ ?_ ?_; rotate_left 2; (· intro K hK; simp (disch := omega) only [go_sem, ↓set_get, ↓reduceIte, ↓o_bsl, ↓o_build, Nat.reduceEqDiff, Nat.reduceAdd, Nat.reduceMul, Int.reduceEq, Int.reduceNe, set_other, del_other, pathD]; (repeat' (first | exact hK | (refine And.intro ?_ ?_) | assumption | omega)))) | (refine al_guard (b := true) rfl ?_ (fun _ => ?_) (fun h => absurd rfl h); · simp only [↓set_get, Nat.reduceEqDiff, Bool.false_eq_true, ↓reduceIte, aenv0, aenvS, aenvN, one_ne, pathD]; done) | (refine al_guard (b := false) rfl ?_ (fun _ => ?_) (fun h => absurd rfl h); · simp only [↓set_get, Nat.reduceEqDiff, Bool.false_eq_true, ↓reduceIte, aenv0, aenvS, aenvN, one_ne, pathD]; done) | (refine al_guard (b := true) rfl ?_ (fun h => Bool.noConfusion h) (fun _ => ?_); · simp only [↓set_get, Nat.reduceEqDiff, Bool.false_eq_true, ↓reduceIte, aenv0, aenvS, aenvN, one_ne, pathD]; done) | (refine al_guard (b := false) rfl ?_ (fun h => Bool.noConfusion h) (fun _ => ?_); · simp only [↓set_get, Nat.reduceEqDiff, Bool.false_eq_true, ↓reduceIte, aenv0, aenvS, aenvN, one_ne, pathD]; done) | (refine al_guard0 rfl ?_ ?_; · simp only [↓set_get, Nat.reduceEqDiff, Bool.false_eq_true, ↓reduceIte, aenv0, aenvS, aenvN, one_ne, pathD]; done) | (refine al_none ?_ ?_ ?_ ?_; rotate_left 2; (· intro K hK; simp (disch := omega) only [go_sem, ↓set_get, ↓reduceIte, ↓o_bsl, ↓o_build, Nat.reduceEqDiff, Nat.reduceAdd, Nat.reduceMul, Int.reduceEq, Int.reduceNe, set_other, del_other, pathD]; (repeat' (first | exact hK | (refine And.intro ?_ ?_) | assumption | omega)))) | (refine al_guard rfl (by simp only [↓set_get, Nat.reduceEqDiff, Bool.false_eq_true, ↓reduceIte, aenv0, aenvS, aenvN, one_ne, pathD]; rfl) (fun hb => ?_) (fun hb => ?_) <;> (try simp only [ne_eq, Bool.not_eq_true, Bool.not_eq_false] at hb) <;> have hb2 := hb <;> (try simp only [decide_eq_true_eq, decide_eq_false_iff_not, beq_iff_eq, beq_eq_false_iff_ne, bne_iff_ne, ne_eq, Bool.not_eq_true', Bool.not_eq_false'] at hb2) <;> (try rw [hb]))))
    all_goals refine al_nil (hJ _ _ ⟨rfl, ?_⟩)
    all_goals simp only [↓set_get, Nat.reduceEqDiff, Bool.false_eq_true, ↓reduceIte, aenv0, aenvS, aenvN, one_ne]
    all_goals (first | exact bool_t (by unfold greatR; omega) | exact bool_f (by unfold greatR; omega) | exact bool_s (by unfold greatR; (first | rw [decide_eq_true_eq] | rw [beq_iff_eq] | rw [bne_iff_ne]); omega))
  rintro ρ2 _ ⟨rfl, g2⟩
  refine awp_ret (afin_ret (.forget s (le_fresh hb (St.le.refl _)) (.done ?_)))
  simp only [ares, aone, ↓set_get, Nat.reduceEqDiff, Bool.false_eq_true, ↓reduceIte, aenv0, aenvS, aenvN, one_ne, g2]
  exact hK

def rep (t : List UInt8) (k : Nat) : List UInt8 := (List.replicate k t).flatten
theorem rep_len (t : List UInt8) (k : Nat) : (rep t k).length = k * t.length := by simp [rep]
theorem rep_succ (t : List UInt8) (k : Nat) : rep t (k + 1) = rep t k ++ t := by simp [rep, List.replicate_succ']
theorem rep_add (t : List UInt8) (k j : Nat) : rep t (k + j) = rep t k ++ rep t j := by
  rw [rep, ← List.replicate_append_replicate, List.flatten_append]; rfl
theorem rep_take {t : List UInt8} {k n : Nat} (h : n ≤ k * t.length) (hk : k ≤ n) : (rep t k).take n = (rep t n).take n := by
  obtain ⟨j, rfl⟩ := Nat.le.dest hk
  rw [rep_add, List.take_append_of_le_length (by rw [rep_len]; exact h)]
def sgn (x : Ro) : Nat := (16384 + x.more).toNat
def signedO (x : Ro) : SHead where
  head := x.head
  index := x.index
  sig := (rep x.sig (sgn x)).take (sgn x)
  path := x.path
  hp := x.hp

theorem Signed_c {x : Ro} (hs : x.sig.length ≤ 300) (hK : K (.agg (sgD (signedO x))) s) : ACalls prog γ 95 [.agg (roD x)] s K := by
  have m0 := x.m0
  have m1 := x.m1
  have hN : ((sgn x : Nat) : Int) = 16384 + x.more := by unfold sgn; omega
  refine acalls_of_awp (by kernel_rfl) func95 rfl (by kernel_rfl) rfl rfl (by kernel_rfl) (Nat.le_of_ble_eq_true rfl) ?_
  refine rs ?_
  (refine aF ?_; intro b hb; (try (have h_hb := hb; simp only [set_none] at h_hb)))
  refine run ?_
  (refine aF ?_; intro c hc; (try (have h_hc := hc; simp only [set_none] at h_hc)))
  refine al_done ?_
  refine rs ?_
  refine run ?_
  refine al_done ?_
  refine rs ?_
  refine run ?_
  refine al_done ?_
  have hcb : c ≠ b := (set_none.1 hc).1
  refine asc ?_; refine awp_while (fun m ρ t => ∃ k : Nat, m = sgn x - k ∧ k ≤ sgn x ∧ t = (s.set b (.cells (roD x) 134)).set c (.cells (D.int .i64 0 :: (List.replicate 32 (.int .u8 0) ++ [.int .i64 0, .str [], .nil])) 91) ∧ ρ 1 = .ptr b 0 ∧ ρ 2 = .ptr c 0 ∧ ρ 3 = .int .i64 (16384 + x.more) ∧ ρ 4 = .str (rep x.sig k)) (sgn x) ?_ ?_
  · refine ⟨0, rfl, Nat.zero_le _, rfl, ?_, ?_, ?_, ?_⟩
    all_goals simp only [↓set_get, Nat.reduceEqDiff, Bool.false_eq_true, ↓reduceIte, aenv0, aenvS, aenvN, one_ne]
    rfl
  rintro m ρ _ ⟨k, rfl, hk, rfl, h1, h2, h3, h4⟩
  have hvl := rep_len x.sig k
  generalize hv : rep x.sig k = v at *
  refine asc ?_; refine awp_rj (fun ρ' s' => s' = (s.set b (.cells (roD x) 134)).set c (.cells (D.int .i64 0 :: (List.replicate 32 (.int .u8 0) ++ [.int .i64 0, .str [], .nil])) 91) ∧ ρ' 1 = .ptr b 0 ∧ ρ' 2 = .ptr c 0 ∧ ρ' 3 = .int .i64 (16384 + x.more) ∧ ρ' 4 = .str v ∧ ρ' 18 = .bool (decide (0 < x.sig.length ∧ v.length < sgn x))) ?_ ?_
  · intro K' hJ
    (repeat' (first | refine run1X (And.intro h1 (And.intro h2 (And.intro h3 h4))) ?_ | (refine al_guard rfl (by simp only [↓set_get, Nat.reduceEqDiff, Bool.false_eq_true, ↓reduceIte, aenv0, aenvS, aenvN, one_ne, h1, h2, h3, h4]; rfl) (fun hb => ?_) (fun hb => ?_) <;> (try simp only [ne_eq, Bool.not_eq_true, Bool.not_eq_false] at hb) <;> have hb2 := hb <;> (try simp only [decide_eq_true_eq, decide_eq_false_iff_not, beq_iff_eq, beq_eq_false_iff_ne, bne_iff_ne, ne_eq, Bool.not_eq_true', Bool.not_eq_false'] at hb2) <;> (try rw [hb]))))
    all_goals refine al_nil (hJ _ _ ⟨rfl, ?_, ?_, ?_, ?_, ?_⟩)
    all_goals simp only [↓set_get, Nat.reduceEqDiff, Bool.false_eq_true, ↓reduceIte, aenv0, aenvS, aenvN, one_ne, h1, h2, h3, h4]
    all_goals (first | exact bool_t (by omega) | exact bool_f (by omega) | exact bool_s (by (first | rw [decide_eq_true_eq] | rw [beq_iff_eq] | rw [bne_iff_ne]); omega))
  rintro ρ1 _ ⟨rfl, h1, h2, h3, h4, h18⟩
  refine asc ?_; refine ateX h18 ?_ ?_
  · intro hb2
    have hb2 : 0 < x.sig.length ∧ v.length < sgn x := of_decide_eq_true hb2
    have hkl : k ≤ k * x.sig.length := Nat.le_mul_of_pos_right _ hb2.1
    refine awp_block (awp_region ?_)
    refine runX (And.intro h1 h4) ?_
    refine al_nil ?_
    refine Rx.done ⟨sgn x - (k + 1), by omega, k + 1, rfl, by omega, rfl, ?_, ?_, ?_, ?_⟩
    · simp only [↓set_get, Nat.reduceEqDiff, Bool.false_eq_true, ↓reduceIte, aenv0, aenvS, aenvN, one_ne, h1]
    · simp only [↓set_get, Nat.reduceEqDiff, Bool.false_eq_true, ↓reduceIte, aenv0, aenvS, aenvN, one_ne, h2]
    · simp only [↓set_get, Nat.reduceEqDiff, Bool.false_eq_true, ↓reduceIte, aenv0, aenvS, aenvN, one_ne, h3]
    · simp only [↓set_get, Nat.reduceEqDiff, Bool.false_eq_true, ↓reduceIte, aenv0, aenvS, aenvN, one_ne]; rw [rep_succ, hv]
  · intro hb2
    have hb2 : ¬ (0 < x.sig.length ∧ v.length < sgn x) := of_decide_eq_false hb2
    have hsv : v.take (min v.length (sgn x)) = (signedO x).sig := by
      show _ = (rep x.sig (sgn x)).take (sgn x)
      by_cases h0 : 0 < x.sig.length
      · rw [Nat.min_eq_right (by omega), ← hv]
        exact rep_take (by rw [← hvl]; omega) hk
      · have hz : x.sig.length = 0 := by omega
        have e1 : v = [] := List.eq_nil_of_length_eq_zero (by rw [hvl, hz, Nat.mul_zero])
        have e2 : rep x.sig (sgn x) = [] := List.eq_nil_of_length_eq_zero (by rw [rep_len, hz, Nat.mul_zero])
        rw [e1, e2]; simp
    refine lq_exit ?_
    refine asc ?_; refine awp_draw [true, true, true, true, true, true, true, true, true, true, true, true, true, true, false] (by kernel_rfl) ?_
    refine runDX (And.intro h1 (And.intro h2 (And.intro h3 h4))) ?_
    (refine pa_set ?_ ?_ ?_; rotate_left 1; (· intro K hK; refine S1 ?_; refine slice_str isStr9 (l := 0) (h := min v.length (sgn x)) rfl (bound_at (by split <;> omega) (by split <;> omega)) (Nat.zero_le _) (Nat.min_le_left _ _) ?_; exact hK))
    rw [List.drop_zero, hsv]
    refine runDX (And.intro h1 (And.intro h2 (And.intro h3 h4))) ?_
    (refine pa_set ?_ ?_ ?_; rotate_left 1; (· intro K hK; refine S1 ?_; refine build89 ?_; exact hK))
    (refine pa_set ?_ ?_ ?_; rotate_left 1; (· intro K hK; refine S1 ?_; refine build91 (x := signedO x) ?_; exact hK))
    refine runD ?_
    refine pa_nil ?_
    
    (repeat (first | (refine pt_skip ?_) | (refine pt_set ?_ ?_ ?_ ?_ ?_; rotate_left 2; (· intro K hK; simp (disch := omega) only [go_sem, ↓set_get, ↓reduceIte, ↓o_bsl, ↓o_build, Nat.reduceEqDiff, Nat.reduceAdd, Nat.reduceMul, Int.reduceEq, Int.reduceNe, set_other, del_other, h2]; (repeat' (first | exact hK | (refine And.intro ?_ ?_) | assumption | omega))); (· ((repeat' (first | exact seen_nil | refine seen_skip (by decide +kernel) ?_ | refine seen_cons ?_ ?_))) <;> (simp (disch := omega) only [go_sem, ↓set_get, ↓reduceIte, ↓o_bsl, ↓o_build, Nat.reduceEqDiff, Nat.reduceAdd, Nat.reduceMul, Int.reduceEq, Int.reduceNe, set_other, del_other, h2]; (repeat' (first | exact St.le.refl _ | rfl | (refine And.intro ?_ ?_) | assumption | (refine build89 ?_) | (refine build91 (x := signedO x) ?_)  | omega))))) | (refine pt_guard (b := true) rfl ?_ (fun _ => ?_) (fun h => absurd rfl h); · simp only [↓set_get, Nat.reduceEqDiff, Bool.false_eq_true, ↓reduceIte, aenv0, aenvS, aenvN, one_ne, h2]; done) | (refine pt_guard (b := false) rfl ?_ (fun _ => ?_) (fun h => absurd rfl h); · simp only [↓set_get, Nat.reduceEqDiff, Bool.false_eq_true, ↓reduceIte, aenv0, aenvS, aenvN, one_ne, h2]; done) | (refine pt_guard (b := true) rfl ?_ (fun h => Bool.noConfusion h) (fun _ => ?_); · simp only [↓set_get, Nat.reduceEqDiff, Bool.false_eq_true, ↓reduceIte, aenv0, aenvS, aenvN, one_ne, h2]; done) | (refine pt_guard (b := false) rfl ?_ (fun h => Bool.noConfusion h) (fun _ => ?_); · simp only [↓set_get, Nat.reduceEqDiff, Bool.false_eq_true, ↓reduceIte, aenv0, aenvS, aenvN, one_ne, h2]; done) | (refine pt_guard0 rfl ?_ ?_; · simp only [↓set_get, Nat.reduceEqDiff, Bool.false_eq_true, ↓reduceIte, aenv0, aenvS, aenvN, one_ne, h2]; done) | (refine pt_none ?_ ?_ ?_ ?_ ?_; rotate_left 2; (· intro K hK; simp (disch := omega) only [go_sem, ↓set_get, ↓reduceIte, ↓o_bsl, ↓o_build, Nat.reduceEqDiff, Nat.reduceAdd, Nat.reduceMul, Int.reduceEq, Int.reduceNe, set_other, del_other, h2]; (repeat' (first | exact hK | (refine And.intro ?_ ?_) | assumption | omega))); (· ((repeat' (first | exact seen_nil | refine seen_skip (by decide +kernel) ?_ | refine seen_cons ?_ ?_))) <;> (simp (disch := omega) only [go_sem, ↓set_get, ↓reduceIte, ↓o_bsl, ↓o_build, Nat.reduceEqDiff, Nat.reduceAdd, Nat.reduceMul, Int.reduceEq, Int.reduceNe, set_other, del_other, h2]; (repeat' (first | exact St.le.refl _ | rfl | (refine And.intro ?_ ?_) | assumption | (refine build89 ?_) | (refine build91 (x := signedO x) ?_)  | omega)))))))
    refine pt_done ?_
    refine awp_ret (afin_cell s ?_ ?_)
    · intro j x hx; simp only [set_app]; grind
    simp only [ares, aone, ↓set_get, Nat.reduceEqDiff, Bool.false_eq_true, ↓reduceIte, aenv0, aenvS, aenvN, one_ne, h2, load_ptr, tagg91, tsz91, set_same]
    exact ⟨_, _, rfl, by simp only [read_t, sgD_len, List.drop_zero, sgD_a]; exact ⟨by decide, hK⟩⟩
end Go.Proofs.Try

/- Rough heads: the signed ones of a list. -/
set_option maxRecDepth 8000
set_option linter.unusedSimpArgs false
set_option linter.unusedVariables false
namespace Go.Proofs.Try
open Go Go.Av
set_option pp.maxSteps 900
attribute [local irreducible] alist awp adraw apure
attribute [local go_sem] cellsOf_int cellsOf_bool cellsOf_str cellsOf_nilp cellsOf_nil cellsOf_e0 cellsOf_sl cellsOf_osl cellsOf_ptr cellsOf_eptr cellsOf_fn cellsOf_agg okc_int okc_bool okc_str okc_nilp okc_nil okc_e0 okc_sl okc_osl okc_ptr okc_eptr okc_fn okc_agg and_assoc splice_0n splice_0c splice_s load_ptr load_eptr read_t read_f store_p cells_inj set_same exists_and_left List.length_cons List.length_nil List.drop_zero List.drop_succ_cons List.take_succ_cons List.take_zero Option.isSome_some
variable {γ : Gl} {σ s : St} {K : D → St → Prop}
attribute [local go_sem] roD_len roD_33 roD_34 roD_35 roD_36 roD_h roD_a rosD_len headD_len headD_0 headD_a headD_r spl87 sgD_len sgD_0 sgD_33 sgD_34 sgD_35 sgD_a sgD_h sgD_r spl27 byt27 spl91 length_bytesD List.length_replicate splice_self sgsD_len headsD_len Int.toNat_natCast List.length_append

def SgOk (L : List Ro) (m : Int) : Prop := (L.length : Int) ≤ m ∧ ∀ x ∈ L, ¬ greatR x
instance (L : List Ro) (m : Int) : Decidable (SgOk L m) := by unfold SgOk; infer_instance
def dSg (L : List Ro) (m : Int) : D := if SgOk L m then .tup [.sl L.length (sgsD (L.map signedO)) none, .bool true] else .tup [.sl 0 [] none, .bool false]
def Fine (L : List Ro) : Prop := ∀ x ∈ L, x.sig.length ≤ 9223372036854775807

theorem Sgd_c {L : List Ro} {m : Int} {tk : Option (Nat × Nat)} (hf : Fine L) (hm : m ≤ 1000) (hK : K (dSg L m) s) : ACalls prog γ 57 [.sl L.length (rosD L) tk, .int .i64 m] s K := by
  have hml := rosD_len L
  refine acalls_of_awp (by kernel_rfl) func57 rfl (by kernel_rfl) rfl rfl (by kernel_rfl) (Nat.le_of_ble_eq_true rfl) ?_
  refine rs ?_
  refine run ?_
  refine al_done ?_
  refine rs ?_
  refine run ?_
  refine al_done ?_
  refine asc ?_; refine ai ?_ ?_
  · intro h
    have h : ¬ (L.length : Int) ≤ m := by have := of_decide_eq_true h
                                          omega
    rw [dSg, if_neg (fun hh => h hh.1)] at hK
    refine rs ?_
    refine run ?_
    refine al_nil (rx_nil (t := 4) (by simp only [↓set_get, Nat.reduceEqDiff, Bool.false_eq_true, ↓reduceIte, aenv0, aenvS, aenvN, one_ne]) (.done ?_))
    refine awp_ret (afin_ret (.done ?_)); simp only [ares, aone, ↓set_get, Nat.reduceEqDiff, Bool.false_eq_true, ↓reduceIte, aenv0, aenvS, aenvN, one_ne]
    exact hK
  intro h
  have h : (L.length : Int) ≤ m := by have := of_decide_eq_false h
                                      omega
  refine rs ?_
  refine run ?_
  refine al_done ?_
  refine rs ?_
  refine run ?_
  refine al_done ?_
  refine asc ?_; refine awp_while (fun n ρ t => ∃ (k : Nat) (d : D), n = L.length - k ∧ k ≤ L.length ∧ (∀ x ∈ L.take k, ¬ greatR x) ∧ Own s 91 36 k (sgsD ((L.take k).map signedO)) d t ∧ ρ 0 = .sl L.length (rosD L) tk ∧ ρ 6 = d ∧ ρ 7 = .int .i64 (k : Nat)) L.length ?_ ?_
  · refine ⟨0, .nil, rfl, Nat.zero_le _, fun x hx => by simp at hx, own_nil _ _ _, ?_, ?_, ?_⟩
    all_goals simp only [↓set_get, Nat.reduceEqDiff, Bool.false_eq_true, ↓reduceIte, aenv0, aenvS, aenvN, one_ne]
    rfl
  rintro n ρ t ⟨k, d, rfl, hk, hv, hown, h0, h6, h7⟩
  refine rs ?_
  refine runX (And.intro h0 h7) ?_
  refine al_done ?_
  refine asc ?_; refine ate ?_ ?_
  · intro hb2
    have hb2 : k < L.length := by have := of_decide_eq_true hb2
                                  omega
    have hat : ((rosD L).drop (k * 37)).take 37 = roD L[k] := rows_at roD_len L hb2
    have hfk := hf _ (List.getElem_mem hb2)
    refine asc ?_; refine awp_body ?_
    refine rs ?_
    refine runX (And.intro h0 (And.intro h7 hat)) ?_
    (refine al_set ?_ ?_ ?_ ?_; rotate_left 2; (· intro K hK; refine S1 ?_; refine Or.inl (Great_c hfk ?_); exact hK))
    refine run ?_
    refine al_done ?_
    by_cases hg : greatR L[k]
    · rw [dSg, if_neg (fun hh => hh.2 _ (List.getElem_mem hb2) hg)] at hK
      refine asc ?_; refine ai ?_ ?_
      · intro _
        refine rs ?_
        refine run ?_
        refine al_nil (rx_nil (t := 4) (by simp only [↓set_get, Nat.reduceEqDiff, Bool.false_eq_true, ↓reduceIte, aenv0, aenvS, aenvN, one_ne]) (.forget s (own_le' hown) (.done ?_)))
        refine awp_ret (afin_ret (.done ?_)); simp only [ares, aone, ↓set_get, Nat.reduceEqDiff, Bool.false_eq_true, ↓reduceIte, aenv0, aenvS, aenvN, one_ne]
        exact hK
      · intro h; simp [hg] at h
    · refine asc ?_; refine ai ?_ ?_
      · intro h; simp [hg] at h
      intro _
      have hs3 : L[k].sig.length ≤ 300 := by unfold greatR at hg; omega
      have hcl := sgD_len (signedO L[k])
      refine awp_region ?_
      refine runX (And.intro h0 (And.intro h6 (And.intro h7 hat))) ?_
      (refine al_set ?_ ?_ ?_ ?_; rotate_left 2; (· intro K hK; refine S1 ?_; refine Or.inl (Signed_c hs3 ?_); exact hK))
      (refine al_set ?_ ?_ ?_ ?_; rotate_left 2; (· intro K hK; refine S1 ?_; refine bsl_agg0 elt79 zc91 rfl (sgD_len _) (by decide) ?_; exact hK))
      (refine al_rel ?_ ?_ ?_; rotate_left 1; (· intro K hK; simp (disch := (first | omega | (simp only [length_bytesD, List.length_append, List.length_cons, List.length_nil, List.length_map, List.length_replicate, List.length_take, List.length_drop]; omega))) only [go_sem, ↓set_get, ↓reduceIte, ↓o_bsl, ↓o_build, Nat.reduceEqDiff, Nat.reduceAdd, Nat.reduceMul, Int.reduceEq, Int.reduceNe,  xcells_sl, hcl, h6]; refine own_app hown (m := 1) (by decide) hcl (by omega) ?_; exact hK))
      intro d' s' hown'
      refine run ?_
      refine al_nil (.done ?_)
      refine awp_region ?_
      refine runX h7 ?_
      refine al_nil ?_
      refine lq_next (L.length - (k + 1)) (by omega) ⟨k + 1, d', rfl, by omega, ?_, ?_, ?_, ?_, ?_⟩
      · intro x hx
        rw [List.take_succ_eq_append_getElem hb2, List.mem_append, List.mem_singleton] at hx
        rcases hx with hx | rfl
        · exact hv x hx
        · exact hg
      · rw [List.take_succ_eq_append_getElem hb2, List.map_append, sgsD, rows_append]
        have : rowsD sgD (List.map signedO [L[k]]) = sgD (signedO L[k]) := by rw [List.map_cons, List.map_nil, rows_one]
        rw [this]; exact hown'
      · simp only [↓set_get, Nat.reduceEqDiff, Bool.false_eq_true, ↓reduceIte, aenv0, aenvS, aenvN, one_ne, h0]
      · simp only [↓set_get, Nat.reduceEqDiff, Bool.false_eq_true, ↓reduceIte, aenv0, aenvS, aenvN, one_ne]
      · simp only [↓set_get, Nat.reduceEqDiff, Bool.false_eq_true, ↓reduceIte, aenv0, aenvS, aenvN, one_ne]; rfl
  · intro hb2
    have hb2 : k = L.length := by have := of_decide_eq_false hb2
                                  omega
    subst hb2
    rw [List.take_length] at hown hv
    rw [dSg, if_pos ⟨h, hv⟩] at hK
    refine lq_exit ?_
    refine rs ?_
    refine runX h6 ?_
    refine al_nil (rx_own hown (t := 4) (by simp only [↓set_get, Nat.reduceEqDiff, Bool.false_eq_true, ↓reduceIte, aenv0, aenvS, aenvN, one_ne]) (.done ?_))
    refine awp_ret (afin_ret (.done ?_)); simp only [ares, aone, ↓set_get, Nat.reduceEqDiff, Bool.false_eq_true, ↓reduceIte, aenv0, aenvS, aenvN, one_ne]
    exact hK
end Go.Proofs.Try
