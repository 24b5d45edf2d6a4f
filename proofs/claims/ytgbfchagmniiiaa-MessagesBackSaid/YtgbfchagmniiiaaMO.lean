/- messages: requests read, as the document has it; walked. -/
import Derived.Test.YtgbfchagmniiiaaML
set_option maxRecDepth 8000
set_option linter.unusedSimpArgs false
set_option linter.unusedVariables false
namespace Go.Proofs.Try
open Go Go.Av
set_option pp.maxSteps 900
attribute [local irreducible] alist awp adraw apure
attribute [local go_sem] cellsOf_int cellsOf_bool cellsOf_str cellsOf_nilp cellsOf_nil cellsOf_e0 cellsOf_sl cellsOf_osl cellsOf_ptr cellsOf_eptr cellsOf_fn cellsOf_agg okc_int okc_bool okc_str okc_nilp okc_nil okc_e0 okc_sl okc_osl okc_ptr okc_eptr okc_fn okc_agg and_assoc splice_0n splice_0c splice_s load_ptr load_eptr read_t read_f store_p cells_inj set_same exists_and_left List.length_cons List.length_nil List.drop_zero List.drop_succ_cons List.take_succ_cons List.take_zero Option.isSome_some
variable {γ : Gl} {σ s : St} {K : D → St → Prop}
attribute [local go_sem] List.length_append natc0 eq_self bne_self_eq_false

def rfN : Nat → List UInt8 → List Nat
  | 0, _ => []
  | n + 1, t => if (readB t).isSome = true ∧ (q1 t).1 ≤ big then (q1 t).1 :: rfN n (q1 t).2 else []
def refQ (l : List Nat) : Req :=
  let a := fun i => ((l.getD i 0 : Nat) : Int)
  if a 1 = 2 then ⟨a 0, a 1, a 2, a 3, a 4⟩ else if a 1 = 3 ∨ a 1 = 4 then ⟨a 0, a 1, a 2, 0, a 3⟩ else ⟨a 0, a 1, 0, 0, 0⟩
def refR (t : List UInt8) : Req := refQ (rfN 5 t.tail)
theorem rfN_put : ∀ (vs : List Int) (n : Nat), vs.length ≤ n → (∀ v ∈ vs, goodN v) → rfN n (nsB vs) = vs.map Int.toNat
  | [], 0, _, _ => rfl
  | [], n + 1, _, _ => by
    have : readB [] = none := rfl
    rw [nsB_nil, rfN, if_neg (by rw [this]; simp)]; rfl
  | v :: vs, 0, h, _ => by simp at h
  | v :: vs, n + 1, h, hg => by
    have hv := hg v (by simp)
    have h1 := hv.1
    have h2 := hv.2
    obtain ⟨a, b⟩ := q1_put (n := v.toNat) (by omega) (nsB vs)
    rw [nsB_cons, rfN, a, if_pos ⟨b, by show v.toNat ≤ 1073741824; omega⟩, rfN_put vs n (by simpa using h) (fun x hx => hg x (by simp [hx]))]
    rfl
theorem refR_put {r : Req} (h : ROk r) (hc : canon r) : refR (putR r) = r := by
  have hg := h.2
  have hl := nums_len r
  rw [refR, putR, List.tail_cons, rfN_put _ _ hl hg]
  obtain ⟨i, k, f, c, z⟩ := r
  have h1 := h.1.1
  have h5 := h.1.2
  simp only [canon] at h1 h5 hc
  rcases kind_cases h1 h5 with rfl | rfl | rfl | rfl | rfl
  · obtain ⟨a, b⟩ := hc
    have a := a (by decide)
    obtain ⟨b, d⟩ := b (by decide) (by decide) (by decide)
    subst a; subst b; subst d
    have g0 := (hg i (by simp [nums, idx, Req.at5])).1
    simp [nums, idx, Req.at5, refQ]; omega
  · have g0 := (hg i (by simp [nums, idx, Req.at5])).1
    have g2 := (hg f (by simp [nums, idx, Req.at5])).1
    have g3 := (hg c (by simp [nums, idx, Req.at5])).1
    have g4 := (hg z (by simp [nums, idx, Req.at5])).1
    simp [nums, idx, Req.at5, refQ]; omega
  · have a := hc.1 (by decide)
    subst a
    have g0 := (hg i (by simp [nums, idx, Req.at5])).1
    have g2 := (hg f (by simp [nums, idx, Req.at5])).1
    have g4 := (hg z (by simp [nums, idx, Req.at5])).1
    simp [nums, idx, Req.at5, refQ]; omega
  · have a := hc.1 (by decide)
    subst a
    have g0 := (hg i (by simp [nums, idx, Req.at5])).1
    have g2 := (hg f (by simp [nums, idx, Req.at5])).1
    have g4 := (hg z (by simp [nums, idx, Req.at5])).1
    simp [nums, idx, Req.at5, refQ]; omega
  · obtain ⟨a, b⟩ := hc
    have a := a (by decide)
    obtain ⟨b, d⟩ := b (by decide) (by decide) (by decide)
    subst a; subst b; subst d
    have g0 := (hg i (by simp [nums, idx, Req.at5])).1
    simp [nums, idx, Req.at5, refQ]; omega
theorem refQ_canon (l : List Nat) : canon (refQ l) := by
  unfold refQ
  dsimp only
  split
  · rename_i h
    exact ⟨fun e => absurd h e, fun e => absurd h e⟩
  · split
    · rename_i h2 h
      exact ⟨fun _ => rfl, fun _ a b => absurd h (fun e => e.elim a b)⟩
    · exact ⟨fun _ => rfl, fun _ _ _ => ⟨rfl, rfl⟩⟩
theorem ref_getR (t : List UInt8) : RqOk t ↔ (t.length ≤ 65536 ∧ t ≠ []) ∧ ROk (refR t) ∧ putR (refR t) = t := by
  constructor
  · intro h
    obtain ⟨a, b, c⟩ := getR_some h
    have e := refR_put a b
    rw [← c] at e
    rw [e]
    have hl := putR_len a
    rw [← c] at hl
    exact ⟨⟨by omega, by rintro rfl; cases c⟩, a, c.symm⟩
  · rintro ⟨_, a, b⟩
    have := (RqOk_put a (refQ_canon _)).1
    rwa [b] at this
theorem ref_getR_eq {t : List UInt8} (h : RqOk t) : getR t = refR t := by
  obtain ⟨a, b, c⟩ := getR_some h
  have e := refR_put a b
  rw [← c] at e; exact e.symm
theorem rfN_le : ∀ (n : Nat) (t : List UInt8), ∀ x ∈ rfN n t, x ≤ big
  | 0, _, x, h => by cases h
  | n + 1, t, x, h => by
    rw [rfN] at h
    split at h
    · rename_i hc
      rcases List.mem_cons.1 h with rfl | h
      · exact hc.2
      · exact rfN_le n _ x h
    · cases h
theorem getD_le {l : List Nat} (h : ∀ x ∈ l, x ≤ big) (i : Nat) : l.getD i 0 ≤ big := by
  by_cases hi : i < l.length
  · rw [List.getD_eq_getElem?_getD, List.getElem?_eq_getElem hi]; exact h _ (List.getElem_mem hi)
  · rw [List.getD_eq_getElem?_getD, List.getElem?_eq_none (by omega)]; exact Nat.zero_le _
theorem refQ_b {l : List Nat} (h : ∀ x ∈ l, x ≤ big) : ReqB (refQ l) := by
  have hg : ∀ i, I64 ((l.getD i 0 : Nat) : Int) := fun i => by
    have := getD_le h i
    have hb : big = 1073741824 := rfl
    exact ⟨by omega, by omega⟩
  have h0 : I64 0 := ⟨by decide, by decide⟩
  unfold refQ
  dsimp only
  split
  · exact ⟨hg 0, hg 1, hg 2, hg 3, hg 4⟩
  · split
    · exact ⟨hg 0, hg 1, hg 2, h0, hg 3⟩
    · exact ⟨hg 0, hg 1, h0, h0, h0⟩
def intsD (l : List Nat) : List D := l.map (fun n => D.int .i64 (n : Nat))
theorem intsD_len (l : List Nat) : (intsD l).length = l.length := List.length_map ..
theorem pad_at (l : List Nat) {i : Nat} (h : i < 5) : (intsD l ++ [.int .i64 0, .int .i64 0, .int .i64 0, .int .i64 0, .int .i64 0])[i]? = some (.int .i64 ((l.getD i 0 : Nat) : Int)) := by
  by_cases hi : i < l.length
  · rw [List.getElem?_append_left (by rw [intsD_len]; exact hi), intsD, List.getElem?_map, List.getD_eq_getElem?_getD, List.getElem?_eq_getElem hi]; rfl
  · rw [List.getElem?_append_right (by rw [intsD_len]; omega), List.getD_eq_getElem?_getD, List.getElem?_eq_none (by omega : l.length ≤ i)]
    have : i - (intsD l).length < 5 := by omega
    match i - (intsD l).length, this with
    | 0, _ => rfl
    | 1, _ => rfl
    | 2, _ => rfl
    | 3, _ => rfl
    | 4, _ => rfl
theorem bsl_i0 {n : Int} (hk : K (.sl 1 [.int .i64 n] none) s) : abuildSl prog 50 1 [(0, .int .i64 n)] s K := bsl_int0 elt50 zc3 hk
theorem bsl_z5 (hk : K (.sl 5 [.int .i64 0, .int .i64 0, .int .i64 0, .int .i64 0, .int .i64 0] none) s) : abuildSl prog 50 5 [(0, .int .i64 0), (1, .int .i64 0), (2, .int .i64 0), (3, .int .i64 0), (4, .int .i64 0)] s K := by
  have hf : afill (fun i => some (i * 1, 1)) (List.replicate 5 [D.int .i64 0]).flatten [(0, .int .i64 0), (1, .int .i64 0), (2, .int .i64 0), (3, .int .i64 0), (4, .int .i64 0)] = some [.int .i64 0, .int .i64 0, .int .i64 0, .int .i64 0, .int .i64 0] := by
    simp only [List.replicate_succ, List.replicate_zero, List.flatten_cons, List.flatten_nil, List.cons_append, List.nil_append, afill, cellsOf_int, okc_int, Nat.reduceMul, splice_s, splice_0c, splice_0n, List.length_cons, List.length_nil, Nat.reduceAdd, Nat.reduceLeDiff, and_self, if_true]
  simp only [abuildSl, elt50, zc3, hf]
  exact ⟨by decide, .inr (.inr hk)⟩
theorem own_shape' {e : TypeId} {sz n : Nat} {cs : List D} {d : D} {s' : St} (h : Own s e sz n cs d s') : (d = .nil ∧ n = 0) ∨ ∃ tk, d = .sl n cs tk := by
  rcases h with ⟨rfl, _, rfl, _⟩ | ⟨id, _, _, rfl, _⟩
  · exact .inl ⟨rfl, rfl⟩
  · exact .inr ⟨_, rfl⟩
theorem rNumbers_c {t : List UInt8} (ht : t.length ≤ 140737488355328) (hK : ∀ d s', Own s 3 1 (rfN 5 t).length (intsD (rfN 5 t)) d s' → K d s') : ACalls prog γ 120 [.str t] s K := by
  refine acalls_of_awp (by kernel_rfl) func120 rfl (by kernel_rfl) rfl rfl (by kernel_rfl) (Nat.le_of_ble_eq_true rfl) ?_
  refine rs ?_
  refine run ?_
  refine al_done ?_
  refine rs ?_
  refine run ?_
  refine al_done ?_
  refine asc ?_; refine awp_while (fun m ρ τ => ∃ (done : List Nat) (rest : List UInt8) (d : D), done.length + m = 5 ∧ rest.length ≤ t.length ∧ rfN 5 t = done ++ rfN m rest ∧ Own s 3 1 done.length (intsD done) d τ ∧ ρ 0 = .str rest ∧ ρ 3 = d) 5 ?_ ?_
  · refine ⟨[], t, .nil, rfl, Nat.le_refl _, rfl, own_nil _ _ _, ?_, ?_⟩
    all_goals simp only [↓set_get, Nat.reduceEqDiff, Bool.false_eq_true, ↓reduceIte, aenv0, aenvS, aenvN, one_ne]
  rintro m ρ τ ⟨done, rest, d, hlen, hrest, hu, hown, g0, g3⟩
  refine asc ?_; refine awp_rj (fun ρ' s' => s' = τ ∧ ρ' 0 = .str rest ∧ ρ' 3 = d ∧ ρ' 9 = .bool (decide (done.length < 5))) ?_ ?_
  · intro K' hJ
    rcases own_shape' hown with ⟨rfl, h0⟩ | ⟨tk, rfl⟩
    all_goals refine runX g3 ?_
    all_goals refine al_nil (hJ _ _ ⟨rfl, ?_, ?_, ?_⟩)
    all_goals simp only [↓set_get, Nat.reduceEqDiff, Bool.false_eq_true, ↓reduceIte, aenv0, aenvS, aenvN, one_ne, g0, g3]
    all_goals (first | exact bool_t (by omega) | exact bool_f (by omega) | exact bool_s (by (first | rw [decide_eq_true_eq] | rw [beq_iff_eq] | rw [bne_iff_ne]); omega))
  rintro ρ τ ⟨rfl, g0, g3, g9⟩
  refine asc ?_; refine ateX g9 ?_ ?_
  · intro hb2
    have hb2 : 0 < m := by have := of_decide_eq_true hb2
                           omega
    obtain ⟨m, rfl⟩ : ∃ j, m = j + 1 := ⟨m - 1, by omega⟩
    have hq := q1_len rest
    have hbig : big = 1073741824 := rfl
    refine awp_block ?_
    refine rs ?_
    refine runX g0 ?_
    (refine al_set ?_ ?_ ?_ ?_; rotate_left 2; (· intro K hK; refine S1 ?_; refine Or.inl (rRead_c (by omega) ?_); exact hK))
    rw [dRead_q]
    refine run ?_
    refine al_done ?_
    refine asc ?_; refine awp_rj (fun ρ' s' => s' = τ ∧ ρ' 3 = d ∧ ρ' 4 = .int .u64 ((q1 rest).1 : Nat) ∧ ρ' 5 = .str (q1 rest).2 ∧ ρ' 21 = .bool (decide (¬ ((readB rest).isSome = true ∧ (q1 rest).1 ≤ big)))) ?_ ?_
    · intro K' hJ
      (repeat' (first | refine run1X g3 ?_ | (refine al_guard rfl (by simp only [↓set_get, Nat.reduceEqDiff, Bool.false_eq_true, ↓reduceIte, aenv0, aenvS, aenvN, one_ne, g3]; rfl) (fun hb => ?_) (fun hb => ?_) <;> (try simp only [ne_eq, Bool.not_eq_true, Bool.not_eq_false] at hb) <;> have hb2 := hb <;> (try simp only [decide_eq_true_eq, decide_eq_false_iff_not, beq_iff_eq, beq_eq_false_iff_ne, bne_iff_ne, ne_eq, Bool.not_eq_true', Bool.not_eq_false'] at hb2) <;> (try rw [hb]))))
      all_goals refine al_nil (hJ _ _ ⟨rfl, ?_, ?_, ?_, ?_⟩)
      all_goals simp only [↓set_get, Nat.reduceEqDiff, Bool.false_eq_true, ↓reduceIte, aenv0, aenvS, aenvN, one_ne, g3]
      all_goals (congr 1; rw [Bool.eq_iff_iff]; simp_all; try omega)
    rintro ρ τ ⟨rfl, g3, g4, g5, g21⟩
    by_cases hok : (readB rest).isSome = true ∧ (q1 rest).1 ≤ big
    · have e21 : decide (¬ ((readB rest).isSome = true ∧ (q1 rest).1 ≤ big)) = false := decide_eq_false (fun h => h hok)
      have hle := hok.2
      refine asc ?_; refine aiX g21 ?_ ?_
      · intro h; rw [e21] at h; cases h
      intro _
      have hcl := intsD_len done
      refine awp_region ?_
      refine runX (And.intro g3 (And.intro g4 g5)) ?_
      (refine al_set ?_ ?_ ?_ ?_; rotate_left 2; (· intro K hK; refine S1 ?_; refine bsl_i0 ?_; exact hK))
      (refine al_rel ?_ ?_ ?_; rotate_left 1; (· intro K hK; simp (disch := (first | omega | (simp only [length_bytesD, List.length_append, List.length_cons, List.length_nil, List.length_map, List.length_replicate, List.length_take, List.length_drop]; omega))) only [go_sem, ↓set_get, ↓reduceIte, ↓o_bsl, ↓o_build, Nat.reduceEqDiff, Nat.reduceAdd, Nat.reduceMul, Int.reduceEq, Int.reduceNe,  xcells_sl]; refine own_app hown (m := 1) (by decide) rfl (by omega) ?_; exact hK))
      intro d' s' hown'
      refine runX g5 ?_
      refine al_nil ?_
      simp only [AExit.blk]
      refine lq_next m (by omega) ⟨done ++ [(q1 rest).1], (q1 rest).2, d', by simp; omega, by omega, ?_, ?_, ?_, ?_⟩
      · rw [hu, rfN, if_pos hok]; simp
      · rw [List.length_append, intsD, List.map_append]; exact hown'
      · simp only [↓set_get, Nat.reduceEqDiff, Bool.false_eq_true, ↓reduceIte, aenv0, aenvS, aenvN, one_ne]
      · simp only [↓set_get, Nat.reduceEqDiff, Bool.false_eq_true, ↓reduceIte, aenv0, aenvS, aenvN, one_ne]
    · have e21 : decide (¬ ((readB rest).isSome = true ∧ (q1 rest).1 ≤ big)) = true := decide_eq_true hok
      rw [hu, rfN, if_neg hok, List.append_nil] at hK
      have hK := hK _ _ hown
      refine asc ?_; refine aiX g21 ?_ ?_
      · intro _
        refine rs ?_
        refine runX g3 ?_
        refine al_done (awp_ret (afin_ret (.done ?_))); simp only [ares, aone, ↓set_get, Nat.reduceEqDiff, Bool.false_eq_true, ↓reduceIte, aenv0, aenvS, aenvN, one_ne]
        exact hK
      · intro h; rw [e21] at h; cases h
  · intro hb2
    have hb2 : m = 0 := by have := of_decide_eq_false hb2
                           omega
    subst hb2
    rw [hu, rfN, List.append_nil] at hK
    have hK := hK _ _ hown
    refine lq_exit ?_
    refine rs ?_
    refine runX g3 ?_
    refine al_done (awp_ret (afin_ret (.done ?_))); simp only [ares, aone, ↓set_get, Nat.reduceEqDiff, Bool.false_eq_true, ↓reduceIte, aenv0, aenvS, aenvN, one_ne]
    exact hK
end Go.Proofs.Try
