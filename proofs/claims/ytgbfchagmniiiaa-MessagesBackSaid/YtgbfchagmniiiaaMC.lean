/- messages: a request's numbers; requests put; walked. -/
import Derived.Test.YtgbfchagmniiiaaMB
set_option maxRecDepth 8000
set_option linter.unusedSimpArgs false
set_option linter.unusedVariables false
namespace Go.Proofs.Try
open Go Go.Av
set_option pp.maxSteps 900
attribute [local irreducible] alist awp adraw apure
attribute [local go_sem] cellsOf_int cellsOf_bool cellsOf_str cellsOf_nilp cellsOf_nil cellsOf_e0 cellsOf_sl cellsOf_osl cellsOf_ptr cellsOf_eptr cellsOf_fn cellsOf_agg okc_int okc_bool okc_str okc_nilp okc_nil okc_e0 okc_sl okc_osl okc_ptr okc_eptr okc_fn okc_agg and_assoc splice_0n splice_0c splice_s load_ptr load_eptr read_t read_f store_p cells_inj set_same exists_and_left List.length_cons List.length_nil List.drop_zero List.drop_succ_cons List.take_succ_cons List.take_zero Option.isSome_some
variable {γ : Gl} {σ s : St} {K : D → St → Prop}
attribute [local go_sem] List.length_append natc0

theorem bslT2 {p a b : Nat} (hk : ∀ id, s id = none → K (.sl 2 [.ptr p a, .ptr p b] (some (id, 1))) (s.set id (.tok 145 [.ptr p a, .ptr p b]))) : abuildSl prog 142 2 [(0, .ptr p a), (1, .ptr p b)] s K := by
  have hf : afill (fun i => some (i * 1, 1)) (List.replicate 2 [D.nilp]).flatten [(0, .ptr p a), (1, .ptr p b)] = some [.ptr p a, .ptr p b] := by
    simp only [List.replicate_succ, List.replicate_zero, List.flatten_cons, List.flatten_nil, List.cons_append, List.nil_append, afill, cellsOf_ptr, okc_ptr, Nat.reduceMul, splice_s, splice_0c, splice_0n, List.length_cons, List.length_nil, Nat.reduceAdd, Nat.reduceLeDiff, and_self, if_true]
  simp only [abuildSl, elt142, zc145, hf]
  exact ⟨by decide, .inl hk⟩
theorem bslF2 {p a b : Nat} (hk : K (.sl 2 [.ptr p a, .ptr p b] none) s) : abuildSl prog 142 2 [(0, .ptr p a), (1, .ptr p b)] s K := by
  have hf : afill (fun i => some (i * 1, 1)) (List.replicate 2 [D.nilp]).flatten [(0, .ptr p a), (1, .ptr p b)] = some [.ptr p a, .ptr p b] := by
    simp only [List.replicate_succ, List.replicate_zero, List.flatten_cons, List.flatten_nil, List.cons_append, List.nil_append, afill, cellsOf_ptr, okc_ptr, Nat.reduceMul, splice_s, splice_0c, splice_0n, List.length_cons, List.length_nil, Nat.reduceAdd, Nat.reduceLeDiff, and_self, if_true]
  simp only [abuildSl, elt142, zc145, hf]
  exact ⟨by decide, .inr (.inr hk)⟩
theorem bslF3 {p a b c : Nat} (hk : K (.sl 3 [.ptr p a, .ptr p b, .ptr p c] none) s) : abuildSl prog 142 3 [(0, .ptr p a), (1, .ptr p b), (2, .ptr p c)] s K := by
  have hf : afill (fun i => some (i * 1, 1)) (List.replicate 3 [D.nilp]).flatten [(0, .ptr p a), (1, .ptr p b), (2, .ptr p c)] = some [.ptr p a, .ptr p b, .ptr p c] := by
    simp only [List.replicate_succ, List.replicate_zero, List.flatten_cons, List.flatten_nil, List.cons_append, List.nil_append, afill, cellsOf_ptr, okc_ptr, Nat.reduceMul, splice_s, splice_0c, splice_0n, List.length_cons, List.length_nil, Nat.reduceAdd, Nat.reduceLeDiff, and_self, if_true]
  simp only [abuildSl, elt142, zc145, hf]
  exact ⟨by decide, .inr (.inr hk)⟩
def ptrsD (p : Nat) (l : List Nat) : List D := l.map (fun i => D.ptr p i)
theorem Numbers_c {p : Nat} {r : Req} (hs : s p = some (.cells (reqD r) 98)) (hK : K (.sl (idx r.kind).length (ptrsD p (idx r.kind)) none) s) : ACalls prog γ 104 [.ptr p 0] s K := by
  have hs' : s p = some (.cells [.int .i64 r.id, .int .i64 r.kind, .int .i64 r.fr, .int .i64 r.cnt, .int .i64 r.size] 98) := hs
  refine acalls_of_awp (by kernel_rfl) func104 rfl (by kernel_rfl) rfl rfl (by kernel_rfl) (Nat.le_of_ble_eq_true rfl) ?_
  refine rs ?_
  refine run ?_
  refine al_done ?_
  refine asc ?_; refine awp_draw [true, true, true, true, true, true, false, false] (by kernel_rfl) ?_
  refine runD ?_
  refine pa_nil ?_
  refine passes ?_
  (refine pt_fresh ?_ ?_ ?_ ?_ ?_; rotate_left 3; (· intro K hK; refine S1 ?_; refine bslT2 ?_; exact hK); intro id hid; (try (have h_hid := hid; simp only [set_none] at h_hid)); refine And.intro ?_ ?_; (· exact seens))
  refine passes ?_
  refine pt_done ?_
  have hs2 := keep (x := .tok 145 [.ptr p 0, .ptr p 1]) hs' hid
  refine rs ?_
  refine runX hs2 ?_
  refine al_done ?_
  refine asc ?_; refine awp_bj (fun ρ τ => ∃ d, Own s 145 1 (idx r.kind).length (ptrsD p (idx r.kind)) d τ ∧ ρ 3 = d) ?_ ?_
  · intro K' hJ
    by_cases h2 : r.kind = 2
    · have e2 : (r.kind == 2) = true := by rw [h2]; rfl
      refine rs ?_
      refine runX e2 ?_
      refine al_done ?_
      refine ac ?_ ?_
      · intro _
        refine awp_draw1 [true, true, true, true, true, true, true, true, true, true, true, false, false] (by kernel_rfl) ?_
        refine runD ?_
        (refine pa_set ?_ ?_ ?_; rotate_left 1; (· intro K hK; refine S1 ?_; refine bslF3 ?_; exact hK))
        refine runD ?_
        refine pa_nil ?_
        refine passes ?_
        have hx3 : ∀ τ, xcells τ 1 (.sl 3 [.ptr p 2, .ptr p 3, .ptr p 4] none) = some (3, [.ptr p 2, .ptr p 3, .ptr p 4]) := fun τ => rfl
        (refine pt_fresh ?_ ?_ ?_ ?_ ?_; rotate_left 3; (· intro K hK; refine S1X hx3 ?_; refine (app_tok hid (by decide)) ?_; exact hK); intro id2 hid2; (try (have h_hid2 := hid2; simp only [set_none] at h_hid2)); refine And.intro ?_ ?_; (· exact seensX hx3))
        refine passes ?_
        refine pt_end ?_
        refine hJ _ _ (.done ⟨_, .inr ⟨id2, hid2, ?_, rfl, ?_⟩, ?_⟩)
        · rw [h2]; rfl
        · rw [h2]; rfl
        · simp only [↓set_get, Nat.reduceEqDiff, Bool.false_eq_true, ↓reduceIte, aenv0, aenvS, aenvN, one_ne, h2]; rfl
      · intro h; cases h
    · have e2 : (r.kind == 2) = false := by rw [beq_eq_false_iff_ne]; exact h2
      refine rs ?_
      refine runX e2 ?_
      refine al_done ?_
      refine ac ?_ ?_
      · intro h; cases h
      intro _
      by_cases h3 : r.kind = 3
      · have e3 : (r.kind == 3) = true := by rw [h3]; rfl
        refine rs ?_
        refine runX e3 ?_
        refine al_done ?_
        refine asc ?_
        refine awp_seq ?_
        refine ac ?_ ?_
        · intro _
          refine awp_skip (.done ?_)
          refine ac ?_ ?_
          · intro _
            refine awp_draw1 [true, true, true, true, true, true, true, true, false, false] (by kernel_rfl) ?_
            refine runD ?_
            (refine pa_set ?_ ?_ ?_; rotate_left 1; (· intro K hK; refine S1 ?_; refine bslF2 ?_; exact hK))
            refine runD ?_
            refine pa_nil ?_
            refine passes ?_
            have hx2 : ∀ τ, xcells τ 1 (.sl 2 [.ptr p 2, .ptr p 4] none) = some (2, [.ptr p 2, .ptr p 4]) := fun τ => rfl
            (refine pt_fresh ?_ ?_ ?_ ?_ ?_; rotate_left 3; (· intro K hK; refine S1X hx2 ?_; refine (app_tok hid (by decide)) ?_; exact hK); intro id2 hid2; (try (have h_hid2 := hid2; simp only [set_none] at h_hid2)); refine And.intro ?_ ?_; (· exact seensX hx2))
            refine passes ?_
            refine pt_end ?_
            refine hJ _ _ (.done ⟨_, .inr ⟨id2, hid2, ?_, rfl, ?_⟩, ?_⟩)
            · rw [h3]; rfl
            · rw [h3]; rfl
            · simp only [↓set_get, Nat.reduceEqDiff, Bool.false_eq_true, ↓reduceIte, aenv0, aenvS, aenvN, one_ne, h3]; rfl
          · intro h; cases h
        · intro h; cases h
      have e3 : (r.kind == 3) = false := by rw [beq_eq_false_iff_ne]; exact h3
      by_cases h4 : r.kind = 4
      · have e4 : (r.kind == 4) = true := by rw [h4]; rfl
        refine rs ?_
        refine runX e3 ?_
        refine al_done ?_
        refine asc ?_
        refine awp_seq ?_
        refine ac ?_ ?_
        · intro h; cases h
        intro _
        refine awp_region ?_
        refine runX e4 ?_
        refine al_nil (.done ?_)
        refine ac ?_ ?_
        · intro _
          refine awp_draw1 [true, true, true, true, true, true, true, true, false, false] (by kernel_rfl) ?_
          refine runD ?_
          (refine pa_set ?_ ?_ ?_; rotate_left 1; (· intro K hK; refine S1 ?_; refine bslF2 ?_; exact hK))
          refine runD ?_
          refine pa_nil ?_
          refine passes ?_
          have hx2 : ∀ τ, xcells τ 1 (.sl 2 [.ptr p 2, .ptr p 4] none) = some (2, [.ptr p 2, .ptr p 4]) := fun τ => rfl
          (refine pt_fresh ?_ ?_ ?_ ?_ ?_; rotate_left 3; (· intro K hK; refine S1X hx2 ?_; refine (app_tok hid (by decide)) ?_; exact hK); intro id2 hid2; (try (have h_hid2 := hid2; simp only [set_none] at h_hid2)); refine And.intro ?_ ?_; (· exact seensX hx2))
          refine passes ?_
          refine pt_end ?_
          refine hJ _ _ (.done ⟨_, .inr ⟨id2, hid2, ?_, rfl, ?_⟩, ?_⟩)
          · rw [h4]; rfl
          · rw [h4]; rfl
          · simp only [↓set_get, Nat.reduceEqDiff, Bool.false_eq_true, ↓reduceIte, aenv0, aenvS, aenvN, one_ne, h4]; rfl
        · intro h; cases h
      have e4 : (r.kind == 4) = false := by rw [beq_eq_false_iff_ne]; exact h4
      refine rs ?_
      refine runX e3 ?_
      refine al_done ?_
      refine asc ?_
      refine awp_seq ?_
      refine ac ?_ ?_
      · intro h; cases h
      intro _
      refine awp_region ?_
      refine runX e4 ?_
      refine al_nil (.done ?_)
      refine ac ?_ ?_
      · intro h; cases h
      intro _
      have hi : idx r.kind = [0, 1] := by rw [idx, if_neg h2, if_neg (fun h => h.elim h3 h4)]
      refine awp_skip (hJ _ _ (.done ⟨_, .inr ⟨id, hid, ?_, rfl, ?_⟩, ?_⟩))
      · rw [hi]; rfl
      · rw [hi]; rfl
      · simp only [↓set_get, Nat.reduceEqDiff, Bool.false_eq_true, ↓reduceIte, aenv0, aenvS, aenvN, one_ne, hi]; rfl
  rintro ρ τ ⟨d, hown, g3⟩
  refine rs ?_
  refine runX g3 ?_
  refine al_nil (rx_own hown (t := 2) (by simp only [↓set_get, Nat.reduceEqDiff, Bool.false_eq_true, ↓reduceIte, aenv0, aenvS, aenvN, one_ne]) (.done ?_))
  refine awp_ret (afin_ret (.done ?_)); simp only [ares, aone, ↓set_get, Nat.reduceEqDiff, Bool.false_eq_true, ↓reduceIte, aenv0, aenvS, aenvN, one_ne]
  exact hK
end Go.Proofs.Try
