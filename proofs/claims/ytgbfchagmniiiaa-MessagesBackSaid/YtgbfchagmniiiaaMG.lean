/- messages: replies put; walked. -/
import Derived.Test.YtgbfchagmniiiaaMF
set_option maxRecDepth 8000
set_option linter.unusedSimpArgs false
set_option linter.unusedVariables false
namespace Go.Proofs.Try
open Go Go.Av
set_option pp.maxSteps 900
attribute [local irreducible] alist awp adraw apure
attribute [local go_sem] cellsOf_int cellsOf_bool cellsOf_str cellsOf_nilp cellsOf_nil cellsOf_e0 cellsOf_sl cellsOf_osl cellsOf_ptr cellsOf_eptr cellsOf_fn cellsOf_agg okc_int okc_bool okc_str okc_nilp okc_nil okc_e0 okc_sl okc_osl okc_ptr okc_eptr okc_fn okc_agg and_assoc splice_0n splice_0c splice_s load_ptr load_eptr read_t read_f store_p cells_inj set_same exists_and_left List.length_cons List.length_nil List.drop_zero List.drop_succ_cons List.take_succ_cons List.take_zero Option.isSome_some
variable {γ : Gl} {σ s : St} {K : D → St → Prop}
attribute [local go_sem] List.length_append natc0 eq_self sgD_len sgD_a spl91 splice_self List.length_replicate length_bytesD sgsD_len bne_self_eq_false Int.toNat_natCast

def BOk (r : Rep) : Prop :=
  if r.kind = 1 then 1 ≤ r.code ∧ r.code ≤ 255
  else if r.kind = 2 then allV r.heads ∧ r.heads.length = 1
  else if r.kind = 3 then (shortE r.entries ∧ r.entries.length ≤ 16) ∧ r.proof.length ≤ 64
  else if r.kind = 4 then r.proof.length ≤ 64
  else if r.kind = 5 then allV r.heads ∧ r.heads.length = 2
  else False
instance (r : Rep) : Decidable (BOk r) := by unfold BOk; infer_instance
def bodyB (r : Rep) : List UInt8 :=
  if r.kind = 1 then numB r.code.toNat
  else if r.kind = 2 then gB r.heads
  else if r.kind = 3 then entB r.entries ++ hashesB r.proof
  else if r.kind = 4 then hashesB r.proof
  else gB r.heads
theorem hashesB_len {hs : List (List UInt8)} (a : All32 hs) : (hashesB hs).length ≤ 2058 := by
  unfold hashesB
  split
  · simp
  · rename_i h
    have := length_numB (n := hs.length) (by omega)
    rw [List.length_append, flat_len a]; omega
theorem BOk_kind {r : Rep} (h : BOk r) : 1 ≤ r.kind ∧ r.kind ≤ 5 := by
  unfold BOk at h
  by_cases h1 : r.kind = 1
  · omega
  by_cases h2 : r.kind = 2
  · omega
  by_cases h3 : r.kind = 3
  · omega
  by_cases h4 : r.kind = 4
  · omega
  by_cases h5 : r.kind = 5
  · omega
  rw [if_neg h1, if_neg h2, if_neg h3, if_neg h4, if_neg h5] at h; exact h.elim
theorem body_len {r : Rep} (h : BOk r) : (bodyB r).length ≤ 40000 := by
  have hp := hashesB_len r.hp
  unfold BOk at h
  unfold bodyB
  by_cases h1 : r.kind = 1
  · rw [if_pos h1] at h ⊢
    have := length_numB (n := r.code.toNat) (by omega)
    omega
  by_cases h2 : r.kind = 2
  · rw [if_neg h1, if_pos h2] at h ⊢
    have := gB_len h.1
    rw [h.2] at this; omega
  by_cases h3 : r.kind = 3
  · rw [if_neg h1, if_neg h2, if_pos h3] at h ⊢
    have h4 := enB_len (n := 200) (by decide) h.1.1
    have h5 := length_numB (n := r.entries.length) (by have := h.1.2; omega)
    have := h.1.2
    rw [List.length_append, entB, List.length_append]; omega
  by_cases h4 : r.kind = 4
  · rw [if_neg h1, if_neg h2, if_neg h3, if_pos h4]; omega
  by_cases h5 : r.kind = 5
  · rw [if_neg h1, if_neg h2, if_neg h3, if_neg h4, if_pos h5] at h
    rw [if_neg h1, if_neg h2, if_neg h3, if_neg h4]
    have := gB_len h.1
    rw [h.2] at this; omega
  rw [if_neg h1, if_neg h2, if_neg h3, if_neg h4, if_neg h5] at h; exact h.elim
def POk (r : Rep) : Prop := goodN r.id ∧ BOk r
instance (r : Rep) : Decidable (POk r) := by unfold POk; infer_instance
def putP (r : Rep) : List UInt8 := ((82 :: numB r.id.toNat) ++ numB r.kind.toNat) ++ bodyB r
def dPP (r : Rep) : D := if POk r then .tup [.str (putP r), .int .i64 0] else .tup [.str [], .int .i64 2]
def ppS (r : Rep) : List UInt8 := if POk r then putP r else []
def ppE (r : Rep) : Int := if POk r then 0 else 2
theorem dPP_q (r : Rep) : dPP r = .tup [.str (ppS r), .int .i64 (ppE r)] := by unfold dPP ppS ppE; split <;> rfl
def Fin (r : Rep) : Prop := (r.heads.length ≤ 1000 ∧ r.entries.length ≤ 1000 ∧ r.proof.length ≤ 1000) ∧ (∀ x ∈ r.entries, x.length ≤ 1000) ∧ I64 r.id ∧ I64 r.kind ∧ I64 r.code
theorem beq_d {a b : Int} : (a == b) = decide (a = b) := by rw [Bool.eq_iff_iff]; simp
theorem PutReply_c {r : Rep} (hf : Fin r) (hK : K (dPP r) s) : ACalls prog γ 71 [.agg (repD r)] s K := by
  have hrl := repD_len r
  have c0 : (repD r)[0]? = some (.int .i64 r.id) := rfl
  have c1 : (repD r)[1]? = some (.int .i64 r.kind) := rfl
  have c2 : (repD r)[2]? = some (.int .i64 r.code) := rfl
  have c3 : (repD r)[3]? = some (.sl r.heads.length (sgsD r.heads) none) := rfl
  have c4 : (repD r)[4]? = some (.sl r.entries.length (txD r.entries) none) := rfl
  have c5 : (repD r)[5]? = some (.sl r.proof.length (bytesD r.proof.flatten) none) := rfl
  obtain ⟨⟨hH, hE, hP⟩, hT, _⟩ := hf
  have hT2 : ∀ x ∈ r.entries, x.length ≤ 9223372036854775807 := fun x hx => by have := hT x hx; omega
  have hpl := hashesB_len r.hp
  refine acalls_of_awp (by kernel_rfl) func71 rfl (by kernel_rfl) rfl rfl (by kernel_rfl) (Nat.le_of_ble_eq_true rfl) ?_
  refine rs ?_
  (refine aF ?_; intro p hp; (try (have h_hp := hp; simp only [set_none] at h_hp)))
  refine run ?_
  refine al_done ?_
  obtain ⟨s1, hs1⟩ : ∃ x, s.set p (.cells (repD r) 100) = x := ⟨_, rfl⟩
  have hpc : s1 p = some (.cells (repD r) 100) := by rw [← hs1]; exact set_same _ _ _
  have hle : s.le s1 := by rw [← hs1]; exact le_set _ hp
  rw [hs1]
  clear hs1 hp
  refine asc ?_; refine awp_rj (fun ρ' s' => s' = s1 ∧ ρ' 1 = .ptr p 0 ∧ ρ' 13 = .bool (decide (¬ goodN r.id))) ?_ ?_
  · intro K' hJ
    (repeat' (first | refine run1X (And.intro hpc c0) ?_ | (refine al_guard rfl (by simp only [↓set_get, Nat.reduceEqDiff, Bool.false_eq_true, ↓reduceIte, aenv0, aenvS, aenvN, one_ne, hpc, c0]; rfl) (fun hb => ?_) (fun hb => ?_) <;> (try simp only [ne_eq, Bool.not_eq_true, Bool.not_eq_false] at hb) <;> have hb2 := hb <;> (try simp only [decide_eq_true_eq, decide_eq_false_iff_not, beq_iff_eq, beq_eq_false_iff_ne, bne_iff_ne, ne_eq, Bool.not_eq_true', Bool.not_eq_false'] at hb2) <;> (try rw [hb]))))
    all_goals refine al_nil (hJ _ _ ⟨rfl, ?_, ?_⟩)
    all_goals simp only [↓set_get, Nat.reduceEqDiff, Bool.false_eq_true, ↓reduceIte, aenv0, aenvS, aenvN, one_ne]
    all_goals (first | exact bool_t (by unfold goodN; omega) | exact bool_f (by unfold goodN; omega) | exact bool_s (by unfold goodN; (first | rw [decide_eq_true_eq] | rw [beq_iff_eq] | rw [bne_iff_ne]); omega))
  rintro ρ1 s1 ⟨rfl, g1, g13⟩
  refine asc ?_; refine aiX g13 ?_ ?_
  · intro h
    rw [dPP, if_neg (fun hh => of_decide_eq_true h hh.1)] at hK
    refine rs ?_
    refine run ?_
    refine al_done (awp_ret (afin_ret (.forget s hle (.done ?_)))); simp only [ares, aone, ↓set_get, Nat.reduceEqDiff, Bool.false_eq_true, ↓reduceIte, aenv0, aenvS, aenvN, one_ne]
    exact hK
  intro h
  have hid : goodN r.id := Decidable.not_not.1 (of_decide_eq_false h)
  refine rs ?_
  refine run ?_
  refine al_done ?_
  refine rs ?_
  refine runX (And.intro g1 (And.intro hpc c1)) ?_
  refine al_done ?_
  refine asc ?_; refine awp_bj (fun ρ' s' => s' = s1 ∧ ρ' 1 = .ptr p 0 ∧ ∃ U, ρ' 4 = .str U ∧ ρ' 5 = .bool (decide (BOk r)) ∧ (BOk r → U = bodyB r)) ?_ ?_
  · intro K' hJ
    by_cases k1 : r.kind = 1
    · have e1 : (r.kind == 1) = true := by rw [k1]; rfl
      have hB : BOk r ↔ 1 ≤ r.code ∧ r.code ≤ 255 := by rw [BOk, if_pos k1]
      have hU : bodyB r = numB r.code.toNat := by rw [bodyB, if_pos k1]
      refine rs ?_
      refine runX e1 ?_
      refine al_done ?_
      refine ac ?_ ?_
      · intro _
        refine asc ?_; refine awp_rj (fun ρ' s' => s' = s1 ∧ ρ' 1 = .ptr p 0 ∧ ρ' 4 = .str [] ∧ ρ' 5 = .bool (decide (1 ≤ r.code ∧ r.code ≤ 255))) ?_ ?_
        · intro K2 hJ2
          (repeat' (first | refine run1X (And.intro hpc (And.intro c2 g1)) ?_ | (refine al_guard rfl (by simp only [↓set_get, Nat.reduceEqDiff, Bool.false_eq_true, ↓reduceIte, aenv0, aenvS, aenvN, one_ne, hpc, c2, g1]; rfl) (fun hb => ?_) (fun hb => ?_) <;> (try simp only [ne_eq, Bool.not_eq_true, Bool.not_eq_false] at hb) <;> have hb2 := hb <;> (try simp only [decide_eq_true_eq, decide_eq_false_iff_not, beq_iff_eq, beq_eq_false_iff_ne, bne_iff_ne, ne_eq, Bool.not_eq_true', Bool.not_eq_false'] at hb2) <;> (try rw [hb]))))
          all_goals refine al_nil (hJ2 _ _ ⟨rfl, ?_, ?_, ?_⟩)
          all_goals simp only [↓set_get, Nat.reduceEqDiff, Bool.false_eq_true, ↓reduceIte, aenv0, aenvS, aenvN, one_ne, g1]
          all_goals (first | exact bool_t (by omega) | exact bool_f (by omega) | exact bool_s (by (first | rw [decide_eq_true_eq] | rw [beq_iff_eq] | rw [bne_iff_ne]); omega))
        rintro ρ s1 ⟨rfl, g1, g4, g5⟩
        have hd : decide (1 ≤ r.code ∧ r.code ≤ 255) = decide (BOk r) := decide_eq_decide.2 hB.symm
        rw [hd] at g5
        refine rs ?_
        refine runX g5 ?_
        refine al_done ?_
        by_cases hok : BOk r
        · have hb := hB.1 hok
          have ed : decide (BOk r) = true := decide_eq_true hok
          refine ac ?_ ?_
          · intro _
            refine awp_region ?_
            refine runX (And.intro hpc (And.intro c2 g1)) ?_
            (refine al_set ?_ ?_ ?_ ?_; rotate_left 2; (· intro K hK; refine S1 ?_; refine Or.inl (Num_c (by omega) (by omega) ?_); exact hK))
            refine run ?_
            refine al_nil (hJ _ _ (.done ⟨rfl, ?_, _, ?_, ?_, fun _ => hU.symm⟩))
            all_goals simp only [↓set_get, Nat.reduceEqDiff, Bool.false_eq_true, ↓reduceIte, aenv0, aenvS, aenvN, one_ne, g1, g5]
          · intro h; rw [ed] at h; cases h
        · have ed : decide (BOk r) = false := decide_eq_false hok
          refine ac ?_ ?_
          · intro h; rw [ed] at h; cases h
          · intro _
            refine awp_skip (hJ _ _ (.done ⟨rfl, ?_, [], ?_, ?_, fun h => absurd h hok⟩))
            all_goals simp only [↓set_get, Nat.reduceEqDiff, Bool.false_eq_true, ↓reduceIte, aenv0, aenvS, aenvN, one_ne, g1, g4, g5]
      · intro h; cases h
    have e1 : (r.kind == 1) = false := by rw [beq_eq_false_iff_ne]; exact k1
    refine rs ?_
    refine runX e1 ?_
    refine al_done ?_
    refine ac ?_ ?_
    · intro h; cases h
    intro _
    by_cases k2 : r.kind = 2
    · have e2 : (r.kind == 2) = true := by rw [k2]; rfl
      have hB : BOk r ↔ allV r.heads ∧ r.heads.length = 1 := by rw [BOk, if_neg k1, if_pos k2]
      have hU : bodyB r = gB r.heads := by rw [bodyB, if_neg k1, if_pos k2]
      refine rs ?_
      refine runX e2 ?_
      refine al_done ?_
      refine ac ?_ ?_
      · intro _
        refine awp_region ?_
        refine runX (And.intro hpc (And.intro c3 g1)) ?_
        (refine al_set ?_ ?_ ?_ ?_; rotate_left 2; (· intro K hK; refine S1 ?_; refine Or.inl (mSigned_c hH ?_); exact hK))
        rw [dSig]
        by_cases hv : allV r.heads
        · rw [if_pos hv]
          have hd : decide ((r.heads.length : Int) = 1) = decide (BOk r) := decide_eq_decide.2 (by rw [hB]; constructor <;> intro h; exact ⟨hv, by omega⟩; have := h.2; omega)
          refine runX hd ?_
          refine al_nil (hJ _ _ (.done ⟨rfl, ?_, _, ?_, ?_, fun _ => hU.symm⟩))
          all_goals simp only [↓set_get, Nat.reduceEqDiff, Bool.false_eq_true, ↓reduceIte, aenv0, aenvS, aenvN, one_ne, g1, hd]
        · have hno : ¬ BOk r := fun h => hv (hB.1 h).1
          rw [if_neg hv]
          refine run ?_
          refine al_nil (hJ _ _ (.done ⟨rfl, ?_, [], ?_, ?_, fun h => absurd h hno⟩))
          all_goals simp only [↓set_get, Nat.reduceEqDiff, Bool.false_eq_true, ↓reduceIte, aenv0, aenvS, aenvN, one_ne, g1, decide_eq_false hno]
      · intro h; cases h
    have e2 : (r.kind == 2) = false := by rw [beq_eq_false_iff_ne]; exact k2
    refine rs ?_
    refine runX e2 ?_
    refine al_done ?_
    refine ac ?_ ?_
    · intro h; cases h
    intro _
    by_cases k3 : r.kind = 3
    · have e3 : (r.kind == 3) = true := by rw [k3]; rfl
      have hB : BOk r ↔ (shortE r.entries ∧ r.entries.length ≤ 16) ∧ r.proof.length ≤ 64 := by rw [BOk, if_neg k1, if_neg k2, if_pos k3]
      have hU : bodyB r = entB r.entries ++ hashesB r.proof := by rw [bodyB, if_neg k1, if_neg k2, if_pos k3]
      refine rs ?_
      refine runX e3 ?_
      refine al_done ?_
      refine ac ?_ ?_
      · intro _
        have hEn : ∃ (V : List UInt8) (b : Bool), dEnt r.entries = .tup [.str V, .bool b] ∧ V.length ≤ 1000000 ∧ (b = true ↔ shortE r.entries ∧ r.entries.length ≤ 16) ∧ (shortE r.entries → V = entB r.entries) := by
          rw [dEnt]
          by_cases hs : shortE r.entries
          · have h4 := enB_len (n := 200) (by decide) hs
            have h5 := length_numB (n := r.entries.length) (by omega)
            refine ⟨entB r.entries, decide (r.entries.length ≤ 16), by rw [if_pos hs], by rw [entB, List.length_append]; omega, by rw [decide_eq_true_iff]; exact ⟨fun h => ⟨hs, h⟩, fun h => h.2⟩, fun _ => rfl⟩
          · exact ⟨[], false, by rw [if_neg hs], by simp, by simp [hs], fun h => absurd h hs⟩
        obtain ⟨V, b, hVb, hVl, hb, hV⟩ := hEn
        refine rs ?_
        refine runX (And.intro hpc (And.intro c4 g1)) ?_
        (refine al_set ?_ ?_ ?_ ?_; rotate_left 2; (· intro K hK; refine S1 ?_; refine Or.inl (mEntries_c hE hT2 ?_); exact hK))
        rw [hVb]
        refine run ?_
        refine al_done ?_
        refine rs ?_
        refine runX (And.intro hpc (And.intro c5 g1)) ?_
        (refine al_set ?_ ?_ ?_ ?_; rotate_left 2; (· intro K hK; refine S1 ?_; refine Or.inl (Hashes_c r.hp (by omega) ?_); exact hK))
        refine run ?_
        refine al_done ?_
        refine awp_region ?_
        have hfin : (b && decide ((r.proof.length : Int) ≤ 64)) = decide (BOk r) := by
          rw [Bool.eq_iff_iff, decide_eq_true_iff, hB, ← hb, Bool.and_eq_true, decide_eq_true_iff]; exact and_congr Iff.rfl (by omega)
        cases b with
        | true =>
          have hfin : decide ((r.proof.length : Int) ≤ 64) = decide (BOk r) := by simpa using hfin
          refine runX (And.intro hpc (And.intro c5 (And.intro g1 hfin))) ?_
          refine al_nil (hJ _ _ (.done ⟨rfl, ?_, V ++ hashesB r.proof, ?_, ?_, fun h => ?_⟩))
          · simp only [↓set_get, Nat.reduceEqDiff, Bool.false_eq_true, ↓reduceIte, aenv0, aenvS, aenvN, one_ne, g1]
          · simp only [↓set_get, Nat.reduceEqDiff, Bool.false_eq_true, ↓reduceIte, aenv0, aenvS, aenvN, one_ne]
          · simp only [↓set_get, Nat.reduceEqDiff, Bool.false_eq_true, ↓reduceIte, aenv0, aenvS, aenvN, one_ne]
          · rw [hU, hV (hB.1 h).1.1]
        | false =>
          have hno : ¬ BOk r := by
            intro h
            rw [decide_eq_true h] at hfin; cases hfin
          refine run ?_
          refine al_nil (hJ _ _ (.done ⟨rfl, ?_, V ++ hashesB r.proof, ?_, ?_, fun h => absurd h hno⟩))
          all_goals simp only [↓set_get, Nat.reduceEqDiff, Bool.false_eq_true, ↓reduceIte, aenv0, aenvS, aenvN, one_ne, g1, decide_eq_false hno]
      · intro h; cases h
    have e3 : (r.kind == 3) = false := by rw [beq_eq_false_iff_ne]; exact k3
    refine rs ?_
    refine runX e3 ?_
    refine al_done ?_
    refine ac ?_ ?_
    · intro h; cases h
    intro _
    by_cases k4 : r.kind = 4
    · have e4 : (r.kind == 4) = true := by rw [k4]; rfl
      have hB : BOk r ↔ r.proof.length ≤ 64 := by rw [BOk, if_neg k1, if_neg k2, if_neg k3, if_pos k4]
      have hU : bodyB r = hashesB r.proof := by rw [bodyB, if_neg k1, if_neg k2, if_neg k3, if_pos k4]
      have hd : decide ((r.proof.length : Int) ≤ 64) = decide (BOk r) := decide_eq_decide.2 (by rw [hB]; omega)
      refine rs ?_
      refine runX e4 ?_
      refine al_done ?_
      refine ac ?_ ?_
      · intro _
        refine awp_draw1 [true, true, true, true, true, true, true, true, true] (by kernel_rfl) ?_
        refine runDX (And.intro hpc (And.intro c5 g1)) ?_
        (refine pa_set ?_ ?_ ?_; rotate_left 1; (· intro K hK; refine S1 ?_; refine Or.inl (Hashes_c r.hp (by omega) ?_); exact hK))
        refine runDX (And.intro hpc (And.intro c5 (And.intro g1 hd))) ?_
        refine pa_nil ?_
        refine passes ?_
        refine pt_end ?_
        refine hJ _ _ (.done ⟨rfl, ?_, _, ?_, ?_, fun _ => hU.symm⟩)
        all_goals simp only [↓set_get, Nat.reduceEqDiff, Bool.false_eq_true, ↓reduceIte, aenv0, aenvS, aenvN, one_ne, g1]
      · intro h; cases h
    have e4 : (r.kind == 4) = false := by rw [beq_eq_false_iff_ne]; exact k4
    refine rs ?_
    refine runX e4 ?_
    refine al_done ?_
    refine ac ?_ ?_
    · intro h; cases h
    intro _
    by_cases k5 : r.kind = 5
    · have e5 : (r.kind == 5) = true := by rw [k5]; rfl
      have hB : BOk r ↔ allV r.heads ∧ r.heads.length = 2 := by rw [BOk, if_neg k1, if_neg k2, if_neg k3, if_neg k4, if_pos k5]
      have hU : bodyB r = gB r.heads := by rw [bodyB, if_neg k1, if_neg k2, if_neg k3, if_neg k4]
      refine rs ?_
      refine runX e5 ?_
      refine al_done ?_
      refine ac ?_ ?_
      · intro _
        refine awp_region ?_
        refine runX (And.intro hpc (And.intro c3 g1)) ?_
        (refine al_set ?_ ?_ ?_ ?_; rotate_left 2; (· intro K hK; refine S1 ?_; refine Or.inl (mSigned_c hH ?_); exact hK))
        rw [dSig]
        by_cases hv : allV r.heads
        · rw [if_pos hv]
          have hd : decide ((r.heads.length : Int) = 2) = decide (BOk r) := decide_eq_decide.2 (by rw [hB]; constructor <;> intro h; exact ⟨hv, by omega⟩; have := h.2; omega)
          refine runX hd ?_
          refine al_nil (hJ _ _ (.done ⟨rfl, ?_, _, ?_, ?_, fun _ => hU.symm⟩))
          all_goals simp only [↓set_get, Nat.reduceEqDiff, Bool.false_eq_true, ↓reduceIte, aenv0, aenvS, aenvN, one_ne, g1, hd]
        · have hno : ¬ BOk r := fun h => hv (hB.1 h).1
          rw [if_neg hv]
          refine run ?_
          refine al_nil (hJ _ _ (.done ⟨rfl, ?_, [], ?_, ?_, fun h => absurd h hno⟩))
          all_goals simp only [↓set_get, Nat.reduceEqDiff, Bool.false_eq_true, ↓reduceIte, aenv0, aenvS, aenvN, one_ne, g1, decide_eq_false hno]
      · intro h; cases h
    have e5 : (r.kind == 5) = false := by rw [beq_eq_false_iff_ne]; exact k5
    have hno : ¬ BOk r := by
      intro h
      rw [BOk, if_neg k1, if_neg k2, if_neg k3, if_neg k4, if_neg k5] at h; exact h
    refine rs ?_
    refine runX e5 ?_
    refine al_done ?_
    refine ac ?_ ?_
    · intro h; cases h
    intro _
    refine awp_skip (hJ _ _ (.done ⟨rfl, ?_, [], ?_, ?_, fun h => absurd h hno⟩))
    all_goals simp only [↓set_get, Nat.reduceEqDiff, Bool.false_eq_true, ↓reduceIte, aenv0, aenvS, aenvN, one_ne, g1, decide_eq_false hno]
  · rintro ρ s1 ⟨rfl, g1, U, g4, g5, hU⟩
    refine rs ?_
    refine runX g5 ?_
    refine al_done ?_
    by_cases hok : BOk r
    · have hd : decide (BOk r) = true := decide_eq_true hok
      have hU := hU hok
      subst hU
      have hbl := body_len hok
      have hk := BOk_kind hok
      have hi0 := hid.1
      have hi1 := hid.2
      have l0 := length_numB (n := r.id.toNat) (by omega)
      have l1 := length_numB (n := r.kind.toNat) (by omega)
      rw [dPP, if_pos ⟨hid, hok⟩] at hK
      refine asc ?_; refine ai ?_ ?_
      · intro h; rw [hd] at h; cases h
      · intro _
        refine asc ?_; refine awp_pure (by kernel_rfl) ?_
        refine runPX (And.intro g1 (And.intro hpc c0)) ?_
        (refine ap_set ?_ ?_ ?_; rotate_left 1; (· intro K hK; refine S0 ?_; refine Or.inl (Num_c (by omega) (by omega) ?_); exact hK))
        refine runPX (And.intro g1 (And.intro hpc c1)) ?_
        (refine ap_set ?_ ?_ ?_; rotate_left 1; (· intro K hK; refine S0 ?_; refine Or.inl (Num_c (by omega) (by omega) ?_); exact hK))
        refine runPX g4 ?_
        refine ap_done (awp_ret (afin_ret (.forget s hle (.done ?_)))); simp only [ares, aone, ↓set_get, Nat.reduceEqDiff, Bool.false_eq_true, ↓reduceIte, aenv0, aenvS, aenvN, one_ne]
        exact hK
    · have hd : decide (BOk r) = false := decide_eq_false hok
      rw [dPP, if_neg (fun h => hok h.2)] at hK
      refine asc ?_; refine ai ?_ ?_
      · intro _
        refine rs ?_
        refine run ?_
        refine al_done (awp_ret (afin_ret (.forget s hle (.done ?_)))); simp only [ares, aone, ↓set_get, Nat.reduceEqDiff, Bool.false_eq_true, ↓reduceIte, aenv0, aenvS, aenvN, one_ne]
        exact hK
      · intro h; rw [hd] at h; cases h
end Go.Proofs.Try
