/- gossip: heads held against each other; a text with another byte. -/
import Derived.Test.YtgbfchagmniiiaaGK
set_option maxRecDepth 8000
set_option linter.unusedSimpArgs false
set_option linter.unusedVariables false
namespace Go.Proofs.Try
open Go Go.Av
set_option pp.maxSteps 900
attribute [local irreducible] alist awp adraw apure
attribute [local go_sem] cellsOf_int cellsOf_bool cellsOf_str cellsOf_nilp cellsOf_nil cellsOf_e0 cellsOf_sl cellsOf_osl cellsOf_ptr cellsOf_eptr cellsOf_fn cellsOf_agg okc_int okc_bool okc_str okc_nilp okc_nil okc_e0 okc_sl okc_osl okc_ptr okc_eptr okc_fn okc_agg and_assoc splice_0n splice_0c splice_s load_ptr load_eptr read_t read_f store_p cells_inj set_same exists_and_left List.length_cons List.length_nil List.drop_zero List.drop_succ_cons List.take_succ_cons List.take_zero Option.isSome_some
variable {γ : Gl} {σ s : St} {K : D → St → Prop}
attribute [local go_sem] roD_len roD_33 roD_34 roD_35 roD_36 roD_h roD_a rosD_len headD_len headD_0 headD_a headD_r spl87 sgD_len sgD_0 sgD_33 sgD_34 sgD_35 sgD_a sgD_h sgD_r spl27 byt27 spl91 length_bytesD List.length_replicate splice_self sgsD_len headsD_len Int.toNat_natCast List.length_append

theorem Heads_c {L M : List Head} {t1 t2 : Option (Nat × Nat)} (hL : L.length ≤ 1000000) (hK : K (.bool (decide (L = M))) s) : ACalls prog γ 80 [.sl L.length (headsD L) t1, .sl M.length (headsD M) t2] s K := by
  have hml := headsD_len L
  have hmm := headsD_len M
  refine acalls_of_awp (by kernel_rfl) func80 rfl (by kernel_rfl) rfl rfl (by kernel_rfl) (Nat.le_of_ble_eq_true rfl) ?_
  refine rs ?_
  refine run ?_
  refine al_done ?_
  refine rs ?_
  refine run ?_
  refine al_done ?_
  refine asc ?_; refine ai ?_ ?_
  · intro h
    have h : ¬ L = M := by rintro rfl; simp at h
    rw [decide_eq_false h] at hK
    refine rs ?_
    refine run ?_
    refine rets ?_
    exact hK
  intro h
  have h : L.length = M.length := by have : ¬ ((L.length : Int) ≠ M.length) := by simpa using h
                                     omega
  refine rs ?_
  refine run ?_
  refine al_done ?_
  refine asc ?_; refine awp_while (fun n ρ t => ∃ k : Nat, n = L.length - k ∧ k ≤ L.length ∧ t = s ∧ (∀ j (hj : j < k) (h1 : j < L.length) (h2 : j < M.length), L[j] = M[j]) ∧ ρ 0 = .sl L.length (headsD L) t1 ∧ ρ 1 = .sl M.length (headsD M) t2 ∧ ρ 5 = .int .i64 (k : Nat)) L.length ?_ ?_
  · refine ⟨0, rfl, Nat.zero_le _, rfl, fun j hj => by omega, ?_, ?_, ?_⟩
    all_goals simp only [↓set_get, Nat.reduceEqDiff, Bool.false_eq_true, ↓reduceIte, aenv0, aenvS, aenvN, one_ne]
    rfl
  rintro n ρ s ⟨k, rfl, hk, rfl, hq, g0, g1, g5⟩
  refine rs ?_
  refine runX (And.intro g0 g5) ?_
  refine al_done ?_
  refine asc ?_; refine ate ?_ ?_
  · intro hb2
    have hb2 : k < L.length := by have := of_decide_eq_true hb2
                                  omega
    have hb3 : k < M.length := by omega
    have hat : ((headsD L).drop (k * 33)).take 33 = headD L[k] := rows_at headD_len L hb2
    have hbt : ((headsD M).drop (k * 33)).take 33 = headD M[k] := rows_at headD_len M hb3
    refine asc ?_; refine awp_body ?_
    refine asc ?_; refine awp_pure (by kernel_rfl) ?_
    refine runPX (And.intro g0 (And.intro g1 (And.intro g5 (And.intro hat hbt)))) ?_
    (refine ap_set ?_ ?_ ?_; rotate_left 1; (· intro K hK; refine S0 ?_; refine abin_head ?_; exact hK))
    refine ap_done ?_
    refine ac ?_ ?_
    · intro hne
      have hne : ¬ L = M := by
        rintro rfl
        have : heq L[k] L[k] = true := (heq_iff _ _).2 rfl
        simp [this] at hne
      rw [decide_eq_false hne] at hK
      refine rs ?_
      refine run ?_
      refine rets ?_
      exact hK
    · intro he
      have he : L[k] = M[k] := (heq_iff _ _).1 (by simpa using he)
      refine awp_skip (Rx.done ?_)
      refine awp_region ?_
      refine runX g5 ?_
      refine al_nil ?_
      refine lq_next (L.length - (k + 1)) (by omega) ⟨k + 1, rfl, by omega, rfl, ?_, ?_, ?_, ?_⟩
      · intro j hj h1 h2
        rcases Nat.lt_or_ge j k with hjk | hjk
        · exact hq j hjk h1 h2
        · have : j = k := by omega
          subst this; exact he
      · simp only [↓set_get, Nat.reduceEqDiff, Bool.false_eq_true, ↓reduceIte, aenv0, aenvS, aenvN, one_ne, g0]
      · simp only [↓set_get, Nat.reduceEqDiff, Bool.false_eq_true, ↓reduceIte, aenv0, aenvS, aenvN, one_ne, g1]
      · simp only [↓set_get, Nat.reduceEqDiff, Bool.false_eq_true, ↓reduceIte, aenv0, aenvS, aenvN, one_ne]; rfl
  · intro hb2
    have hb2 : k = L.length := by have := of_decide_eq_false hb2
                                  omega
    subst hb2
    have he : L = M := List.ext_getElem h fun j h1 h2 => hq j h1 h1 h2
    rw [decide_eq_true he] at hK
    refine lq_exit ?_
    refine rs ?_
    refine run ?_
    refine rets ?_
    exact hK
theorem wrap8 (c : Int) : IntKind.u8.wrap c = ((UInt8.ofNat (c % 256).toNat).toNat : Nat) := by
  rw [ofNat_toNat (by omega)]
  show c % 256 = _
  omega
def kT (n : Nat) (a c : Int) : Nat := if c % 2 = 0 then (if 60 < n then a.toNat % n % 60 else a.toNat % n % n) else a.toNat % n
def turnT (t : List UInt8) (a b c : Int) : List UInt8 := t.set (kT t.length a c) (UInt8.ofNat (b % 256).toNat)
theorem turnT_len (t : List UInt8) (a b c : Int) : (turnT t a b c).length = t.length := List.length_set
theorem splice_b {t : List UInt8} {k : Nat} (hk : k < t.length) (b : UInt8) : splice (bytesD t) k [.int .u8 (b.toNat : Nat)] = bytesD (t.set k b) := by
  have h1 : (bytesD t).length = t.length := length_bytesD t
  apply List.ext_getElem?
  intro j
  rw [get_splice (by simp; omega), getElem?_bytesD, getElem?_bytesD, List.getElem?_set]
  by_cases hj : j = k
  · subst hj
    rw [if_pos (by simp), if_pos rfl, if_pos hk]; simp
  · rw [if_neg (by simp; omega), if_neg (Ne.symm hj)]
theorem turned_c {t : List UInt8} {a b c : Int} (ht : t.length ≤ 140737488355328) (ha : 0 ≤ a ∧ a < 65536) (hb : 0 ≤ b ∧ b < 65536) (hc : 0 ≤ c ∧ c < 65536) (hK : K (.str (turnT t a b c)) s) : ACalls prog γ 75 [.str t, .agg [.int .u16 a, .int .u16 b, .int .u16 c]] s K := by
  have hbl : (bytesD t).length = t.length := length_bytesD _
  refine acalls_of_awp (by kernel_rfl) func75 rfl (by kernel_rfl) rfl rfl (by kernel_rfl) (Nat.le_of_ble_eq_true rfl) ?_
  refine rs ?_
  (refine aF ?_; intro p hp; (try (have h_hp := hp; simp only [set_none] at h_hp)))
  refine run ?_
  refine al_done ?_
  refine rs ?_
  refine run ?_
  refine al_done ?_
  refine asc ?_; refine ai ?_ ?_
  · intro h
    refine rs ?_
    refine run ?_
    refine al_done (awp_ret (afin_ret (.forget s (le_set _ hp) (.done ?_)))); simp only [ares, aone, ↓set_get, Nat.reduceEqDiff, Bool.false_eq_true, ↓reduceIte, aenv0, aenvS, aenvN, one_ne]
    have ht0 : t = [] := by cases t with
      | nil => rfl
      | cons => simp at h; omega
    subst ht0
    exact hK
  intro h
  have h0 : 0 < t.length := by
    have : ¬ ((t.length : Int) = 0) := by simpa using h
    omega
  refine rs ?_
  refine run ?_
  (refine al_fresh ?_ ?_ ?_ ?_ ?_; rotate_left 3; (· intro K hK; refine S2 ?_; refine conv_row isStr9 elt45 int5 (by omega) ?_; exact hK))
  intro q hq
  obtain ⟨hqp, hqs⟩ := keep_none hq
  have hpq := Ne.symm hqp
  refine run ?_
  refine al_done ?_
  refine rs ?_
  refine run ?_
  refine al_done ?_
  refine rs ?_
  refine run ?_
  refine al_done ?_
  obtain ⟨A, rfl⟩ : ∃ A : Nat, a = (A : Nat) := ⟨a.toNat, by omega⟩
  have hk0 : (A : Int) % (t.length : Int) = (A % t.length : Nat) := (Int.natCast_emod _ _).symm
  have hk1 : A % t.length < t.length := Nat.mod_lt _ h0
  have hx := wrap8 b
  rw [hk0]
  have hkl : kT t.length A c < t.length := by
    unfold kT
    rw [Int.toNat_natCast]
    split
    · split
      · omega
      · exact Nat.mod_lt _ h0
    · exact hk1
  refine asc ?_; refine aij (fun ρ' s' => s' = ((s.set p (.cells [.int .u16 (A : Nat), .int .u16 b, .int .u16 c] 106)).set q (.cells (bytesD t) 5)) ∧ ρ' 3 = .ptr p 0 ∧ ρ' 5 = .osl q 0 t.length 1 ∧ ρ' 6 = .int .i64 (kT t.length A c : Nat)) ?_ ?_ ?_
  · intro hc2 K' hJ
    have hc2 : c % 2 = 0 := by simpa using hc2
    refine awp_region ?_
    refine run ?_
    refine al_nil (hJ _ _ (.done ⟨rfl, ?_, ?_, ?_⟩))
    · simp only [↓set_get, Nat.reduceEqDiff, Bool.false_eq_true, ↓reduceIte, aenv0, aenvS, aenvN, one_ne]
    · simp only [↓set_get, Nat.reduceEqDiff, Bool.false_eq_true, ↓reduceIte, aenv0, aenvS, aenvN, one_ne]
    · simp only [↓set_get, Nat.reduceEqDiff, Bool.false_eq_true, ↓reduceIte, aenv0, aenvS, aenvN, one_ne, kT, if_pos hc2, Int.toNat_natCast]; congr 1
      by_cases h60 : 60 < t.length
      · rw [if_pos (by omega), if_pos h60]; omega
      · rw [if_neg (by omega), if_neg h60]; exact (Int.natCast_emod _ _).symm
  · intro hc2
    have hc2 : ¬ c % 2 = 0 := by simpa using hc2
    refine ⟨rfl, ?_, ?_, ?_⟩
    · simp only [↓set_get, Nat.reduceEqDiff, Bool.false_eq_true, ↓reduceIte, aenv0, aenvS, aenvN, one_ne]
    · simp only [↓set_get, Nat.reduceEqDiff, Bool.false_eq_true, ↓reduceIte, aenv0, aenvS, aenvN, one_ne]
    · simp only [↓set_get, Nat.reduceEqDiff, Bool.false_eq_true, ↓reduceIte, aenv0, aenvS, aenvN, one_ne, kT, if_neg hc2, Int.toNat_natCast]
  rintro ρ1 _ ⟨rfl, g3, g5, g6⟩
  have hst := splice_b hkl (UInt8.ofNat (b % 256).toNat)
  have hbl2 : (bytesD (t.set (kT t.length A c) (UInt8.ofNat (b % 256).toNat))).length = t.length := by rw [length_bytesD, List.length_set]
  refine rs ?_
  refine runX (And.intro g3 (And.intro g5 (And.intro g6 (And.intro hx hst)))) ?_
  refine al_done ?_
  refine rs ?_
  refine runX g5 ?_
  (refine al_set ?_ ?_ ?_ ?_; rotate_left 2; (· intro K hK; refine S1 ?_; refine conv_osl isStr9 elt45 int5 (by simp (disch := omega) only [set_same, set_other, del_other]; try rfl) (l := t.set (kT t.length A c) (UInt8.ofNat (b % 256).toNat)) (by rw [List.drop_zero, List.take_of_length_le (by omega)]) (by rw [List.length_set]) ?_; exact hK))
  refine run ?_
  refine al_done (awp_ret (afin_ret (.forget s ?_ (.done ?_))))
  · (intro j x hx; simp only [set_app, del_app] at *; grind)
  · simp only [ares, aone, ↓set_get, Nat.reduceEqDiff, Bool.false_eq_true, ↓reduceIte, aenv0, aenvS, aenvN, one_ne]
    exact hK

/-! ### the statement -/
def gl (t : List UInt8) : List SHead := (getG t).getD []
def gr (t : List UInt8) : Int := if (getG t).isSome then 0 else 10
theorem dGetG_q (t : List UInt8) : dGetG t = .tup [.sl (gl t).length (sgsD (gl t)) none, .int .i64 (gr t)] := by
  unfold dGetG gl gr
  cases getG t <;> rfl
def kl (t : List UInt8) : List Head := (getK t).getD []
def kr (t : List UInt8) : Int := if (getK t).isSome then 0 else 10
theorem dGetK_q (t : List UInt8) : dGetK t = .tup [.sl (kl t).length (headsD (kl t)) none, .int .i64 (kr t)] := by
  unfold dGetK kl kr
  cases getK t <;> rfl
theorem gl_ok (t : List UInt8) : (gl t).length ≤ 3 ∧ ∀ x ∈ gl t, valid x := by
  unfold gl
  cases h : getG t with
  | none => exact ⟨by simp, fun x hx => by simp at hx⟩
  | some L =>
    obtain ⟨a, _⟩ := getG_iff.1 h
    exact ⟨a.1.2, a.2⟩
theorem kl_ok (t : List UInt8) : (kl t).length ≤ 64 := by
  unfold kl
  cases h : getK t with
  | none => simp
  | some L => exact (getK_iff.1 h).1.1
theorem gpS_len (L : List SHead) : (gpS L).length ≤ 60000 := by
  unfold gpS
  split
  · rename_i h
    have h1 := gB_len h.2
    have h2 := length_numB (n := L.length) (by have := h.1; omega)
    have := h.1.2
    rw [gput, List.length_cons, List.length_append]; omega
  · simp
theorem gkS_len (L : List Head) : (gkS L).length ≤ 60000 := by
  unfold gkS
  split
  · rename_i h
    have h1 := hB_len h.2
    have h2 := length_numB (n := L.length) (by have := h.1; omega)
    have := h.1
    rw [gknown, List.length_cons, List.length_append]; omega
  · simp
theorem bsl9 {a0 a1 a2 a3 a4 a5 a6 a7 a8 : List UInt8} {K : D → St → Prop} (hk : K (.sl 9 ([a0, a1, a2, a3, a4, a5, a6, a7, a8].map D.str) none) s) : abuildSl prog 44 9 [(0, .str a0), (1, .str a1), (2, .str a2), (3, .str a3), (4, .str a4), (5, .str a5), (6, .str a6), (7, .str a7), (8, .str a8)] s K := by
  have hf : afill (fun i => some (i * 1, 1)) (List.replicate 9 [D.str []]).flatten [(0, .str a0), (1, .str a1), (2, .str a2), (3, .str a3), (4, .str a4), (5, .str a5), (6, .str a6), (7, .str a7), (8, .str a8)] = some ([a0, a1, a2, a3, a4, a5, a6, a7, a8].map D.str) := by
    simp only [List.replicate_succ, List.replicate_zero, List.flatten_cons, List.flatten_nil, List.cons_append, List.nil_append, afill, cellsOf_str, okc_str, Nat.reduceMul, splice_s, splice_0c, splice_0n, List.length_cons, List.length_nil, Nat.reduceAdd, Nat.reduceLeDiff, and_self, if_true, List.map_cons, List.map_nil]
  simp only [abuildSl, elt44, zc9, hf]
  exact ⟨by decide, .inr (.inr hk)⟩
end Go.Proofs.Try
