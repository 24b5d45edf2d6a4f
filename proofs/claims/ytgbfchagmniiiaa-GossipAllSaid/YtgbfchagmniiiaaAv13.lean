/- A region whose order is open: whatever the order, it comes to what its text comes to. -/
import Derived.Test.YtgbfchagmniiiaaAv12
set_option linter.unusedSimpArgs false
set_option linter.unusedVariables false
namespace Go.Av
open Go.RowKit

def dstOf (ops : List Oper) (j : Nat) : Option Tmp := (ops[j]?).bind (·.dst)
def wr (ops : List Oper) (t : Tmp) : Option Nat := (List.range ops.length).find? fun k => dstOf ops k == some t
/-- The frame when the operations of S have been carried out. -/
def EV (ops : List Oper) (ρ0 : Env) (S : Nat → Bool) (ds : Nat → D) : Env := fun t => match wr ops t with
  | some k => if S k = true then ds k else ρ0 t
  | none => ρ0 t

structure DOk (mask : List Bool) (ops : List Oper) : Prop where
  len : mask.length = ops.length
  down : ∀ j o, ops[j]? = some o → ∀ e ∈ o.after.toList, Region.binds .any e = true → e.on < j
  uniq : ∀ j k t, j ≠ k → dstOf ops j = some t → dstOf ops k ≠ some t
  reads : ∀ j o k t, ops[j]? = some o → j ≠ k → k < ops.length → dstOf ops k = some t → t ∈ readsOf ops o → ((befs ops []).getD (max j k) 0).testBit (min j k) = true ∧ (mask.getD k true = true ∨ mask.getD j true = false ∨ j < k) ∧ (mask.getD j true = true ∨ mask.getD k true = false ∨ k < j)
  chain : ∀ j k, j < ops.length → k < ops.length → j ≠ k → mask.getD j true = false → mask.getD k true = false → ((befs ops []).getD (max j k) 0).testBit (min j k) = true

theorem dOk_spec {mask : List Bool} {ops : List Oper} (h : dOk mask ops = true) : DOk mask ops := by
  unfold dOk at h
  simp only [Bool.and_eq_true, beq_iff_eq, List.all_eq_true, List.mem_range] at h
  obtain ⟨hl, h⟩ := h
  have get : ∀ j o, ops[j]? = some o → (∀ e ∈ o.after.toList, Region.binds .any e = true → e.on < j) ∧ ∀ k ok, ops[k]? = some ok → j ≠ k →
      (∀ t, ok.dst = some t → o.dst ≠ some t ∧ (t ∈ readsOf ops o → ((befs ops []).getD (max j k) 0).testBit (min j k) = true ∧ (mask.getD k true = true ∨ mask.getD j true = false ∨ j < k) ∧ (mask.getD j true = true ∨ mask.getD k true = false ∨ k < j))) ∧
      (mask.getD j true = true ∨ mask.getD k true = true ∨ ((befs ops []).getD (max j k) 0).testBit (min j k) = true) := by
    intro j o ho
    have hj := h j (List.getElem?_eq_some_iff.1 ho).1
    rw [ho] at hj
    simp only [Bool.and_eq_true, List.all_eq_true, List.mem_range] at hj
    refine ⟨fun e he hb => ?_, fun k ok hok hne => ?_⟩
    · have := hj.1 e he
      simpa [hb] using this
    · have hk := hj.2 k (List.getElem?_eq_some_iff.1 hok).1
      rw [hok] at hk
      simp only [Bool.or_eq_true, beq_iff_eq, hne, false_or, Bool.and_eq_true] at hk
      refine ⟨fun t ht => ?_, ?_⟩
      · have h1 := hk.1
        rw [ht] at h1
        simp only [Bool.and_eq_true, bne_iff_ne, ne_eq, Bool.or_eq_true, Bool.not_eq_true', decide_eq_true_eq] at h1
        refine ⟨h1.1, fun hr => ?_⟩
        have h2 := h1.2
        rcases h2 with h2 | h2
        · rw [List.contains_iff_mem.2 hr] at h2; cases h2
        · refine ⟨h2.1.1, ?_, ?_⟩
          · rcases h2.1.2 with (h3 | h3) | h3
            · exact .inl h3
            · exact .inr (.inl h3)
            · exact .inr (.inr h3)
          · rcases h2.2 with (h3 | h3) | h3
            · exact .inl h3
            · exact .inr (.inl h3)
            · exact .inr (.inr h3)
      · have h1 := hk.2
        rcases h1 with (h1 | h1) | h1
        · exact .inl h1
        · exact .inr (.inl h1)
        · exact .inr (.inr h1)
  refine ⟨hl, fun j o ho => (get j o ho).1, ?_, ?_, ?_⟩
  · intro j k t hne hj hk
    unfold dstOf at hj hk
    cases hoj : ops[j]? with
    | none => simp [hoj] at hj
    | some oj =>
      cases hok : ops[k]? with
      | none => simp [hok] at hk
      | some ok =>
        simp [hoj] at hj
        simp [hok] at hk
        exact (((get j oj hoj).2 k ok hok hne).1 t hk).1 hj
  · intro j o k t ho hne hk hd hr
    unfold dstOf at hd
    cases hok : ops[k]? with
    | none => simp [hok] at hd
    | some ok =>
      simp [hok] at hd
      exact (((get j o ho).2 k ok hok hne).1 t hd).2 hr
  · intro j k hj hk hne h1 h2
    rcases ((get j _ (List.getElem?_eq_getElem hj)).2 k _ (List.getElem?_eq_getElem hk) hne).2 with h | h | h
    · rw [h1] at h; cases h
    · rw [h2] at h; cases h
    · exact h

section
variable {ops : List Oper} {mask : List Bool} {ρ0 : Env}

theorem wr_spec {t : Tmp} {k : Nat} (h : wr ops t = some k) : dstOf ops k = some t ∧ k < ops.length := by
  unfold wr at h
  have := List.find?_some h
  have hm := List.mem_of_find?_eq_some h
  exact ⟨by simpa using this, by simpa using hm⟩

theorem wr_of (hd : DOk mask ops) {t : Tmp} {k : Nat} (h : dstOf ops k = some t) : wr ops t = some k := by
  have hk : k < ops.length := by
    unfold dstOf at h
    cases hq : ops[k]? with
    | none => simp [hq] at h
    | some o => exact (List.getElem?_eq_some_iff.1 hq).1
  cases hq : wr ops t with
  | none =>
    unfold wr at hq
    rw [List.find?_eq_none] at hq
    have := hq k (by simpa using hk)
    simp [h] at this
  | some j =>
    obtain ⟨h1, h2⟩ := wr_spec hq
    by_cases hjk : j = k
    · rw [hjk]
    · exact (hd.uniq j k t hjk h1 h).elim

theorem EV_put (hd : DOk mask ops) {S S' : Nat → Bool} {ds : Nat → D} {j : Nat} (hj : S' j = true) (hS : ∀ k, k ≠ j → S' k = S k) : (EV ops ρ0 S ds).put (dstOf ops j) (ds j) = EV ops ρ0 S' ds := by
  funext t
  cases hdj : dstOf ops j with
  | none =>
    show EV ops ρ0 S ds t = EV ops ρ0 S' ds t
    unfold EV
    cases hw : wr ops t with
    | none => rfl
    | some k =>
      have hk := (wr_spec hw).1
      have hne : k ≠ j := by rintro rfl; rw [hdj] at hk; cases hk
      simp only [hS k hne]
  | some t' =>
    show (if t = t' then ds j else EV ops ρ0 S ds t) = EV ops ρ0 S' ds t
    by_cases ht : t = t'
    · subst ht
      rw [if_pos rfl]
      simp only [EV, wr_of hd hdj, hj, if_true]
    · rw [if_neg ht]
      unfold EV
      cases hw : wr ops t with
      | none => rfl
      | some k =>
        have hk := (wr_spec hw).1
        have hne : k ≠ j := by rintro rfl; rw [hdj] at hk; cases hk; exact ht rfl
        simp only [hS k hne]

theorem EV_congr {S S' : Nat → Bool} {ds ds' : Nat → D} (h : ∀ k, k < ops.length → S k = S' k ∧ (S k = true → ds k = ds' k)) : EV ops ρ0 S ds = EV ops ρ0 S' ds' := by
  funext t
  unfold EV
  cases hw : wr ops t with
  | none => rfl
  | some k =>
    obtain ⟨h1, h2⟩ := h k (wr_spec hw).2
    simp only [← h1]
    split
    · rename_i hs; exact h2 hs
    · rfl

/-- Two frames alike on what an operation reads. -/
theorem EV_reads {S S' : Nat → Bool} {ds ds' : Nat → D} {t : Tmp} (h : ∀ k, dstOf ops k = some t → k < ops.length → S k = S' k ∧ (S k = true → ds k = ds' k)) : EV ops ρ0 S ds t = EV ops ρ0 S' ds' t := by
  unfold EV
  cases hw : wr ops t with
  | none => rfl
  | some k =>
    obtain ⟨h1, h2⟩ := wr_spec hw
    obtain ⟨h3, h4⟩ := h k h1 h2
    simp only [← h3]
    split
    · rename_i hs; exact h4 hs
    · rfl
end

theorem awanted_congr {ops : List Oper} {ρ ρ' : Env} {o : Oper} (h : ∀ t ∈ readsOf ops o, ρ t = ρ' t) : awanted ops ρ o = awanted ops ρ' o := by
  unfold awanted
  split
  · rfl
  · rename_i j want hg
    cases hp : ops[j]? with
    | none => rfl
    | some p =>
      simp only
      cases hd : p.dst with
      | none => rfl
      | some t =>
        simp only
        rw [h t (by unfold readsOf; rw [hg]; simp [hp, hd])]

theorem aop_reads {P : Program} {γ : Gl} {ops : List Oper} {ρ ρ' : Env} {o : Oper} (h : ∀ t ∈ readsOf ops o, ρ t = ρ' t) {σ : St} {K : D → St → Prop} : aop P γ ρ σ o.op K = aop P γ ρ' σ o.op K :=
  aop_congr o.op fun x hx => aeval_congr x fun t ht => h t (by subst ht; unfold readsOf; exact List.mem_append_left _ (mem_tmpsOf (by simpa using hx)))

section
variable {P : Program} {γ : Gl} {B : Nat} {w0 : World} {g : G} {σ : St} {w : World} {a : Act} {ρ : Env} {N : Nat}

theorem wanted_sound (hE : ER γ g a ρ N) {ops : Array Oper} {o : Oper} {b : Bool} (h : awanted ops.toList ρ o = some b) : Region.wanted o (yielded ops a.tmps) = b := by
  unfold awanted at h
  unfold Region.wanted
  split at h
  · rename_i hg
    rw [hg]
    cases h; rfl
  · rename_i j want hg
    rw [hg]
    simp only
    split at h
    · rename_i p hp
      have hp' : ops[j]? = some p := by simpa using hp
      split at h
      · rename_i t ht
        have hv := hE.slot t
        have hy : yielded ops a.tmps j = match a.tmps[t]? with | some (.bool b) => some b | _ => none := by
          simp only [yielded, hp', ht, Option.bind_some]
          cases a.tmps[t]? with
          | none => rfl
          | some v => cases v <;> rfl
        rw [hy]
        split at h
        · rename_i c hc
          rw [hc] at hv
          cases hq : a.tmps[t]? with
          | none => simp [hq, undef] at hv; cases hv
          | some v =>
            simp [hq] at hv
            cases hv
            cases h
            cases c <;> cases want <;> rfl
        · rename_i hc
          rw [hc] at hv
          cases h
          cases hq : a.tmps[t]? with
          | none => rfl
          | some v =>
            simp [hq] at hv
            cases hv
            rfl
        · cases h
      · cases h
    · cases h

/-- What an operation of the first kind comes to, in a state. -/
def GoodA (P : Program) (γ : Gl) (ops : List Oper) (mask : List Bool) (ρ0 : Env) (σ : St) (j : Nat) (o : Oper) (ds : Nat → D) : Prop :=
  ∃ b, awanted ops (EV ops ρ0 (fun k => decide (k < j) && mask.getD k true) ds) o = some b ∧
    (b = true → aop P γ (EV ops ρ0 (fun k => decide (k < j) && mask.getD k true) ds) σ o.op fun d' σ' => d' = ds j ∧ σ.le σ') ∧ (b = false → ds j = .tup [])

theorem drop_cons {α : Type} {l : List α} {i : Nat} {x : α} {r : List α} (h : l.drop i = x :: r) : l[i]? = some x ∧ l.drop (i + 1) = r := by
  constructor
  · have := congrArg (fun l => l[0]?) h
    simpa [List.getElem?_drop] using this
  · have : l.drop (i + 1) = (l.drop i).drop 1 := by rw [List.drop_drop]
    rw [this, h]; rfl

theorem passA_ext {ops : List Oper} {mask : List Bool} (hd : DOk mask ops) {ρ0 : Env} {σ0 : St} {K : Env → List (Nat × (St → Prop)) → Prop} : ∀ (l : List Oper) (m : List Bool) (i : Nat) (obs : List (Nat × (St → Prop))) (ds0 : Nat → D), ops.drop i = l → mask.drop i = m →
    passA P γ ops σ0 K i l m (EV ops ρ0 (fun k => decide (k < i) && mask.getD k true) ds0) obs →
    ∃ (ds : Nat → D) (obs' : List (Nat × (St → Prop))), (∀ k, k < i → ds k = ds0 k) ∧ (∀ p ∈ obs, p ∈ obs') ∧ (∀ p ∈ obs', p ∈ obs ∨ p.2 σ0) ∧ (∀ j o, i ≤ j → ops[j]? = some o → mask.getD j true = true → ∀ σ, (∀ p ∈ obs', p.1 = j → p.2 σ) → GoodA P γ ops mask ρ0 σ j o ds) ∧ K (EV ops ρ0 (fun k => mask.getD k true) ds) obs'
  | [], m, i, obs, ds0, hl, hm, h => by
    simp only [passA] at h
    have hi : ops.length ≤ i := by simpa using hl
    refine ⟨ds0, obs, fun _ _ => rfl, fun p hp => hp, fun p hp => .inl hp, fun j o hij hj => ?_, ?_⟩
    · have := (List.getElem?_eq_some_iff.1 hj).1; omega
    · have he : EV ops ρ0 (fun k => decide (k < i) && mask.getD k true) ds0 = EV ops ρ0 (fun k => mask.getD k true) ds0 := EV_congr fun k hk => ⟨by simp [show k < i by omega], fun _ => rfl⟩
      rw [he] at h; exact h
  | o :: r, [], i, obs, ds0, hl, hm, h => by simp [passA] at h
  | o :: r, false :: m, i, obs, ds0, hl, hm, h => by
    simp only [passA] at h
    obtain ⟨h1, h2⟩ := drop_cons hl
    obtain ⟨h3, h4⟩ := drop_cons hm
    have he : EV ops ρ0 (fun k => decide (k < i) && mask.getD k true) ds0 = EV ops ρ0 (fun k => decide (k < i + 1) && mask.getD k true) ds0 := EV_congr fun k hk => ⟨by
      by_cases hki : k = i
      · subst hki; simp [List.getD, h3]
      · have : (k < i) ↔ (k < i + 1) := by omega
        simp [this], fun _ => rfl⟩
    rw [he] at h
    obtain ⟨ds, obs', e1, e0, e2, e3, e4⟩ := passA_ext hd r m (i + 1) obs ds0 h2 h4 h
    refine ⟨ds, obs', fun k hk => e1 k (by omega), e0, e2, fun j o' hij hj hmj => ?_, e4⟩
    rcases Nat.eq_or_lt_of_le hij with hji | hji
    · subst hji; simp [List.getD, h3] at hmj
    · exact e3 j o' hji hj hmj
  | o :: r, true :: m, i, obs, ds0, hl, hm, h => by
    simp only [passA] at h
    obtain ⟨h1, h2⟩ := drop_cons hl
    obtain ⟨h3, h4⟩ := drop_cons hm
    have hmi : mask.getD i true = true := by simp [List.getD, h3]
    have hdst : o.dst = dstOf ops i := by simp [dstOf, h1]
    have step : ∀ d, (EV ops ρ0 (fun k => decide (k < i) && mask.getD k true) ds0).put o.dst d = EV ops ρ0 (fun k => decide (k < i + 1) && mask.getD k true) (fun k => if k = i then d else ds0 k) := by
      intro d
      have he : EV ops ρ0 (fun k => decide (k < i) && mask.getD k true) ds0 = EV ops ρ0 (fun k => decide (k < i) && mask.getD k true) (fun k => if k = i then d else ds0 k) := EV_congr fun k hk => ⟨rfl, fun hs => by
        have : k ≠ i := by rintro rfl; simp at hs
        simp [this]⟩
      rw [he, hdst]
      have := EV_put (ρ0 := ρ0) (ops := ops) (S := fun k => decide (k < i) && mask.getD k true) (S' := fun k => decide (k < i + 1) && mask.getD k true) (ds := fun k => if k = i then d else ds0 k) hd (j := i) (by simp only [hmi]; simp) (fun k hk => by
        have : (k < i) ↔ (k < i + 1) := by omega
        simp [this])
      simpa using this
    have hEq : ∀ (ds : Nat → D), (∀ k, k < i + 1 → ds k = (fun k => if k = i then ds i else ds0 k) k) → EV ops ρ0 (fun k => decide (k < i) && mask.getD k true) ds0 = EV ops ρ0 (fun k => decide (k < i) && mask.getD k true) ds := fun ds hds => EV_congr fun k hk => ⟨rfl, fun hs => by
      have hki : k < i := by simp at hs; exact hs.1
      have := hds k (by omega)
      rw [this]
      simp [show k ≠ i by omega]⟩
    split at h
    · rename_i hw
      obtain ⟨d, hop, h⟩ := h
      rw [step d] at h
      obtain ⟨ds, obs', e1, e0, e2, e3, e4⟩ := passA_ext hd r m (i + 1) _ _ h2 h4 h
      have hdi : ds i = d := by rw [e1 i (by omega)]; simp
      have hEV := hEq ds (fun k hk => by
        rw [e1 k hk]
        by_cases hki : k = i
        · subst hki; simp [hdi]
        · simp [hki])
      refine ⟨ds, obs', fun k hk => by rw [e1 k (by omega)]; simp [show k ≠ i by omega], fun p hp => e0 p (by simp [hp]), fun p hp => ?_, fun j o' hij hj hmj => ?_, e4⟩
      · rcases e2 p hp with h | h
        · rcases List.mem_cons.1 h with rfl | h
          · exact .inr hop
          · exact .inl h
        · exact .inr h
      · rcases Nat.eq_or_lt_of_le hij with hji | hji
        · subst hji
          rw [h1] at hj; cases hj
          intro σ hσ
          refine ⟨true, by rw [← hEV]; exact hw, fun _ => ?_, fun hf => by cases hf⟩
          have := hσ _ (e0 _ (List.mem_cons_self ..)) rfl
          rw [← hEV, hdi]; exact this
        · exact e3 j o' hji hj hmj
    · rename_i hw
      rw [step (.tup [])] at h
      obtain ⟨ds, obs', e1, e0, e2, e3, e4⟩ := passA_ext hd r m (i + 1) _ _ h2 h4 h
      have hdi : ds i = .tup [] := by rw [e1 i (by omega)]; simp
      have hEV := hEq ds (fun k hk => by
        rw [e1 k hk]
        by_cases hki : k = i
        · subst hki; simp [hdi]
        · simp [hki])
      refine ⟨ds, obs', fun k hk => by rw [e1 k (by omega)]; simp [show k ≠ i by omega], e0, e2, fun j o' hij hj hmj => ?_, e4⟩
      rcases Nat.eq_or_lt_of_le hij with hji | hji
      · subst hji
        rw [h1] at hj; cases hj
        exact fun σ hσ => ⟨false, by rw [← hEV]; exact hw, fun hf => (by cases hf), fun _ => hdi⟩
      · exact e3 j o' hji hj hmj
    · cases h

end
end Go.Av
