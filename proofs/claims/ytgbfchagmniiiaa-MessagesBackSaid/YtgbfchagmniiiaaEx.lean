/- States that are made of parts. -/
import Derived.Test.YtgbfchagmniiiaaAv19
set_option linter.unusedSimpArgs false
set_option linter.unusedVariables false
namespace Go.Av
def Disj (h σ : St) : Prop := ∀ i, h i = none ∨ σ i = none
def un (h σ : St) : St := fun i => match h i with | some o => some o | none => σ i
def emp : St := fun _ => none
/-- s is σ and, beside it, a part of which A holds. -/
def Ext (A : St → Prop) (σ s : St) : Prop := ∃ h, A h ∧ Disj h σ ∧ s = un h σ

theorem un_emp (σ : St) : un emp σ = σ := rfl
theorem un_set (h σ : St) (i : Nat) (o : Ob) : un (h.set i o) σ = (un h σ).set i o := by
  funext j; simp only [un, St.set]; by_cases hj : j = i <;> simp [hj]
theorem disj_emp (σ : St) : Disj emp σ := fun i => .inl rfl
theorem disj_set {h σ : St} {i : Nat} {o : Ob} : Disj (h.set i o) σ ↔ σ i = none ∧ ∀ j, j ≠ i → h j = none ∨ σ j = none := by
  constructor
  · intro hd
    refine ⟨?_, fun j hj => ?_⟩
    · have := hd i; simp [St.set] at this; exact this
    · have := hd j; simpa [St.set, hj] using this
  · rintro ⟨h1, h2⟩ j
    by_cases hj : j = i
    · subst hj; exact .inr h1
    · simpa [St.set, hj] using h2 j hj
theorem disj_set' {h σ : St} {i : Nat} {o : Ob} (hd : Disj h σ) (hi : σ i = none) : Disj (h.set i o) σ := disj_set.2 ⟨hi, fun j _ => hd j⟩

theorem Ext.le {A : St → Prop} {σ s : St} (h : Ext A σ s) : σ.le s := by
  obtain ⟨h, _, hd, rfl⟩ := h
  intro i o e
  rcases hd i with h1 | h1
  · simp only [un, h1]; exact e
  · rw [h1] at e; cases e
theorem Ext.fresh {A : St → Prop} {σ s : St} {i : Nat} (h : Ext A σ s) (hi : s i = none) : σ i = none := by
  cases hs : σ i with
  | none => rfl
  | some o => rw [h.le i o hs] at hi; cases hi
theorem Ext.frame {A : St → Prop} {σ s : St} {i : Nat} {o : Ob} (h : Ext A σ s) (hi : s i = none) : Ext A (σ.set i o) (s.set i o) := by
  obtain ⟨h, ha, hd, rfl⟩ := h
  have h0 : h i = none := by
    cases hh : h i with
    | none => rfl
    | some o => simp [un, hh] at hi
  refine ⟨h, ha, fun j => ?_, ?_⟩
  · by_cases hj : j = i
    · subst hj; exact .inl h0
    · simpa [St.set, hj] using hd j
  · funext j; simp only [un, St.set]
    by_cases hj : j = i
    · subst hj; simp [h0]
    · simp [hj]
theorem Ext.unframe {A : St → Prop} {σ s : St} {i : Nat} {o : Ob} (h : Ext A (σ.set i o) s) (hi : σ i = none) : ∃ s', s'.le s ∧ Ext A σ s' := by
  obtain ⟨h, ha, hd, rfl⟩ := h
  have hd' : Disj h σ := fun j => by
    by_cases hj : j = i
    · subst hj; exact .inr hi
    · simpa [St.set, hj] using hd j
  refine ⟨un h σ, fun j x e => ?_, h, ha, hd', rfl⟩
  simp only [un] at e ⊢
  cases hh : h j with
  | some o => rw [hh] at e; exact e
  | none =>
    rw [hh] at e
    simp only [St.set]
    by_cases hj : j = i
    · subst hj; rw [hi] at e; cases e
    · simpa [hj] using e
theorem Ext.swap {A B : St → Prop} {σ s1 s : St} (h1 : Ext A σ s1) (h2 : Ext B s1 s) : ∃ s2, Ext B σ s2 ∧ Ext A s2 s := by
  obtain ⟨a, ha, hda, rfl⟩ := h1
  obtain ⟨b, hb, hdb, rfl⟩ := h2
  have hab : ∀ i, a i = none ∨ b i = none := fun i => by
    rcases hdb i with h | h
    · exact .inr h
    · left; cases hh : a i with
      | none => rfl
      | some o => simp [un, hh] at h
  have hbσ : Disj b σ := fun i => by
    rcases hdb i with h | h
    · exact .inl h
    · right
      simp only [un] at h
      cases hh : a i with
      | none => rwa [hh] at h
      | some o => rw [hh] at h; cases h
  refine ⟨un b σ, ⟨b, hb, hbσ, rfl⟩, a, ha, fun i => ?_, ?_⟩
  · rcases hda i with h | h
    · exact .inl h
    · rcases hab i with h' | h'
      · exact .inl h'
      · right; simp [un, h', h]
  · funext i
    simp only [un]
    rcases hab i with h | h
    · cases hh : b i <;> simp [h]
    · simp [h]
theorem Ext.upd {A : St → Prop} {σ s : St} {i : Nat} {o x : Ob} (h : Ext A (σ.set i o) s) : Ext A (σ.set i x) (s.set i x) := by
  obtain ⟨h, ha, hd, rfl⟩ := h
  have h0 : h i = none := by
    rcases hd i with h | h
    · exact h
    · rw [set_same] at h; cases h
  refine ⟨h, ha, fun j => ?_, ?_⟩
  · by_cases hj : j = i
    · subst hj; exact .inl h0
    · have := hd j; simp only [set_app, if_neg hj] at this ⊢; exact this
  · funext j; simp only [un, set_app]
    by_cases hj : j = i
    · subst hj; simp [h0]
    · simp [hj]
/-- The part is replaced by another one. -/
theorem Ext.mono {A B : St → Prop} {σ s : St} (h : Ext A σ s) (hab : ∀ h, A h → B h) : Ext B σ s := by
  obtain ⟨h, ha, hd, rfl⟩ := h
  exact ⟨h, hab h ha, hd, rfl⟩
theorem Ext.nil {A : St → Prop} {σ : St} (h : A emp) : Ext A σ σ := ⟨emp, h, disj_emp σ, rfl⟩
/-- Two parts as one. -/
def Star (A B : St → Prop) (h : St) : Prop := ∃ h1, A h1 ∧ Ext B h1 h
theorem Ext.star {A B : St → Prop} {σ s1 s : St} (h1 : Ext A σ s1) (h2 : Ext B s1 s) : Ext (Star A B) σ s := by
  obtain ⟨a, ha, hda, rfl⟩ := h1
  obtain ⟨b, hb, hdb, rfl⟩ := h2
  have hba : Disj b a := fun i => by
    rcases hdb i with h | h
    · exact .inl h
    · right; cases hh : a i with
      | none => rfl
      | some o => simp [un, hh] at h
  refine ⟨un b a, ⟨a, ha, b, hb, hba, rfl⟩, fun i => ?_, ?_⟩
  · rcases hdb i with h | h
    · rcases hda i with h' | h'
      · left; simp [un, h, h']
      · exact .inr h'
    · right
      simp only [un] at h
      cases hh : a i with
      | none => rwa [hh] at h
      | some o => rw [hh] at h; cases h
  · funext i; simp only [un]; cases hb : b i <;> simp
theorem Ext.unstar {A B : St → Prop} {σ s : St} (h : Ext (Star A B) σ s) : ∃ s1, Ext A σ s1 ∧ Ext B s1 s := by
  obtain ⟨h, ⟨a, ha, b, hb, hba, rfl⟩, hd, rfl⟩ := h
  have hda : Disj a σ := fun i => by
    rcases hd i with h | h
    · left; simp only [un] at h; cases hh : b i with
      | none => rwa [hh] at h
      | some o => rw [hh] at h; cases h
    · exact .inr h
  refine ⟨un a σ, ⟨a, ha, hda, rfl⟩, b, hb, fun i => ?_, ?_⟩
  · rcases hba i with h | h
    · exact .inl h
    · rcases hd i with h' | h'
      · left; simp only [un] at h'; cases hh : b i with
        | none => rfl
        | some o => rw [hh] at h'; cases h'
      · right; simp [un, h, h']
  · funext i; simp only [un]; cases hb : b i <;> simp
/-- What a part's own object holds. -/
theorem Ext.get {A : St → Prop} {σ s : St} (h : Ext A σ s) : ∃ h', A h' ∧ (∀ i o, h' i = some o → s i = some o) ∧ (∀ i, h' i = none → s i = σ i) ∧ (∀ i o, h' i = some o → σ i = none) := by
  obtain ⟨h, ha, hd, rfl⟩ := h
  refine ⟨h, ha, fun i o e => by simp [un, e], fun i e => by simp [un, e], fun i o e => ?_⟩
  rcases hd i with h | h
  · rw [h] at e; cases e
  · exact h
end Go.Av
