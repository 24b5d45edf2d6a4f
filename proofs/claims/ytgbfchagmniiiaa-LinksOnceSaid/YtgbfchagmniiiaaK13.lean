/- links beside the document's. -/
import Derived.Test.YtgbfchagmniiiaaK12
set_option maxRecDepth 8000
set_option linter.unusedSimpArgs false
set_option linter.unusedVariables false
namespace Go.Proofs.Try
open Go Go.Av
variable {σ s : St}

def LkH (p : Nat) (n : Int) (L : List Mail) (h : St) : Prop := LkS emp p n L h
def RfH (q : Nat) (n : Int) (L : List Mail) (h : St) : Prop := RfS emp q n L h
theorem emp_set (σ : St) (p : Nat) (o : Ob) : un (emp.set p o) σ = σ.set p o := by rw [un_set, un_emp]
theorem emp_set2 (σ : St) (p i : Nat) (o x : Ob) : un ((emp.set p o).set i x) σ = (σ.set p o).set i x := by rw [un_set, emp_set]
theorem lk_ext {p : Nat} {n : Int} {L : List Mail} : LkS σ p n L s ↔ Ext (LkH p n L) σ s := by
  constructor
  · rintro ⟨h0, ⟨rfl, rfl⟩ | ⟨id, h1, h2, rfl⟩⟩
    · exact ⟨_, ⟨rfl, .inl ⟨rfl, rfl⟩⟩, disj_set' (disj_emp σ) h0, (emp_set _ _ _).symm⟩
    · exact ⟨_, ⟨rfl, .inr ⟨id, h1, rfl, rfl⟩⟩, disj_set' (disj_set' (disj_emp σ) h0) h2, (emp_set2 _ _ _ _ _).symm⟩
  · rintro ⟨h, ⟨_, ⟨rfl, rfl⟩ | ⟨id, h1, h2, rfl⟩⟩, hd, rfl⟩
    · exact ⟨(disj_set.1 hd).1, .inl ⟨rfl, emp_set _ _ _⟩⟩
    · refine ⟨?_, .inr ⟨id, h1, (disj_set.1 hd).1, emp_set2 _ _ _ _ _⟩⟩
      rcases (disj_set.1 hd).2 p (Ne.symm h1) with h | h
      · rw [set_same] at h; cases h
      · exact h
theorem rf_ext {q : Nat} {n : Int} {L : List Mail} : RfS σ q n L s ↔ Ext (RfH q n L) σ s := by
  constructor
  · rintro ⟨h0, rfl⟩
    exact ⟨_, ⟨rfl, rfl⟩, disj_set' (disj_emp σ) h0, (emp_set _ _ _).symm⟩
  · rintro ⟨h, ⟨_, rfl⟩, hd, rfl⟩
    exact ⟨(disj_set.1 hd).1, emp_set _ _ _⟩
theorem LkS.le {p : Nat} {n : Int} {L : List Mail} (h : LkS σ p n L s) : σ.le s := (lk_ext.1 h).le
theorem RfS.le {q : Nat} {n : Int} {L : List Mail} (h : RfS σ q n L s) : σ.le s := (rf_ext.1 h).le
/-- Both, beside each other. -/
def Two (σ : St) (p q : Nat) (n : Int) (L M : List Mail) (s : St) : Prop := ∃ σ1, RfS σ q n M σ1 ∧ LkS σ1 p n L s
theorem Two.swap {p q : Nat} {n : Int} {L M : List Mail} : Two σ p q n L M s ↔ ∃ σ2, LkS σ p n L σ2 ∧ RfS σ2 q n M s := by
  constructor
  · rintro ⟨σ1, h1, h2⟩
    obtain ⟨σ2, h3, h4⟩ := (rf_ext.1 h1).swap (lk_ext.1 h2)
    exact ⟨σ2, lk_ext.2 h3, rf_ext.2 h4⟩
  · rintro ⟨σ1, h1, h2⟩
    obtain ⟨σ2, h3, h4⟩ := (lk_ext.1 h1).swap (rf_ext.1 h2)
    exact ⟨σ2, rf_ext.2 h3, lk_ext.2 h4⟩
theorem Two.frame {p q : Nat} {n : Int} {L M : List Mail} (h : Two σ p q n L M s) {b : Nat} (hb : s b = none) (x : Ob) : Two (σ.set b x) p q n L M (s.set b x) := by
  obtain ⟨σ1, h1, h2⟩ := h
  have e2 := lk_ext.1 h2
  have hb1 := e2.fresh hb
  exact ⟨σ1.set b x, rf_ext.2 ((rf_ext.1 h1).frame hb1), lk_ext.2 (e2.frame hb)⟩
theorem Two.fresh {p q : Nat} {n : Int} {L M : List Mail} (h : Two σ p q n L M s) {b : Nat} (hb : s b = none) : σ b = none := by
  obtain ⟨σ1, h1, h2⟩ := h
  exact (rf_ext.1 h1).fresh ((lk_ext.1 h2).fresh hb)
theorem Two.unframe {p q : Nat} {n : Int} {L M : List Mail} {b : Nat} {x : Ob} (h : Two (σ.set b x) p q n L M s) (hb : σ b = none) : ∃ s', s'.le s ∧ Two σ p q n L M s' := by
  obtain ⟨σ1, h1, h2⟩ := h
  have e1 := rf_ext.1 h1
  have e2 := lk_ext.1 h2
  obtain ⟨s', hl, he⟩ := Ext.unframe (e1.star e2) hb
  obtain ⟨σ', h3, h4⟩ := he.unstar
  exact ⟨s', hl, σ', rf_ext.2 h3, lk_ext.2 h4⟩
theorem Two.le {p q : Nat} {n : Int} {L M : List Mail} (h : Two σ p q n L M s) : σ.le s := by
  obtain ⟨σ1, h1, h2⟩ := h
  exact h1.le.trans h2.le

/-- Mail as there may be. -/
def OkL (L : List Mail) : Prop := L.length ≤ 200 ∧ ∀ m ∈ L, m.text.length ≤ 65536
theorem OkL.big {L : List Mail} (h : OkL L) : ∀ m ∈ L, m.text.length ≤ 70000 := fun m hm => by have := h.2 m hm; omega
theorem ok_nil : OkL [] := ⟨by simp, by simp⟩
theorem ok_send {n : Int} {L : List Mail} {m : Mail} (h : OkL L) : OkL (sendL n L m) := by
  unfold sendL
  split
  · exact h
  · split
    · exact h
    · split
      · exact h
      · rename_i h1 h2 h3
        refine ⟨by simp; omega, fun x hx => ?_⟩
        rcases List.mem_append.1 hx with hx | hx
        · exact h.2 x hx
        · simp at hx; subst hx; omega
theorem ok_dlv {L : List Mail} {i : Int} (h : OkL L) : OkL (dlvL L i) := by
  unfold dlvL
  split
  · refine ⟨by rw [List.length_eraseIdx]; have := h.1; split <;> omega, fun x hx => h.2 x (List.mem_of_mem_eraseIdx hx)⟩
  · exact h
theorem ok_dbl {n : Int} {L : List Mail} {i : Int} (h : OkL L) : OkL (dblL n L i) := by
  unfold dblL
  split
  · exact ok_send h
  · exact h
theorem mem_getD {L : List Mail} {k : Nat} (h : k < L.length) : L.getD k mail0 ∈ L := by
  simp only [List.getD, List.getElem?_eq_getElem h, Option.getD_some]; exact List.getElem_mem h
theorem ok_trn {L : List Mail} {i k : Int} (h : OkL L) : OkL (trnL L i k) := by
  unfold trnL
  split
  · rename_i hi
    refine ⟨by simp; exact h.1, fun x hx => ?_⟩
    rcases List.mem_or_eq_of_mem_set hx with hx | rfl
    · rcases List.mem_or_eq_of_mem_set hx with hx | rfl
      · exact h.2 x hx
      · exact h.2 _ (mem_getD (by omega))
    · exact h.2 _ (mem_getD (by omega))
  · exact h
theorem ok_flp {L : List Mail} {i k : Int} {b : UInt8} (h : OkL L) : OkL (flpL L i k b) := by
  unfold flpL
  split
  · rename_i hi
    split
    · refine ⟨by simp; exact h.1, fun x hx => ?_⟩
      rcases List.mem_or_eq_of_mem_set hx with hx | rfl
      · exact h.2 x hx
      · have := h.2 _ (mem_getD (L := L) (k := i.toNat) (by omega))
        simpa [flpM, flipT] using this
    · exact h
  · exact h
end Go.Proofs.Try
