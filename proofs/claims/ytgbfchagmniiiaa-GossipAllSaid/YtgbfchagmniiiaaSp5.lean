/- Lists of hashes, read. -/
import Derived.Test.YtgbfchagmniiiaaSp4
set_option linter.unusedVariables false
namespace Go.Av

def unhN : Nat → List UInt8 → Option (List (List UInt8) × List UInt8)
  | 0, s => some ([], s)
  | n + 1, s => if s.length < 32 then none else (unhN n (s.drop 32)).map fun p => (s.take 32 :: p.1, p.2)
def unhashesB (s : List UInt8) : Option (List (List UInt8) × List UInt8) :=
  match readB s with
  | none => none
  | some (n, r) => if 64 < n then none else unhN n r
def dUnhs : Option (List (List UInt8) × List UInt8) → D
  | some (hs, r) => .tup [.sl hs.length (bytesD hs.flatten) none, .str r, .bool true]
  | none => .tup [.sl 0 [] none, .str [], .bool false]
theorem unhN_short : ∀ (n : Nat) (s : List UInt8), s.length < 32 * n → unhN n s = none
  | 0, s, h => by omega
  | n + 1, s, h => by
    unfold unhN
    split
    · rfl
    · rw [unhN_short n (s.drop 32) (by rw [List.length_drop]; omega)]; rfl
theorem unhN_some : ∀ (n : Nat) (s : List UInt8) (hs : List (List UInt8)) (r : List UInt8), unhN n s = some (hs, r) → All32 hs ∧ hs.length = n ∧ s = hs.flatten ++ r
  | 0, s, hs, r, h => by
    simp only [unhN, Option.some.injEq, Prod.mk.injEq] at h
    obtain ⟨rfl, rfl⟩ := h
    exact ⟨fun x hx => (by cases hx), rfl, rfl⟩
  | n + 1, s, hs, r, h => by
    unfold unhN at h
    split at h
    · cases h
    · rename_i hl
      cases hq : unhN n (s.drop 32) with
      | none => rw [hq] at h; cases h
      | some p =>
        obtain ⟨hs', r'⟩ := p
        rw [hq] at h
        simp only [Option.map_some, Option.some.injEq, Prod.mk.injEq] at h
        obtain ⟨rfl, rfl⟩ := h
        obtain ⟨h1, h2, h3⟩ := unhN_some n _ _ _ hq
        refine ⟨fun x hx => ?_, by simp [h2], ?_⟩
        · rcases List.mem_cons.1 hx with rfl | hx
          · rw [List.length_take]; omega
          · exact h1 x hx
        · rw [List.flatten_cons, List.append_assoc, ← h3, List.take_append_drop]
theorem unhN_put : ∀ (hs : List (List UInt8)) (r : List UInt8), All32 hs → unhN hs.length (hs.flatten ++ r) = some (hs, r)
  | [], r, _ => rfl
  | h :: hs, r, a => by
    have hl := a h (by simp)
    rw [List.flatten_cons, List.append_assoc]
    show (if (h ++ (hs.flatten ++ r)).length < 32 then none else (unhN hs.length ((h ++ (hs.flatten ++ r)).drop 32)).map fun p => ((h ++ (hs.flatten ++ r)).take 32 :: p.1, p.2)) = _
    rw [if_neg (by rw [List.length_append]; omega), ← hl, List.drop_left, List.take_left, unhN_put hs r a.tail]
    rfl
theorem unhashes_len {s : List UInt8} {hs : List (List UInt8)} {r : List UInt8} (h : unhashesB s = some (hs, r)) : All32 hs ∧ hs.length ≤ 64 ∧ s = numB hs.length ++ (hs.flatten ++ r) := by
  unfold unhashesB at h
  split at h
  · cases h
  · rename_i n r' hr
    split at h
    · cases h
    · rename_i h64
      obtain ⟨h1, h2⟩ := readB_some hr
      obtain ⟨h3, h4, h5⟩ := unhN_some _ _ _ _ h
      exact ⟨h3, by omega, by rw [h2, h5, h4]⟩
theorem unhashes_put {hs : List (List UInt8)} (a : All32 hs) (h64 : hs.length ≤ 64) (r : List UInt8) : unhashesB (numB hs.length ++ (hs.flatten ++ r)) = some (hs, r) := by
  unfold unhashesB
  rw [readB_numB (by omega)]
  simp only
  rw [if_neg (by omega), unhN_put hs r a]
theorem All32.snoc {hs : List (List UInt8)} {h : List UInt8} (a : All32 hs) (hl : h.length = 32) : All32 (hs ++ [h]) := fun x hx => by
  rcases List.mem_append.1 hx with hx | hx
  · exact a x hx
  · rw [List.mem_singleton.1 hx]; exact hl

/-! ### rows that are owned, beside an object -/
section
variable {P : Program} {σ : St} {K : D → St → Prop}
theorem own_le {e : TypeId} {sz n : Nat} {cs : List D} {d : D} {s : St} (h : Own σ e sz n cs d s) : σ.le s := by
  rcases h with ⟨_, _, _, rfl⟩ | ⟨id, h0, _, _, rfl⟩
  · exact St.le.refl _
  · exact le_set _ h0
theorem own_frame {e : TypeId} {sz n i : Nat} {cs : List D} {d : D} {s : St} {o : Ob} (h : Own σ e sz n cs d s) (hi : s i = none) : Own (σ.set i o) e sz n cs d (s.set i o) := by
  rcases h with ⟨h1, h2, h3, rfl⟩ | ⟨id, h0, hl, hd, rfl⟩
  · exact .inl ⟨h1, h2, h3, rfl⟩
  · have hne : i ≠ id := by rintro rfl; rw [set_same] at hi; cases hi
    exact .inr ⟨id, by rw [set_other _ (Ne.symm hne)]; exact h0, hl, hd, set_comm _ _ hne⟩
theorem own_unframe {e : TypeId} {sz n i : Nat} {cs : List D} {d : D} {s : St} {o : Ob} (h : Own (σ.set i o) e sz n cs d s) (hi : σ i = none) : ∃ s', s'.le s ∧ Own σ e sz n cs d s' := by
  rcases h with ⟨h1, h2, h3, rfl⟩ | ⟨id, h0, hl, hd, rfl⟩
  · exact ⟨σ, le_set _ hi, .inl ⟨h1, h2, h3, rfl⟩⟩
  · obtain ⟨hne, h0⟩ := fresh_ne h0
    refine ⟨σ.set id (.tok e cs), ?_, .inr ⟨id, h0, hl, hd, rfl⟩⟩
    rw [set_comm _ _ hne]
    exact le_set _ (by rw [set_other _ (Ne.symm hne)]; exact hi)
theorem own_fresh {e : TypeId} {sz n i : Nat} {cs : List D} {d : D} {s : St} (h : Own σ e sz n cs d s) (hi : s i = none) : σ i = none := by
  cases hq : σ i with
  | none => rfl
  | some o => have := own_le h i o hq; rw [hi] at this; cases this
end
end Go.Av
