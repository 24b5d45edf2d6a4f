/- LinksOnce: its arguments. -/
import Derived.Test.YtgbfchagmniiiaaK16
import Derived.Test.YtgbfchagmniiiaaR1
set_option maxRecDepth 8000
set_option linter.unusedVariables false
namespace Go.Proofs.Try
open Go Go.Av
variable {γ : Gl} {σ s : St} {K : D → St → Prop}
theorem sh44 : shOf prog 20 44 = some (.row .str) := by kernel_rfl
theorem sh45 : shOf prog 20 45 = some (.row (.int .u8)) := by kernel_rfl
theorem sh5 : shOf prog 20 5 = some (.int .u8) := by kernel_rfl
theorem flat_map {α : Type} (f : α → D) : ∀ l : List α, (l.map fun a => [f a]).flatten = l.map f
  | [] => rfl
  | a :: l => by simp [flat_map f l]
theorem strs_of {d : D} (h : FitV (tagg prog 44) (.row .str) d) : ∃ l : List (List UInt8), d = .sl l.length (strsD l) none ∧ l.length ≤ 9223372036854775807 := by
  rw [FitV, if_neg (by rw [tagg44]; simp)] at h
  obtain ⟨dss, h, h1, h2⟩ := h
  simp at h
  obtain ⟨l, rfl, _⟩ := list_choose (F := fun x : List UInt8 => [D.str x]) (Q := fun _ => True) (fun x hx => by
    obtain ⟨l, rfl, _⟩ := h2 x hx
    exact ⟨l, rfl, trivial⟩)
  refine ⟨l, ?_, by simpa [maxLen] using h1⟩
  rw [h, flat_map]; simp [strsD]
theorem bytes_of {d : D} (h : FitV (tagg prog 45) (.row (.int .u8)) d) : ∃ l : List UInt8, d = .sl l.length (bytesD l) none ∧ l.length ≤ 9223372036854775807 := by
  rw [FitV, if_neg (by rw [tagg45]; simp)] at h
  obtain ⟨dss, h, h1, h2⟩ := h
  simp at h
  obtain ⟨l, rfl, _⟩ := list_choose (F := fun x : UInt8 => [D.int .u8 (x.toNat : Nat)]) (Q := fun _ => True) (fun x hx => by
    obtain ⟨n, rfl, b, c⟩ := h2 x hx
    obtain ⟨k, rfl⟩ := u8_of b c
    exact ⟨k, rfl, trivial⟩)
  refine ⟨l, ?_, by simpa [maxLen] using h1⟩
  rw [h, flat_map]; simp [bytesD]
theorem byte_in {d : D} (h : FitV (tagg prog 5) (.int .u8) d) : ∃ b : UInt8, d = .int .u8 (b.toNat : Nat) := by
  rw [FitV, if_neg (by rw [tagg5]; simp)] at h
  obtain ⟨n, h, b, c⟩ := h
  simp at h
  obtain ⟨k, rfl⟩ := u8_of b c
  exact ⟨k, h⟩
theorem linksOnce_in {d1 d2 d3 : D} (h1 : FitV (tagg prog 44) (.row .str) d1) (h2 : FitV (tagg prog 45) (.row (.int .u8)) d2) (h3 : FitV (tagg prog 5) (.int .u8) d3) (hK : K (.bool true) s) : ACalls prog γ 8 [d1, d2, d3] s K := by
  obtain ⟨l, rfl, hl⟩ := strs_of h1
  obtain ⟨how, rfl, hh⟩ := bytes_of h2
  obtain ⟨b, rfl⟩ := byte_in h3
  exact LinksOnce_c hl hh hK
end Go.Proofs.Try
