/- LinksPlay: its arguments. -/
import Derived.Test.YtgbfchagmniiiaaK14
import Derived.Test.YtgbfchagmniiiaaR1
set_option maxRecDepth 8000
set_option linter.unusedVariables false
namespace Go.Proofs.Try
open Go Go.Av
variable {γ : Gl} {σ s : St} {K : D → St → Prop}
theorem sh3 : shOf prog 20 3 = some (.int .i64) := by kernel_rfl
theorem sh62 : shOf prog 20 62 = some (.row shAct) := by kernel_rfl
theorem int_of {d : D} (h : FitV (tagg prog 3) (.int .i64) d) : ∃ n : Int, d = .int .i64 n ∧ -9223372036854775808 ≤ n ∧ n ≤ 9223372036854775807 := by
  rw [FitV, if_neg (by rw [tagg3]; simp)] at h
  obtain ⟨n, h, h1, h2⟩ := h
  simp at h
  exact ⟨n, h, h1, h2⟩
theorem acts_of {d : D} (h : FitV (tagg prog 62) (.row shAct) d) : ∃ l : List LAct, d = .sl l.length (actsD l) none ∧ l.length ≤ 9223372036854775807 ∧ ∀ a ∈ l, OkAct a := by
  rw [FitV, if_neg (by rw [tagg62]; simp)] at h
  obtain ⟨dss, h, h1, h2⟩ := h
  simp at h
  obtain ⟨l, rfl, h3⟩ := list_choose (F := actD) (Q := OkAct) (fun x hx => act_of (h2 x hx))
  refine ⟨l, ?_, by simpa [maxLen] using h1, h3⟩
  rw [h]; simp [actsD, rowsD]
theorem linksPlay_in {d1 d2 : D} (h1 : FitV (tagg prog 3) (.int .i64) d1) (h2 : FitV (tagg prog 62) (.row shAct) d2) (hK : K (.bool true) s) : ACalls prog γ 9 [d1, d2] s K := by
  obtain ⟨n, rfl, _⟩ := int_of h1
  obtain ⟨l, rfl, h3, h4⟩ := acts_of h2
  exact LinksPlay_c h3 h4 hK
end Go.Proofs.Try
