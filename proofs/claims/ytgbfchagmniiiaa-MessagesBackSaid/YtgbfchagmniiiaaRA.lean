/- messages: what comes in, of bytes. -/
import Derived.Test.YtgbfchagmniiiaaR9
import Derived.Test.YtgbfchagmniiiaaMX
set_option maxRecDepth 8000
set_option linter.unusedVariables false
namespace Go.Proofs.Try
open Go Go.Av
variable {γ : Gl} {σ s : St} {K : D → St → Prop}
theorem sh9 : shOf prog 20 9 = some .str := by kernel_rfl
theorem sh42 : shOf prog 20 42 = some (.int .u16) := by kernel_rfl
theorem str_of {d : D} (h : FitV (tagg prog 9) .str d) : ∃ l : List UInt8, d = .str l ∧ l.length ≤ 9223372036854775807 := by
  rw [FitV, if_neg (by rw [tagg9]; simp)] at h
  obtain ⟨l, h, h1⟩ := h
  simp at h
  exact ⟨l, h, by simpa [maxLen] using h1⟩
theorem u16_fit {ds : List D} (h : Fits (.int .u16) ds) : ∃ n : Int, ds = [.int .u16 n] ∧ 0 ≤ n ∧ n < 65536 := by
  obtain ⟨n, rfl, b, c⟩ := h
  have b : 0 ≤ n := b
  have c : n ≤ 65535 := c
  exact ⟨n, rfl, b, by omega⟩
theorem u16_of {d : D} (h : FitV (tagg prog 42) (.int .u16) d) : ∃ n : Int, d = .int .u16 n ∧ 0 ≤ n ∧ n < 65536 := by
  rw [FitV, if_neg (by rw [tagg42]; simp)] at h
  obtain ⟨n, h, b⟩ := u16_fit h
  simp at h
  exact ⟨n, h, b⟩
theorem messagesGet_in {d1 : D} (h1 : FitV (tagg prog 9) .str d1) (hK : K (.bool true) s) : ACalls prog γ 17 [d1] s K := by
  obtain ⟨u, rfl, hu⟩ := str_of h1
  exact MessagesGet_c hu hK
end Go.Proofs.Try
