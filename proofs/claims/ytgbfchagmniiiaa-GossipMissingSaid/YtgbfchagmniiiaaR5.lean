/- GossipMissing: its arguments. -/
import Derived.Test.YtgbfchagmniiiaaGE
import Derived.Test.YtgbfchagmniiiaaR4
set_option maxRecDepth 8000
set_option linter.unusedVariables false
namespace Go.Proofs.Try
open Go Go.Av
variable {γ : Gl} {σ s : St} {K : D → St → Prop}
theorem sh5 : shOf prog 20 5 = some (.int .u8) := by kernel_rfl
theorem byte_of {d : D} (h : FitV (tagg prog 5) (.int .u8) d) : ∃ b : UInt8, d = .int .u8 (b.toNat : Nat) := by
  rw [FitV, if_neg (by rw [tagg5]; simp)] at h
  obtain ⟨n, h, b, c⟩ := h
  simp at h
  obtain ⟨k, rfl⟩ := u8_in b c
  exact ⟨k, h⟩
theorem gossipMissing_in {d1 d2 d3 : D} (h1 : FitV (tagg prog 77) (.row shRo) d1) (h2 : FitV (tagg prog 78) (.row shHead) d2) (h3 : FitV (tagg prog 5) (.int .u8) d3) (hK : K (.bool true) s) : ACalls prog γ 12 [d1, d2, d3] s K := by
  obtain ⟨l, rfl, hf⟩ := ros_of h1
  obtain ⟨m, rfl⟩ := heads_of h2
  obtain ⟨b, rfl⟩ := byte_of h3
  exact GossipMissing_c hf hK
end Go.Proofs.Try
