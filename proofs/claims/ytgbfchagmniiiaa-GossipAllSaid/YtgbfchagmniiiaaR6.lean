/- GossipAll: its arguments. -/
import Derived.Test.YtgbfchagmniiiaaGI
import Derived.Test.YtgbfchagmniiiaaR4
set_option maxRecDepth 8000
set_option linter.unusedVariables false
namespace Go.Proofs.Try
open Go Go.Av
variable {γ : Gl} {σ s : St} {K : D → St → Prop}
theorem gossipAll_in {d1 : D} (h1 : FitV (tagg prog 77) (.row shRo) d1) (hK : K (.bool true) s) : ACalls prog γ 13 [d1] s K := by
  obtain ⟨l, rfl, hf⟩ := ros_of h1
  exact GossipAll_c hf hK
end Go.Proofs.Try
