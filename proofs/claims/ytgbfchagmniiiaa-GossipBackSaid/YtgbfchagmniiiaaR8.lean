/- GossipBack: its arguments. -/
import Derived.Test.YtgbfchagmniiiaaGN
import Derived.Test.YtgbfchagmniiiaaR7
set_option maxRecDepth 8000
set_option linter.unusedVariables false
namespace Go.Proofs.Try
open Go Go.Av
variable {γ : Gl} {σ s : St} {K : D → St → Prop}
theorem gossipBack_in {d1 d2 d3 : D} (h1 : FitV (tagg prog 77) (.row shRo) d1) (h2 : FitV (tagg prog 78) (.row shHead) d2) (h3 : FitV (tagg prog 42) (.int .u16) d3) (hK : K (.bool true) s) : ACalls prog γ 16 [d1, d2, d3] s K := by
  obtain ⟨l, rfl, hf⟩ := ros_of h1
  obtain ⟨m, rfl⟩ := heads_of h2
  obtain ⟨c, rfl, hc⟩ := u16_of h3
  exact GossipBack_c hf hc hK
end Go.Proofs.Try
