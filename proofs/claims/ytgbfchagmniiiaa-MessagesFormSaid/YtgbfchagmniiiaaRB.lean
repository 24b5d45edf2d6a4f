/- messages: what comes in, of bytes: MessagesForm. -/
import Derived.Test.YtgbfchagmniiiaaRA
import Derived.Test.YtgbfchagmniiiaaMY
set_option maxRecDepth 8000
set_option linter.unusedVariables false
namespace Go.Proofs.Try
open Go Go.Av
variable {γ : Gl} {σ s : St} {K : D → St → Prop}
theorem messagesForm_in {d1 : D} (h1 : FitV (tagg prog 9) .str d1) (hK : K (.bool true) s) : ACalls prog γ 19 [d1] s K := by
  obtain ⟨u, rfl, hu⟩ := str_of h1
  exact MessagesForm_c hu hK
end Go.Proofs.Try
