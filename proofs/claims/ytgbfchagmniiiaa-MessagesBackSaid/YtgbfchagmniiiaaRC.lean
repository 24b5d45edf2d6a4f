/- messages: what comes in: MessagesBack. -/
import Derived.Test.YtgbfchagmniiiaaRA
import Derived.Test.YtgbfchagmniiiaaMZ
set_option maxRecDepth 8000
set_option linter.unusedVariables false
namespace Go.Proofs.Try
open Go Go.Av
variable {γ : Gl} {σ s : St} {K : D → St → Prop}
theorem messagesBack_in {d1 d2 d3 : D} (h1 : FitV (tagg prog 98) shReq d1) (h2 : FitV (tagg prog 100) shRep d2) (h3 : FitV (tagg prog 42) (.int .u16) d3) (hK : K (.bool true) s) : ACalls prog γ 18 [d1, d2, d3] s K := by
  obtain ⟨r, rfl, hr⟩ := req_of h1
  obtain ⟨a, rfl, fa, ia⟩ := rep_of h2
  obtain ⟨c, rfl, hc⟩ := u16_of h3
  obtain ⟨c, rfl⟩ : ∃ x : Nat, c = (x : Nat) := ⟨c.toNat, by omega⟩
  exact MessagesBack_c hr fa ia (by omega) hK
end Go.Proofs.Try
