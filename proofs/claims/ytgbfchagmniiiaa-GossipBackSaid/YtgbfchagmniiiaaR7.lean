/- GossipGet: its arguments. -/
import Derived.Test.YtgbfchagmniiiaaGM
import Derived.Test.YtgbfchagmniiiaaR4
set_option maxRecDepth 8000
set_option linter.unusedVariables false
namespace Go.Proofs.Try
open Go Go.Av
variable {γ : Gl} {σ s : St} {K : D → St → Prop}
theorem sh9 : shOf prog 20 9 = some .str := by kernel_rfl
theorem sh42 : shOf prog 20 42 = some (.int .u16) := by kernel_rfl
theorem sh106 : shOf prog 20 106 = some (.rep 3 (.int .u16)) := by kernel_rfl
theorem str_of {d : D} (h : FitV (tagg prog 9) .str d) : ∃ l : List UInt8, d = .str l ∧ l.length ≤ 9223372036854775807 := by
  rw [FitV, if_neg (by rw [tagg9]; simp)] at h
  obtain ⟨l, h, h1⟩ := h
  simp at h
  exact ⟨l, h, by simpa [maxLen] using h1⟩
theorem u16_fit {ds : List D} (h : Fits (.int .u16) ds) : ∃ n : Int, ds = [.int .u16 n] ∧ 0 ≤ n ∧ n < 65536 := by
  obtain ⟨n, rfl, b, c⟩ := h
  have b : 0 ≤ n := b
  have c : n ≤ 65535 := c
  exact ⟨n, rfl, b, by omega⟩
theorem u16_of {d : D} (h : FitV (tagg prog 42) (.int .u16) d) : ∃ n : Int, d = .int .u16 n ∧ 0 ≤ n ∧ n < 65536 := by
  rw [FitV, if_neg (by rw [tagg42]; simp)] at h
  obtain ⟨n, h, b⟩ := u16_fit h
  simp at h
  exact ⟨n, h, b⟩
theorem at_of {d : D} (h : FitV (tagg prog 106) (.rep 3 (.int .u16)) d) : ∃ a b c : Int, d = .agg [.int .u16 a, .int .u16 b, .int .u16 c] ∧ (0 ≤ a ∧ a < 65536) ∧ (0 ≤ b ∧ b < 65536) ∧ (0 ≤ c ∧ c < 65536) := by
  rw [FitV, if_pos tagg106] at h
  obtain ⟨cs, rfl, dss, h3, rfl, h2⟩ := h
  match dss, h3, h2 with
  | [x, y, z], _, h2 =>
    obtain ⟨a, rfl, ha⟩ := u16_fit (h2 x (by simp))
    obtain ⟨b, rfl, hb⟩ := u16_fit (h2 y (by simp))
    obtain ⟨c, rfl, hc⟩ := u16_fit (h2 z (by simp))
    exact ⟨a, b, c, rfl, ha, hb, hc⟩
theorem gossipGet_in {d1 d2 d3 : D} (h1 : FitV (tagg prog 9) .str d1) (h2 : FitV (tagg prog 77) (.row shRo) d2) (h3 : FitV (tagg prog 106) (.rep 3 (.int .u16)) d3) (hK : K (.bool true) s) : ACalls prog γ 15 [d1, d2, d3] s K := by
  obtain ⟨u, rfl, hu⟩ := str_of h1
  obtain ⟨l, rfl, hf⟩ := ros_of h2
  obtain ⟨a, b, c, rfl, ha, hb, hc⟩ := at_of h3
  exact GossipGet_c hf hu ha hb hc hK
end Go.Proofs.Try
