/- links: arguments of the statements, out of what came in. -/
import Derived.Test.YtgbfchagmniiiaaK9
import Derived.Test.YtgbfchagmniiiaaE3
set_option maxRecDepth 8000
set_option linter.unusedVariables false
namespace Go.Proofs.Try
open Go Go.Av
variable {γ : Gl} {σ s : St} {K : D → St → Prop}
def shMail : Sh := .cat (.int .i64) (.cat (.int .i64) (.cat .str .unit))
def shAct : Sh := .cat (.int .u8) (.cat shMail (.cat (.int .i64) (.cat (.int .i64) (.cat (.int .u8) .unit))))
theorem sh68 : shOf prog 20 68 = some shAct := by kernel_rfl
theorem u8_of {n : Int} (h1 : IntKind.min .u8 ≤ n) (h2 : n ≤ IntKind.max .u8) : ∃ b : UInt8, n = (b.toNat : Nat) := by
  have h1 : 0 ≤ n := h1
  have h2 : n ≤ 255 := h2
  exact ⟨UInt8.ofNat n.toNat, by rw [ofNat_toNat (by omega)]; omega⟩
theorem act_of {ds : List D} (h : Fits shAct ds) : ∃ a : LAct, ds = actD a ∧ OkAct a := by
  obtain ⟨x1, y1, rfl, ⟨n1, rfl, b1, c1⟩, x2, y2, rfl, ⟨xf, yf, rfl, ⟨fr, rfl, _⟩, xt, yt, rfl, ⟨to, rfl, _⟩, xs, ys, rfl, ⟨tx, rfl, _⟩, hu⟩, x3, y3, rfl, ⟨n3, rfl, b3, c3⟩, x4, y4, rfl, ⟨n4, rfl, b4, c4⟩, x5, y5, rfl, ⟨n5, rfl, b5, c5⟩, hu2⟩ := h
  have hu : ys = [] := hu
  have hu2 : y5 = [] := hu2
  subst hu; subst hu2
  obtain ⟨k1, rfl⟩ := u8_of b1 c1
  obtain ⟨k5, rfl⟩ := u8_of b5 c5
  exact ⟨⟨k1, ⟨fr, to, tx⟩, n3, n4, k5⟩, rfl, b3, c3, b4, c4⟩
theorem linksNone_in {d : D} (h : FitV (tagg prog 68) shAct d) (hK : K (.bool true) s) : ACalls prog γ 10 [d] s K := by
  rw [FitV, if_pos tagg68] at h
  obtain ⟨cs, rfl, h⟩ := h
  obtain ⟨a, rfl, _⟩ := act_of h
  exact LinksNone_c hK
end Go.Proofs.Try
