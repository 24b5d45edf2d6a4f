/- MessagesPut: its arguments. -/
import Derived.Test.YtgbfchagmniiiaaMN
import Derived.Test.YtgbfchagmniiiaaR4
set_option maxRecDepth 8000
set_option linter.unusedVariables false
namespace Go.Proofs.Try
open Go Go.Av
variable {γ : Gl} {σ s : St} {K : D → St → Prop}
def shReq : Sh := .cat (.int .i64) (.cat (.int .i64) (.cat (.int .i64) (.cat (.int .i64) (.cat (.int .i64) .unit))))
def shSeal : Sh := .cat (.int .i64) (.cat .str (.cat (.row shHash) .unit))
def shSig : Sh := .cat shHead (.cat shSeal .unit)
def shRep : Sh := .cat (.int .i64) (.cat (.int .i64) (.cat (.int .i64) (.cat (.row shSig) (.cat (.row .str) (.cat (.row shHash) .unit)))))
theorem sh98 : shOf prog 20 98 = some shReq := by kernel_rfl
theorem sh100 : shOf prog 20 100 = some shRep := by kernel_rfl
theorem i64_fit {ds : List D} (h : Fits (.int .i64) ds) : ∃ n : Int, ds = [.int .i64 n] ∧ I64 n := by
  obtain ⟨n, rfl, b, c⟩ := h
  exact ⟨n, rfl, b, c⟩
theorem req_of {d : D} (h : FitV (tagg prog 98) shReq d) : ∃ r : Req, d = .agg (reqD r) ∧ ReqB r := by
  rw [FitV, if_pos tagg98] at h
  obtain ⟨cs, rfl, x0, y0, rfl, h0, x1, y1, rfl, h1, x2, y2, rfl, h2, x3, y3, rfl, h3, x4, y4, rfl, h4, hu⟩ := h
  have hu : y4 = [] := hu
  subst hu
  obtain ⟨n0, rfl, b0⟩ := i64_fit h0
  obtain ⟨n1, rfl, b1⟩ := i64_fit h1
  obtain ⟨n2, rfl, b2⟩ := i64_fit h2
  obtain ⟨n3, rfl, b3⟩ := i64_fit h3
  obtain ⟨n4, rfl, b4⟩ := i64_fit h4
  exact ⟨⟨n0, n1, n2, n3, n4⟩, rfl, b0, b1, b2, b3, b4⟩
theorem sig_of {ds : List D} (h : Fits shSig ds) : ∃ x : SHead, ds = sgD x ∧ True := by
  obtain ⟨xh, yh, rfl, hh, xs, ys, rfl, ⟨x1, y1, rfl, h1, x2, y2, rfl, h2, x3, y3, rfl, h3, hu⟩, hu2⟩ := h
  have hu : y3 = [] := hu
  have hu2 : ys = [] := hu2
  subst hu; subst hu2
  obtain ⟨hd, rfl⟩ := head_of hh
  obtain ⟨n, rfl, _⟩ := h1
  obtain ⟨t, rfl, _⟩ := h2
  obtain ⟨p, rfl, hp⟩ := path_of h3
  exact ⟨⟨hd, n, t, p, hp⟩, by simp [sgD, sealD], trivial⟩
theorem rep_of {d : D} (h : FitV (tagg prog 100) shRep d) : ∃ r : Rep, d = .agg (repD r) ∧ Fine17 r ∧ I64 r.id ∧ I64 r.kind ∧ I64 r.code := by
  rw [FitV, if_pos tagg100] at h
  obtain ⟨cs, rfl, x0, y0, rfl, h0, x1, y1, rfl, h1, x2, y2, rfl, h2, x3, y3, rfl, h3, x4, y4, rfl, h4, x5, y5, rfl, h5, hu⟩ := h
  have hu : y5 = [] := hu
  subst hu
  obtain ⟨n0, rfl, b0⟩ := i64_fit h0
  obtain ⟨n1, rfl, b1⟩ := i64_fit h1
  obtain ⟨n2, rfl, b2⟩ := i64_fit h2
  obtain ⟨dss, rfl, hl3, hm3⟩ := h3
  obtain ⟨L, rfl, _⟩ := list_choose (F := sgD) (Q := fun _ => True) (fun x hx => sig_of (hm3 x hx))
  obtain ⟨ess, rfl, hl4, hm4⟩ := h4
  obtain ⟨l, rfl, _⟩ := list_choose (F := fun x : List UInt8 => [D.str x]) (Q := fun _ => True) (fun x hx => by
    obtain ⟨t, rfl, _⟩ := hm4 x hx
    exact ⟨t, rfl, trivial⟩)
  obtain ⟨p, rfl, hp⟩ := path_of h5
  refine ⟨⟨n0, n1, n2, L, l, p, hp⟩, ?_, ⟨?_, ?_⟩, b0, b1, b2⟩
  · simp [repD, sgsD, rowsD, txD, flat_one]
  · simpa [maxLen] using hl4
  · simpa [maxLen] using hl3
theorem messagesPut_in {d1 d2 d3 : D} (h1 : FitV (tagg prog 98) shReq d1) (h2 : FitV (tagg prog 100) shRep d2) (h3 : FitV (tagg prog 100) shRep d3) (hK : K (.bool true) s) : ACalls prog γ 14 [d1, d2, d3] s K := by
  obtain ⟨r, rfl, hr⟩ := req_of h1
  obtain ⟨a, rfl, fa, ia⟩ := rep_of h2
  obtain ⟨b, rfl, fb, _⟩ := rep_of h3
  exact MessagesPut_c hr fa fb ia hK
end Go.Proofs.Try
