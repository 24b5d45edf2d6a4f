/- For every number of nodes and all acts: the law LinksPlay returns true, and its arguments read as they did. No condition. -/
import Derived.Test.YtgbfchagmniiiaaRows
import Derived.Test.YtgbfchagmniiiaaR2
import Derived.Test.YtgbfchagmniiiaaE3
namespace Go.Proofs.Ytgbfchagmniiiaa
open Go.ChangeShapes Go.WideShapes Go.ChangeAt Go.RowKit
set_option linter.unusedVariables false

theorem linksPlay_own : ownKnob Try.prog.godebug = none := by kernel_rfl
theorem linksPlay_laidOut : laidOutB Try.prog = true := by kernel_rfl

set_option maxRecDepth 100000 in
theorem linksPlay_lifted (os : Os) (started : os.Started) (H : Type) (enc : TypeId × Value → H) :
    ReturnsInHanded {} Try.checked os 9 .any (Rows.linksPlaySpec.pre6 enc Try.prog Try.f9 Rows.linksPlayRow.domain false) (Rows.linksPlaySpec.post enc Try.prog Try.f9 false true false false) := by
  refine returnsInHanded_of_change (C := Try.checked) linksPlay_own started (by kernel_rfl) Try.func9
    (ChangeSpec.witness6 (enc := enc) (C := Try.checked) false ⟨#[], #[.int .i64 0, .slice none 0 0], []⟩ 8 (by kernel_rfl) (by kernel_rfl) (by kernel_rfl) (by kernel_rfl)) ?_
  intro W base args ds gs before hval0 hW hcnd _
  have hval : ∀ (j : Nat) t v, Try.f9.params[j]? = some t → args[j]? = some v → Value.okWide Try.prog W .any base t v := hval0
  have hW' := hW
  obtain ⟨p, q, hA0, hV, rfl, hfz, hnd⟩ := hW
  have hA : DataW.TrodAll enc Try.prog W 0 (fun _ => true) true Try.f9.params.toList args.toList ds p := hA0
  rw [Try.params9] at hA hval
  have hA1 := hA
  obtain ⟨v0, vs0, d0, ds0, p0, q0, hargs, rfl, rfl, h0, r0⟩ := trodAll_cons hA
  obtain ⟨v1, vs1, d1, ds1, p1, q1, rfl, rfl, rfl, h1, r1⟩ := trodAll_cons r0
  obtain ⟨rfl, rfl, rfl⟩ := trodAll_nil r1
  obtain rfl : args = #[v0, v1] := by cases args; simp_all
  obtain ⟨rfl, rfl⟩ := trodVars_none hV
  obtain ⟨x0, rv0, f0⟩ := Av.arg_in (t := 3) Try.sh3 (hval 0 3 v0 rfl rfl) h0
  obtain ⟨x1, rv1, f1⟩ := Av.arg_in (t := 62) Try.sh62 (hval 1 62 v1 rfl rfl) h1
  clear hA0 hval0
  refine (Av.entry (args := [x0, x1]) (vals := [v0, v1]) (fun σ K hK => Try.linksPlay_in f0 f1 hK) (Av.rvs_cons rv0 (Av.rvs_cons rv1 Av.rvs_nil))).mono fun e W' ⟨he, bel⟩ => ?_
  subst he
  exact ⟨_, rfl, _, _, _, [], _, [], hW', trodAll_mk1 (shut_bool Try.underlying4 _), Av.args_out linksPlay_laidOut bel (by kernel_rfl) hA1, rfl, bel.frame _, fun h => by cases h⟩

theorem linksPlay_holds : Rows.LinksPlaySaid :=
  OpenClaim.holds_of_wide 9 Try.f9 rfl rfl rfl rfl rfl rfl rfl ⟨rfl, rfl, rfl, rfl, rfl⟩ rfl rfl rfl rfl rfl (by kernel_rfl) Try.func9 (by kernel_rfl)
    (of_decide_eq_true (by kernel_rfl)) (by unfold Func.isWrapper; first | (rw [if_pos (by decide +kernel)]; kernel_rfl) | (rw [if_neg (by decide +kernel)]; exact ⟨rfl, rfl⟩))
    (fun os started H enc _ => linksPlay_lifted os started H enc)
end Go.Proofs.Ytgbfchagmniiiaa
