/- MessagesForm holds: what is got of bytes is put as these. -/
import Derived.Test.YtgbfchagmniiiaaRows
import Derived.Test.YtgbfchagmniiiaaPm
import Derived.Test.YtgbfchagmniiiaaPl
import Derived.Test.YtgbfchagmniiiaaPk
import Derived.Test.YtgbfchagmniiiaaRB
import Derived.Test.YtgbfchagmniiiaaEA
namespace Go.Proofs.Ytgbfchagmniiiaa
open Go.ChangeShapes Go.WideShapes Go.ChangeAt Go.RowKit
set_option linter.unusedVariables false

theorem messagesForm_own : ownKnob Try.prog.godebug = none := by kernel_rfl
theorem messagesForm_laidOut : laidOutB Try.prog = true := by kernel_rfl

set_option maxRecDepth 100000 in
theorem messagesForm_lifted (os : Os) (started : os.Started) (H : Type) (enc : TypeId × Value → H) :
    ReturnsInHanded {} Try.checked os 19 .any (Rows.messagesFormSpec.pre6 enc Try.prog Try.f19 Rows.messagesFormRow.domain false) (Rows.messagesFormSpec.post enc Try.prog Try.f19 false true false false) := by
  refine returnsInHanded_of_change (C := Try.checked) messagesForm_own started (by kernel_rfl) Try.func19
    (ChangeSpec.witness6 (enc := enc) (C := Try.checked) false ⟨#[], #[.string ⟨#[]⟩], []⟩ 8 (by kernel_rfl) (by kernel_rfl) (by kernel_rfl) (by kernel_rfl)) ?_
  intro W base args ds gs before hval0 hW hcnd _
  have hval : ∀ (j : Nat) t v, Try.f19.params[j]? = some t → args[j]? = some v → Value.okWide Try.prog W .any base t v := hval0
  have hW' := hW
  obtain ⟨p, q, hA0, hV, rfl, hfz, hnd⟩ := hW
  have hA : DataW.TrodAll enc Try.prog W 0 (fun _ => true) true Try.f19.params.toList args.toList ds p := hA0
  rw [Try.params19] at hA hval
  have hA1 := hA
  obtain ⟨v0, vs0, d0, ds0, p0, q0, hargs, rfl, rfl, h0, r0⟩ := trodAll_cons hA
  obtain ⟨rfl, rfl, rfl⟩ := trodAll_nil r0
  obtain rfl : args = #[v0] := by cases args; simp_all
  obtain ⟨rfl, rfl⟩ := trodVars_none hV
  obtain ⟨x0, rv0, f0⟩ := Av.arg_in (t := 9) Try.sh9 (hval 0 9 v0 rfl rfl) h0
  clear hA0 hval0
  refine (Av.entry (args := [x0]) (vals := [v0]) (fun σ K hK => Try.messagesForm_in f0 hK) (Av.rvs_cons rv0 Av.rvs_nil)).mono fun e W' ⟨he, bel⟩ => ?_
  subst he
  exact ⟨_, rfl, _, _, _, [], _, [], hW', trodAll_mk1 (shut_bool Try.underlying4 _), Av.args_out messagesForm_laidOut bel (by kernel_rfl) hA1, rfl, bel.frame _, fun h => by cases h⟩

theorem messagesForm_closed : joinedFacts Try.pinned.checked.prog 19 Try.f19 Rows.messagesFormSpec Rows.messagesFormRow = true := by
  unfold joinedFacts
  exact and2 (and2 (and2 (and2 (and2 (and2 (and2 (by kernel_rfl) mayEnter_ok) lifts_ok) make_ok) (by kernel_rfl)) (by kernel_rfl)) (by kernel_rfl)) (by kernel_rfl)

theorem messagesForm_holds : Rows.MessagesFormSaid :=
  OpenClaim.holds_of_wide 19 Try.f19 rfl rfl rfl rfl rfl rfl rfl ⟨rfl, rfl, rfl, rfl, rfl⟩ rfl rfl rfl rfl rfl (by kernel_rfl) Try.func19 messagesForm_closed
    (of_decide_eq_true (by kernel_rfl)) (by unfold Func.isWrapper; first | (rw [if_pos (by decide +kernel)]; kernel_rfl) | (rw [if_neg (by decide +kernel)]; exact ⟨rfl, rfl⟩))
    (fun os started H enc _ => messagesForm_lifted os started H enc)
end Go.Proofs.Ytgbfchagmniiiaa
