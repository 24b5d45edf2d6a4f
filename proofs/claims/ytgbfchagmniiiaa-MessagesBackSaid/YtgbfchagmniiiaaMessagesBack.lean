/- MessagesBack holds: what is put is got, as far as its kind has it; of what is cut off, or has a byte behind it, nothing; no bytes are a request's and a reply's. -/
import Derived.Test.YtgbfchagmniiiaaRows
import Derived.Test.YtgbfchagmniiiaaPm
import Derived.Test.YtgbfchagmniiiaaPl
import Derived.Test.YtgbfchagmniiiaaPk
import Derived.Test.YtgbfchagmniiiaaRC
import Derived.Test.YtgbfchagmniiiaaEA
namespace Go.Proofs.Ytgbfchagmniiiaa
open Go.ChangeShapes Go.WideShapes Go.ChangeAt Go.RowKit
set_option linter.unusedVariables false

theorem messagesBack_own : ownKnob Try.prog.godebug = none := by kernel_rfl
theorem messagesBack_laidOut : laidOutB Try.prog = true := by kernel_rfl

set_option maxRecDepth 100000 in
theorem messagesBack_lifted (os : Os) (started : os.Started) (H : Type) (enc : TypeId × Value → H) :
    ReturnsInHanded {} Try.checked os 18 .any (Rows.messagesBackSpec.pre6 enc Try.prog Try.f18 Rows.messagesBackRow.domain false) (Rows.messagesBackSpec.post enc Try.prog Try.f18 false true false false) := by
  refine returnsInHanded_of_change (C := Try.checked) messagesBack_own started (by kernel_rfl) Try.func18
    (ChangeSpec.witness6 (enc := enc) (C := Try.checked) false ⟨#[], #[.agg #[.int .i64 0, .int .i64 0, .int .i64 0, .int .i64 0, .int .i64 0], .agg #[.int .i64 0, .int .i64 0, .int .i64 0, .slice none 0 0, .slice none 0 0, .slice none 0 0], .int .u16 0], []⟩ 8 (by kernel_rfl) (by kernel_rfl) (by kernel_rfl) (by kernel_rfl)) ?_
  intro W base args ds gs before hval0 hW hcnd _
  have hval : ∀ (j : Nat) t v, Try.f18.params[j]? = some t → args[j]? = some v → Value.okWide Try.prog W .any base t v := hval0
  have hW' := hW
  obtain ⟨p, q, hA0, hV, rfl, hfz, hnd⟩ := hW
  have hA : DataW.TrodAll enc Try.prog W 0 (fun _ => true) true Try.f18.params.toList args.toList ds p := hA0
  rw [Try.params18] at hA hval
  have hA1 := hA
  obtain ⟨v0, vs0, d0, ds0, p0, q0, hargs, rfl, rfl, h0, r0⟩ := trodAll_cons hA
  obtain ⟨v1, vs1, d1, ds1, p1, q1, rfl, rfl, rfl, h1, r1⟩ := trodAll_cons r0
  obtain ⟨v2, vs2, d2, ds2, p2, q2, rfl, rfl, rfl, h2, r2⟩ := trodAll_cons r1
  obtain ⟨rfl, rfl, rfl⟩ := trodAll_nil r2
  obtain rfl : args = #[v0, v1, v2] := by cases args; simp_all
  obtain ⟨rfl, rfl⟩ := trodVars_none hV
  obtain ⟨x0, rv0, f0⟩ := Av.arg_in (t := 98) Try.sh98 (hval 0 98 v0 rfl rfl) h0
  obtain ⟨x1, rv1, f1⟩ := Av.arg_in (t := 100) Try.sh100 (hval 1 100 v1 rfl rfl) h1
  obtain ⟨x2, rv2, f2⟩ := Av.arg_in (t := 42) Try.sh42 (hval 2 42 v2 rfl rfl) h2
  clear hA0 hval0
  refine (Av.entry (args := [x0, x1, x2]) (vals := [v0, v1, v2]) (fun σ K hK => Try.messagesBack_in f0 f1 f2 hK) (Av.rvs_cons rv0 (Av.rvs_cons rv1 (Av.rvs_cons rv2 Av.rvs_nil)))).mono fun e W' ⟨he, bel⟩ => ?_
  subst he
  exact ⟨_, rfl, _, _, _, [], _, [], hW', trodAll_mk1 (shut_bool Try.underlying4 _), Av.args_out messagesBack_laidOut bel (by kernel_rfl) hA1, rfl, bel.frame _, fun h => by cases h⟩

theorem messagesBack_closed : joinedFacts Try.pinned.checked.prog 18 Try.f18 Rows.messagesBackSpec Rows.messagesBackRow = true := by
  unfold joinedFacts
  exact and2 (and2 (and2 (and2 (and2 (and2 (and2 (by kernel_rfl) mayEnter_ok) lifts_ok) make_ok) (by kernel_rfl)) (by kernel_rfl)) (by kernel_rfl)) (by kernel_rfl)

theorem messagesBack_holds : Rows.MessagesBackSaid :=
  OpenClaim.holds_of_wide 18 Try.f18 rfl rfl rfl rfl rfl rfl rfl ⟨rfl, rfl, rfl, rfl, rfl⟩ rfl rfl rfl rfl rfl (by kernel_rfl) Try.func18 messagesBack_closed
    (of_decide_eq_true (by kernel_rfl)) (by unfold Func.isWrapper; first | (rw [if_pos (by decide +kernel)]; kernel_rfl) | (rw [if_neg (by decide +kernel)]; exact ⟨rfl, rfl⟩))
    (fun os started H enc _ => messagesBack_lifted os started H enc)
end Go.Proofs.Ytgbfchagmniiiaa
