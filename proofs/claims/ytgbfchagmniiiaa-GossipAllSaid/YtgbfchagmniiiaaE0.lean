/- From a contract over abstract values to a call of the machine: the values that came in are for good. -/
import Derived.Test.YtgbfchagmniiiaaAv17
set_option linter.unusedVariables false
namespace Go.Av
open Go.RowKit

/-- All that is there when the call begins is for good. -/
def g0 (W : World) : G := { io := fun _ => none, imm := fun b o => W.cell? ⟨b, o, none⟩, tk := fun _ => none }
theorem rel0 (W : World) : Rel W.heap.size W (g0 W) (fun _ => none) W where
  below := Below.refl _ _
  base := Nat.le_refl _
  imm := fun b o v h => h
  dom := fun id b n h => by cases h
  fin := ⟨0, fun _ _ => ⟨rfl, rfl⟩⟩
  obj := fun id ob h => by cases h
  inj := fun id id' b n n' h => absurd rfl h

theorem entry {P : Program} {f : FuncId} {args : List D} {W : World} {vals : List Value} (h : ∀ (σ : St) (K : D → St → Prop), K (.bool true) σ → ACalls P (fun _ => none) f args σ K) (hv : RVs (g0 W) vals args) :
    Calls P f vals.toArray W fun e W' => e = .returned (.bool true) ∧ Below W.heap.size W W' := by
  have hc := (h (fun _ => none) (fun d _ => d = .bool true) rfl).2 W.heap.size W (g0 W) W vals (fun i cs e => by cases e) hv (rel0 W)
  refine hc.mono fun e W' ⟨v, he, d, g', σ', h1, h2, h3, h4⟩ => ?_
  subst h4
  cases h2
  exact ⟨he, h3.below⟩
end Go.Av
