/- A row's arguments, whatever their types: what came in; that they read as they did. -/
import Derived.Test.YtgbfchagmniiiaaE2
import Derived.WalkKit
import Derived.ProofKit
import Derived.OpenShut
import Derived.ShutString
import Derived.ChangeOld
import Derived.Below
import Derived.WideShapes
set_option linter.unusedVariables false
set_option linter.unusedSimpArgs false
namespace Go.Av
open Go.RowKit Go.ChangeShapes Go.WideShapes

/-- An argument of a shape: a struct or an array is handed over as its cells. -/
def FitV (ag : Option Bool) (s : Sh) (d : D) : Prop := if ag = some true then ∃ cs, d = .agg cs ∧ Fits s cs else Fits s [d]
section
variable {H : Type} {enc : TypeId × Value → H} {P : Program} {W : World}
theorem arg_in {t : TypeId} {s : Sh} (hs : shOf P 20 t = some s) {base : Nat} {v : Value} (hw : Value.okWide P W .any base t v) {x : DataW H} {ps : List MemPlace} (h : DataW.Trod enc P W 0 (fun _ => true) true t v x ps) : ∃ d, RV (g0 W) v d ∧ FitV (tagg P t) s d := by
  have hs' := hs
  unfold shOf at hs'
  have one : ∀ (ag : Bool), ag = false → tagg P t = some ag → v.oneCell' = true → ∃ d, RV (g0 W) v d ∧ FitV (tagg P t) s d := by
    intro ag hf ha h1
    subst hf
    obtain ⟨d, r, f⟩ := trod_in 20 hs h1 h
    exact ⟨d, r, by rw [FitV, ha, if_neg (by simp)]; exact f⟩
  split at hs'
  · rename_i k hu
    obtain ⟨n, rfl⟩ := okWide_int hu hw
    exact one false rfl (by simp [tagg, hu]) rfl
  · rename_i hu
    obtain ⟨n, rfl⟩ := okWide_bool hu hw
    exact one false rfl (by simp [tagg, hu]) rfl
  · rename_i hu
    obtain ⟨n, rfl⟩ := okWide_string hu hw
    exact one false rfl (by simp [tagg, hu]) rfl
  · rename_i e hu
    obtain ⟨a, l, c, rfl⟩ := okWide_slice hu hw
    exact one false rfl (by simp [tagg, hu]) rfl
  · rename_i fs hu
    obtain ⟨cs, rfl, _⟩ := okWide_struct hu hw
    obtain ⟨ds, r, f⟩ := trod_agg 20 hs h
    exact ⟨_, r, by rw [FitV, if_pos (by simp [tagg, hu])]; exact ⟨ds, rfl, f⟩⟩
  · rename_i n e hu
    unfold Value.okWide at hw
    rw [hu] at hw
    obtain ⟨cs, rfl, _⟩ := hw
    obtain ⟨ds, r, f⟩ := trod_agg 20 hs h
    exact ⟨_, r, by rw [FitV, if_pos (by simp [tagg, hu])]; exact ⟨ds, rfl, f⟩⟩
  · cases hs'

theorem args_out (hl : laidOutB P = true) {W' : World} (hb : Below W.heap.size W W') : ∀ {ts : List TypeId} {vs : List Value} {ds : List (DataW H)} {ps : List MemPlace}, ts.all (fun t => P.readableRec t && decide (t < P.types.size)) = true → DataW.TrodAll enc P W 0 (fun _ => true) true ts vs ds ps → DataW.TrodAll enc P W' 0 (fun b => decide (b < W.heap.size)) true ts vs ds ps
  | [], vs, ds, ps, _, h => by
    obtain ⟨rfl, rfl, rfl⟩ := trodAll_nil h
    exact trodAll_mk0
  | t :: ts, vs, ds, ps, hr, h => by
    obtain ⟨v, vs', d, ds', p, q, rfl, rfl, rfl, h1, h2⟩ := trodAll_cons h
    simp only [List.all_cons, Bool.and_eq_true, decide_eq_true_eq] at hr
    have lt : ∀ x ∈ p, x.block < W.heap.size := by obtain ⟨m, hm⟩ := h1; exact DataW.trod_lt m _ _ _ hm
    exact trodAll_cons_mk (Below.trod hl hr.1.1 hr.1.2 h1 hb lt) (args_out hl hb hr.2 h2)
end
theorem rvs_nil {g : G} : RVs g [] [] := ⟨rfl, fun k v d e => by simp at e⟩
theorem rvs_cons {g : G} {v : Value} {d : D} {vs : List Value} {ds : List D} (h : RV g v d) (hs : RVs g vs ds) : RVs g (v :: vs) (d :: ds) := (RVs.single h).append hs
end Go.Av
