/- One operation over abstract values is what the machine does. -/
import Derived.Test.YtgbfchagmniiiaaAv10
import Derived.Laws.Externs
set_option linter.unusedSimpArgs false
set_option linter.unusedVariables false
namespace Go.Av
open Go.RowKit

section
variable {P : Program} {γ : Gl} {B : Nat} {w0 : World} {g : G} {σ : St} {w : World} {a : Act} {ρ : Env} {N : Nat}

theorem guard_ok (op : BinOp) (t : TypeId) (X Y : Operand) {x y : Value} (h1 : (∃ cx cy, x = .agg cx ∧ y = .agg cy) → P.eqGuardType P.depth t = false) (h2 : ¬ (x = .nilIface ∧ y = .nilIface)) : (eqGuard op t X Y x y).run P w = .ok () w := by
  have key : ∀ op, op = .eql ∨ op = .neq → (eqGuard op t X Y x y).run P w = .ok () w := by
    intro op ho
    rcases ho with rfl | rfl
    all_goals
      simp only [eqGuard, Bool.not_true, Bool.false_eq_true, if_false]
      split
      · exact (h2 ⟨rfl, rfl⟩).elim
      · have := h1 ⟨_, _, rfl, rfl⟩
        simp [this]
      · simp
  cases op
  case eql => exact key _ (.inl rfl)
  case neq => exact key _ (.inr rfl)
  all_goals simp [eqGuard]

theorem rvs_evals (hE : ER γ g a ρ N) (xs : List Operand) : RVs g (xs.map a.eval) (xs.map (aeval γ ρ)) :=
  ⟨by simp, fun k v d e e' => by
    simp only [List.getElem?_map, Option.map_eq_some_iff] at e e'
    obtain ⟨x, hx, rfl⟩ := e
    obtain ⟨y, hy, rfl⟩ := e'
    rw [hx] at hy; cases hy
    exact hE.eval x⟩

theorem rvo_evals (hE : ER γ g a ρ N) (x : Option Operand) : RVo g (x.map a.eval) (x.map (aeval γ ρ)) := by
  cases x with
  | none => trivial
  | some x => exact hE.eval x

theorem parts_evals (hE : ER γ g a ρ N) (ps : Array (Nat × Operand)) : (ps.map fun (i, x) => (i, a.eval x)).toList.length = (ps.toList.map fun p => (p.1, aeval γ ρ p.2)).length ∧
    ∀ (k : Nat) p q, (ps.map fun (i, x) => (i, a.eval x)).toList[k]? = some p → (ps.toList.map fun p => (p.1, aeval γ ρ p.2))[k]? = some q → p.1 = q.1 ∧ RV g p.2 q.2 := by
  refine ⟨by simp, fun k p q e e' => ?_⟩
  simp only [Array.toList_map, List.getElem?_map, Option.map_eq_some_iff] at e e'
  obtain ⟨x, hx, rfl⟩ := e
  obtain ⟨y, hy, rfl⟩ := e'
  rw [hx] at hy; cases hy
  exact ⟨rfl, hE.eval _⟩

theorem okFn_spec {f : FuncId} (h : okFn P f = true) : ∃ fn, P.funcs[f]? = some fn ∧ (fn.name == "runtime.NumGoroutine") = false ∧ fn.body.isNone = false := by
  unfold okFn at h
  split at h
  · rename_i fn hf
    simp only [Bool.and_eq_true, bne_iff_ne, ne_eq] at h
    refine ⟨fn, hf, by simpa using h.1, ?_⟩
    cases hb : fn.body with
    | none => rw [hb] at h; simp at h
    | some c => rfl
  · cases h

theorem wp_value {o : Oper} {next : Act → World → Prop} {Q : Exit → Act → World → Prop} {v : Value} {w' : World} (h : (execOp a.eval o).run P w = .ok (.value v) w') (hn : next (a.put o.dst v) w') : o.wp P a w next Q := by
  unfold Oper.wp; rw [h]; exact hn
theorem wp_skip' {o : Oper} {next : Act → World → Prop} {Q : Exit → Act → World → Prop} {w' : World} (h : (execOp a.eval o).run P w = .ok .skip w') (hn : next (a.put o.dst undef) w') : o.wp P a w next Q := by
  unfold Oper.wp; rw [h]; exact hn

theorem run_v {s : Sem Value} {v : Value} {w' : World} (h : s.run P w = .ok v w') : (do pure (.value (← s)) : Sem Next).run P w = .ok (.value v) w' := by
  simp only [Sem.run_bind, h, Result.andThen_ok, Sem.run_pure]

theorem builtin_sound (hE : ER γ g a ρ N) (hR : Rel B w0 g σ w) {b : Builtin} {ts : Array TypeId} {ty : TypeId} {consts : Array Bool} {xs : Array Operand} {K : D → St → Prop} (hk : abuiltin P b ts.toList (xs.toList.map (aeval γ ρ)) σ K) :
    ∃ v w', (builtin b ts ty consts (xs.map a.eval)).run P w = .ok (.value v) w' ∧ Comes' B w0 g K v w' := by
  obtain ⟨xl⟩ := xs
  obtain ⟨tl⟩ := ts
  simp only [List.map_toArray] at *
  unfold abuiltin at hk
  split at hk
  · rename_i t x hx
    match xl, hx with
    | [y], hx =>
      simp only [List.map_cons, List.map_nil, List.cons.injEq, and_true] at hx
      subst hx
      obtain ⟨v, e1, e2⟩ := len_sound (ty := ty) hR (hE.eval y) hk
      exact ⟨v, w, run_v e1, e2⟩
  · rename_i t x hx
    match xl, hx with
    | [y], hx =>
      simp only [List.map_cons, List.map_nil, List.cons.injEq, and_true] at hx
      subst hx
      obtain ⟨v, e1, e2⟩ := cap_sound (ty := ty) hR (hE.eval y) hk
      exact ⟨v, w, run_v e1, e2⟩
  · rename_i t x hx
    match xl, hx with
    | [y], hx =>
      simp only [List.map_cons, List.map_nil, List.cons.injEq, and_true] at hx
      subst hx
      obtain ⟨v, w', e1, e2⟩ := clear_sound (ty := ty) hR (hE.eval y) hk
      exact ⟨v, w', run_v e1, e2⟩
  · rename_i t u s x hx
    match xl, hx with
    | [y, z], hx =>
      simp only [List.map_cons, List.map_nil, List.cons.injEq, and_true] at hx
      obtain ⟨rfl, rfl⟩ := hx
      obtain ⟨hu, hk⟩ := hk
      split at hk
      · rename_i e sz bytes he
        split at hk
        · rename_i n ds hc
          obtain ⟨v, w', e1, e2⟩ := append_sound (ty := ty) hR he hu (hE.eval y) (hE.eval z) hc hk
          exact ⟨v, w', run_v e1, e2⟩
        · cases hk
      · cases hk
  · rename_i t u s x hx
    match xl, hx with
    | [y, z], hx =>
      simp only [List.map_cons, List.map_nil, List.cons.injEq, and_true] at hx
      obtain ⟨rfl, rfl⟩ := hx
      obtain ⟨v, w', e1, e2⟩ := copy_sound (u := u) (ty := ty) hR (hE.eval y) (hE.eval z) hk
      exact ⟨v, w', run_v e1, e2⟩
  · obtain ⟨v, e1, e2⟩ := minmax_sound (ts := _) (ty := ty) hR (rvs_evals hE xl) hk
    exact ⟨v, w, run_v (by simpa using e1), e2⟩
  · obtain ⟨v, e1, e2⟩ := minmax_sound (ts := _) (ty := ty) hR (rvs_evals hE xl) hk
    exact ⟨v, w, run_v (by simpa using e1), e2⟩
  · rename_i x hx
    match xl, hx with
    | [y], hx =>
      simp only [List.map_cons, List.map_nil, List.cons.injEq, and_true] at hx
      subst hx
      obtain ⟨v, e1, e2⟩ := sldata_sound (ts := List.toArray _) (ty := ty) hR (hE.eval y) hk
      exact ⟨v, w, run_v e1, e2⟩
  · rename_i pt u x y hx
    match xl, hx with
    | [z1, z2], hx =>
      simp only [List.map_cons, List.map_nil, List.cons.injEq, and_true] at hx
      obtain ⟨rfl, rfl⟩ := hx
      obtain ⟨v, w', e1, e2⟩ := ustr_sound (it := u) (ty := ty) hR (hE.eval z1) (hE.eval z2) hk
      exact ⟨v, w', run_v e1, e2⟩
  · cases hk

theorem noEsc_run {f : FuncId} (h : noEsc P f = true) (x : Value) (w : World) : (callFunc f #[x]).run P w = .ok (.value x) w := by
  unfold noEsc at h
  split at h
  · rename_i fn hf
    simp only [Bool.and_eq_true, beq_iff_eq] at h
    obtain ⟨⟨hn, hb⟩, hx⟩ := h
    have hfind : Extern.find fn = some Extern.AbiNoEscape.same := by
      unfold Extern.find
      simp only [hn]
      rfl
    have hnext : Extern.findNext fn = none := by simpa using hx
    exact (run_callFunc_extern hf (by rw [hn]; decide) hb hnext hfind #[x] w).trans rfl
  · cases h

theorem aop_sound (hE : ER γ g a ρ N) (hR : Rel B w0 g σ w) {o : Oper} {K : D → St → Prop} (hk : aop P γ ρ σ o.op K) {next : Act → World → Prop} {Q : Exit → Act → World → Prop}
    (hn : ∀ v w', Comes' B w0 g K v w' → next (a.put o.dst v) w') : o.wp P a w next Q := by
  obtain ⟨dst, op, type, pos, after, guard⟩ := o
  simp only at hk hn
  unfold aop at hk
  split at hk
  · exact wp_value (v := a.eval _) (by simp [execOp]) (hn _ _ (same_sound hR (hE.eval _) hk))
  · exact wp_value (v := a.eval _) (by simp [execOp]) (hn _ _ (same_sound hR (hE.eval _) hk))
  · rename_i c x y
    split at hk
    · rename_i t ht
      have hc := hE.eval c
      rw [ht] at hc
      generalize hcv : a.eval c = cv at hc
      cases hc
      refine wp_value (v := if t = true then a.eval x else a.eval y) (w' := w) (by simp [execOp, hcv, asBool]) (hn _ _ (same_sound hR ?_ hk))
      cases t
      · exact hE.eval y
      · exact hE.eval x
    · cases hk
  · obtain ⟨v, w', e1, e2⟩ := alloc_sound hR hk
    exact wp_value (by simpa [execOp] using run_v e1) (hn _ _ e2)
  · rename_i t x
    obtain ⟨v, w', e1, e2⟩ := box_sound hR (hE.eval x) t hk
    exact wp_value (by simpa [execOp] using run_v e1) (hn _ _ e2)
  · rename_i t ps
    obtain ⟨h1, h2⟩ := parts_evals hE ps
    obtain ⟨v, e1, e2⟩ := build_sound hR h1 h2 hk
    exact wp_value (by simpa [execOp] using run_v e1) (hn _ _ e2)
  · rename_i t n ps
    obtain ⟨h1, h2⟩ := parts_evals hE ps
    obtain ⟨v, w', e1, e2⟩ := buildSl_sound hR h1 h2 hk
    exact wp_value (by simpa [execOp] using run_v e1) (hn _ _ e2)
  · rename_i t p
    obtain ⟨v, e1, e2⟩ := load_sound (hE.eval p) hR hk
    exact wp_value (by simpa [execOp] using run_v e1) (hn _ _ e2)
  · rename_i t p x
    obtain ⟨w', e1, e2⟩ := store_sound (hE.eval p) (hE.eval x) hR hk
    exact wp_skip' (by simp only [execOp, Sem.run_bind, e1, Result.andThen_ok, Sem.run_pure]) (hn _ _ e2)
  · rename_i x
    obtain ⟨⟨ad, e1⟩, e2⟩ := nilCheck_sound hR (hE.eval x) hk
    exact wp_value (v := a.eval x) (w' := w) (by simp [execOp, e1]) (hn _ _ e2)
  · rename_i bo t x y t'
    obtain ⟨v, e1, e2, e3, e4⟩ := bin_sound hR bo (hE.eval x) (hE.eval y) hk
    have hg := guard_ok (P := P) (w := w) bo t x y e3 e4
    exact wp_value (by simp only [execOp, Sem.run_bind, hg, Result.andThen_ok, e1, Sem.run_pure]) (hn _ _ e2)
  · rename_i uo t x
    obtain ⟨v, e1, e2⟩ := un_sound hR uo (hE.eval x) hk
    exact wp_value (by simpa [execOp] using run_v e1) (hn _ _ e2)
  · rename_i s d x
    obtain ⟨v, w', e1, e2⟩ := conv_sound hR (hE.eval x) hk
    exact wp_value (by simpa [execOp] using run_v e1) (hn _ _ e2)
  · rename_i t l c
    obtain ⟨v, w', e1, e2⟩ := make_sound hR (hE.eval l) (hE.eval c) hk
    exact wp_value (by simpa [execOp] using run_v e1) (hn _ _ e2)
  · rename_i t x lo hi mx
    obtain ⟨v, e1, e2⟩ := slice_sound hR (hE.eval x) (rvo_evals hE lo) (rvo_evals hE hi) (rvo_evals hE mx) hk
    exact wp_value (by simpa [execOp] using run_v e1) (hn _ _ e2)
  · rename_i t x f
    obtain ⟨v, e1, e2⟩ := fieldAddr_sound hR (hE.eval x) hk
    exact wp_value (by simpa [execOp] using run_v e1) (hn _ _ e2)
  · rename_i t x f
    obtain ⟨v, e1, e2⟩ := field_sound hR (hE.eval x) hk
    exact wp_value (by simpa [execOp] using run_v e1) (hn _ _ e2)
  · rename_i t x i
    obtain ⟨v, e1, e2⟩ := indexAddr_sound hR (hE.eval x) (hE.eval i) hk
    exact wp_value (by simpa [execOp] using run_v e1) (hn _ _ e2)
  · rename_i t x i
    obtain ⟨v, e1, e2⟩ := index_sound hR (hE.eval x) (hE.eval i) hk
    exact wp_value (by simpa [execOp] using run_v e1) (hn _ _ e2)
  · rename_i x i
    obtain ⟨v, e1, e2⟩ := extract_sound hR (hE.eval x) hk
    exact wp_value (by simpa [execOp] using run_v e1) (hn _ _ e2)
  · rename_i f first caps
    obtain ⟨hf, hk⟩ := hk
    have hfe : first = #[] := Array.eq_empty_of_size_eq_zero hf
    subst hfe
    have hr := rvs_evals hE caps.toList
    refine wp_value (v := .func (.func f) #[] (caps.map a.eval)) (w' := w) (by simp [execOp, Instr.makeFunc]) (hn _ _ (same_sound hR (.fn f _ _ (by simp) (fun i v d e e' => hr.2 i v d (by simpa using e) e')) hk))
  · rename_i c
    split at hk
    · rename_i f hc
      split at hk
      · rename_i fid caps hf
        have hfv := hE.eval f
        rw [hf] at hfv
        generalize hfe : a.eval f = fv at hfv
        cases hfv with
        | fn _ cv _ hl hr =>
          have hvals : RVs g ((c.args.toList.map a.eval) ++ cv.toList) ((c.args.toList.map (aeval γ ρ)) ++ caps) := (rvs_evals hE c.args.toList).append ⟨by simpa using hl, fun k v d e e' => hr k v d (by simpa using e) e'⟩
          have harr : ((c.args.toList.map a.eval) ++ cv.toList).toArray = c.args.map a.eval ++ cv := by
            apply Array.ext'; simp
          rcases hk with ⟨hok, hcall⟩ | ⟨hno, d, hd, hk⟩
          case inr =>
            rw [hd] at hvals
            have hone : ∃ x, (c.args.toList.map a.eval) ++ cv.toList = [x] := by
              have := hvals.1
              match hq : (c.args.toList.map a.eval) ++ cv.toList, this with
              | [x], _ => exact ⟨x, rfl⟩
            obtain ⟨x, hx⟩ := hone
            rw [hx] at hvals
            have hax : #[] ++ c.args.map a.eval ++ cv = #[x] := by rw [Array.empty_append, ← harr, hx]
            refine wp_value (v := x) (w' := w) ?_ (hn _ _ (same_sound hR (hvals.2 0 x d rfl rfl) hk))
            have := noEsc_run hno x w
            simp only [execOp, resolve, hc, hfe, Deferred.ofValue, invoke, Sem.run_bind, Sem.run_pure, Result.andThen_ok, hax]
            exact this
          obtain ⟨fn, h1, h2, h3⟩ := okFn_spec hok
          have h2' : ¬ (fn.name = "runtime.NumGoroutine") := by simpa using h2
          have h3' : ¬ (fn.body = none) := fun hb => by rw [hb] at h3; cases h3
          have hrun : (execOp a.eval ⟨dst, .call c, type, pos, after, guard⟩).run P w = .ok (.enter fid (c.args.map a.eval ++ cv)) w := by
            simp [execOp, resolve, hc, hfe, Deferred.ofValue, invoke, callFunc, h1, h2', h3']
          have hC := hcall B w0 g w _ hE.gok hvals hR
          unfold Oper.wp
          rw [hrun]
          simp only [Oper.upon]
          rw [harr] at hC
          exact hC.mono fun e w' ⟨v, he, hcm⟩ => by subst he; exact hn v w' hcm
      · cases hk
    · rename_i b hc
      obtain ⟨v, w', e1, e2⟩ := builtin_sound (ty := type) (consts := c.args.map fun | .const _ => true | _ => false) hE hR hk
      refine wp_value (v := v) (w' := w') ?_ (hn _ _ e2)
      simp only [execOp, resolve, hc, Sem.run_bind, Sem.run_pure, Result.andThen_ok, invoke]
      exact e1
    · cases hk
  · cases hk

end
end Go.Av
