/- The operations over abstract values are what the machine does: all but calls. -/
import Derived.Test.YtgbfchagmniiiaaAv4
set_option linter.unusedSimpArgs false
set_option linter.unusedVariables false
namespace Go.Av
open Go.RowKit

structure ER (γ : Gl) (g : G) (a : Act) (ρ : Env) (N : Nat) : Prop where
  size : a.tmps.size = N
  slot : ∀ t, RV g (a.tmps.getD t undef) (ρ t)
  gok : GOK γ g
  defers : a.defers = []

section
variable {P : Program} {γ : Gl} {B : Nat} {w0 : World} {g : G} {σ : St} {w : World} {a : Act} {ρ : Env} {N : Nat}

theorem ER.mono (h : ER γ g a ρ N) {g' : G} (hg : g.le g') : ER γ g' a ρ N := ⟨h.size, fun t => (h.slot t).mono hg, h.gok.mono hg, h.defers⟩

theorem rv_undef (g : G) : RV g undef (.tup []) := .tup #[] [] rfl (fun i v d e => by simp at e)

theorem ER.put (h : ER γ g a ρ N) {t : Nat} (ht : t < N) {v : Value} {d : D} (hv : RV g v d) : ER γ g (a.put (some t) v) (ρ.put (some t) d) N := by
  refine ⟨by simp [Act.put, h.size], fun s => ?_, h.gok, h.defers⟩
  show RV g ((a.tmps.setIfInBounds t v).getD s undef) (if s = t then d else ρ s)
  by_cases hs : s = t
  · subst hs
    rw [if_pos rfl]
    simpa [h.size, ht] using hv
  · rw [if_neg hs]
    have : (a.tmps.setIfInBounds t v).getD s undef = a.tmps.getD s undef := by simp [Array.getElem?_setIfInBounds_ne (Ne.symm hs)]
    rw [this]; exact h.slot s

theorem ER.putO (h : ER γ g a ρ N) {o : Option Nat} (ht : ∀ t, o = some t → t < N) {v : Value} {d : D} (hv : RV g v d) : ER γ g (a.put o v) (ρ.put o d) N := by
  cases o with
  | none => exact h
  | some t => exact h.put (ht t rfl) hv

theorem rv_ofVal1 (g : G) (v : Value) : RV g v (ofVal1 v) := by
  unfold ofVal1
  split
  · exact .int _ _
  · exact .bool _
  · exact .str _ _ rfl
  · exact .nilp
  · exact .nili
  · exact .nil
  · exact .raw _

theorem one_ofVal1 {v : Value} (h : v.oneCell' = true) : (ofVal1 v).one = true := by
  unfold ofVal1
  split <;> first | rfl | exact h

theorem rv_ofVal (g : G) (v : Value) : RV g v (ofVal v) := by
  unfold ofVal
  split
  · rename_i cs
    split
    · rename_i hc
      refine .agg cs _ (by simp) (fun d hd => ?_) (fun i v d e e' => ?_)
      · obtain ⟨v, hv, rfl⟩ := List.mem_map.1 hd
        exact one_ofVal1 (Array.all_eq_true_iff_forall_mem.1 hc v (by simpa using hv))
      · simp only [List.getElem?_map, Array.getElem?_toList, e, Option.map_some, Option.some.injEq] at e'
        subst e'
        exact rv_ofVal1 g v
    · exact .raw _
  · exact rv_ofVal1 g _

theorem ER.eval (h : ER γ g a ρ N) (x : Operand) : RV g (a.eval x) (aeval γ ρ x) := by
  cases x with
  | tmp t => exact h.slot t
  | const v => exact rv_ofVal g v
  | global i =>
    simp only [Act.eval, aeval]
    split
    · rename_i cs e; exact h.gok i cs e
    · exact .raw _
  | func f => exact .fn f #[] [] rfl (fun i v d e => by simp at e)

/-- What is known of a value's cells. -/
theorem rvs_cells {v : Value} {d : D} (h : RV g v d) (hc : okc d = true) : RVs g v.cells.toList (cellsOf d) ∧ ∀ x ∈ cellsOf d, x.one = true := by
  cases h with
  | agg cs ds hl h1 hr => exact ⟨⟨by simpa [Value.cells, cellsOf] using hl, fun k v d e e' => hr k v d (by simpa [Value.cells] using e) e'⟩, h1⟩
  | tup => simp [okc, D.one] at hc
  | raw v =>
    have h1 : v.oneCell' = true := by simpa [okc, D.one] using hc
    have : v.cells = #[v] := by cases v <;> first | rfl | cases h1
    rw [this]
    exact ⟨RVs.single (.raw v), fun x hx => by simp [cellsOf] at hx; subst hx; exact h1⟩
  | int k n => exact ⟨RVs.single (.int k n), fun x hx => by simp [cellsOf] at hx; subst hx; rfl⟩
  | bool b => exact ⟨RVs.single (.bool b), fun x hx => by simp [cellsOf] at hx; subst hx; rfl⟩
  | str s l hl => exact ⟨RVs.single (.str s l hl), fun x hx => by simp [cellsOf] at hx; subst hx; rfl⟩
  | nilp => exact ⟨RVs.single .nilp, fun x hx => by simp [cellsOf] at hx; subst hx; rfl⟩
  | nili => exact ⟨RVs.single .nili, fun x hx => by simp [cellsOf] at hx; subst hx; rfl⟩
  | nil => exact ⟨RVs.single .nil, fun x hx => by simp [cellsOf] at hx; subst hx; rfl⟩
  | e0 a => exact ⟨RVs.single (.e0 a), fun x hx => by simp [cellsOf] at hx; subst hx; rfl⟩
  | slNil a => exact ⟨RVs.single (.slNil a), fun x hx => by simp [cellsOf] at hx; subst hx; rfl⟩
  | sl b off n cap cs t us a1 a2 a3 a4 a5 a6 => exact ⟨RVs.single (.sl b off n cap cs t us a1 a2 a3 a4 a5 a6), fun x hx => by simp [cellsOf] at hx; subst hx; rfl⟩
  | osl id b m off n cap sz a1 a2 a3 a4 => exact ⟨RVs.single (.osl id b m off n cap sz a1 a2 a3 a4), fun x hx => by simp [cellsOf] at hx; subst hx; rfl⟩
  | oslc id b m off n cap sz a1 a2 a3 a4 => exact ⟨RVs.single (.oslc id b m off n cap sz a1 a2 a3 a4), fun x hx => by simp [cellsOf] at hx; subst hx; rfl⟩
  | ptr id b m off a1 => exact ⟨RVs.single (.ptr id b m off a1), fun x hx => by simp [cellsOf] at hx; subst hx; rfl⟩
  | eptr b base off cs us a1 a2 a3 => exact ⟨RVs.single (.eptr b base off cs us a1 a2 a3), fun x hx => by simp [cellsOf] at hx; subst hx; rfl⟩
  | fn f caps ds a1 a2 => exact ⟨RVs.single (.fn f caps ds a1 a2), fun x hx => by simp [cellsOf] at hx; subst hx; rfl⟩

theorem rv_agg {vs : List Value} {ds : List D} (h : RVs g vs ds) (h1 : ∀ d ∈ ds, d.one = true) : RV g (.agg vs.toArray) (.agg ds) :=
  .agg vs.toArray ds (by simpa using h.1) h1 (fun i v d e e' => h.2 i v d (by simpa using e) e')

/-- The size of a type. -/
theorem tsz_info {t : TypeId} {n : Nat} (h : tsz P t = n) (hn : 0 < n) : (P.info? t).map (·.size) = some n := by
  unfold tsz at h
  cases hq : (P.info? t).map (·.size) with
  | none => rw [hq] at h; simp at h; omega
  | some m => rw [hq] at h; simp at h; rw [h]

theorem tagg_true {t : TypeId} (h : tagg P t = some true) : ∃ d, P.underlying t = some d ∧ d.isRow = true := by
  unfold tagg at h
  split at h
  · rename_i fs e; exact ⟨_, e, rfl⟩
  · rename_i n e' e; exact ⟨_, e, rfl⟩
  · rename_i d e _ _; cases h
  · cases h
theorem tagg_false {t : TypeId} (h : tagg P t = some false) : ∃ d, P.underlying t = some d ∧ d.isRow = false := by
  unfold tagg at h
  split at h
  · cases h
  · cases h
  · rename_i d e h1 h2
    refine ⟨d, by assumption, ?_⟩
    cases d <;> first | rfl | (exfalso; first | exact e _ rfl | exact h1 _ _ rfl)
  · cases h

/-- A read out of cells that lie there. -/
theorem read_sound {t : TypeId} {ag : Bool} (hag : tagg P t = some ag) {b base off : Nat} {l : List D} (hl1 : ∀ d ∈ l, d.one = true) (hl : ∀ (k : Nat) d, l[k]? = some d → ∃ v, w.cell? ⟨b, base + k, none⟩ = some v ∧ RV g v d)
    (hR : Rel B w0 g σ w) {K : D → St → Prop} (hr : aread ag (tsz P t) l off σ K) :
    ∃ v, (Instr.loadAt t (.pointer (some ⟨b, base + off, none⟩))).run P w = .ok v w ∧ Comes' B w0 g K v w := by
  cases ag with
  | true =>
    simp only [aread, if_true] at hr
    obtain ⟨hle, hk⟩ := hr
    obtain ⟨d, hu, hd⟩ := tagg_true hag
    obtain ⟨vs, hvl, hv⟩ := list_of (tsz P t) (fun k => (w.cell? ⟨b, base + off + k, none⟩).getD undef)
    have hcell : ∀ k, k < tsz P t → ∀ d, l[off + k]? = some d → w.cell? ⟨b, base + off + k, none⟩ = vs[k]? ∧ ∀ v, vs[k]? = some v → RV g v d := fun k hk d e => by
      obtain ⟨v, c1, c2⟩ := hl _ d e
      rw [hv k hk, Nat.add_assoc, c1]
      refine ⟨rfl, fun v' e' => ?_⟩
      cases e'; exact c2
    have hrv : RVs g vs ((l.drop off).take (tsz P t)) := by
      refine ⟨by simp [hvl]; omega, fun k v d e e' => ?_⟩
      have hk' : k < tsz P t := by rw [← hvl]; exact (List.getElem?_eq_some_iff.1 e).1
      rw [List.getElem?_take, if_pos hk', List.getElem?_drop] at e'
      exact (hcell k hk' d e').2 v e
    have hone : ∀ d ∈ (l.drop off).take (tsz P t), d.one = true := fun d hd => hl1 d (List.mem_of_mem_drop (List.mem_of_mem_take hd))
    refine ⟨.agg vs.toArray, ?_, _, g, σ, G.le.refl g, rv_agg hrv hone, hR, hk⟩
    rcases Nat.eq_zero_or_pos (tsz P t) with h0 | h0
    · have hnil : vs = [] := List.eq_nil_of_length_eq_zero (by omega)
      subst hnil
      cases hq : P.info? t with
      | none =>
        have : P.underlying t = none := by simp [Program.underlying, hq]
        rw [this] at hu; cases hu
      | some i => exact run_loadAt_mid w b (base + off) t [] d (fun j v e => by simp at e) hu hd (by simp [hq]; simpa [tsz, hq] using h0)
    · exact run_loadAt_mid w b (base + off) t vs d (fun j v e => by
        have hj : j < tsz P t := by rw [← hvl]; exact (List.getElem?_eq_some_iff.1 e).1
        have := (hcell j hj _ (List.getElem?_eq_getElem (show off + j < l.length by omega))).1
        rw [this]; exact e) hu hd (by rw [hvl]; exact tsz_info rfl h0)
  | false =>
    simp only [aread, Bool.false_eq_true, if_false] at hr
    obtain ⟨d, hd, hk⟩ := hr
    obtain ⟨v, c1, c2⟩ := hl _ d hd
    obtain ⟨dt, hu, hdt⟩ := tagg_false hag
    refine ⟨v, ?_, d, g, σ, G.le.refl g, c2, hR, hk⟩
    have hagg : (isAgg t).run P w = .ok false w := by
      unfold isAgg
      rw [Sem.run_bind, run_underlying hu w]
      cases dt <;> simp_all
    simp [Instr.loadAt, Instr.sureAddr, loadVar, hagg, load, Sem.run, c1]

theorem load_sound {t : TypeId} {p : Value} {pd : D} (hp : RV g p pd) (hR : Rel B w0 g σ w) {K : D → St → Prop} (hl : aload P t pd σ K) :
    ∃ v, (Instr.loadAt t p).run P w = .ok v w ∧ Comes' B w0 g K v w := by
  unfold aload at hl
  split at hl
  · cases hl
  · rename_i ag hag
    cases hp with
    | ptr id b m off hi =>
      obtain ⟨l, T9, hs, hr⟩ := hl
      obtain ⟨_, _, arr, T, fr, a3, a4, a5, a6, a7⟩ := hR.cell hs hi
      have := read_sound (b := b) (base := 0) hag a6 (fun k d e => by
        obtain ⟨v, _, c2, _, c4⟩ := a7 k d e
        exact ⟨v, by rw [Nat.zero_add]; exact c2, c4⟩) hR hr
      rwa [Nat.zero_add] at this
    | eptr b base off cs us hi h1 hr' =>
      exact read_sound hag h1 (fun k d e => ⟨us k, hR.imm _ _ _ (hi k (List.getElem?_eq_some_iff.1 e).1), hr' k d e⟩) hR hl
    | _ => simp at hl

theorem store_sound {t : TypeId} {p x : Value} {pd xd : D} (hp : RV g p pd) (hx : RV g x xd) (hR : Rel B w0 g σ w) {K : D → St → Prop} (hl : astore P t pd xd σ K) :
    ∃ w', (Instr.storeAt t p x).run P w = .ok () w' ∧ Comes' B w0 g K undef w' := by
  cases hp with
  | ptr id b m off hi =>
    obtain ⟨htg, l, T9, hs, hc, hlen, hfit, hk⟩ := hl
    obtain ⟨hrv, hone⟩ := rvs_cells hx hc
    obtain ⟨hth, hR'⟩ := hR.store hs hi hrv hone hfit
    refine ⟨_, ?_, .tup [], g, _, G.le.refl g, rv_undef g, hR', hk⟩
    have h1 := one_of hrv hone
    have hst := run_storeCells_cells (P := P) b off x.cells.toList 0 w (fun j hj => by simpa using (hth j hj).1) (fun j hj => by simpa using (hth j hj).2) h1
    simp only [Nat.add_zero] at hst
    cases hq : P.info? t with
    | none =>
      have : P.underlying t = none := by simp [Program.underlying, hq]
      simp [tagg, this] at htg
    | some i =>
      have hi' : x.cells.size = i.size := by
        have h2 : tsz P t = i.size := by simp [tsz, hq]
        have h3 := hrv.1
        simp at h3
        omega
      simp [Instr.storeAt, Instr.sureAddr, storeVar, sizeOf, typeInfo, hq, hi']
      simpa using hst
  | _ => simp [astore] at hl

end
end Go.Av
