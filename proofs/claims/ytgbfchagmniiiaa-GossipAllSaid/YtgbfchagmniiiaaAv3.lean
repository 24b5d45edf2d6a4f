/- append: what it comes to, whatever the capacity. -/
import Derived.Test.YtgbfchagmniiiaaAv2
set_option linter.unusedSimpArgs false
set_option linter.unusedVariables false
namespace Go.Av
open Go.RowKit

/-- append(s, x): x has n elements whose cells are ds. -/
def aapp (σ : St) (el : TypeId) (sz bytes : Nat) (s : D) (n : Nat) (ds : List D) (K : D → St → Prop) : Prop :=
  match s with
  | .nil | .e0 => if n = 0 then K s σ else
      n * bytes ≤ 140737488355328 ∧ ((∀ id, σ id = none → K (.sl n ds (some (id, sz))) (σ.set id (.tok el ds))) ∨ (∀ id, σ id = none → K (.osl id 0 n sz) (σ.set id (.cells ds el))))
  | .sl n0 cs (some (t, sz')) => sz' = sz ∧ (∃ c0, σ t = some (.tok el c0)) ∧ (n0 + n) * bytes ≤ 140737488355328 ∧ ∀ id, σ id = none → K (.sl (n0 + n) (cs ++ ds) (some (id, sz))) ((σ.del t).set id (.tok el (cs ++ ds)))
  | .osl t off n0 sz' => sz' = sz ∧ off = 0 ∧ (n0 + n) * bytes ≤ 140737488355328 ∧ ∃ l, σ t = some (.cells l el) ∧ l.length = n0 * sz ∧ ∀ id, σ id = none → K (.osl id 0 (n0 + n) sz) ((σ.del t).set id (.cells (l ++ ds) el))
  | .oslc t off n0 c sz' => sz' = sz ∧ (n0 + n) * bytes ≤ 140737488355328 ∧ ∃ l, σ t = some (.cells l el) ∧ off + n0 * sz ≤ l.length ∧
      (if n0 + n ≤ c then K (.oslc t off (n0 + n) c sz) (σ.set t (.cells (splice l (off + n0 * sz) ds) el)) else ∀ id, σ id = none → K (.osl id 0 (n0 + n) sz) (σ.set id (.cells ((l.drop off).take (n0 * sz) ++ ds) el)))
  | _ => False

section
variable {P : Program} {B : Nat} {w0 : World} {g : G} {σ : St} {w : World}

/-- What an operation comes to. -/
def Comes' (B : Nat) (w0 : World) (g : G) (K : D → St → Prop) (v : Value) (w' : World) : Prop := ∃ d g' σ', g.le g' ∧ RV g' v d ∧ Rel B w0 g' σ' w' ∧ K d σ'

theorem Comes'.mono {g : G} {K K' : D → St → Prop} {v : Value} {w' : World} (h : Comes' B w0 g K v w') (hk : ∀ d σ, K d σ → K' d σ) : Comes' B w0 g K' v w' :=
  let ⟨d, g', σ', a, b, c, e⟩ := h; ⟨d, g', σ', a, b, c, hk d σ' e⟩

theorem arr_get (l r : List Value) (k : Nat) (hk : k < l.length) : (l ++ r).toArray[k]? = l[k]? := by
  simp [List.getElem?_append_left hk]

theorem size_row {olds news : List Value} {z : Value} {cap need sz : Nat} (hl : (olds ++ news).length = need * sz) (hz : z.cells.size = sz) (hc : need ≤ cap) :
    (olds ++ news ++ (Builtin.zeroCells z.cells (cap - need)).toList).toArray.size = cap * sz := by
  simp only [List.size_toArray, List.length_append, Array.length_toList, size_zeroCells, hz] at hl ⊢
  rw [hl, ← Nat.add_mul]
  congr 1; omega

theorem St.le.set2 {a b : St} (h : a.le b) (i : Nat) (o : Ob) : (a.set i o).le (b.set i o) := fun j o' e => by
  unfold St.set at *
  split
  · rename_i hj; rwa [if_pos hj] at e
  · rename_i hj; rw [if_neg hj] at e; exact h j o' e

/-- Grown: a row that may be filled on. -/
theorem grown_row (h : Rel B w0 g σ w) {σ2 : St} (hσ : σ2.le σ) {K : D → St → Prop} {cs ds : List D} {olds news : List Value} (ho : RVs g olds cs) (hn : RVs g news ds) (h1 : ∀ d ∈ cs ++ ds, d.one = true)
    {need sz cap : Nat} (hl : (cs ++ ds).length = need * sz) (hc : need ≤ cap) (hm : cap ≤ maxLen) {z : Value} (hz : z.cells.size = sz) (e : TypeId)
    (hk : ∀ id, σ id = none → K (.sl need (cs ++ ds) (some (id, sz))) (σ2.set id (.tok e (cs ++ ds)))) :
    Comes' B w0 g K (.slice (some ⟨w.heap.size, 0, none⟩) need cap) (w.drew.alloc (.cells (olds ++ news ++ (Builtin.zeroCells z.cells (cap - need)).toList).toArray e)) := by
  obtain ⟨id, hf, ht, hs⟩ := h.fresh
  have hon := ho.append hn
  have hlen : (olds ++ news).length = need * sz := by rw [hon.1, hl]
  have hsz := size_row (z := z) (cap := cap) hlen hz hc
  have hle : need * sz ≤ cap * sz := Nat.mul_le_mul_right _ hc
  have hR := h.drew.allocRow hf ht hs (olds ++ news ++ (Builtin.zeroCells z.cells (cap - need)).toList).toArray e (need * sz) (by rw [hsz]; exact hle) (0, 0) (fun o _ => by omega) (cs ++ ds) (Nat.le_of_eq hl) (fun k v d a b => by
    have hk' : k < (olds ++ news).length := by rw [hon.1]; exact (List.getElem?_eq_some_iff.1 b).1
    rw [arr_get _ _ k hk'] at a
    exact hon.2 k v d a b)
  have hg := G.le_row (b := w.heap.size) (olds ++ news ++ (Builtin.zeroCells z.cells (cap - need)).toList).toArray.size (olds ++ news ++ (Builtin.zeroCells z.cells (cap - need)).toList).toArray (need * sz) hf ht (imm_none_new h (Nat.le_refl _))
  refine ⟨_, _, _, hg, ?_, hR.forget (hσ.set2 id _), hk id hs⟩
  refine .sl w.heap.size 0 need cap (cs ++ ds) _ (fun k => (olds ++ news).getD k undef) hc hm (fun k hk => ?_) h1 (fun k d e => ?_) (fun id' sz' e => ?_)
  · have hk' : k < (olds ++ news).length := by rw [hlen, ← hl]; exact hk
    show (if w.heap.size = w.heap.size then _ else _) = _
    rw [if_pos rfl, Nat.zero_add, if_pos (by rw [← hl]; exact hk), arr_get _ _ k hk']
    simp [List.getD, List.getElem?_eq_getElem hk']
  · have hk' : k < (olds ++ news).length := by rw [hon.1]; exact (List.getElem?_eq_some_iff.1 e).1
    have hq := hon.2 k _ d (List.getElem?_eq_getElem hk') e
    simp only [List.getD, List.getElem?_eq_getElem hk', Option.getD_some]
    exact hq.mono hg
  · cases e
    refine ⟨rfl, hl, by simp [G.row, hl], _, if_pos rfl, by rw [hsz]; exact Nat.le_refl _⟩

/-- Grown: an object. -/
theorem grown_obj (h : Rel B w0 g σ w) {σ2 : St} (hσ : σ2.le σ) {K : D → St → Prop} {cs ds : List D} {olds news : List Value} (ho : RVs g olds cs) (hn : RVs g news ds) (h1 : ∀ d ∈ cs ++ ds, d.one = true)
    {need sz cap : Nat} (hl : (cs ++ ds).length = need * sz) (hc : need ≤ cap) (hm : cap ≤ maxLen) {z : Value} (hz : z.cells.size = sz) (e : TypeId)
    (hk : ∀ id, σ id = none → K (.osl id 0 need sz) (σ2.set id (.cells (cs ++ ds) e))) :
    Comes' B w0 g K (.slice (some ⟨w.heap.size, 0, none⟩) need cap) (w.drew.alloc (.cells (olds ++ news ++ (Builtin.zeroCells z.cells (cap - need)).toList).toArray e)) := by
  obtain ⟨id, hf, ht, hs⟩ := h.fresh
  have hon := ho.append hn
  have hlen : (olds ++ news).length = need * sz := by rw [hon.1, hl]
  have hsz := size_row (z := z) (cap := cap) hlen hz hc
  have hle : need * sz ≤ cap * sz := Nat.mul_le_mul_right _ hc
  have hR := h.drew.alloc hf hs (olds ++ news ++ (Builtin.zeroCells z.cells (cap - need)).toList).toArray e (cs ++ ds) (by rw [hsz, hl]; exact hle) h1 (fun k v d a b => by
    have hk' : k < (olds ++ news).length := by rw [hon.1]; exact (List.getElem?_eq_some_iff.1 b).1
    rw [arr_get _ _ k hk'] at a
    exact hon.2 k v d a b) (0, 0) (fun o _ => by omega)
  refine ⟨_, _, _, G.le_name _ _ hf, ?_, hR.forget (hσ.set2 id _), hk id hs⟩
  exact .osl id w.heap.size _ 0 need cap sz G.name_self hc hm (by rw [hsz]; omega)

/-- A row of the call's own is filled on, where it lies. -/
theorem fill_row (h : Rel B w0 g σ w) {t b m n0 : Nat} {el : TypeId} {c0 : List D} (hs : σ t = some (.tok el c0)) (hi : g.io t = some (b, m)) (ht : g.tk t = some n0) {vs : List Value} {ds : List D} (hv : RVs g vs ds) (h1 : ∀ d ∈ ds, d.one = true) (hf : n0 + vs.length ≤ m)
    {id : Nat} (hio : g.io id = none) (htk : g.tk id = none) (hsi : σ id = none) {cs : List D} (hcl : cs.length = n0) (hcs : ∀ (k : Nat) d, cs[k]? = some d → ∃ v, g.imm b k = some v ∧ RV g v d) :
    w.there b n0 vs.length ∧ ∃ g', g.le g' ∧ Rel B w0 g' ((σ.del t).set id (.tok el (cs ++ ds))) (w.setCells b n0 vs) ∧ g'.io id = some (b, m) ∧ g'.tk id = some (n0 + vs.length) ∧ (∀ (k : Nat) v, vs[k]? = some v → g'.imm b (n0 + k) = some v) := by
  obtain ⟨b', arr, T, fr, e1, e2, e3, e4, e0, _, n', e5, e6, e7⟩ := h.obj t _ hs
  rw [hi] at e1; cases e1
  rw [ht] at e5; cases e5
  have hcell : ∀ k, k < arr.size → w.cell? ⟨b, k, none⟩ = arr[k]? := fun k hk => by simp [World.cell?, e3]
  constructor
  · intro j hj
    have hk : n0 + j < arr.size := by omega
    refine ⟨by rw [hcell _ hk, Array.getElem?_eq_getElem hk]; rfl, ?_⟩
    have := e4 _ hk
    simp only [World.frozen?, e3, Bool.and_eq_false_iff, decide_eq_false_iff_not]
    by_cases hx : fr.1 ≤ n0 + j
    · right; omega
    · left; exact hx
  · have hw := heap_setCells b T fr vs n0 w arr e3
    let g' : G := { io := fun j => if j = id then some (b, arr.size) else g.io j, imm := fun b' o => if b' = b then (if n0 ≤ o ∧ o < n0 + vs.length then vs[o - n0]? else g.imm b o) else g.imm b' o, tk := fun j => if j = id then some (n0 + vs.length) else g.tk j }
    have hg : g.le g' := ⟨fun i x e => by
      show (if i = id then _ else _) = _
      split
      · rename_i hj; subst hj; rw [hio] at e; cases e
      · exact e, fun b' o v e => by
      show (if b' = b then _ else _) = _
      split
      · rename_i hb; subst hb
        split
        · rename_i ho; rw [e7 o ho.1] at e; cases e
        · exact e
      · exact e, fun i x e => by
      show (if i = id then _ else _) = _
      split
      · rename_i hj; subst hj; rw [htk] at e; cases e
      · exact e⟩
    have hid : id ≠ t := by rintro rfl; rw [hsi] at hs; cases hs
    refine ⟨g', hg, ?_, by simp [g'], by simp [g'], fun k v e => ?_⟩
    · refine h.write hs hi hw (by rw [size_setA]) (by rw [size_setA]; exact e4) hg (.inr hsi) (fun i x e => ?_) (by simp [g']) (fun b' hb o => by simp [g', hb]) (fun o v e => ?_) ?_ ⟨e0, fun k d e => ?_, n0 + vs.length, by simp [g'], by rw [size_setA]; exact hf, fun o ho => ?_⟩
      · by_cases hj : i = id
        · right
          refine ⟨hj, ?_⟩
          have e' : (if i = id then some (b, arr.size) else g.io i) = some x := e
          rw [if_pos hj] at e'; cases e'; rfl
        · left
          have e' : (if i = id then some (b, arr.size) else g.io i) = some x := e
          rwa [if_neg hj] at e'
      · rw [get_setA vs arr n0 hf]
        have e' : (if n0 ≤ o ∧ o < n0 + vs.length then vs[o - n0]? else g.imm b o) = some v := by simpa [g'] using e
        split at e'
        · rename_i ho; rw [if_pos ho]; exact e'
        · rename_i ho; rw [if_neg ho]
          have := h.imm b o v e'
          simpa [World.cell?, e3] using this
      · obtain ⟨N, hN⟩ := h.fin
        refine ⟨max N (id + 1), fun i hi' => ?_⟩
        have hne : i ≠ id := by omega
        simp only [g', if_neg hne]
        exact hN i (by omega)
      · by_cases hk : k < cs.length
        · rw [List.getElem?_append_left hk] at e
          obtain ⟨v, a1, a2⟩ := hcs k d e
          exact ⟨v, hg.imm _ _ _ a1, a2.mono hg⟩
        · rw [List.getElem?_append_right (by omega)] at e
          have hk2 : k - cs.length < ds.length := (List.getElem?_eq_some_iff.1 e).1
          have hk3 : k - cs.length < vs.length := by rw [hv.1]; exact hk2
          refine ⟨vs[k - cs.length], ?_, (hv.2 _ _ d (List.getElem?_eq_getElem hk3) e).mono hg⟩
          have : (if n0 ≤ k ∧ k < n0 + vs.length then vs[k - n0]? else g.imm b k) = some vs[k - cs.length] := by
            rw [if_pos (by omega), ← hcl]; exact List.getElem?_eq_getElem hk3
          simpa [g'] using this
      · have h0 : (if n0 ≤ o ∧ o < n0 + vs.length then vs[o - n0]? else g.imm b o) = none := by
          rw [if_neg (by omega)]; exact e7 o (by omega)
        simpa [g'] using h0
    · have hk : k < vs.length := (List.getElem?_eq_some_iff.1 e).1
      have : (if n0 ≤ n0 + k ∧ n0 + k < n0 + vs.length then vs[n0 + k - n0]? else g.imm b (n0 + k)) = some v := by
        rw [if_pos (by omega), Nat.add_sub_cancel_left]; exact e
      simpa [g'] using this

/-- An object's row is filled on, where it lies. -/
theorem fill_obj (h : Rel B w0 g σ w) {t b m : Nat} {l : List D} {el : TypeId} (hs : σ t = some (.cells l el)) (hi : g.io t = some (b, m)) {vs : List Value} {ds : List D} (hv : RVs g vs ds) (h1 : ∀ d ∈ ds, d.one = true) (hf : l.length + vs.length ≤ m)
    {id : Nat} (hio : g.io id = none) (hsi : σ id = none) :
    w.there b l.length vs.length ∧ Rel B w0 (g.name id b m) ((σ.del t).set id (.cells (l ++ ds) el)) (w.setCells b l.length vs) := by
  obtain ⟨b', arr, T, fr, e1, e2, e3, e4, e5, e6, e7, e8, e9⟩ := h.obj t _ hs
  rw [hi] at e1; cases e1
  constructor
  · intro j hj
    have hk : l.length + j < arr.size := by omega
    refine ⟨by simp [World.cell?, e3, hk], ?_⟩
    have := e4 _ hk
    simp only [World.frozen?, e3, Bool.and_eq_false_iff, decide_eq_false_iff_not]
    by_cases hx : fr.1 ≤ l.length + j
    · right; omega
    · left; exact hx
  · have hw := heap_setCells b T fr vs l.length w arr e3
    have hg := G.le_name b arr.size hio
    refine h.write hs hi hw (by rw [size_setA]) (by rw [size_setA]; exact e4) hg (.inr hsi) (fun i x e => ?_) G.name_self (fun _ _ _ => rfl) (fun o v e => ?_) ?_ ⟨?_, ?_, ?_, e8, e9⟩
    · by_cases hj : i = id
      · right; subst hj; rw [G.name_self] at e; cases e; exact ⟨rfl, rfl⟩
      · left; rwa [G.name_other hj] at e
    · have e' : g.imm b o = some v := e
      rw [e8 o] at e'; cases e'
    · obtain ⟨N, hN⟩ := h.fin
      refine ⟨max N (id + 1), fun i hi' => ⟨?_, (hN i (by omega)).2⟩⟩
      rw [G.name_other (by omega)]; exact (hN i (by omega)).1
    · rw [size_setA, List.length_append, ← hv.1]; exact hf
    · intro d hd
      rcases List.mem_append.1 hd with hd | hd
      · exact e6 d hd
      · exact h1 d hd
    · intro k v d a e
      rw [get_setA vs arr l.length hf] at a
      by_cases hk : k < l.length
      · rw [if_neg (by omega)] at a
        rw [List.getElem?_append_left hk] at e
        exact (e7 k v d a e).mono hg
      · rw [List.getElem?_append_right (by omega)] at e
        have hk2 : k - l.length < ds.length := (List.getElem?_eq_some_iff.1 e).1
        rw [if_pos ⟨by omega, by rw [hv.1]; omega⟩] at a
        exact (hv.2 _ v d a e).mono hg

theorem maxLen_of {n bytes : Nat} (h : n * bytes ≤ 140737488355328) (hb : 0 < bytes) : n ≤ 140737488355328 := Nat.le_trans (Nat.le_mul_of_pos_right _ hb) h

theorem append_sound (h : Rel B w0 g σ w) {t u ty e : TypeId} {sz bytes : Nat} (ht : elt P t = some (e, sz, bytes)) (hu : noInt (P.underlying u) = true) {s x : Value} {sd xd : D} (hs : RV g s sd) (hx : RV g x xd) {n : Nat} {ds : List D} (hc : xcells σ sz xd = some (n, ds))
    {K : D → St → Prop} (ha : aapp σ e sz bytes sd n ds K) : ∃ v w', (Builtin.append_ #[t, u] ty #[s, x]).run P w = .ok v w' ∧ Comes' B w0 g K v w' := by
  obtain ⟨hut, i, z, hi, hz, hzs, hsz, hsz0, hby, hby0⟩ := elt_spec ht
  subst hby
  obtain ⟨hdl, hd1, vs, hvs, hcx⟩ := xcells_spec (P := P) h hx hc
  have hv1 := one_of hvs hd1
  cases hs with
  | nil =>
    simp only [aapp] at ha
    by_cases hn : n = 0
    · rw [if_pos hn] at ha
      exact ⟨_, _, run_append_room_none hut hu hi hsz hcx hn none, _, g, σ, G.le.refl g, .nil, h, ha⟩
    · rw [if_neg hn] at ha
      have hm := maxLen_of ha.1 hby0
      obtain ⟨cap, hc1, hc2, hr⟩ := run_append_grows (ty := ty) hut hu hi hz hsz hcx (sLen := 0) (sCap := 0) (base := none) (Nat.le_refl _) [] (by simp) (fun b e => by cases e) (fun _ => rfl) (by rw [Nat.zero_add]; exact ha.1) (by omega) (by omega)
      rw [Nat.zero_add] at hr hc1
      rcases ha.2 with ha | ha
      · exact ⟨_, _, hr, grown_row h (St.le.refl _) RVs.nil hvs (by simpa using hd1) (by simpa using hdl) hc1 hc2 hzs e ha⟩
      · exact ⟨_, _, hr, grown_obj h (St.le.refl _) RVs.nil hvs (by simpa using hd1) (by simpa using hdl) hc1 hc2 hzs e ha⟩
  | e0 a =>
    simp only [aapp] at ha
    by_cases hn : n = 0
    · rw [if_pos hn] at ha
      exact ⟨_, _, run_append_room_none hut hu hi hsz hcx hn a, _, g, σ, G.le.refl g, .e0 a, h, ha⟩
    · rw [if_neg hn] at ha
      have hm := maxLen_of ha.1 hby0
      obtain ⟨cap, hc1, hc2, hr⟩ := run_append_grows (ty := ty) hut hu hi hz hsz hcx (sLen := 0) (sCap := 0) (base := a) (Nat.le_refl _) [] (by simp) (fun b e j v ev => by simp at ev) (fun _ => rfl) (by rw [Nat.zero_add]; exact ha.1) (by omega) (by omega)
      rw [Nat.zero_add] at hr hc1
      rcases ha.2 with ha | ha
      · exact ⟨_, _, hr, grown_row h (St.le.refl _) RVs.nil hvs (by simpa using hd1) (by simpa using hdl) hc1 hc2 hzs e ha⟩
      · exact ⟨_, _, hr, grown_obj h (St.le.refl _) RVs.nil hvs (by simpa using hd1) (by simpa using hdl) hc1 hc2 hzs e ha⟩
  | sl b off n0 cap cs tk us hcap hm hi' h1 hr htk =>
    cases tk with
    | none => simp [aapp] at ha
    | some p =>
      obtain ⟨tid, sz'⟩ := p
      simp only [aapp] at ha
      obtain ⟨rfl, ⟨c0, hst⟩, hbn, ha⟩ := ha
      obtain ⟨rfl, hcl, htk1, m, hio, hfit⟩ := htk tid sz' rfl
      have hmx := maxLen_of hbn hby0
      obtain ⟨olds, hol, hov⟩ := list_of cs.length us
      have hold : RVs g olds cs := ⟨hol, fun k v d a e => by
        have hk : k < cs.length := (List.getElem?_eq_some_iff.1 e).1
        rw [hov k hk] at a; cases a
        exact hr k d e⟩
      by_cases hroom : n0 + n ≤ cap
      · obtain ⟨id, hf, hft, hfs⟩ := h.fresh
        have hlen : cs.length + vs.length ≤ m := by
          rw [hcl, hvs.1, hdl, ← Nat.add_mul]
          exact Nat.le_trans (Nat.mul_le_mul_right _ hroom) hfit
        obtain ⟨hth, g', hg, hR, hio', htk', himm'⟩ := fill_row h hst hio htk1 hvs hd1 hlen hf hft hfs (cs := cs) rfl (fun k d e => ⟨us k, by have := hi' k (List.getElem?_eq_some_iff.1 e).1; rwa [Nat.zero_add] at this, hr k d e⟩)
        refine ⟨_, _, run_append_room_gen hut hu hi hsz hcx hroom b 0 (by rw [Nat.zero_add, ← hcl]; exact hth) hv1, ?_⟩
        rw [Nat.zero_add, ← hcl]
        refine ⟨_, g', _, hg, ?_, hR, ha id hfs⟩
        refine .sl b 0 (n0 + n) cap (cs ++ ds) _ (fun k => (olds ++ vs).getD k undef) hroom hm (fun k hk => ?_) ?_ (fun k d e => ?_) (fun id' sz2 e => ?_)
        · rw [Nat.zero_add]
          by_cases hk' : k < cs.length
          · have := hg.imm _ _ _ (hi' k hk')
            rw [Nat.zero_add] at this
            rw [this]
            simp [List.getD, List.getElem?_append_left (show k < olds.length by omega), hov k hk']
          · have hk2 : k - cs.length < vs.length := by simp at hk; rw [hvs.1]; omega
            have := himm' (k - cs.length) _ (List.getElem?_eq_getElem hk2)
            rw [show cs.length + (k - cs.length) = k by omega] at this
            rw [this]
            simp [List.getD, List.getElem?_append_right (show olds.length ≤ k by omega), hol, List.getElem?_eq_getElem hk2]
        · intro d hd
          rcases List.mem_append.1 hd with hd | hd
          · exact h1 d hd
          · exact hd1 d hd
        · have hon := hold.append hvs
          have hk' : k < (olds ++ vs).length := by rw [hon.1]; exact (List.getElem?_eq_some_iff.1 e).1
          have hq := hon.2 k _ d (List.getElem?_eq_getElem hk') e
          simp only [List.getD, List.getElem?_eq_getElem hk', Option.getD_some]
          exact hq.mono hg
        · cases e
          refine ⟨rfl, by rw [List.length_append, hcl, hdl, Nat.add_mul], by rw [htk', List.length_append, hvs.1], m, hio', hfit⟩
      · obtain ⟨cap', hc1, hc2, hrun⟩ := run_append_grows (ty := ty) hut hu hi hz hsz hcx (base := some ⟨b, 0, none⟩) hcap olds (by rw [hol, hcl]) (fun b' e j v ev => by
          cases e
          have hj : j < cs.length := by rw [← hol]; exact (List.getElem?_eq_some_iff.1 ev).1
          rw [hov j hj] at ev; cases ev
          rw [add_at]
          exact h.imm _ _ _ (hi' j hj)) (fun e => by cases e) hbn (by omega) (by omega)
        refine ⟨_, _, hrun, ?_⟩
        refine grown_row h (St.del_le _ _) hold hvs ?_ (by rw [List.length_append, hcl, hdl, Nat.add_mul]) hc1 hc2 hzs e ha
        intro d hd
        rcases List.mem_append.1 hd with hd | hd
        · exact h1 d hd
        · exact hd1 d hd
  | osl tid b m off n0 cap sz' hio hcap hm hfit =>
    simp only [aapp] at ha
    obtain ⟨rfl, rfl, hbn, l, hst, hll, ha⟩ := ha
    have hmx := maxLen_of hbn hby0
    obtain ⟨_, _, arr, T, fr, a3, a4, a5, a6, a7⟩ := h.cell hst hio
    obtain ⟨olds, hol, hov⟩ := list_of l.length (fun k => arr.getD k undef)
    have hold : RVs g olds l := ⟨hol, fun k v d a e => by
      have hk : k < l.length := (List.getElem?_eq_some_iff.1 e).1
      rw [hov k hk] at a; cases a
      obtain ⟨v, c1, _, _, c4⟩ := a7 k d e
      simp [c1]; exact c4⟩
    by_cases hroom : n0 + n ≤ cap
    · obtain ⟨id, hf, hft, hfs⟩ := h.fresh
      have hlen : l.length + vs.length ≤ m := by
        rw [hll, hvs.1, hdl, ← Nat.add_mul]
        have := Nat.mul_le_mul_right sz' hroom
        omega
      obtain ⟨hth, hR⟩ := fill_obj h hst hio hvs hd1 hlen hf hfs
      refine ⟨_, _, run_append_room_gen hut hu hi hsz hcx hroom b 0 (by rw [Nat.zero_add, ← hll]; exact hth) hv1, ?_⟩
      rw [Nat.zero_add, ← hll]
      exact ⟨_, _, _, G.le_name b m hf, .osl id b m 0 (n0 + n) cap sz' G.name_self hroom hm hfit, hR, ha id hfs⟩
    · obtain ⟨cap', hc1, hc2, hrun⟩ := run_append_grows (ty := ty) hut hu hi hz hsz hcx (base := some ⟨b, 0, none⟩) hcap olds (by rw [hol, hll]) (fun b' e j v ev => by
        cases e
        have hj : j < l.length := by rw [← hol]; exact (List.getElem?_eq_some_iff.1 ev).1
        rw [hov j hj] at ev; cases ev
        obtain ⟨v, c1, c2, _, _⟩ := a7 j _ (List.getElem?_eq_getElem hj)
        rw [add_at, Nat.zero_add, c2]
        simp [c1]) (fun e => by cases e) hbn (by omega) (by omega)
      refine ⟨_, _, hrun, ?_⟩
      refine grown_obj h (St.del_le _ _) hold hvs ?_ (by rw [List.length_append, hll, hdl, Nat.add_mul]) hc1 hc2 hzs e ha
      intro d hd
      rcases List.mem_append.1 hd with hd | hd
      · exact a6 d hd
      · exact hd1 d hd
  | oslc tid b m off n0 cap sz' hio hcap hm hfit =>
    simp only [aapp] at ha
    obtain ⟨rfl, hbn, l, hst, hll, ha⟩ := ha
    have hmx := maxLen_of hbn hby0
    obtain ⟨_, _, arr, T, fr, a3, a4, a5, a6, a7⟩ := h.cell hst hio
    have hmul := Nat.mul_le_mul_right sz' hcap
    by_cases hroom : n0 + n ≤ cap
    · rw [if_pos hroom] at ha
      have hfit2 : off + n0 * sz' + ds.length ≤ m := by
        have := Nat.mul_le_mul_right sz' hroom
        rw [Nat.add_mul] at this
        omega
      obtain ⟨hth, hR⟩ := h.store2 hst hio hvs hd1 hll hfit2
      exact ⟨_, _, run_append_room_gen hut hu hi hsz hcx hroom b off hth hv1, _, g, _, G.le.refl g, .oslc tid b m off (n0 + n) cap sz' hio hroom hm hfit, hR, ha⟩
    · rw [if_neg hroom] at ha
      obtain ⟨olds, hol, hov⟩ := list_of (n0 * sz') (fun k => arr.getD (off + k) undef)
      have hget : ∀ k d, ((l.drop off).take (n0 * sz'))[k]? = some d → l[off + k]? = some d := by
        intro k d e
        rw [List.getElem?_take] at e
        split at e
        · rwa [List.getElem?_drop] at e
        · cases e
      have hlen : ((l.drop off).take (n0 * sz')).length = n0 * sz' := by rw [List.length_take, List.length_drop]; omega
      have hold : RVs g olds ((l.drop off).take (n0 * sz')) := ⟨by rw [hol, hlen], fun k v d a e => by
        have hk : k < n0 * sz' := by rw [← hlen]; exact (List.getElem?_eq_some_iff.1 e).1
        rw [hov k hk] at a; cases a
        obtain ⟨v, c1, _, _, c4⟩ := a7 (off + k) d (hget k d e)
        simp [c1]; exact c4⟩
      obtain ⟨cap', hc1, hc2, hrun⟩ := run_append_grows (ty := ty) hut hu hi hz hsz hcx (base := some ⟨b, off, none⟩) hcap olds hol (fun b' e j v ev => by
        cases e
        have hj : j < n0 * sz' := by rw [← hol]; exact (List.getElem?_eq_some_iff.1 ev).1
        rw [hov j hj] at ev; cases ev
        obtain ⟨v, c1, c2, _, _⟩ := a7 (off + j) _ (List.getElem?_eq_getElem (by omega))
        rw [add_at, c2]
        simp [c1]) (fun e => by cases e) hbn (by omega) (by omega)
      refine ⟨_, _, hrun, ?_⟩
      refine grown_obj h (St.le.refl _) hold hvs ?_ (by rw [List.length_append, hlen, hdl, Nat.add_mul]) hc1 hc2 hzs e ha
      intro d hd
      rcases List.mem_append.1 hd with hd | hd
      · exact a6 d (List.mem_of_mem_drop (List.mem_of_mem_take hd))
      · exact hd1 d hd
  | slNil => simp [aapp] at ha
  | str | int | bool | nilp | nili | agg | tup | ptr | eptr | fn | raw => simp [aapp] at ha

end
end Go.Av
