/- Writes into blocks of the call's own: a store into an object, a row filled on; a row let go for good (freeze). -/
import Derived.Test.YtgbfchagmniiiaaAv0
set_option linter.unusedSimpArgs false
set_option linter.unusedVariables false
namespace Go.Av
open Go.RowKit

/-- Of w the block b has been written, and nothing else. -/
structure Wrote (w : World) (b : Nat) (arr : Array Value) (T : TypeId) (fr : Nat × Nat) (w' : World) : Prop where
  os : w'.os = w.os
  tape : w'.tape = w.tape
  output : w'.output = w.output
  size : w'.heap.size = w.heap.size
  at_ : w'.heap[b]? = some (.cells arr T fr)
  other : ∀ k, k ≠ b → w'.heap[k]? = w.heap[k]?

theorem Wrote.drew {w w' : World} {b : Nat} {arr : Array Value} {T : TypeId} {fr : Nat × Nat} (h : Wrote w b arr T fr w') : Wrote w b arr T fr w'.drew :=
  ⟨h.os, h.tape, h.output, h.size, h.at_, h.other⟩

section
variable {B : Nat} {w0 : World} {g : G} {σ : St} {w : World}

theorem Rel.write (h : Rel B w0 g σ w) {id b m : Nat} {ob : Ob} (hs : σ id = some ob) (hi : g.io id = some (b, m)) {arr : Array Value} {T : TypeId} {fr : Nat × Nat} {w' : World}
    (hw : Wrote w b arr T fr w') (hm : arr.size = m) (hfr : ∀ o, o < arr.size → ¬(fr.1 ≤ o ∧ o < fr.2))
    {g' : G} (hg : g.le g') {id' : Nat} (hid : id' = id ∨ σ id' = none) (hio : ∀ i x, g'.io i = some x → g.io i = some x ∨ (i = id' ∧ x = (b, m))) (hio' : g'.io id' = some (b, m))
    (himm : ∀ b', b' ≠ b → ∀ o, g'.imm b' o = g.imm b' o) (himb : ∀ o v, g'.imm b o = some v → arr[o]? = some v) (hfin : ∃ N, ∀ i, N ≤ i → g'.io i = none ∧ g'.tk i = none)
    {ob' : Ob} (hob : ObOk g' id' b T arr ob') : Rel B w0 g' ((σ.del id).set id' ob') w' := by
  obtain ⟨b0, arr0, T0, fr0, a1, a2, a3, _, _⟩ := h.obj id ob hs
  rw [hi] at a1; cases a1
  have hb : b < w.heap.size := (Array.getElem?_eq_some_iff.1 a3).1
  have hne : ∀ i, σ i ≠ none → i ≠ id → ∀ b' m', g.io i = some (b', m') → b' ≠ b := by
    intro i e hne b' m' e' hbb
    subst hbb
    exact hne (h.inj i id b' m' _ e (by rw [hs]; simp) e' hi)
  have hσ : ∀ i o, (σ.del id).set id' ob' i = some o → i ≠ id' → σ i = some o ∧ i ≠ id := by
    intro i o e hn
    simp only [St.set, if_neg hn, St.del] at e
    by_cases hx : i = id
    · rw [if_pos hx] at e; cases e
    · rw [if_neg hx] at e; exact ⟨e, hx⟩
  refine ⟨?_, by rw [hw.size]; exact h.base, ?_, ?_, hfin, ?_, ?_⟩
  · exact ⟨hw.os.trans h.below.os, hw.tape.trans h.below.tape, hw.output.trans h.below.output, by rw [hw.size]; exact h.below.size, fun k hk => (hw.other k (by omega)).trans (h.below.block k hk)⟩
  · intro b' o v e
    by_cases hbb : b' = b
    · subst hbb
      have := himb o v e
      simp [World.cell?, hw.at_, this]
    · rw [himm b' hbb o] at e
      exact (World.cell?_of_block (w := w) (a := ⟨b', o, none⟩) (hw.other b' hbb)).trans (h.imm b' o v e)
  · intro i b' n e
    rw [hw.size]
    rcases hio i _ e with e | ⟨_, e⟩
    · exact h.dom i b' n e
    · cases e; exact hb
  · intro i o e
    by_cases hn : i = id'
    · subst hn
      simp [St.set] at e
      subst e
      exact ⟨b, arr, T, fr, by rw [hio', hm], a2, hw.at_, hfr, hob⟩
    · obtain ⟨e1, e2⟩ := hσ i o e hn
      obtain ⟨b', arr', T', fr', c1, c2, c3, c4, c5⟩ := h.obj i o e1
      have hbb := hne i (by rw [e1]; simp) e2 b' _ c1
      exact ⟨b', arr', T', fr', hg.io _ _ c1, c2, (hw.other b' hbb).trans c3, c4, c5.mono hg (fun o e => by rw [himm b' hbb o]; exact e)⟩
  · intro i j b' n n' e e' c c'
    have get : ∀ i n, (σ.del id).set id' ob' i ≠ none → g'.io i = some (b', n) → i = id' ∨ (σ i ≠ none ∧ i ≠ id ∧ g.io i = some (b', n)) := by
      intro i n e c
      by_cases hn : i = id'
      · exact .inl hn
      · right
        cases hq : (σ.del id).set id' ob' i with
        | none => exact (e hq).elim
        | some o =>
          obtain ⟨e1, e2⟩ := hσ i o hq hn
          refine ⟨by rw [e1]; simp, e2, ?_⟩
          rcases hio i _ c with c | ⟨c, _⟩
          · exact c
          · exact (hn c).elim
    rcases get i n e c with hi' | ⟨p1, p2, p3⟩ <;> rcases get j n' e' c' with hj' | ⟨q1, q2, q3⟩
    · rw [hi', hj']
    · subst hi'; rw [hio'] at c; cases c; exact (hne j q1 q2 _ _ q3 rfl).elim
    · subst hj'; rw [hio'] at c'; cases c'; exact (hne i p1 p2 _ _ p3 rfl).elim
    · exact h.inj i j b' n n' p1 q1 p3 q3

/-! ### The store -/
def setA (arr : Array Value) : Nat → List Value → Array Value
  | _, [] => arr
  | o, v :: r => setA (arr.setIfInBounds o v) (o + 1) r

theorem size_setA : ∀ (vs : List Value) (arr : Array Value) (o : Nat), (setA arr o vs).size = arr.size
  | [], _, _ => rfl
  | v :: r, arr, o => by simp [setA, size_setA r]

theorem get_setA : ∀ (vs : List Value) (arr : Array Value) (o : Nat), o + vs.length ≤ arr.size → ∀ k, (setA arr o vs)[k]? = if o ≤ k ∧ k < o + vs.length then vs[k - o]? else arr[k]?
  | [], arr, o, _, k => by
    rw [if_neg (by simp only [List.length_nil]; omega)]; rfl
  | v :: r, arr, o, h, k => by
    simp only [List.length_cons] at h
    rw [setA, get_setA r (arr.setIfInBounds o v) (o + 1) (by simp; omega) k]
    by_cases h1 : k = o
    · subst h1
      rw [if_neg (by omega), if_pos (by simp)]
      have hk : k < arr.size := by omega
      simp [hk]
    · by_cases h2 : o + 1 ≤ k ∧ k < o + 1 + r.length
      · rw [if_pos h2, if_pos (by simp only [List.length_cons]; omega)]
        rw [show k - o = (k - (o + 1)) + 1 by omega]
        simp
      · rw [if_neg h2, if_neg (by simp only [List.length_cons]; omega)]
        rw [Array.getElem?_setIfInBounds_ne (by omega)]

theorem heap_setCells (b : Nat) (T : TypeId) (fr : Nat × Nat) : ∀ (vs : List Value) (o : Nat) (w : World) (arr : Array Value), w.heap[b]? = some (.cells arr T fr) → Wrote w b (setA arr o vs) T fr (w.setCells b o vs)
  | [], _, w, arr, h => ⟨rfl, rfl, rfl, rfl, h, fun _ _ => rfl⟩
  | v :: r, o, w, arr, h => by
    have h1 : (w.setCell ⟨b, o, none⟩ v).heap[b]? = some (.cells (arr.setIfInBounds o v) T fr) := by
      simp [World.setCell, Array.getElem?_modify, h]
    have ih := heap_setCells b T fr r (o + 1) (w.setCell ⟨b, o, none⟩ v) _ h1
    exact ⟨ih.os, ih.tape, ih.output, ih.size.trans (by simp), ih.at_, fun k hk => (ih.other k hk).trans (Below.heap_setCell w _ v k hk)⟩

/-- What an object's cells are then. -/
def splice (l : List D) (off : Nat) (ds : List D) : List D := l.take off ++ ds ++ l.drop (off + ds.length)

theorem length_splice {l : List D} {off : Nat} {ds : List D} (h : off + ds.length ≤ l.length) : (splice l off ds).length = l.length := by
  simp [splice]; omega

theorem length_splice2 {l : List D} {off : Nat} {ds : List D} (h : off ≤ l.length) : (splice l off ds).length = max l.length (off + ds.length) := by
  simp [splice]; omega

theorem get_splice2 {l : List D} {off : Nat} {ds : List D} (h : off ≤ l.length) (k : Nat) : (splice l off ds)[k]? = if off ≤ k ∧ k < off + ds.length then ds[k - off]? else l[k]? := by
  unfold splice
  by_cases h1 : k < off
  · rw [if_neg (by omega), List.append_assoc, List.getElem?_append_left (by simp; omega), List.getElem?_take, if_pos h1]
  · by_cases h2 : k < off + ds.length
    · rw [if_pos (by omega), List.append_assoc, List.getElem?_append_right (by simp; omega), List.getElem?_append_left (by simp; omega)]
      congr 1
      simp; omega
    · rw [if_neg (by omega), List.getElem?_append_right (by simp; omega), List.getElem?_drop]
      congr 1
      simp; omega

theorem get_splice {l : List D} {off : Nat} {ds : List D} (h : off + ds.length ≤ l.length) (k : Nat) : (splice l off ds)[k]? = if off ≤ k ∧ k < off + ds.length then ds[k - off]? else l[k]? :=
  get_splice2 (by omega) k

/-- Two lists of values and of what they say. -/
def RVs (g : G) (vs : List Value) (ds : List D) : Prop := vs.length = ds.length ∧ ∀ (k : Nat) v d, vs[k]? = some v → ds[k]? = some d → RV g v d

theorem RVs.mono {g g' : G} {vs : List Value} {ds : List D} (h : RVs g vs ds) (hg : g.le g') : RVs g' vs ds := ⟨h.1, fun k v d a b => (h.2 k v d a b).mono hg⟩

theorem RVs.nil {g : G} : RVs g [] [] := ⟨rfl, fun k v d h => by simp at h⟩
theorem RVs.single {g : G} {v : Value} {d : D} (h : RV g v d) : RVs g [v] [d] := ⟨rfl, fun k v' d' h1 h2 => by
  cases k with
  | zero => simp at h1 h2; subst h1; subst h2; exact h
  | succ k => simp at h1⟩
theorem RVs.append {g : G} {vs vs' : List Value} {ds ds' : List D} (h : RVs g vs ds) (h' : RVs g vs' ds') : RVs g (vs ++ vs') (ds ++ ds') := by
  refine ⟨by simp [h.1, h'.1], fun k v d a b => ?_⟩
  by_cases hk : k < vs.length
  · rw [List.getElem?_append_left hk] at a
    rw [List.getElem?_append_left (by rw [← h.1]; exact hk)] at b
    exact h.2 k v d a b
  · rw [List.getElem?_append_right (by omega)] at a
    rw [List.getElem?_append_right (by rw [← h.1]; omega), ← h.1] at b
    exact h'.2 _ v d a b

theorem one_of {g : G} {vs : List Value} {ds : List D} (h : RVs g vs ds) (h1 : ∀ d ∈ ds, d.one = true) : ∀ v ∈ vs, v.oneCell' = true := by
  intro v hv
  obtain ⟨k, hk, rfl⟩ := List.mem_iff_getElem.1 hv
  have hk' : k < ds.length := by rw [← h.1]; exact hk
  exact (h.2 k _ _ (List.getElem?_eq_getElem hk) (List.getElem?_eq_getElem hk')).oneCell (h1 _ (List.getElem_mem hk'))

/-- A store into an object, or behind its known cells. -/
theorem Rel.store2 (h : Rel B w0 g σ w) {id b m : Nat} {l : List D} {T' : TypeId} (hs : σ id = some (.cells l T')) (hi : g.io id = some (b, m)) {off : Nat} {vs : List Value} {ds : List D} (hv : RVs g vs ds) (h1 : ∀ d ∈ ds, d.one = true) (ho : off ≤ l.length) (hf : off + ds.length ≤ m) :
    w.there b off vs.length ∧ Rel B w0 g (σ.set id (.cells (splice l off ds) T')) (w.setCells b off vs) := by
  obtain ⟨hlm, hB, arr, T, fr, a3, a4, a5, a6, a7⟩ := h.cell hs hi
  constructor
  · intro j hj
    have hk : off + j < arr.size := by rw [hv.1] at hj; omega
    refine ⟨by simp [World.cell?, a3, hk], ?_⟩
    have := a5 (off + j) (by omega)
    simp only [World.frozen?, a3, Bool.and_eq_false_iff, decide_eq_false_iff_not]
    by_cases hx : fr.1 ≤ off + j
    · right; omega
    · left; exact hx
  · have hw := heap_setCells b T fr vs off w arr a3
    obtain ⟨b', arr', T', fr', e1, _, e3, _, e5⟩ := h.obj id _ hs
    rw [hi] at e1; cases e1
    rw [a3] at e3; cases e3
    have hset : (σ.set id (.cells (splice l off ds) T')) = ((σ.del id).set id (.cells (splice l off ds) T')) := by
      funext i; simp only [St.set, St.del]; split <;> rfl
    rw [hset]
    refine h.write hs hi hw (by rw [size_setA]) (by rw [size_setA]; exact a5) (G.le.refl g) (.inl rfl) (fun i x e => .inl e) hi (fun _ _ _ => rfl) ?_ h.fin ⟨?_, ?_, ?_, e5.2.2.2⟩
    · intro o v e; rw [e5.2.2.2.1 o] at e; cases e
    · rw [size_setA, length_splice2 ho]; have := e5.1; omega
    · intro d hd
      simp only [splice, List.mem_append] at hd
      rcases hd with (hd | hd) | hd
      · exact a6 d (List.mem_of_mem_take hd)
      · exact h1 d hd
      · exact a6 d (List.mem_of_mem_drop hd)
    · intro k v d e e'
      rw [get_setA vs arr off (by rw [hv.1]; omega)] at e
      rw [get_splice2 ho] at e'
      rw [hv.1] at e
      by_cases hk : off ≤ k ∧ k < off + ds.length
      · rw [if_pos hk] at e e'; exact hv.2 _ v d e e'
      · rw [if_neg hk] at e e'; exact e5.2.2.1 k v d e e'

theorem Rel.store (h : Rel B w0 g σ w) {id b m : Nat} {l : List D} {T' : TypeId} (hs : σ id = some (.cells l T')) (hi : g.io id = some (b, m)) {off : Nat} {vs : List Value} {ds : List D} (hv : RVs g vs ds) (h1 : ∀ d ∈ ds, d.one = true) (hf : off + ds.length ≤ l.length) :
    w.there b off vs.length ∧ Rel B w0 g (σ.set id (.cells (splice l off ds) T')) (w.setCells b off vs) :=
  h.store2 hs hi hv h1 (by omega) (by have := (h.cell hs hi).1; omega)

/-- An object let go for good: its cells from off on. -/
theorem Rel.freeze (h : Rel B w0 g σ w) {id b m : Nat} {l : List D} {T' : TypeId} (hs : σ id = some (.cells l T')) (hi : g.io id = some (b, m)) :
    ∃ g', g.le g' ∧ Rel B w0 g' (σ.del id) w ∧ (∀ k, k < l.length → ∃ u, g'.imm b k = some u) ∧ (∀ (k : Nat) u d, g'.imm b k = some u → l[k]? = some d → RV g' u d) := by
  obtain ⟨b', arr, T, fr, e1, e2, e3, e4, e5⟩ := h.obj id _ hs
  rw [hi] at e1; cases e1
  let g' : G := { g with imm := fun b' o => if b' = b then (if o < l.length then arr[o]? else none) else g.imm b' o }
  have hg : g.le g' := ⟨fun _ _ e => e, fun b' o v e => by
    show (if b' = b then _ else _) = _
    split
    · rename_i hb; subst hb; rw [e5.2.2.2.1 o] at e; cases e
    · exact e, fun _ _ e => e⟩
  have hother : ∀ i ob, (σ.del id) i = some ob → σ i = some ob ∧ i ≠ id := by
    intro i ob e
    simp only [St.del] at e
    by_cases hx : i = id
    · rw [if_pos hx] at e; cases e
    · rw [if_neg hx] at e; exact ⟨e, hx⟩
  refine ⟨g', hg, ⟨h.below, h.base, ?_, h.dom, h.fin, ?_, ?_⟩, ?_, ?_⟩
  · intro b' o v e
    by_cases hb : b' = b
    · subst hb
      have e' : (if o < l.length then arr[o]? else none) = some v := by simpa [g'] using e
      split at e'
      · simp [World.cell?, e3, e']
      · cases e'
    · exact h.imm b' o v (by simpa [g', hb] using e)
  · intro i ob e
    obtain ⟨p1, p2⟩ := hother i ob e
    obtain ⟨b', arr', T', fr', c1, c2, c3, c4, c5⟩ := h.obj i ob p1
    have hbb : b' ≠ b := by
      rintro rfl
      exact p2 (h.inj i id b' _ _ (by rw [p1]; simp) (by rw [hs]; simp) c1 hi)
    exact ⟨b', arr', T', fr', c1, c2, c3, c4, c5.mono hg (fun o e => by simpa [g', hbb] using e)⟩
  · intro i j b' n n' e e' c c'
    refine h.inj i j b' n n' ?_ ?_ c c'
    · intro hn; apply e; simp only [St.del]; split <;> first | rfl | exact hn
    · intro hn; apply e'; simp only [St.del]; split <;> first | rfl | exact hn
  · intro k hk
    have hk' : k < arr.size := by have := e5.1; omega
    exact ⟨arr[k], by simp [g', hk, hk']⟩
  · intro k u d e e'
    have hk : k < l.length := (List.getElem?_eq_some_iff.1 e').1
    have e2 : arr[k]? = some u := by simpa [g', hk] using e
    exact (e5.2.2.1 k u d e2 e').mono hg

end
end Go.Av
