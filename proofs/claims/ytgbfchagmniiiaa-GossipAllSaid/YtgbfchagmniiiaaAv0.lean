/- Abstract values over the machine's memory: what a value says (RV), what a world holds (Rel): ghost state, abstract state, and how both grow. -/
import Derived.WalkKit
import Derived.Deep.MidRow
import Derived.Deep.Draws
import Derived.Below
import Derived.Laws.AppendOwn
import Derived.Laws.IdiomCopy
set_option linter.unusedSimpArgs false
set_option linter.unusedVariables false
namespace Go.Av
open Go.RowKit

/-- What a value says. -/
inductive D where
  | int (k : IntKind) (n : Int)
  | bool (b : Bool)
  | str (l : List UInt8)
  /-- a nil pointer -/
  | nilp
  /-- a nil interface value -/
  | nili
  | agg (cs : List D)
  | tup (ds : List D)
  /-- the nil slice -/
  | nil
  /-- a slice without elements and without room, nil or not -/
  | e0
  /-- a slice of n elements whose cells are cs, for good; t: the right to append (a name, an element's size) -/
  | sl (n : Nat) (cs : List D) (t : Option (Nat × Nat))
  /-- a slice of n elements of sz cells over the object id, from cell off on -/
  | osl (id off n sz : Nat)
  /-- the same, with room for c elements, no more and no less -/
  | oslc (id off n c sz : Nat)
  | ptr (id off : Nat)
  /-- a pointer into cells that are for good -/
  | eptr (cs : List D) (off : Nat)
  | fn (f : FuncId) (caps : List D)
  | raw (v : Value)

instance : Inhabited D := ⟨.tup []⟩

def D.one : D → Bool
  | .agg _ | .tup _ => false
  | .raw v => v.oneCell'
  | _ => true

/-- Ghost state: names to blocks (and their sizes), cells that are for good, how far a row has been filled. -/
structure G where
  io : Nat → Option (Nat × Nat)
  imm : Nat → Nat → Option Value
  tk : Nat → Option Nat

structure G.le (g g' : G) : Prop where
  io : ∀ i x, g.io i = some x → g'.io i = some x
  imm : ∀ b o v, g.imm b o = some v → g'.imm b o = some v
  tk : ∀ i n, g.tk i = some n → g'.tk i = some n

theorem G.le.refl (g : G) : g.le g := ⟨fun _ _ h => h, fun _ _ _ h => h, fun _ _ h => h⟩
theorem G.le.trans {a b c : G} (h : a.le b) (k : b.le c) : a.le c :=
  ⟨fun i x e => k.io i x (h.io i x e), fun b o v e => k.imm b o v (h.imm b o v e), fun i n e => k.tk i n (h.tk i n e)⟩

inductive RV (g : G) : Value → D → Prop where
  | int (k : IntKind) (n : Int) : RV g (.int k n) (.int k n)
  | bool (b : Bool) : RV g (.bool b) (.bool b)
  | str (s : ByteArray) (l : List UInt8) (h : s.data.toList = l) : RV g (.string s) (.str l)
  | nilp : RV g (.pointer none) .nilp
  | nili : RV g .nilIface .nili
  | agg (cs : Array Value) (ds : List D) (hl : cs.size = ds.length) (h1 : ∀ d ∈ ds, d.one = true) (h : ∀ (i : Nat) v d, cs[i]? = some v → ds[i]? = some d → RV g v d) : RV g (.agg cs) (.agg ds)
  | tup (vs : Array Value) (ds : List D) (hl : vs.size = ds.length) (h : ∀ (i : Nat) v d, vs[i]? = some v → ds[i]? = some d → RV g v d) : RV g (.tuple vs) (.tup ds)
  | nil : RV g (.slice none 0 0) .nil
  | e0 (a : Option Addr) : RV g (.slice a 0 0) .e0
  | slNil (a : Option Addr) : RV g (.slice a 0 0) (.sl 0 [] none)
  | sl (b off n cap : Nat) (cs : List D) (t : Option (Nat × Nat)) (us : Nat → Value) (hc : n ≤ cap) (hm : cap ≤ maxLen)
      (hi : ∀ k, k < cs.length → g.imm b (off + k) = some (us k)) (h1 : ∀ d ∈ cs, d.one = true) (h : ∀ (k : Nat) d, cs[k]? = some d → RV g (us k) d)
      (ht : ∀ id sz, t = some (id, sz) → off = 0 ∧ cs.length = n * sz ∧ g.tk id = some cs.length ∧ ∃ m, g.io id = some (b, m) ∧ cap * sz ≤ m) :
      RV g (.slice (some ⟨b, off, none⟩) n cap) (.sl n cs t)
  | osl (id b m off n cap sz : Nat) (hi : g.io id = some (b, m)) (hc : n ≤ cap) (hm : cap ≤ maxLen) (hf : off + cap * sz ≤ m) : RV g (.slice (some ⟨b, off, none⟩) n cap) (.osl id off n sz)
  | oslc (id b m off n c sz : Nat) (hi : g.io id = some (b, m)) (hc : n ≤ c) (hm : c ≤ maxLen) (hf : off + c * sz ≤ m) : RV g (.slice (some ⟨b, off, none⟩) n c) (.oslc id off n c sz)
  | ptr (id b m off : Nat) (hi : g.io id = some (b, m)) : RV g (.pointer (some ⟨b, off, none⟩)) (.ptr id off)
  | eptr (b base off : Nat) (cs : List D) (us : Nat → Value) (hi : ∀ k, k < cs.length → g.imm b (base + k) = some (us k)) (h1 : ∀ d ∈ cs, d.one = true) (h : ∀ (k : Nat) d, cs[k]? = some d → RV g (us k) d) :
      RV g (.pointer (some ⟨b, base + off, none⟩)) (.eptr cs off)
  | fn (f : FuncId) (caps : Array Value) (ds : List D) (hl : caps.size = ds.length) (h : ∀ (i : Nat) v d, caps[i]? = some v → ds[i]? = some d → RV g v d) : RV g (.func (.func f) #[] caps) (.fn f ds)
  | raw (v : Value) : RV g v (.raw v)

theorem RV.mono {g g' : G} (hg : g.le g') {v : Value} {d : D} (h : RV g v d) : RV g' v d := by
  induction h with
  | int k n => exact .int k n
  | bool b => exact .bool b
  | str s l h => exact .str s l h
  | nilp => exact .nilp
  | nili => exact .nili
  | agg cs ds hl h1 _ ih => exact .agg cs ds hl h1 ih
  | tup vs ds hl _ ih => exact .tup vs ds hl ih
  | nil => exact .nil
  | e0 a => exact .e0 a
  | slNil a => exact .slNil a
  | sl b off n cap cs t us hc hm hi h1 _ ht ih =>
    exact .sl b off n cap cs t us hc hm (fun k hk => hg.imm _ _ _ (hi k hk)) h1 ih (fun id sz e => by
      obtain ⟨a1, a2, a3, m, a4, a5⟩ := ht id sz e
      exact ⟨a1, a2, hg.tk _ _ a3, m, hg.io _ _ a4, a5⟩)
  | osl id b m off n cap sz hi hc hm hf => exact .osl id b m off n cap sz (hg.io _ _ hi) hc hm hf
  | oslc id b m off n c sz hi hc hm hf => exact .oslc id b m off n c sz (hg.io _ _ hi) hc hm hf
  | ptr id b m off hi => exact .ptr id b m off (hg.io _ _ hi)
  | eptr b base off cs us hi h1 _ ih => exact .eptr b base off cs us (fun k hk => hg.imm _ _ _ (hi k hk)) h1 ih
  | fn f caps ds hl _ ih => exact .fn f caps ds hl ih
  | raw v => exact .raw v

theorem RV.oneCell {g : G} {v : Value} {d : D} (h : RV g v d) (h1 : d.one = true) : v.oneCell' = true := by
  cases h <;> first | rfl | (simp [D.one] at h1; done) | (simpa [D.one] using h1)

/-- An object's cells, or the right to fill a row on. -/
inductive Ob where
  | cells (l : List D) (T : TypeId)
  | tok (e : TypeId) (cs : List D)

abbrev St := Nat → Option Ob

def St.set (σ : St) (i : Nat) (o : Ob) : St := fun j => if j = i then some o else σ j
def St.del (σ : St) (i : Nat) : St := fun j => if j = i then none else σ j

/-- σ' says no more than σ. -/
def St.le (σ' σ : St) : Prop := ∀ i o, σ' i = some o → σ i = some o
theorem St.le.refl (σ : St) : σ.le σ := fun _ _ h => h
theorem St.le.trans {a b c : St} (h : a.le b) (k : b.le c) : a.le c := fun i o e => k i o (h i o e)
theorem St.le.set {a b : St} (h : a.le b) {i : Nat} (o : Ob) (hn : a i = none) : a.le (b.set i o) := fun j o' e => by
  unfold St.set
  split
  · rename_i hj; subst hj; rw [hn] at e; cases e
  · exact h j o' e
theorem St.le.del {a b : St} (h : a.le b) {i : Nat} (hn : a i = none) : a.le (b.del i) := fun j o' e => by
  unfold St.del
  split
  · rename_i hj; subst hj; rw [hn] at e; cases e
  · exact h j o' e
theorem St.del_le (σ : St) (i : Nat) : (σ.del i).le σ := fun j o e => by
  unfold St.del at e
  split at e
  · cases e
  · exact e

def ObOk (g : G) (id b : Nat) (T : TypeId) (arr : Array Value) : Ob → Prop
  | .cells l T' => l.length ≤ arr.size ∧ (∀ d ∈ l, d.one = true) ∧ (∀ (k : Nat) v d, arr[k]? = some v → l[k]? = some d → RV g v d) ∧ (∀ o, g.imm b o = none) ∧ T' = T
  | .tok e cs => e = T ∧ (∀ (k : Nat) d, cs[k]? = some d → ∃ v, g.imm b k = some v ∧ RV g v d) ∧ ∃ n, g.tk id = some n ∧ n ≤ arr.size ∧ ∀ o, n ≤ o → g.imm b o = none

/-- The world holds what σ says. B: the first block of the call's own; w0: the world as it was then. -/
structure Rel (B : Nat) (w0 : World) (g : G) (σ : St) (w : World) : Prop where
  below : Below B w0 w
  base : B ≤ w.heap.size
  imm : ∀ b o v, g.imm b o = some v → w.cell? ⟨b, o, none⟩ = some v
  dom : ∀ id b n, g.io id = some (b, n) → b < w.heap.size
  fin : ∃ N, ∀ id, N ≤ id → g.io id = none ∧ g.tk id = none
  obj : ∀ id ob, σ id = some ob → ∃ b arr T fr, g.io id = some (b, arr.size) ∧ B ≤ b ∧ w.heap[b]? = some (.cells arr T fr) ∧ (∀ o, o < arr.size → ¬(fr.1 ≤ o ∧ o < fr.2)) ∧ ObOk g id b T arr ob
  inj : ∀ id id' b n n', σ id ≠ none → σ id' ≠ none → g.io id = some (b, n) → g.io id' = some (b, n') → id = id'

section
variable {B : Nat} {w0 : World} {g : G} {σ : St} {w : World}

theorem Rel.forget (h : Rel B w0 g σ w) {σ' : St} (hs : σ'.le σ) : Rel B w0 g σ' w :=
  ⟨h.below, h.base, h.imm, h.dom, h.fin, fun id ob e => h.obj id ob (hs id ob e), fun id id' b n n' e e' => h.inj id id' b n n'
    (fun hn => by cases hq : σ' id with | none => exact e hq | some o => rw [hs id o hq] at hn; cases hn)
    (fun hn => by cases hq : σ' id' with | none => exact e' hq | some o => rw [hs id' o hq] at hn; cases hn)⟩

theorem Rel.drew (h : Rel B w0 g σ w) : Rel B w0 g σ w.drew :=
  ⟨h.below.drew, h.base, h.imm, h.dom, h.fin, h.obj, h.inj⟩

/-- A fresh name. -/
theorem Rel.fresh (h : Rel B w0 g σ w) : ∃ id, g.io id = none ∧ g.tk id = none ∧ σ id = none := by
  obtain ⟨N, hN⟩ := h.fin
  refine ⟨N, (hN N (Nat.le_refl _)).1, (hN N (Nat.le_refl _)).2, ?_⟩
  cases hs : σ N with
  | none => rfl
  | some o =>
    obtain ⟨b, arr, T, fr, hi, _⟩ := h.obj N o hs
    rw [(hN N (Nat.le_refl _)).1] at hi
    cases hi

theorem imm_lt (h : Rel B w0 g σ w) {b o : Nat} {v : Value} (hi : g.imm b o = some v) : b < w.heap.size :=
  World.block_lt_of_cell? w _ (h.imm b o v hi)

theorem imm_none_new (h : Rel B w0 g σ w) {b : Nat} (hb : w.heap.size ≤ b) (o : Nat) : g.imm b o = none := by
  cases hq : g.imm b o with
  | none => rfl
  | some v => have := imm_lt h hq; omega

/-- A new name for a block. -/
def G.name (g : G) (id b n : Nat) : G := { g with io := fun j => if j = id then some (b, n) else g.io j }
theorem G.le_name {g : G} {id : Nat} (b n : Nat) (hf : g.io id = none) : g.le (g.name id b n) :=
  ⟨fun i x e => by
    show (if i = id then _ else _) = _
    split
    · rename_i hj; subst hj; rw [hf] at e; cases e
    · exact e, fun _ _ _ e => e, fun _ _ e => e⟩
theorem G.name_self {g : G} {id b n : Nat} : (g.name id b n).io id = some (b, n) := by simp [G.name]
theorem G.name_other {g : G} {id b n j : Nat} (h : j ≠ id) : (g.name id b n).io j = g.io j := by simp [G.name, h]

theorem ObOk.mono {g g' : G} {id b : Nat} {T : TypeId} {arr : Array Value} {ob : Ob} (h : ObOk g id b T arr ob) (hg : g.le g') (hi : ∀ o, g.imm b o = none → g'.imm b o = none) : ObOk g' id b T arr ob := by
  cases ob with
  | cells l T' => exact ⟨h.1, h.2.1, fun k v d a e => (h.2.2.1 k v d a e).mono hg, fun o => hi o (h.2.2.2.1 o), h.2.2.2.2⟩
  | tok e cs =>
    obtain ⟨he, hc, n, h1, h2, h3⟩ := h
    exact ⟨he, fun k d e => let ⟨v, a, r⟩ := hc k d e; ⟨v, hg.imm _ _ _ a, r.mono hg⟩, n, hg.tk _ _ h1, h2, fun o ho => hi o (h3 o ho)⟩

theorem heap_new (w : World) (o : Obj) : (w.alloc o).heap[w.heap.size]? = some o := heap_alloc_new w o
theorem heap_old (w : World) (o : Obj) {k : Nat} (h : k < w.heap.size) : (w.alloc o).heap[k]? = w.heap[k]? := Below.heap_alloc w o k h

/-- A new object. -/
theorem Rel.alloc (h : Rel B w0 g σ w) {id : Nat} (hf : g.io id = none) (_hs : σ id = none) (arr : Array Value) (T : TypeId) (l : List D) (hl : l.length ≤ arr.size)
    (h1 : ∀ d ∈ l, d.one = true) (hv : ∀ (k : Nat) v d, arr[k]? = some v → l[k]? = some d → RV g v d) (fr : Nat × Nat) (hfr : ∀ o, o < arr.size → ¬(fr.1 ≤ o ∧ o < fr.2)) :
    Rel B w0 (g.name id w.heap.size arr.size) (σ.set id (.cells l T)) (w.alloc (.cells arr T fr)) := by
  have hg := G.le_name w.heap.size arr.size hf
  refine ⟨h.below.alloc h.base _, by simp; have := h.base; omega, ?_, ?_, ?_, ?_, ?_⟩
  · intro b o v e
    have e : g.imm b o = some v := e
    exact (World.cell?_alloc_lt w _ _ (imm_lt h e)).trans (h.imm b o v e)
  · intro i b n e
    by_cases hj : i = id
    · subst hj; rw [G.name_self] at e; cases e; simp
    · rw [G.name_other hj] at e; have := h.dom i b n e; simp; omega
  · obtain ⟨N, hN⟩ := h.fin
    refine ⟨max N (id + 1), fun i hi => ⟨?_, (hN i (by omega)).2⟩⟩
    rw [G.name_other (by omega)]; exact (hN i (by omega)).1
  · intro i ob e
    by_cases hj : i = id
    · subst hj
      simp [St.set] at e
      subst e
      exact ⟨w.heap.size, arr, T, fr, G.name_self, h.base, heap_new w _, hfr, hl, h1, fun k v d a e => (hv k v d a e).mono hg, fun o => imm_none_new h (Nat.le_refl _) o, rfl⟩
    · simp [St.set, hj] at e
      obtain ⟨b, arr', T', fr', a1, a2, a3, a4, a5⟩ := h.obj i ob e
      exact ⟨b, arr', T', fr', by rw [G.name_other hj]; exact a1, a2, (heap_old w _ (h.dom i b _ a1)).trans a3, a4, a5.mono hg (fun _ e => e)⟩
  · intro i j b n n' e e' a a'
    by_cases hi : i = id <;> by_cases hj : j = id
    · rw [hi, hj]
    · subst hi
      rw [G.name_self] at a; cases a
      rw [G.name_other hj] at a'
      have := h.dom j _ _ a'; omega
    · subst hj
      rw [G.name_self] at a'; cases a'
      rw [G.name_other hi] at a
      have := h.dom i _ _ a; omega
    · rw [G.name_other hi] at a; rw [G.name_other hj] at a'
      simp [St.set, hi] at e; simp [St.set, hj] at e'
      exact h.inj i j b n n' e e' a a'

/-- A new row that is for good up to n, and may be filled on: the name id. -/
def G.row (g : G) (id b m : Nat) (arr : Array Value) (n : Nat) : G :=
  { io := fun j => if j = id then some (b, m) else g.io j, imm := fun b' o => if b' = b then (if o < n then arr[o]? else none) else g.imm b' o, tk := fun j => if j = id then some n else g.tk j }

theorem G.le_row {g : G} {id b : Nat} (m : Nat) (arr : Array Value) (n : Nat) (hf : g.io id = none) (ht : g.tk id = none) (hi : ∀ o, g.imm b o = none) : g.le (g.row id b m arr n) :=
  ⟨fun i x e => by
    show (if i = id then _ else _) = _
    split
    · rename_i hj; subst hj; rw [hf] at e; cases e
    · exact e, fun b' o v e => by
    show (if b' = b then _ else _) = _
    split
    · rename_i hj; subst hj; rw [hi] at e; cases e
    · exact e, fun i x e => by
    show (if i = id then _ else _) = _
    split
    · rename_i hj; subst hj; rw [ht] at e; cases e
    · exact e⟩

/-- A new row. -/
theorem Rel.allocRow (h : Rel B w0 g σ w) {id : Nat} (hf : g.io id = none) (ht : g.tk id = none) (_hs : σ id = none) (arr : Array Value) (T : TypeId) (n : Nat) (hn : n ≤ arr.size) (fr : Nat × Nat) (hfr : ∀ o, o < arr.size → ¬(fr.1 ≤ o ∧ o < fr.2)) (cs : List D) (hcl : cs.length ≤ n) (hcs : ∀ (k : Nat) v d, arr[k]? = some v → cs[k]? = some d → RV g v d) :
    Rel B w0 (g.row id w.heap.size arr.size arr n) (σ.set id (.tok T cs)) (w.alloc (.cells arr T fr)) := by
  have hg := G.le_row (b := w.heap.size) arr.size arr n hf ht (imm_none_new h (Nat.le_refl _))
  have him : ∀ b o, b < w.heap.size → (g.row id w.heap.size arr.size arr n).imm b o = g.imm b o := fun b o hb => by
    show (if b = w.heap.size then _ else _) = _
    rw [if_neg (by omega)]
  refine ⟨h.below.alloc h.base _, by simp; have := h.base; omega, ?_, ?_, ?_, ?_, ?_⟩
  · intro b o v e
    by_cases hb : b = w.heap.size
    · subst hb
      have e' : (if o < n then arr[o]? else none) = some v := by simpa [G.row] using e
      split at e'
      · have hc : (w.alloc (.cells arr T fr)).cell? ⟨w.heap.size, o, none⟩ = arr[o]? := World.cell?_alloc_mark w arr T fr o
        rw [hc]; exact e'
      · cases e'
    · have e' : g.imm b o = some v := by simpa [G.row, hb] using e
      exact (World.cell?_alloc_lt w _ _ (imm_lt h e')).trans (h.imm b o v e')
  · intro i b m e
    by_cases hj : i = id
    · subst hj; simp [G.row] at e; simp; omega
    · simp [G.row, hj] at e; have := h.dom i b m e; simp; omega
  · obtain ⟨N, hN⟩ := h.fin
    refine ⟨max N (id + 1), fun i hi => ?_⟩
    have hne : i ≠ id := by omega
    simp only [G.row, if_neg hne]
    exact hN i (by omega)
  · intro i ob e
    by_cases hj : i = id
    · subst hj
      simp [St.set] at e
      subst e
      refine ⟨w.heap.size, arr, T, fr, by simp [G.row], h.base, heap_new w _, hfr, rfl, fun k d e => ?_, n, by simp [G.row], hn, fun o ho => ?_⟩
      · have hk : k < cs.length := (List.getElem?_eq_some_iff.1 e).1
        have hk2 : k < arr.size := by omega
        refine ⟨arr[k], ?_, (hcs k _ d (Array.getElem?_eq_getElem hk2) e).mono hg⟩
        show (if w.heap.size = w.heap.size then _ else _) = _
        rw [if_pos rfl, if_pos (by omega)]
        exact Array.getElem?_eq_getElem hk2
      · show (if w.heap.size = w.heap.size then _ else _) = none
        rw [if_pos rfl, if_neg (by omega)]
    · simp [St.set, hj] at e
      obtain ⟨b, arr', T', fr', a1, a2, a3, a4, a5⟩ := h.obj i ob e
      have hb := h.dom i b _ a1
      exact ⟨b, arr', T', fr', by simp [G.row, hj]; exact a1, a2, (heap_old w _ hb).trans a3, a4, a5.mono hg (fun o e => by rw [him b o hb]; exact e)⟩
  · intro i j b n n' e e' a a'
    by_cases hi : i = id <;> by_cases hj : j = id
    · rw [hi, hj]
    · subst hi
      simp [G.row] at a; simp [G.row, hj] at a'
      have := h.dom j _ _ a'; omega
    · subst hj
      simp [G.row] at a'; simp [G.row, hi] at a
      have := h.dom i _ _ a; omega
    · simp [G.row, hi] at a; simp [G.row, hj] at a'
      simp [St.set, hi] at e; simp [St.set, hj] at e'
      exact h.inj i j b n n' e e' a a'

/-- What an object's cell holds. -/
theorem Rel.cell (h : Rel B w0 g σ w) {id : Nat} {l : List D} {T' : TypeId} (hs : σ id = some (.cells l T')) {b m : Nat} (hi : g.io id = some (b, m)) :
    l.length ≤ m ∧ B ≤ b ∧ ∃ arr T fr, w.heap[b]? = some (.cells arr T fr) ∧ arr.size = m ∧ (∀ o, o < m → ¬(fr.1 ≤ o ∧ o < fr.2)) ∧ (∀ d ∈ l, d.one = true) ∧ (∀ (k : Nat) d, l[k]? = some d → ∃ v, arr[k]? = some v ∧ w.cell? ⟨b, k, none⟩ = some v ∧ w.frozen? ⟨b, k, none⟩ = false ∧ RV g v d) := by
  obtain ⟨b', arr, T, fr, a1, a2, a3, a4, a5, a6, a7, a8⟩ := h.obj id _ hs
  rw [hi] at a1; cases a1
  refine ⟨a5, a2, arr, T, fr, a3, rfl, a4, a6, fun k d e => ?_⟩
  have hk : k < l.length := (List.getElem?_eq_some_iff.1 e).1
  have hk' : k < arr.size := by omega
  refine ⟨arr[k], Array.getElem?_eq_getElem hk', ?_, ?_, a7 k _ d (Array.getElem?_eq_getElem hk') e⟩
  · simp [World.cell?, a3, hk']
  · have := a4 k hk'
    simp only [World.frozen?, a3]
    simp only [Bool.and_eq_false_iff, decide_eq_false_iff_not]
    by_cases hx : fr.1 ≤ k
    · right; omega
    · left; exact hx

end
end Go.Av
