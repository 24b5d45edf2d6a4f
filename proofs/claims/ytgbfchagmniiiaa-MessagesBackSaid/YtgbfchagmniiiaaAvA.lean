/- Abstract values over the machine's memory: what a value says (RV), what a world holds (Rel): ghost state, abstract state, and how both grow. -/
import Derived.WalkKit
import Derived.Deep.MidRow
import Derived.Deep.Draws
import Derived.Below
import Derived.Laws.AppendOwn
import Derived.Laws.IdiomCopy
import Derived.Lib.AppendStr
import Derived.LaidEql
import Derived.DeepKeys
import Derived.Lib.ConvBytes
set_option linter.unusedSimpArgs false
set_option linter.unusedVariables false
namespace Go.Av
open Go.RowKit

/-- What a value says. -/
inductive D where
  | int (k : IntKind) (n : Int)
  | bool (b : Bool)
  | str (l : List UInt8)
  /-- a nil pointer -/
  | nilp
  /-- a nil interface value -/
  | nili
  | agg (cs : List D)
  | tup (ds : List D)
  /-- the nil slice -/
  | nil
  /-- a slice without elements and without room, nil or not -/
  | e0
  /-- a slice of n elements whose cells are cs, for good; t: the right to append (a name, an element's size) -/
  | sl (n : Nat) (cs : List D) (t : Option (Nat × Nat))
  /-- a slice of n elements of sz cells over the object id, from cell off on -/
  | osl (id off n sz : Nat)
  /-- the same, with room for c elements, no more and no less -/
  | oslc (id off n c sz : Nat)
  | ptr (id off : Nat)
  /-- a pointer into cells that are for good -/
  | eptr (cs : List D) (off : Nat)
  | fn (f : FuncId) (caps : List D)
  | raw (v : Value)

instance : Inhabited D := ⟨.tup []⟩

def D.one : D → Bool
  | .agg _ | .tup _ => false
  | .raw v => v.oneCell'
  | _ => true

/-- Ghost state: names to blocks (and their sizes), cells that are for good, how far a row has been filled. -/
structure G where
  io : Nat → Option (Nat × Nat)
  imm : Nat → Nat → Option Value
  tk : Nat → Option Nat

structure G.le (g g' : G) : Prop where
  io : ∀ i x, g.io i = some x → g'.io i = some x
  imm : ∀ b o v, g.imm b o = some v → g'.imm b o = some v
  tk : ∀ i n, g.tk i = some n → g'.tk i = some n

theorem G.le.refl (g : G) : g.le g := ⟨fun _ _ h => h, fun _ _ _ h => h, fun _ _ h => h⟩
theorem G.le.trans {a b c : G} (h : a.le b) (k : b.le c) : a.le c :=
  ⟨fun i x e => k.io i x (h.io i x e), fun b o v e => k.imm b o v (h.imm b o v e), fun i n e => k.tk i n (h.tk i n e)⟩

inductive RV (g : G) : Value → D → Prop where
  | int (k : IntKind) (n : Int) : RV g (.int k n) (.int k n)
  | bool (b : Bool) : RV g (.bool b) (.bool b)
  | str (s : ByteArray) (l : List UInt8) (h : s.data.toList = l) : RV g (.string s) (.str l)
  | nilp : RV g (.pointer none) .nilp
  | nili : RV g .nilIface .nili
  | agg (cs : Array Value) (ds : List D) (hl : cs.size = ds.length) (h1 : ∀ d ∈ ds, d.one = true) (h : ∀ (i : Nat) v d, cs[i]? = some v → ds[i]? = some d → RV g v d) : RV g (.agg cs) (.agg ds)
  | tup (vs : Array Value) (ds : List D) (hl : vs.size = ds.length) (h : ∀ (i : Nat) v d, vs[i]? = some v → ds[i]? = some d → RV g v d) : RV g (.tuple vs) (.tup ds)
  | nil : RV g (.slice none 0 0) .nil
  | e0 (a : Option Addr) : RV g (.slice a 0 0) .e0
  | slNil (a : Option Addr) : RV g (.slice a 0 0) (.sl 0 [] none)
  | sl (b off n cap : Nat) (cs : List D) (t : Option (Nat × Nat)) (us : Nat → Value) (hc : n ≤ cap) (hm : cap ≤ maxLen)
      (hi : ∀ k, k < cs.length → g.imm b (off + k) = some (us k)) (h1 : ∀ d ∈ cs, d.one = true) (h : ∀ (k : Nat) d, cs[k]? = some d → RV g (us k) d)
      (ht : ∀ id sz, t = some (id, sz) → off = 0 ∧ cs.length = n * sz ∧ g.tk id = some cs.length ∧ ∃ m, g.io id = some (b, m) ∧ cap * sz ≤ m) :
      RV g (.slice (some ⟨b, off, none⟩) n cap) (.sl n cs t)
  | osl (id b m off n cap sz : Nat) (hi : g.io id = some (b, m)) (hc : n ≤ cap) (hm : cap ≤ maxLen) (hf : off + cap * sz ≤ m) : RV g (.slice (some ⟨b, off, none⟩) n cap) (.osl id off n sz)
  | oslc (id b m off n c sz : Nat) (hi : g.io id = some (b, m)) (hc : n ≤ c) (hm : c ≤ maxLen) (hf : off + c * sz ≤ m) : RV g (.slice (some ⟨b, off, none⟩) n c) (.oslc id off n c sz)
  | ptr (id b m off : Nat) (hi : g.io id = some (b, m)) : RV g (.pointer (some ⟨b, off, none⟩)) (.ptr id off)
  | eptr (b base off : Nat) (cs : List D) (us : Nat → Value) (hi : ∀ k, k < cs.length → g.imm b (base + k) = some (us k)) (h1 : ∀ d ∈ cs, d.one = true) (h : ∀ (k : Nat) d, cs[k]? = some d → RV g (us k) d) :
      RV g (.pointer (some ⟨b, base + off, none⟩)) (.eptr cs off)
  | fn (f : FuncId) (caps : Array Value) (ds : List D) (hl : caps.size = ds.length) (h : ∀ (i : Nat) v d, caps[i]? = some v → ds[i]? = some d → RV g v d) : RV g (.func (.func f) #[] caps) (.fn f ds)
  | raw (v : Value) : RV g v (.raw v)

theorem RV.mono {g g' : G} (hg : g.le g') {v : Value} {d : D} (h : RV g v d) : RV g' v d := by
  induction h with
  | int k n => exact .int k n
  | bool b => exact .bool b
  | str s l h => exact .str s l h
  | nilp => exact .nilp
  | nili => exact .nili
  | agg cs ds hl h1 _ ih => exact .agg cs ds hl h1 ih
  | tup vs ds hl _ ih => exact .tup vs ds hl ih
  | nil => exact .nil
  | e0 a => exact .e0 a
  | slNil a => exact .slNil a
  | sl b off n cap cs t us hc hm hi h1 _ ht ih =>
    exact .sl b off n cap cs t us hc hm (fun k hk => hg.imm _ _ _ (hi k hk)) h1 ih (fun id sz e => by
      obtain ⟨a1, a2, a3, m, a4, a5⟩ := ht id sz e
      exact ⟨a1, a2, hg.tk _ _ a3, m, hg.io _ _ a4, a5⟩)
  | osl id b m off n cap sz hi hc hm hf => exact .osl id b m off n cap sz (hg.io _ _ hi) hc hm hf
  | oslc id b m off n c sz hi hc hm hf => exact .oslc id b m off n c sz (hg.io _ _ hi) hc hm hf
  | ptr id b m off hi => exact .ptr id b m off (hg.io _ _ hi)
  | eptr b base off cs us hi h1 _ ih => exact .eptr b base off cs us (fun k hk => hg.imm _ _ _ (hi k hk)) h1 ih
  | fn f caps ds hl _ ih => exact .fn f caps ds hl ih
  | raw v => exact .raw v

theorem RV.oneCell {g : G} {v : Value} {d : D} (h : RV g v d) (h1 : d.one = true) : v.oneCell' = true := by
  cases h <;> first | rfl | (simp [D.one] at h1; done) | (simpa [D.one] using h1)

/-- An object's cells, or the right to fill a row on. -/
inductive Ob where
  | cells (l : List D) (T : TypeId)
  | tok (e : TypeId) (cs : List D)

abbrev St := Nat → Option Ob

def St.set (σ : St) (i : Nat) (o : Ob) : St := fun j => if j = i then some o else σ j
def St.del (σ : St) (i : Nat) : St := fun j => if j = i then none else σ j

/-- σ' says no more than σ. -/
def St.le (σ' σ : St) : Prop := ∀ i o, σ' i = some o → σ i = some o
theorem St.le.refl (σ : St) : σ.le σ := fun _ _ h => h
theorem St.le.trans {a b c : St} (h : a.le b) (k : b.le c) : a.le c := fun i o e => k i o (h i o e)
theorem St.le.set {a b : St} (h : a.le b) {i : Nat} (o : Ob) (hn : a i = none) : a.le (b.set i o) := fun j o' e => by
  unfold St.set
  split
  · rename_i hj; subst hj; rw [hn] at e; cases e
  · exact h j o' e
theorem St.le.del {a b : St} (h : a.le b) {i : Nat} (hn : a i = none) : a.le (b.del i) := fun j o' e => by
  unfold St.del
  split
  · rename_i hj; subst hj; rw [hn] at e; cases e
  · exact h j o' e
theorem St.del_le (σ : St) (i : Nat) : (σ.del i).le σ := fun j o e => by
  unfold St.del at e
  split at e
  · cases e
  · exact e

def ObOk (g : G) (id b : Nat) (T : TypeId) (arr : Array Value) : Ob → Prop
  | .cells l T' => l.length ≤ arr.size ∧ (∀ d ∈ l, d.one = true) ∧ (∀ (k : Nat) v d, arr[k]? = some v → l[k]? = some d → RV g v d) ∧ (∀ o, g.imm b o = none) ∧ T' = T
  | .tok e cs => e = T ∧ (∀ (k : Nat) d, cs[k]? = some d → ∃ v, g.imm b k = some v ∧ RV g v d) ∧ ∃ n, g.tk id = some n ∧ n ≤ arr.size ∧ ∀ o, n ≤ o → g.imm b o = none

/-- The world holds what σ says. B: the first block of the call's own; w0: the world as it was then. -/
structure Rel (B : Nat) (w0 : World) (g : G) (σ : St) (w : World) : Prop where
  below : Below B w0 w
  base : B ≤ w.heap.size
  imm : ∀ b o v, g.imm b o = some v → w.cell? ⟨b, o, none⟩ = some v
  dom : ∀ id b n, g.io id = some (b, n) → b < w.heap.size
  fin : ∃ N, ∀ id, N ≤ id → g.io id = none ∧ g.tk id = none
  obj : ∀ id ob, σ id = some ob → ∃ b arr T fr, g.io id = some (b, arr.size) ∧ B ≤ b ∧ w.heap[b]? = some (.cells arr T fr) ∧ (∀ o, o < arr.size → ¬(fr.1 ≤ o ∧ o < fr.2)) ∧ ObOk g id b T arr ob
  inj : ∀ id id' b n n', σ id ≠ none → σ id' ≠ none → g.io id = some (b, n) → g.io id' = some (b, n') → id = id'

section
variable {B : Nat} {w0 : World} {g : G} {σ : St} {w : World}

theorem Rel.forget (h : Rel B w0 g σ w) {σ' : St} (hs : σ'.le σ) : Rel B w0 g σ' w :=
  ⟨h.below, h.base, h.imm, h.dom, h.fin, fun id ob e => h.obj id ob (hs id ob e), fun id id' b n n' e e' => h.inj id id' b n n'
    (fun hn => by cases hq : σ' id with | none => exact e hq | some o => rw [hs id o hq] at hn; cases hn)
    (fun hn => by cases hq : σ' id' with | none => exact e' hq | some o => rw [hs id' o hq] at hn; cases hn)⟩

theorem Rel.drew (h : Rel B w0 g σ w) : Rel B w0 g σ w.drew :=
  ⟨h.below.drew, h.base, h.imm, h.dom, h.fin, h.obj, h.inj⟩

/-- A fresh name. -/
theorem Rel.fresh (h : Rel B w0 g σ w) : ∃ id, g.io id = none ∧ g.tk id = none ∧ σ id = none := by
  obtain ⟨N, hN⟩ := h.fin
  refine ⟨N, (hN N (Nat.le_refl _)).1, (hN N (Nat.le_refl _)).2, ?_⟩
  cases hs : σ N with
  | none => rfl
  | some o =>
    obtain ⟨b, arr, T, fr, hi, _⟩ := h.obj N o hs
    rw [(hN N (Nat.le_refl _)).1] at hi
    cases hi

theorem imm_lt (h : Rel B w0 g σ w) {b o : Nat} {v : Value} (hi : g.imm b o = some v) : b < w.heap.size :=
  World.block_lt_of_cell? w _ (h.imm b o v hi)

theorem imm_none_new (h : Rel B w0 g σ w) {b : Nat} (hb : w.heap.size ≤ b) (o : Nat) : g.imm b o = none := by
  cases hq : g.imm b o with
  | none => rfl
  | some v => have := imm_lt h hq; omega

/-- A new name for a block. -/
def G.name (g : G) (id b n : Nat) : G := { g with io := fun j => if j = id then some (b, n) else g.io j }
theorem G.le_name {g : G} {id : Nat} (b n : Nat) (hf : g.io id = none) : g.le (g.name id b n) :=
  ⟨fun i x e => by
    show (if i = id then _ else _) = _
    split
    · rename_i hj; subst hj; rw [hf] at e; cases e
    · exact e, fun _ _ _ e => e, fun _ _ e => e⟩
theorem G.name_self {g : G} {id b n : Nat} : (g.name id b n).io id = some (b, n) := by simp [G.name]
theorem G.name_other {g : G} {id b n j : Nat} (h : j ≠ id) : (g.name id b n).io j = g.io j := by simp [G.name, h]

theorem ObOk.mono {g g' : G} {id b : Nat} {T : TypeId} {arr : Array Value} {ob : Ob} (h : ObOk g id b T arr ob) (hg : g.le g') (hi : ∀ o, g.imm b o = none → g'.imm b o = none) : ObOk g' id b T arr ob := by
  cases ob with
  | cells l T' => exact ⟨h.1, h.2.1, fun k v d a e => (h.2.2.1 k v d a e).mono hg, fun o => hi o (h.2.2.2.1 o), h.2.2.2.2⟩
  | tok e cs =>
    obtain ⟨he, hc, n, h1, h2, h3⟩ := h
    exact ⟨he, fun k d e => let ⟨v, a, r⟩ := hc k d e; ⟨v, hg.imm _ _ _ a, r.mono hg⟩, n, hg.tk _ _ h1, h2, fun o ho => hi o (h3 o ho)⟩

theorem heap_new (w : World) (o : Obj) : (w.alloc o).heap[w.heap.size]? = some o := heap_alloc_new w o
theorem heap_old (w : World) (o : Obj) {k : Nat} (h : k < w.heap.size) : (w.alloc o).heap[k]? = w.heap[k]? := Below.heap_alloc w o k h

/-- A new object. -/
theorem Rel.alloc (h : Rel B w0 g σ w) {id : Nat} (hf : g.io id = none) (_hs : σ id = none) (arr : Array Value) (T : TypeId) (l : List D) (hl : l.length ≤ arr.size)
    (h1 : ∀ d ∈ l, d.one = true) (hv : ∀ (k : Nat) v d, arr[k]? = some v → l[k]? = some d → RV g v d) (fr : Nat × Nat) (hfr : ∀ o, o < arr.size → ¬(fr.1 ≤ o ∧ o < fr.2)) :
    Rel B w0 (g.name id w.heap.size arr.size) (σ.set id (.cells l T)) (w.alloc (.cells arr T fr)) := by
  have hg := G.le_name w.heap.size arr.size hf
  refine ⟨h.below.alloc h.base _, by simp; have := h.base; omega, ?_, ?_, ?_, ?_, ?_⟩
  · intro b o v e
    have e : g.imm b o = some v := e
    exact (World.cell?_alloc_lt w _ _ (imm_lt h e)).trans (h.imm b o v e)
  · intro i b n e
    by_cases hj : i = id
    · subst hj; rw [G.name_self] at e; cases e; simp
    · rw [G.name_other hj] at e; have := h.dom i b n e; simp; omega
  · obtain ⟨N, hN⟩ := h.fin
    refine ⟨max N (id + 1), fun i hi => ⟨?_, (hN i (by omega)).2⟩⟩
    rw [G.name_other (by omega)]; exact (hN i (by omega)).1
  · intro i ob e
    by_cases hj : i = id
    · subst hj
      simp [St.set] at e
      subst e
      exact ⟨w.heap.size, arr, T, fr, G.name_self, h.base, heap_new w _, hfr, hl, h1, fun k v d a e => (hv k v d a e).mono hg, fun o => imm_none_new h (Nat.le_refl _) o, rfl⟩
    · simp [St.set, hj] at e
      obtain ⟨b, arr', T', fr', a1, a2, a3, a4, a5⟩ := h.obj i ob e
      exact ⟨b, arr', T', fr', by rw [G.name_other hj]; exact a1, a2, (heap_old w _ (h.dom i b _ a1)).trans a3, a4, a5.mono hg (fun _ e => e)⟩
  · intro i j b n n' e e' a a'
    by_cases hi : i = id <;> by_cases hj : j = id
    · rw [hi, hj]
    · subst hi
      rw [G.name_self] at a; cases a
      rw [G.name_other hj] at a'
      have := h.dom j _ _ a'; omega
    · subst hj
      rw [G.name_self] at a'; cases a'
      rw [G.name_other hi] at a
      have := h.dom i _ _ a; omega
    · rw [G.name_other hi] at a; rw [G.name_other hj] at a'
      simp [St.set, hi] at e; simp [St.set, hj] at e'
      exact h.inj i j b n n' e e' a a'

/-- A new row that is for good up to n, and may be filled on: the name id. -/
def G.row (g : G) (id b m : Nat) (arr : Array Value) (n : Nat) : G :=
  { io := fun j => if j = id then some (b, m) else g.io j, imm := fun b' o => if b' = b then (if o < n then arr[o]? else none) else g.imm b' o, tk := fun j => if j = id then some n else g.tk j }

theorem G.le_row {g : G} {id b : Nat} (m : Nat) (arr : Array Value) (n : Nat) (hf : g.io id = none) (ht : g.tk id = none) (hi : ∀ o, g.imm b o = none) : g.le (g.row id b m arr n) :=
  ⟨fun i x e => by
    show (if i = id then _ else _) = _
    split
    · rename_i hj; subst hj; rw [hf] at e; cases e
    · exact e, fun b' o v e => by
    show (if b' = b then _ else _) = _
    split
    · rename_i hj; subst hj; rw [hi] at e; cases e
    · exact e, fun i x e => by
    show (if i = id then _ else _) = _
    split
    · rename_i hj; subst hj; rw [ht] at e; cases e
    · exact e⟩

/-- A new row. -/
theorem Rel.allocRow (h : Rel B w0 g σ w) {id : Nat} (hf : g.io id = none) (ht : g.tk id = none) (_hs : σ id = none) (arr : Array Value) (T : TypeId) (n : Nat) (hn : n ≤ arr.size) (fr : Nat × Nat) (hfr : ∀ o, o < arr.size → ¬(fr.1 ≤ o ∧ o < fr.2)) (cs : List D) (hcl : cs.length ≤ n) (hcs : ∀ (k : Nat) v d, arr[k]? = some v → cs[k]? = some d → RV g v d) :
    Rel B w0 (g.row id w.heap.size arr.size arr n) (σ.set id (.tok T cs)) (w.alloc (.cells arr T fr)) := by
  have hg := G.le_row (b := w.heap.size) arr.size arr n hf ht (imm_none_new h (Nat.le_refl _))
  have him : ∀ b o, b < w.heap.size → (g.row id w.heap.size arr.size arr n).imm b o = g.imm b o := fun b o hb => by
    show (if b = w.heap.size then _ else _) = _
    rw [if_neg (by omega)]
  refine ⟨h.below.alloc h.base _, by simp; have := h.base; omega, ?_, ?_, ?_, ?_, ?_⟩
  · intro b o v e
    by_cases hb : b = w.heap.size
    · subst hb
      have e' : (if o < n then arr[o]? else none) = some v := by simpa [G.row] using e
      split at e'
      · have hc : (w.alloc (.cells arr T fr)).cell? ⟨w.heap.size, o, none⟩ = arr[o]? := World.cell?_alloc_mark w arr T fr o
        rw [hc]; exact e'
      · cases e'
    · have e' : g.imm b o = some v := by simpa [G.row, hb] using e
      exact (World.cell?_alloc_lt w _ _ (imm_lt h e')).trans (h.imm b o v e')
  · intro i b m e
    by_cases hj : i = id
    · subst hj; simp [G.row] at e; simp; omega
    · simp [G.row, hj] at e; have := h.dom i b m e; simp; omega
  · obtain ⟨N, hN⟩ := h.fin
    refine ⟨max N (id + 1), fun i hi => ?_⟩
    have hne : i ≠ id := by omega
    simp only [G.row, if_neg hne]
    exact hN i (by omega)
  · intro i ob e
    by_cases hj : i = id
    · subst hj
      simp [St.set] at e
      subst e
      refine ⟨w.heap.size, arr, T, fr, by simp [G.row], h.base, heap_new w _, hfr, rfl, fun k d e => ?_, n, by simp [G.row], hn, fun o ho => ?_⟩
      · have hk : k < cs.length := (List.getElem?_eq_some_iff.1 e).1
        have hk2 : k < arr.size := by omega
        refine ⟨arr[k], ?_, (hcs k _ d (Array.getElem?_eq_getElem hk2) e).mono hg⟩
        show (if w.heap.size = w.heap.size then _ else _) = _
        rw [if_pos rfl, if_pos (by omega)]
        exact Array.getElem?_eq_getElem hk2
      · show (if w.heap.size = w.heap.size then _ else _) = none
        rw [if_pos rfl, if_neg (by omega)]
    · simp [St.set, hj] at e
      obtain ⟨b, arr', T', fr', a1, a2, a3, a4, a5⟩ := h.obj i ob e
      have hb := h.dom i b _ a1
      exact ⟨b, arr', T', fr', by simp [G.row, hj]; exact a1, a2, (heap_old w _ hb).trans a3, a4, a5.mono hg (fun o e => by rw [him b o hb]; exact e)⟩
  · intro i j b n n' e e' a a'
    by_cases hi : i = id <;> by_cases hj : j = id
    · rw [hi, hj]
    · subst hi
      simp [G.row] at a; simp [G.row, hj] at a'
      have := h.dom j _ _ a'; omega
    · subst hj
      simp [G.row] at a'; simp [G.row, hi] at a
      have := h.dom i _ _ a; omega
    · simp [G.row, hi] at a; simp [G.row, hj] at a'
      simp [St.set, hi] at e; simp [St.set, hj] at e'
      exact h.inj i j b n n' e e' a a'

/-- What an object's cell holds. -/
theorem Rel.cell (h : Rel B w0 g σ w) {id : Nat} {l : List D} {T' : TypeId} (hs : σ id = some (.cells l T')) {b m : Nat} (hi : g.io id = some (b, m)) :
    l.length ≤ m ∧ B ≤ b ∧ ∃ arr T fr, w.heap[b]? = some (.cells arr T fr) ∧ arr.size = m ∧ (∀ o, o < m → ¬(fr.1 ≤ o ∧ o < fr.2)) ∧ (∀ d ∈ l, d.one = true) ∧ (∀ (k : Nat) d, l[k]? = some d → ∃ v, arr[k]? = some v ∧ w.cell? ⟨b, k, none⟩ = some v ∧ w.frozen? ⟨b, k, none⟩ = false ∧ RV g v d) := by
  obtain ⟨b', arr, T, fr, a1, a2, a3, a4, a5, a6, a7, a8⟩ := h.obj id _ hs
  rw [hi] at a1; cases a1
  refine ⟨a5, a2, arr, T, fr, a3, rfl, a4, a6, fun k d e => ?_⟩
  have hk : k < l.length := (List.getElem?_eq_some_iff.1 e).1
  have hk' : k < arr.size := by omega
  refine ⟨arr[k], Array.getElem?_eq_getElem hk', ?_, ?_, a7 k _ d (Array.getElem?_eq_getElem hk') e⟩
  · simp [World.cell?, a3, hk']
  · have := a4 k hk'
    simp only [World.frozen?, a3]
    simp only [Bool.and_eq_false_iff, decide_eq_false_iff_not]
    by_cases hx : fr.1 ≤ k
    · right; omega
    · left; exact hx

end
end Go.Av

/- Writes into blocks of the call's own: a store into an object, a row filled on; a row let go for good (freeze). -/
set_option linter.unusedSimpArgs false
set_option linter.unusedVariables false
namespace Go.Av
open Go.RowKit

/-- Of w the block b has been written, and nothing else. -/
structure Wrote (w : World) (b : Nat) (arr : Array Value) (T : TypeId) (fr : Nat × Nat) (w' : World) : Prop where
  os : w'.os = w.os
  tape : w'.tape = w.tape
  output : w'.output = w.output
  size : w'.heap.size = w.heap.size
  at_ : w'.heap[b]? = some (.cells arr T fr)
  other : ∀ k, k ≠ b → w'.heap[k]? = w.heap[k]?

theorem Wrote.drew {w w' : World} {b : Nat} {arr : Array Value} {T : TypeId} {fr : Nat × Nat} (h : Wrote w b arr T fr w') : Wrote w b arr T fr w'.drew :=
  ⟨h.os, h.tape, h.output, h.size, h.at_, h.other⟩

section
variable {B : Nat} {w0 : World} {g : G} {σ : St} {w : World}

theorem Rel.write (h : Rel B w0 g σ w) {id b m : Nat} {ob : Ob} (hs : σ id = some ob) (hi : g.io id = some (b, m)) {arr : Array Value} {T : TypeId} {fr : Nat × Nat} {w' : World}
    (hw : Wrote w b arr T fr w') (hm : arr.size = m) (hfr : ∀ o, o < arr.size → ¬(fr.1 ≤ o ∧ o < fr.2))
    {g' : G} (hg : g.le g') {id' : Nat} (hid : id' = id ∨ σ id' = none) (hio : ∀ i x, g'.io i = some x → g.io i = some x ∨ (i = id' ∧ x = (b, m))) (hio' : g'.io id' = some (b, m))
    (himm : ∀ b', b' ≠ b → ∀ o, g'.imm b' o = g.imm b' o) (himb : ∀ o v, g'.imm b o = some v → arr[o]? = some v) (hfin : ∃ N, ∀ i, N ≤ i → g'.io i = none ∧ g'.tk i = none)
    {ob' : Ob} (hob : ObOk g' id' b T arr ob') : Rel B w0 g' ((σ.del id).set id' ob') w' := by
  obtain ⟨b0, arr0, T0, fr0, a1, a2, a3, _, _⟩ := h.obj id ob hs
  rw [hi] at a1; cases a1
  have hb : b < w.heap.size := (Array.getElem?_eq_some_iff.1 a3).1
  have hne : ∀ i, σ i ≠ none → i ≠ id → ∀ b' m', g.io i = some (b', m') → b' ≠ b := by
    intro i e hne b' m' e' hbb
    subst hbb
    exact hne (h.inj i id b' m' _ e (by rw [hs]; simp) e' hi)
  have hσ : ∀ i o, (σ.del id).set id' ob' i = some o → i ≠ id' → σ i = some o ∧ i ≠ id := by
    intro i o e hn
    simp only [St.set, if_neg hn, St.del] at e
    by_cases hx : i = id
    · rw [if_pos hx] at e; cases e
    · rw [if_neg hx] at e; exact ⟨e, hx⟩
  refine ⟨?_, by rw [hw.size]; exact h.base, ?_, ?_, hfin, ?_, ?_⟩
  · exact ⟨hw.os.trans h.below.os, hw.tape.trans h.below.tape, hw.output.trans h.below.output, by rw [hw.size]; exact h.below.size, fun k hk => (hw.other k (by omega)).trans (h.below.block k hk)⟩
  · intro b' o v e
    by_cases hbb : b' = b
    · subst hbb
      have := himb o v e
      simp [World.cell?, hw.at_, this]
    · rw [himm b' hbb o] at e
      exact (World.cell?_of_block (w := w) (a := ⟨b', o, none⟩) (hw.other b' hbb)).trans (h.imm b' o v e)
  · intro i b' n e
    rw [hw.size]
    rcases hio i _ e with e | ⟨_, e⟩
    · exact h.dom i b' n e
    · cases e; exact hb
  · intro i o e
    by_cases hn : i = id'
    · subst hn
      simp [St.set] at e
      subst e
      exact ⟨b, arr, T, fr, by rw [hio', hm], a2, hw.at_, hfr, hob⟩
    · obtain ⟨e1, e2⟩ := hσ i o e hn
      obtain ⟨b', arr', T', fr', c1, c2, c3, c4, c5⟩ := h.obj i o e1
      have hbb := hne i (by rw [e1]; simp) e2 b' _ c1
      exact ⟨b', arr', T', fr', hg.io _ _ c1, c2, (hw.other b' hbb).trans c3, c4, c5.mono hg (fun o e => by rw [himm b' hbb o]; exact e)⟩
  · intro i j b' n n' e e' c c'
    have get : ∀ i n, (σ.del id).set id' ob' i ≠ none → g'.io i = some (b', n) → i = id' ∨ (σ i ≠ none ∧ i ≠ id ∧ g.io i = some (b', n)) := by
      intro i n e c
      by_cases hn : i = id'
      · exact .inl hn
      · right
        cases hq : (σ.del id).set id' ob' i with
        | none => exact (e hq).elim
        | some o =>
          obtain ⟨e1, e2⟩ := hσ i o hq hn
          refine ⟨by rw [e1]; simp, e2, ?_⟩
          rcases hio i _ c with c | ⟨c, _⟩
          · exact c
          · exact (hn c).elim
    rcases get i n e c with hi' | ⟨p1, p2, p3⟩ <;> rcases get j n' e' c' with hj' | ⟨q1, q2, q3⟩
    · rw [hi', hj']
    · subst hi'; rw [hio'] at c; cases c; exact (hne j q1 q2 _ _ q3 rfl).elim
    · subst hj'; rw [hio'] at c'; cases c'; exact (hne i p1 p2 _ _ p3 rfl).elim
    · exact h.inj i j b' n n' p1 q1 p3 q3

/-! ### The store -/
def setA (arr : Array Value) : Nat → List Value → Array Value
  | _, [] => arr
  | o, v :: r => setA (arr.setIfInBounds o v) (o + 1) r

theorem size_setA : ∀ (vs : List Value) (arr : Array Value) (o : Nat), (setA arr o vs).size = arr.size
  | [], _, _ => rfl
  | v :: r, arr, o => by simp [setA, size_setA r]

theorem get_setA : ∀ (vs : List Value) (arr : Array Value) (o : Nat), o + vs.length ≤ arr.size → ∀ k, (setA arr o vs)[k]? = if o ≤ k ∧ k < o + vs.length then vs[k - o]? else arr[k]?
  | [], arr, o, _, k => by
    rw [if_neg (by simp only [List.length_nil]; omega)]; rfl
  | v :: r, arr, o, h, k => by
    simp only [List.length_cons] at h
    rw [setA, get_setA r (arr.setIfInBounds o v) (o + 1) (by simp; omega) k]
    by_cases h1 : k = o
    · subst h1
      rw [if_neg (by omega), if_pos (by simp)]
      have hk : k < arr.size := by omega
      simp [hk]
    · by_cases h2 : o + 1 ≤ k ∧ k < o + 1 + r.length
      · rw [if_pos h2, if_pos (by simp only [List.length_cons]; omega)]
        rw [show k - o = (k - (o + 1)) + 1 by omega]
        simp
      · rw [if_neg h2, if_neg (by simp only [List.length_cons]; omega)]
        rw [Array.getElem?_setIfInBounds_ne (by omega)]

theorem heap_setCells (b : Nat) (T : TypeId) (fr : Nat × Nat) : ∀ (vs : List Value) (o : Nat) (w : World) (arr : Array Value), w.heap[b]? = some (.cells arr T fr) → Wrote w b (setA arr o vs) T fr (w.setCells b o vs)
  | [], _, w, arr, h => ⟨rfl, rfl, rfl, rfl, h, fun _ _ => rfl⟩
  | v :: r, o, w, arr, h => by
    have h1 : (w.setCell ⟨b, o, none⟩ v).heap[b]? = some (.cells (arr.setIfInBounds o v) T fr) := by
      simp [World.setCell, Array.getElem?_modify, h]
    have ih := heap_setCells b T fr r (o + 1) (w.setCell ⟨b, o, none⟩ v) _ h1
    exact ⟨ih.os, ih.tape, ih.output, ih.size.trans (by simp), ih.at_, fun k hk => (ih.other k hk).trans (Below.heap_setCell w _ v k hk)⟩

/-- What an object's cells are then. -/
def splice (l : List D) (off : Nat) (ds : List D) : List D := l.take off ++ ds ++ l.drop (off + ds.length)

theorem length_splice {l : List D} {off : Nat} {ds : List D} (h : off + ds.length ≤ l.length) : (splice l off ds).length = l.length := by
  simp [splice]; omega

theorem length_splice2 {l : List D} {off : Nat} {ds : List D} (h : off ≤ l.length) : (splice l off ds).length = max l.length (off + ds.length) := by
  simp [splice]; omega

theorem get_splice2 {l : List D} {off : Nat} {ds : List D} (h : off ≤ l.length) (k : Nat) : (splice l off ds)[k]? = if off ≤ k ∧ k < off + ds.length then ds[k - off]? else l[k]? := by
  unfold splice
  by_cases h1 : k < off
  · rw [if_neg (by omega), List.append_assoc, List.getElem?_append_left (by simp; omega), List.getElem?_take, if_pos h1]
  · by_cases h2 : k < off + ds.length
    · rw [if_pos (by omega), List.append_assoc, List.getElem?_append_right (by simp; omega), List.getElem?_append_left (by simp; omega)]
      congr 1
      simp; omega
    · rw [if_neg (by omega), List.getElem?_append_right (by simp; omega), List.getElem?_drop]
      congr 1
      simp; omega

theorem get_splice {l : List D} {off : Nat} {ds : List D} (h : off + ds.length ≤ l.length) (k : Nat) : (splice l off ds)[k]? = if off ≤ k ∧ k < off + ds.length then ds[k - off]? else l[k]? :=
  get_splice2 (by omega) k

/-- Two lists of values and of what they say. -/
def RVs (g : G) (vs : List Value) (ds : List D) : Prop := vs.length = ds.length ∧ ∀ (k : Nat) v d, vs[k]? = some v → ds[k]? = some d → RV g v d

theorem RVs.mono {g g' : G} {vs : List Value} {ds : List D} (h : RVs g vs ds) (hg : g.le g') : RVs g' vs ds := ⟨h.1, fun k v d a b => (h.2 k v d a b).mono hg⟩

theorem RVs.nil {g : G} : RVs g [] [] := ⟨rfl, fun k v d h => by simp at h⟩
theorem RVs.single {g : G} {v : Value} {d : D} (h : RV g v d) : RVs g [v] [d] := ⟨rfl, fun k v' d' h1 h2 => by
  cases k with
  | zero => simp at h1 h2; subst h1; subst h2; exact h
  | succ k => simp at h1⟩
theorem RVs.append {g : G} {vs vs' : List Value} {ds ds' : List D} (h : RVs g vs ds) (h' : RVs g vs' ds') : RVs g (vs ++ vs') (ds ++ ds') := by
  refine ⟨by simp [h.1, h'.1], fun k v d a b => ?_⟩
  by_cases hk : k < vs.length
  · rw [List.getElem?_append_left hk] at a
    rw [List.getElem?_append_left (by rw [← h.1]; exact hk)] at b
    exact h.2 k v d a b
  · rw [List.getElem?_append_right (by omega)] at a
    rw [List.getElem?_append_right (by rw [← h.1]; omega), ← h.1] at b
    exact h'.2 _ v d a b

theorem one_of {g : G} {vs : List Value} {ds : List D} (h : RVs g vs ds) (h1 : ∀ d ∈ ds, d.one = true) : ∀ v ∈ vs, v.oneCell' = true := by
  intro v hv
  obtain ⟨k, hk, rfl⟩ := List.mem_iff_getElem.1 hv
  have hk' : k < ds.length := by rw [← h.1]; exact hk
  exact (h.2 k _ _ (List.getElem?_eq_getElem hk) (List.getElem?_eq_getElem hk')).oneCell (h1 _ (List.getElem_mem hk'))

/-- A store into an object, or behind its known cells. -/
theorem Rel.store2 (h : Rel B w0 g σ w) {id b m : Nat} {l : List D} {T' : TypeId} (hs : σ id = some (.cells l T')) (hi : g.io id = some (b, m)) {off : Nat} {vs : List Value} {ds : List D} (hv : RVs g vs ds) (h1 : ∀ d ∈ ds, d.one = true) (ho : off ≤ l.length) (hf : off + ds.length ≤ m) :
    w.there b off vs.length ∧ Rel B w0 g (σ.set id (.cells (splice l off ds) T')) (w.setCells b off vs) := by
  obtain ⟨hlm, hB, arr, T, fr, a3, a4, a5, a6, a7⟩ := h.cell hs hi
  constructor
  · intro j hj
    have hk : off + j < arr.size := by rw [hv.1] at hj; omega
    refine ⟨by simp [World.cell?, a3, hk], ?_⟩
    have := a5 (off + j) (by omega)
    simp only [World.frozen?, a3, Bool.and_eq_false_iff, decide_eq_false_iff_not]
    by_cases hx : fr.1 ≤ off + j
    · right; omega
    · left; exact hx
  · have hw := heap_setCells b T fr vs off w arr a3
    obtain ⟨b', arr', T', fr', e1, _, e3, _, e5⟩ := h.obj id _ hs
    rw [hi] at e1; cases e1
    rw [a3] at e3; cases e3
    have hset : (σ.set id (.cells (splice l off ds) T')) = ((σ.del id).set id (.cells (splice l off ds) T')) := by
      funext i; simp only [St.set, St.del]; split <;> rfl
    rw [hset]
    refine h.write hs hi hw (by rw [size_setA]) (by rw [size_setA]; exact a5) (G.le.refl g) (.inl rfl) (fun i x e => .inl e) hi (fun _ _ _ => rfl) ?_ h.fin ⟨?_, ?_, ?_, e5.2.2.2⟩
    · intro o v e; rw [e5.2.2.2.1 o] at e; cases e
    · rw [size_setA, length_splice2 ho]; have := e5.1; omega
    · intro d hd
      simp only [splice, List.mem_append] at hd
      rcases hd with (hd | hd) | hd
      · exact a6 d (List.mem_of_mem_take hd)
      · exact h1 d hd
      · exact a6 d (List.mem_of_mem_drop hd)
    · intro k v d e e'
      rw [get_setA vs arr off (by rw [hv.1]; omega)] at e
      rw [get_splice2 ho] at e'
      rw [hv.1] at e
      by_cases hk : off ≤ k ∧ k < off + ds.length
      · rw [if_pos hk] at e e'; exact hv.2 _ v d e e'
      · rw [if_neg hk] at e e'; exact e5.2.2.1 k v d e e'

theorem Rel.store (h : Rel B w0 g σ w) {id b m : Nat} {l : List D} {T' : TypeId} (hs : σ id = some (.cells l T')) (hi : g.io id = some (b, m)) {off : Nat} {vs : List Value} {ds : List D} (hv : RVs g vs ds) (h1 : ∀ d ∈ ds, d.one = true) (hf : off + ds.length ≤ l.length) :
    w.there b off vs.length ∧ Rel B w0 g (σ.set id (.cells (splice l off ds) T')) (w.setCells b off vs) :=
  h.store2 hs hi hv h1 (by omega) (by have := (h.cell hs hi).1; omega)

/-- An object let go for good: its cells from off on. -/
theorem Rel.freeze (h : Rel B w0 g σ w) {id b m : Nat} {l : List D} {T' : TypeId} (hs : σ id = some (.cells l T')) (hi : g.io id = some (b, m)) :
    ∃ g', g.le g' ∧ Rel B w0 g' (σ.del id) w ∧ (∀ k, k < l.length → ∃ u, g'.imm b k = some u) ∧ (∀ (k : Nat) u d, g'.imm b k = some u → l[k]? = some d → RV g' u d) := by
  obtain ⟨b', arr, T, fr, e1, e2, e3, e4, e5⟩ := h.obj id _ hs
  rw [hi] at e1; cases e1
  let g' : G := { g with imm := fun b' o => if b' = b then (if o < l.length then arr[o]? else none) else g.imm b' o }
  have hg : g.le g' := ⟨fun _ _ e => e, fun b' o v e => by
    show (if b' = b then _ else _) = _
    split
    · rename_i hb; subst hb; rw [e5.2.2.2.1 o] at e; cases e
    · exact e, fun _ _ e => e⟩
  have hother : ∀ i ob, (σ.del id) i = some ob → σ i = some ob ∧ i ≠ id := by
    intro i ob e
    simp only [St.del] at e
    by_cases hx : i = id
    · rw [if_pos hx] at e; cases e
    · rw [if_neg hx] at e; exact ⟨e, hx⟩
  refine ⟨g', hg, ⟨h.below, h.base, ?_, h.dom, h.fin, ?_, ?_⟩, ?_, ?_⟩
  · intro b' o v e
    by_cases hb : b' = b
    · subst hb
      have e' : (if o < l.length then arr[o]? else none) = some v := by simpa [g'] using e
      split at e'
      · simp [World.cell?, e3, e']
      · cases e'
    · exact h.imm b' o v (by simpa [g', hb] using e)
  · intro i ob e
    obtain ⟨p1, p2⟩ := hother i ob e
    obtain ⟨b', arr', T', fr', c1, c2, c3, c4, c5⟩ := h.obj i ob p1
    have hbb : b' ≠ b := by
      rintro rfl
      exact p2 (h.inj i id b' _ _ (by rw [p1]; simp) (by rw [hs]; simp) c1 hi)
    exact ⟨b', arr', T', fr', c1, c2, c3, c4, c5.mono hg (fun o e => by simpa [g', hbb] using e)⟩
  · intro i j b' n n' e e' c c'
    refine h.inj i j b' n n' ?_ ?_ c c'
    · intro hn; apply e; simp only [St.del]; split <;> first | rfl | exact hn
    · intro hn; apply e'; simp only [St.del]; split <;> first | rfl | exact hn
  · intro k hk
    have hk' : k < arr.size := by have := e5.1; omega
    exact ⟨arr[k], by simp [g', hk, hk']⟩
  · intro k u d e e'
    have hk : k < l.length := (List.getElem?_eq_some_iff.1 e').1
    have e2 : arr[k]? = some u := by simpa [g', hk] using e
    exact (e5.2.2.1 k u d e2 e').mono hg

end
end Go.Av

/- append and copy: what is appended, rows that are filled on or grow. -/
set_option linter.unusedSimpArgs false
set_option linter.unusedVariables false
namespace Go.Av
open Go.RowKit

/-- A slice type's element type, its cells and bytes. -/
def eltE (P : Program) (e : TypeId) : Option (TypeId × Nat × Nat) :=
  match P.info? e with
  | some i => match i.zero with
    | some z => if z.cells.size = i.size ∧ 0 < i.size ∧ 0 < i.bytes then some (e, i.size, i.bytes) else none
    | none => none
  | none => none
def elt (P : Program) (t : TypeId) : Option (TypeId × Nat × Nat) :=
  match P.underlying t with
  | some (.slice e) => eltE P e
  | _ => none

theorem eltE_spec {P : Program} {t e : TypeId} {sz bytes : Nat} (h : eltE P t = some (e, sz, bytes)) :
    t = e ∧ ∃ i z, P.info? e = some i ∧ i.zero = some z ∧ z.cells.size = sz ∧ i.size = sz ∧ 0 < sz ∧ i.bytes = bytes ∧ 0 < bytes := by
  unfold eltE at h
  split at h
  · rename_i i hi
    split at h
    · rename_i z hz
      split at h
      · rename_i hc
        cases h
        exact ⟨rfl, i, z, hi, hz, hc.1, rfl, hc.2.1, rfl, hc.2.2⟩
      · cases h
    · cases h
  · cases h

theorem elt_spec {P : Program} {t e : TypeId} {sz bytes : Nat} (h : elt P t = some (e, sz, bytes)) :
    P.underlying t = some (.slice e) ∧ ∃ i z, P.info? e = some i ∧ i.zero = some z ∧ z.cells.size = sz ∧ i.size = sz ∧ 0 < sz ∧ i.bytes = bytes ∧ 0 < bytes := by
  unfold elt at h
  split at h
  · rename_i e' he
    obtain ⟨rfl, r⟩ := eltE_spec h
    exact ⟨he, r⟩
  · cases h

def bytesD (l : List UInt8) : List D := l.map fun b => .int .u8 b.toNat

/-- The cells of what is appended or copied, and how many elements. -/
def xcells (σ : St) (sz : Nat) : D → Option (Nat × List D)
  | .nil => some (0, [])
  | .e0 => some (0, [])
  | .sl n cs _ => if cs.length = n * sz then some (n, cs) else none
  | .osl id off n s => if s = sz then match σ id with
    | some (.cells l _) => if off + n * sz ≤ l.length then some (n, (l.drop off).take (n * sz)) else none
    | _ => none
    else none
  | .oslc id off n _ s => if s = sz then match σ id with
    | some (.cells l _) => if off + n * sz ≤ l.length then some (n, (l.drop off).take (n * sz)) else none
    | _ => none
    else none
  | .str l => if sz = 1 then some (l.length, bytesD l) else none
  | _ => none

section
variable {P : Program} {B : Nat} {w0 : World} {g : G} {σ : St} {w : World}

theorem add_at (b o j : Nat) : (⟨b, o, none⟩ : Addr).add j = ⟨b, o + j, none⟩ := by unfold Addr.add; split <;> simp_all

/-- A value of n elements of sz cells, and its cells, in this world and in any that has them. -/
def Cells (P : Program) (w : World) (x : Value) (sz n : Nat) (vs : List Value) : Prop :=
  (∀ w', (Builtin.lenOf x).run P w' = .ok n w') ∧ vs.length = n * sz ∧
  (∀ w', (∀ a v, w.cell? a = some v → w'.cell? a = some v) → ∀ m, m ≤ n → (Builtin.firstCells sz m x).run P w' = .ok (vs.take (m * sz)).toArray w')

theorem cells_slice (a : Option Addr) (n c sz : Nat) (vs : List Value) (hl : vs.length = n * sz) (h : ∀ b, a = some b → ∀ (j : Nat) v, vs[j]? = some v → w.cell? (b.add j) = some v) (ha : a = none → n = 0) :
    Cells P w (.slice a n c) sz n vs := by
  refine ⟨fun w' => rfl, hl, fun w' hw m hm => ?_⟩
  cases a with
  | none =>
    have hn := ha rfl
    subst hn
    have hv : vs = [] := List.eq_nil_of_length_eq_zero (by simpa using hl)
    subst hv
    simp [Builtin.firstCells]
  | some b =>
    have hle : m * sz ≤ vs.length := by rw [hl]; exact Nat.mul_le_mul_right _ hm
    exact run_firstCells_some w' sz m b n c (vs.take (m * sz)) (by rw [List.length_take]; omega) (fun j v e => by
      rw [List.getElem?_take] at e
      split at e
      · exact hw _ _ (h b rfl j v e)
      · cases e)

theorem take_bytes (s : ByteArray) (m : Nat) : (s.extract 0 m).data.map (fun b => Value.int .u8 b.toNat) = ((Lib.strCells s).take m).toArray := by
  apply Array.ext'
  simp [Lib.strCells]

theorem rvs_strCells (g : G) (s : ByteArray) : RVs g (Lib.strCells s) (bytesD s.data.toList) := by
  refine ⟨by simp [Lib.strCells, bytesD], fun k v d a b => ?_⟩
  simp only [Lib.strCells, bytesD, List.getElem?_map, Option.map_eq_some_iff] at a b
  obtain ⟨x, hx, rfl⟩ := a
  obtain ⟨y, hy, rfl⟩ := b
  rw [hx] at hy; cases hy
  exact .int _ _

theorem one_bytesD (l : List UInt8) : ∀ d ∈ bytesD l, d.one = true := by
  intro d hd
  simp only [bytesD, List.mem_map] at hd
  obtain ⟨b, _, rfl⟩ := hd
  rfl

theorem list_of (n : Nat) (f : Nat → Value) : ∃ l : List Value, l.length = n ∧ ∀ k, k < n → l[k]? = some (f k) :=
  ⟨(List.range n).map f, by simp, fun k hk => by simp [hk]⟩

theorem xcells_spec (h : Rel B w0 g σ w) {x : Value} {xd : D} (hx : RV g x xd) {sz n : Nat} {ds : List D} (hc : xcells σ sz xd = some (n, ds)) :
    ds.length = n * sz ∧ (∀ d ∈ ds, d.one = true) ∧ ∃ vs, RVs g vs ds ∧ Cells P w x sz n vs := by
  cases hx with
  | nil =>
    simp only [xcells] at hc; cases hc
    exact ⟨by simp, by simp, [], RVs.nil, cells_slice none 0 0 sz [] (by simp) (fun b e => by cases e) (fun _ => rfl)⟩
  | e0 a =>
    simp only [xcells] at hc; cases hc
    exact ⟨by simp, by simp, [], RVs.nil, cells_slice a 0 0 sz [] (by simp) (fun b e j v ev => by simp at ev) (fun _ => rfl)⟩
  | slNil a =>
    simp only [xcells] at hc
    split at hc
    · cases hc
      exact ⟨by simp, by simp, [], RVs.nil, cells_slice a 0 0 sz [] (by simp) (fun b e j v ev => by simp at ev) (fun _ => rfl)⟩
    · cases hc
  | sl b off n' cap cs t us hcap hm hi h1 hr ht =>
    simp only [xcells] at hc
    split at hc
    · rename_i hl
      cases hc
      obtain ⟨vs, hvl, hv⟩ := list_of ds.length us
      refine ⟨hl, h1, vs, ⟨hvl, fun k v d a e => ?_⟩, cells_slice _ _ _ sz vs (by omega) (fun b' e j v ev => ?_) (fun e => by cases e)⟩
      · have hk : k < ds.length := (List.getElem?_eq_some_iff.1 e).1
        rw [hv k hk] at a; cases a
        exact hr k d e
      · cases e
        have hk : j < ds.length := by rw [← hvl]; exact (List.getElem?_eq_some_iff.1 ev).1
        rw [hv j hk] at ev; cases ev
        rw [add_at]
        exact h.imm _ _ _ (hi j hk)
    · cases hc
  | osl id b m off n' cap s hi hcap hm hf =>
    simp only [xcells] at hc
    split at hc
    · rename_i hs
      subst hs
      split at hc
      · rename_i l T' hl
        split at hc
        · rename_i hfit
          cases hc
          obtain ⟨_, _, arr, T, fr, a3, a4, a5, a6, a7⟩ := h.cell hl hi
          obtain ⟨vs, hvl, hv⟩ := list_of (n * s) (fun k => arr.getD (off + k) undef)
          have hget : ∀ k, k < n * s → ∀ d, ((l.drop off).take (n * s))[k]? = some d → l[off + k]? = some d := by
            intro k hk d e
            rw [List.getElem?_take, if_pos hk, List.getElem?_drop] at e
            exact e
          refine ⟨by simp; omega, fun d hd => a6 d (List.mem_of_mem_drop (List.mem_of_mem_take hd)), vs, ⟨by simp [hvl]; omega, fun k v d a e => ?_⟩, cells_slice _ _ _ s vs hvl (fun b' e j v ev => ?_) (fun e => by cases e)⟩
          · have hk : k < n * s := by rw [← hvl]; exact (List.getElem?_eq_some_iff.1 a).1
            rw [hv k hk] at a; cases a
            obtain ⟨v, c1, _, _, c4⟩ := a7 (off + k) d (hget k hk d e)
            simp [c1]; exact c4
          · cases e
            have hk : j < n * s := by rw [← hvl]; exact (List.getElem?_eq_some_iff.1 ev).1
            have hk' : off + j < l.length := by omega
            obtain ⟨v', c1, c2, _, _⟩ := a7 (off + j) _ (List.getElem?_eq_getElem hk')
            rw [hv j hk] at ev; cases ev
            rw [add_at, c2]
            simp [c1]
        · cases hc
      · cases hc
    · cases hc
  | oslc id b m off n' cap s hi hcap hm hf =>
    simp only [xcells] at hc
    split at hc
    · rename_i hs
      subst hs
      split at hc
      · rename_i l T' hl
        split at hc
        · rename_i hfit
          cases hc
          obtain ⟨_, _, arr, T, fr, a3, a4, a5, a6, a7⟩ := h.cell hl hi
          obtain ⟨vs, hvl, hv⟩ := list_of (n * s) (fun k => arr.getD (off + k) undef)
          have hget : ∀ k, k < n * s → ∀ d, ((l.drop off).take (n * s))[k]? = some d → l[off + k]? = some d := by
            intro k hk d e
            rw [List.getElem?_take, if_pos hk, List.getElem?_drop] at e
            exact e
          refine ⟨by simp; omega, fun d hd => a6 d (List.mem_of_mem_drop (List.mem_of_mem_take hd)), vs, ⟨by simp [hvl]; omega, fun k v d a e => ?_⟩, cells_slice _ _ _ s vs hvl (fun b' e j v ev => ?_) (fun e => by cases e)⟩
          · have hk : k < n * s := by rw [← hvl]; exact (List.getElem?_eq_some_iff.1 a).1
            rw [hv k hk] at a; cases a
            obtain ⟨v, c1, _, _, c4⟩ := a7 (off + k) d (hget k hk d e)
            simp [c1]; exact c4
          · cases e
            have hk : j < n * s := by rw [← hvl]; exact (List.getElem?_eq_some_iff.1 ev).1
            have hk' : off + j < l.length := by omega
            obtain ⟨v', c1, c2, _, _⟩ := a7 (off + j) _ (List.getElem?_eq_getElem hk')
            rw [hv j hk] at ev; cases ev
            rw [add_at, c2]
            simp [c1]
        · cases hc
      · cases hc
    · cases hc
  | str s l hl =>
    simp only [xcells] at hc
    split at hc
    · rename_i hs
      subst hs
      subst hl
      cases hc
      refine ⟨by simp [bytesD], one_bytesD _, Lib.strCells s, rvs_strCells g s, fun w' => ?_, ?_, fun w' _ m hm => ?_⟩
      · have : s.data.toList.length = s.size := by simp
        rw [this]; rfl
      · rw [Lib.strCells_length]; simp
      · simp only [Builtin.firstCells, Nat.mul_one]
        rw [take_bytes]; rfl
    · cases hc
  | int | bool | nilp | nili | agg | tup | ptr | eptr | fn | raw => simp [xcells] at hc

/-! ### append, as the machine runs it -/
/-- A string or a slice. -/
def noInt : Option TypeDesc → Bool
  | some .string => true
  | some (.slice _) => true
  | _ => false

theorem noInt_spec {u : TypeId} (hu : noInt (P.underlying u) = true) : P.underlying u = some .string ∨ ∃ e, P.underlying u = some (.slice e) := by
  unfold noInt at hu
  split at hu
  · left; assumption
  · right; exact ⟨_, by assumption⟩
  · cases hu

theorem cells_full {x : Value} {sz n : Nat} {news : List Value} (hx : Cells P w x sz n news) (w' : World) (hw : ∀ a v, w.cell? a = some v → w'.cell? a = some v) :
    (Builtin.firstCells sz n x).run P w' = .ok news.toArray w' := by
  obtain ⟨h1, h2, h3⟩ := hx
  have := h3 w' hw n (Nat.le_refl _)
  rwa [List.take_of_length_le (by omega)] at this

set_option maxHeartbeats 1000000 in
theorem run_append_grows {t u ty e : TypeId} {i : TypeInfo} {z : Value} {sz : Nat} (ht : P.underlying t = some (.slice e)) (hu : noInt (P.underlying u) = true) (hi : P.info? e = some i) (hz : i.zero = some z) (hsz : i.size = sz)
    {base : Option Addr} {sLen sCap n : Nat} {x : Value} {news : List Value} (hx : Cells P w x sz n news) (hcap : sLen ≤ sCap)
    (olds : List Value) (hlo : olds.length = sLen * sz) (ho : ∀ b, base = some b → ∀ (j : Nat) v, olds[j]? = some v → w.cell? (b.add j) = some v) (hb : base = none → sCap = 0)
    (hn : (sLen + n) * i.bytes ≤ 140737488355328) (h63 : sLen + n ≤ 9223372036854775807) (hg : sCap < sLen + n) :
    ∃ cap, sLen + n ≤ cap ∧ cap ≤ maxLen ∧ (Builtin.append_ #[t, u] ty #[.slice base sLen sCap, x]).run P w = .ok (.slice (some ⟨w.heap.size, 0, none⟩) (sLen + n) cap) (w.drew.alloc (.cells (olds ++ news ++ (Builtin.zeroCells z.cells (cap - (sLen + n))).toList).toArray e)) := by
  have hold : (Builtin.firstCells sz sLen (.slice base sLen sCap)).run P w.drew = .ok olds.toArray w.drew := by
    cases base with
    | none =>
      have hs0 : sLen = 0 := by have := hb rfl; omega
      subst hs0
      have : olds = [] := List.eq_nil_of_length_eq_zero (by simpa using hlo)
      subst this
      simp [Builtin.firstCells]
    | some b => exact run_firstCells_some w.drew sz sLen b sLen sCap olds hlo (fun j v e => ho b rfl j v e)
  have h63' : ¬ (9223372036854775807 < ((sLen : Int) + (n : Int))) := by omega
  have hn' : ¬ (sLen + n ≤ sCap) := by omega
  have h48' : ¬ (281474976710656 < Builtin.nextslicecap (sLen + n) sCap * i.bytes) := by
    have := growslice_fits hg hn
    omega
  refine ⟨grownCap w (sLen + n) sCap e, grownCap_ge w _ _ _, grownCap_le_maxLen w _ _ _ (by unfold maxLen; omega), ?_⟩
  have hf := cells_full hx w.drew (fun a v e => e)
  have hl := hx.1
  subst hsz
  rcases noInt_spec hu with hu' | ⟨e', hu'⟩
  all_goals simp only [Builtin.append_, List.size_toArray, List.length_cons, List.length_nil, List.getElem?_toArray, List.getElem?_cons_zero, List.getElem?_cons_succ, Sem.run_bind, run_underlying ht, Result.andThen_ok, sizeOf, typeInfo, run_program, Sem.run_pure, hi, run_underlying hu', hl, Bool.false_eq_true, if_false, if_neg hn']
  all_goals simp [h63', h48', Question.forced, hold, hf, newRow, grownCap, zeroValue, typeInfo, hi, hz]
  all_goals congr 2
  all_goals apply Array.ext'
  all_goals simp [List.append_assoc]

theorem run_append_room_none {t u ty e : TypeId} {i : TypeInfo} {sz : Nat} (ht : P.underlying t = some (.slice e)) (hu : noInt (P.underlying u) = true) (hi : P.info? e = some i) (hsz : i.size = sz)
    {n : Nat} {x : Value} {news : List Value} (hx : Cells P w x sz n news) (hn0 : n = 0) (base : Option Addr) :
    (Builtin.append_ #[t, u] ty #[.slice base 0 0, x]).run P w = .ok (.slice base 0 0) w := by
  have hf := cells_full hx w (fun a v e => e)
  have hl := hx.1
  subst hsz
  subst hn0
  have hnn : news = [] := List.eq_nil_of_length_eq_zero (by simpa using hx.2.1)
  subst hnn
  rcases noInt_spec hu with hu' | ⟨e', hu'⟩
  all_goals simp only [Builtin.append_, List.size_toArray, List.length_cons, List.length_nil, List.getElem?_toArray, List.getElem?_cons_zero, List.getElem?_cons_succ, Sem.run_bind, run_underlying ht, Result.andThen_ok, sizeOf, typeInfo, run_program, Sem.run_pure, hi, run_underlying hu', hl, Bool.false_eq_true, if_false]
  all_goals cases base <;> simp [hf, storeCells]

theorem run_append_room_gen {t u ty e : TypeId} {i : TypeInfo} {sz : Nat} (ht : P.underlying t = some (.slice e)) (hu : noInt (P.underlying u) = true) (hi : P.info? e = some i) (hsz : i.size = sz)
    {sLen sCap n : Nat} {x : Value} {news : List Value} (hx : Cells P w x sz n news) (hroom : sLen + n ≤ sCap) (b off : Nat) (hth : w.there b (off + sLen * sz) news.length) (h1c : ∀ v ∈ news, v.oneCell' = true) :
    (Builtin.append_ #[t, u] ty #[.slice (some ⟨b, off, none⟩) sLen sCap, x]).run P w = .ok (.slice (some ⟨b, off, none⟩) (sLen + n) sCap) (w.setCells b (off + sLen * sz) news) := by
  have hf := cells_full hx w (fun a v e => e)
  have hl := hx.1
  subst hsz
  have hst := run_storeCells_cells (P := P) b (off + sLen * i.size) news 0 w (fun j hj => by simpa using (hth j hj).1) (fun j hj => by simpa using (hth j hj).2) h1c
  simp only [Nat.add_zero] at hst
  rcases noInt_spec hu with hu' | ⟨e', hu'⟩
  all_goals simp only [Builtin.append_, List.size_toArray, List.length_cons, List.length_nil, List.getElem?_toArray, List.getElem?_cons_zero, List.getElem?_cons_succ, Sem.run_bind, run_underlying ht, Result.andThen_ok, sizeOf, typeInfo, run_program, Sem.run_pure, hi, run_underlying hu', hl, Bool.false_eq_true, if_false, if_pos hroom]
  all_goals simp [hf, add_at, hst]

end
end Go.Av

/- append: what it comes to, whatever the capacity. -/
set_option linter.unusedSimpArgs false
set_option linter.unusedVariables false
namespace Go.Av
open Go.RowKit

/-- append(s, x): x has n elements whose cells are ds. -/
def aapp (σ : St) (el : TypeId) (sz bytes : Nat) (s : D) (n : Nat) (ds : List D) (K : D → St → Prop) : Prop :=
  match s with
  | .nil | .e0 => if n = 0 then K s σ else
      n * bytes ≤ 140737488355328 ∧ ((∀ id, σ id = none → K (.sl n ds (some (id, sz))) (σ.set id (.tok el ds))) ∨ (∀ id, σ id = none → K (.osl id 0 n sz) (σ.set id (.cells ds el))))
  | .sl n0 cs (some (t, sz')) => sz' = sz ∧ (∃ c0, σ t = some (.tok el c0)) ∧ (n0 + n) * bytes ≤ 140737488355328 ∧ ∀ id, σ id = none → K (.sl (n0 + n) (cs ++ ds) (some (id, sz))) ((σ.del t).set id (.tok el (cs ++ ds)))
  | .osl t off n0 sz' => sz' = sz ∧ off = 0 ∧ (n0 + n) * bytes ≤ 140737488355328 ∧ ∃ l, σ t = some (.cells l el) ∧ l.length = n0 * sz ∧ ∀ id, σ id = none → K (.osl id 0 (n0 + n) sz) ((σ.del t).set id (.cells (l ++ ds) el))
  | .oslc t off n0 c sz' => sz' = sz ∧ (n0 + n) * bytes ≤ 140737488355328 ∧ ∃ l, σ t = some (.cells l el) ∧ off + n0 * sz ≤ l.length ∧
      (if n0 + n ≤ c then K (.oslc t off (n0 + n) c sz) (σ.set t (.cells (splice l (off + n0 * sz) ds) el)) else ∀ id, σ id = none → K (.osl id 0 (n0 + n) sz) (σ.set id (.cells ((l.drop off).take (n0 * sz) ++ ds) el)))
  | _ => False

section
variable {P : Program} {B : Nat} {w0 : World} {g : G} {σ : St} {w : World}

/-- What an operation comes to. -/
def Comes' (B : Nat) (w0 : World) (g : G) (K : D → St → Prop) (v : Value) (w' : World) : Prop := ∃ d g' σ', g.le g' ∧ RV g' v d ∧ Rel B w0 g' σ' w' ∧ K d σ'

theorem Comes'.mono {g : G} {K K' : D → St → Prop} {v : Value} {w' : World} (h : Comes' B w0 g K v w') (hk : ∀ d σ, K d σ → K' d σ) : Comes' B w0 g K' v w' :=
  let ⟨d, g', σ', a, b, c, e⟩ := h; ⟨d, g', σ', a, b, c, hk d σ' e⟩

theorem arr_get (l r : List Value) (k : Nat) (hk : k < l.length) : (l ++ r).toArray[k]? = l[k]? := by
  simp [List.getElem?_append_left hk]

theorem size_row {olds news : List Value} {z : Value} {cap need sz : Nat} (hl : (olds ++ news).length = need * sz) (hz : z.cells.size = sz) (hc : need ≤ cap) :
    (olds ++ news ++ (Builtin.zeroCells z.cells (cap - need)).toList).toArray.size = cap * sz := by
  simp only [List.size_toArray, List.length_append, Array.length_toList, size_zeroCells, hz] at hl ⊢
  rw [hl, ← Nat.add_mul]
  congr 1; omega

theorem St.le.set2 {a b : St} (h : a.le b) (i : Nat) (o : Ob) : (a.set i o).le (b.set i o) := fun j o' e => by
  unfold St.set at *
  split
  · rename_i hj; rwa [if_pos hj] at e
  · rename_i hj; rw [if_neg hj] at e; exact h j o' e

/-- Grown: a row that may be filled on. -/
theorem grown_row (h : Rel B w0 g σ w) {σ2 : St} (hσ : σ2.le σ) {K : D → St → Prop} {cs ds : List D} {olds news : List Value} (ho : RVs g olds cs) (hn : RVs g news ds) (h1 : ∀ d ∈ cs ++ ds, d.one = true)
    {need sz cap : Nat} (hl : (cs ++ ds).length = need * sz) (hc : need ≤ cap) (hm : cap ≤ maxLen) {z : Value} (hz : z.cells.size = sz) (e : TypeId)
    (hk : ∀ id, σ id = none → K (.sl need (cs ++ ds) (some (id, sz))) (σ2.set id (.tok e (cs ++ ds)))) :
    Comes' B w0 g K (.slice (some ⟨w.heap.size, 0, none⟩) need cap) (w.drew.alloc (.cells (olds ++ news ++ (Builtin.zeroCells z.cells (cap - need)).toList).toArray e)) := by
  obtain ⟨id, hf, ht, hs⟩ := h.fresh
  have hon := ho.append hn
  have hlen : (olds ++ news).length = need * sz := by rw [hon.1, hl]
  have hsz := size_row (z := z) (cap := cap) hlen hz hc
  have hle : need * sz ≤ cap * sz := Nat.mul_le_mul_right _ hc
  have hR := h.drew.allocRow hf ht hs (olds ++ news ++ (Builtin.zeroCells z.cells (cap - need)).toList).toArray e (need * sz) (by rw [hsz]; exact hle) (0, 0) (fun o _ => by omega) (cs ++ ds) (Nat.le_of_eq hl) (fun k v d a b => by
    have hk' : k < (olds ++ news).length := by rw [hon.1]; exact (List.getElem?_eq_some_iff.1 b).1
    rw [arr_get _ _ k hk'] at a
    exact hon.2 k v d a b)
  have hg := G.le_row (b := w.heap.size) (olds ++ news ++ (Builtin.zeroCells z.cells (cap - need)).toList).toArray.size (olds ++ news ++ (Builtin.zeroCells z.cells (cap - need)).toList).toArray (need * sz) hf ht (imm_none_new h (Nat.le_refl _))
  refine ⟨_, _, _, hg, ?_, hR.forget (hσ.set2 id _), hk id hs⟩
  refine .sl w.heap.size 0 need cap (cs ++ ds) _ (fun k => (olds ++ news).getD k undef) hc hm (fun k hk => ?_) h1 (fun k d e => ?_) (fun id' sz' e => ?_)
  · have hk' : k < (olds ++ news).length := by rw [hlen, ← hl]; exact hk
    show (if w.heap.size = w.heap.size then _ else _) = _
    rw [if_pos rfl, Nat.zero_add, if_pos (by rw [← hl]; exact hk), arr_get _ _ k hk']
    simp [List.getD, List.getElem?_eq_getElem hk']
  · have hk' : k < (olds ++ news).length := by rw [hon.1]; exact (List.getElem?_eq_some_iff.1 e).1
    have hq := hon.2 k _ d (List.getElem?_eq_getElem hk') e
    simp only [List.getD, List.getElem?_eq_getElem hk', Option.getD_some]
    exact hq.mono hg
  · cases e
    refine ⟨rfl, hl, by simp [G.row, hl], _, if_pos rfl, by rw [hsz]; exact Nat.le_refl _⟩

/-- Grown: an object. -/
theorem grown_obj (h : Rel B w0 g σ w) {σ2 : St} (hσ : σ2.le σ) {K : D → St → Prop} {cs ds : List D} {olds news : List Value} (ho : RVs g olds cs) (hn : RVs g news ds) (h1 : ∀ d ∈ cs ++ ds, d.one = true)
    {need sz cap : Nat} (hl : (cs ++ ds).length = need * sz) (hc : need ≤ cap) (hm : cap ≤ maxLen) {z : Value} (hz : z.cells.size = sz) (e : TypeId)
    (hk : ∀ id, σ id = none → K (.osl id 0 need sz) (σ2.set id (.cells (cs ++ ds) e))) :
    Comes' B w0 g K (.slice (some ⟨w.heap.size, 0, none⟩) need cap) (w.drew.alloc (.cells (olds ++ news ++ (Builtin.zeroCells z.cells (cap - need)).toList).toArray e)) := by
  obtain ⟨id, hf, ht, hs⟩ := h.fresh
  have hon := ho.append hn
  have hlen : (olds ++ news).length = need * sz := by rw [hon.1, hl]
  have hsz := size_row (z := z) (cap := cap) hlen hz hc
  have hle : need * sz ≤ cap * sz := Nat.mul_le_mul_right _ hc
  have hR := h.drew.alloc hf hs (olds ++ news ++ (Builtin.zeroCells z.cells (cap - need)).toList).toArray e (cs ++ ds) (by rw [hsz, hl]; exact hle) h1 (fun k v d a b => by
    have hk' : k < (olds ++ news).length := by rw [hon.1]; exact (List.getElem?_eq_some_iff.1 b).1
    rw [arr_get _ _ k hk'] at a
    exact hon.2 k v d a b) (0, 0) (fun o _ => by omega)
  refine ⟨_, _, _, G.le_name _ _ hf, ?_, hR.forget (hσ.set2 id _), hk id hs⟩
  exact .osl id w.heap.size _ 0 need cap sz G.name_self hc hm (by rw [hsz]; omega)

/-- A row of the call's own is filled on, where it lies. -/
theorem fill_row (h : Rel B w0 g σ w) {t b m n0 : Nat} {el : TypeId} {c0 : List D} (hs : σ t = some (.tok el c0)) (hi : g.io t = some (b, m)) (ht : g.tk t = some n0) {vs : List Value} {ds : List D} (hv : RVs g vs ds) (h1 : ∀ d ∈ ds, d.one = true) (hf : n0 + vs.length ≤ m)
    {id : Nat} (hio : g.io id = none) (htk : g.tk id = none) (hsi : σ id = none) {cs : List D} (hcl : cs.length = n0) (hcs : ∀ (k : Nat) d, cs[k]? = some d → ∃ v, g.imm b k = some v ∧ RV g v d) :
    w.there b n0 vs.length ∧ ∃ g', g.le g' ∧ Rel B w0 g' ((σ.del t).set id (.tok el (cs ++ ds))) (w.setCells b n0 vs) ∧ g'.io id = some (b, m) ∧ g'.tk id = some (n0 + vs.length) ∧ (∀ (k : Nat) v, vs[k]? = some v → g'.imm b (n0 + k) = some v) := by
  obtain ⟨b', arr, T, fr, e1, e2, e3, e4, e0, _, n', e5, e6, e7⟩ := h.obj t _ hs
  rw [hi] at e1; cases e1
  rw [ht] at e5; cases e5
  have hcell : ∀ k, k < arr.size → w.cell? ⟨b, k, none⟩ = arr[k]? := fun k hk => by simp [World.cell?, e3]
  constructor
  · intro j hj
    have hk : n0 + j < arr.size := by omega
    refine ⟨by rw [hcell _ hk, Array.getElem?_eq_getElem hk]; rfl, ?_⟩
    have := e4 _ hk
    simp only [World.frozen?, e3, Bool.and_eq_false_iff, decide_eq_false_iff_not]
    by_cases hx : fr.1 ≤ n0 + j
    · right; omega
    · left; exact hx
  · have hw := heap_setCells b T fr vs n0 w arr e3
    let g' : G := { io := fun j => if j = id then some (b, arr.size) else g.io j, imm := fun b' o => if b' = b then (if n0 ≤ o ∧ o < n0 + vs.length then vs[o - n0]? else g.imm b o) else g.imm b' o, tk := fun j => if j = id then some (n0 + vs.length) else g.tk j }
    have hg : g.le g' := ⟨fun i x e => by
      show (if i = id then _ else _) = _
      split
      · rename_i hj; subst hj; rw [hio] at e; cases e
      · exact e, fun b' o v e => by
      show (if b' = b then _ else _) = _
      split
      · rename_i hb; subst hb
        split
        · rename_i ho; rw [e7 o ho.1] at e; cases e
        · exact e
      · exact e, fun i x e => by
      show (if i = id then _ else _) = _
      split
      · rename_i hj; subst hj; rw [htk] at e; cases e
      · exact e⟩
    have hid : id ≠ t := by rintro rfl; rw [hsi] at hs; cases hs
    refine ⟨g', hg, ?_, by simp [g'], by simp [g'], fun k v e => ?_⟩
    · refine h.write hs hi hw (by rw [size_setA]) (by rw [size_setA]; exact e4) hg (.inr hsi) (fun i x e => ?_) (by simp [g']) (fun b' hb o => by simp [g', hb]) (fun o v e => ?_) ?_ ⟨e0, fun k d e => ?_, n0 + vs.length, by simp [g'], by rw [size_setA]; exact hf, fun o ho => ?_⟩
      · by_cases hj : i = id
        · right
          refine ⟨hj, ?_⟩
          have e' : (if i = id then some (b, arr.size) else g.io i) = some x := e
          rw [if_pos hj] at e'; cases e'; rfl
        · left
          have e' : (if i = id then some (b, arr.size) else g.io i) = some x := e
          rwa [if_neg hj] at e'
      · rw [get_setA vs arr n0 hf]
        have e' : (if n0 ≤ o ∧ o < n0 + vs.length then vs[o - n0]? else g.imm b o) = some v := by simpa [g'] using e
        split at e'
        · rename_i ho; rw [if_pos ho]; exact e'
        · rename_i ho; rw [if_neg ho]
          have := h.imm b o v e'
          simpa [World.cell?, e3] using this
      · obtain ⟨N, hN⟩ := h.fin
        refine ⟨max N (id + 1), fun i hi' => ?_⟩
        have hne : i ≠ id := by omega
        simp only [g', if_neg hne]
        exact hN i (by omega)
      · by_cases hk : k < cs.length
        · rw [List.getElem?_append_left hk] at e
          obtain ⟨v, a1, a2⟩ := hcs k d e
          exact ⟨v, hg.imm _ _ _ a1, a2.mono hg⟩
        · rw [List.getElem?_append_right (by omega)] at e
          have hk2 : k - cs.length < ds.length := (List.getElem?_eq_some_iff.1 e).1
          have hk3 : k - cs.length < vs.length := by rw [hv.1]; exact hk2
          refine ⟨vs[k - cs.length], ?_, (hv.2 _ _ d (List.getElem?_eq_getElem hk3) e).mono hg⟩
          have : (if n0 ≤ k ∧ k < n0 + vs.length then vs[k - n0]? else g.imm b k) = some vs[k - cs.length] := by
            rw [if_pos (by omega), ← hcl]; exact List.getElem?_eq_getElem hk3
          simpa [g'] using this
      · have h0 : (if n0 ≤ o ∧ o < n0 + vs.length then vs[o - n0]? else g.imm b o) = none := by
          rw [if_neg (by omega)]; exact e7 o (by omega)
        simpa [g'] using h0
    · have hk : k < vs.length := (List.getElem?_eq_some_iff.1 e).1
      have : (if n0 ≤ n0 + k ∧ n0 + k < n0 + vs.length then vs[n0 + k - n0]? else g.imm b (n0 + k)) = some v := by
        rw [if_pos (by omega), Nat.add_sub_cancel_left]; exact e
      simpa [g'] using this

/-- An object's row is filled on, where it lies. -/
theorem fill_obj (h : Rel B w0 g σ w) {t b m : Nat} {l : List D} {el : TypeId} (hs : σ t = some (.cells l el)) (hi : g.io t = some (b, m)) {vs : List Value} {ds : List D} (hv : RVs g vs ds) (h1 : ∀ d ∈ ds, d.one = true) (hf : l.length + vs.length ≤ m)
    {id : Nat} (hio : g.io id = none) (hsi : σ id = none) :
    w.there b l.length vs.length ∧ Rel B w0 (g.name id b m) ((σ.del t).set id (.cells (l ++ ds) el)) (w.setCells b l.length vs) := by
  obtain ⟨b', arr, T, fr, e1, e2, e3, e4, e5, e6, e7, e8, e9⟩ := h.obj t _ hs
  rw [hi] at e1; cases e1
  constructor
  · intro j hj
    have hk : l.length + j < arr.size := by omega
    refine ⟨by simp [World.cell?, e3, hk], ?_⟩
    have := e4 _ hk
    simp only [World.frozen?, e3, Bool.and_eq_false_iff, decide_eq_false_iff_not]
    by_cases hx : fr.1 ≤ l.length + j
    · right; omega
    · left; exact hx
  · have hw := heap_setCells b T fr vs l.length w arr e3
    have hg := G.le_name b arr.size hio
    refine h.write hs hi hw (by rw [size_setA]) (by rw [size_setA]; exact e4) hg (.inr hsi) (fun i x e => ?_) G.name_self (fun _ _ _ => rfl) (fun o v e => ?_) ?_ ⟨?_, ?_, ?_, e8, e9⟩
    · by_cases hj : i = id
      · right; subst hj; rw [G.name_self] at e; cases e; exact ⟨rfl, rfl⟩
      · left; rwa [G.name_other hj] at e
    · have e' : g.imm b o = some v := e
      rw [e8 o] at e'; cases e'
    · obtain ⟨N, hN⟩ := h.fin
      refine ⟨max N (id + 1), fun i hi' => ⟨?_, (hN i (by omega)).2⟩⟩
      rw [G.name_other (by omega)]; exact (hN i (by omega)).1
    · rw [size_setA, List.length_append, ← hv.1]; exact hf
    · intro d hd
      rcases List.mem_append.1 hd with hd | hd
      · exact e6 d hd
      · exact h1 d hd
    · intro k v d a e
      rw [get_setA vs arr l.length hf] at a
      by_cases hk : k < l.length
      · rw [if_neg (by omega)] at a
        rw [List.getElem?_append_left hk] at e
        exact (e7 k v d a e).mono hg
      · rw [List.getElem?_append_right (by omega)] at e
        have hk2 : k - l.length < ds.length := (List.getElem?_eq_some_iff.1 e).1
        rw [if_pos ⟨by omega, by rw [hv.1]; omega⟩] at a
        exact (hv.2 _ v d a e).mono hg

theorem maxLen_of {n bytes : Nat} (h : n * bytes ≤ 140737488355328) (hb : 0 < bytes) : n ≤ 140737488355328 := Nat.le_trans (Nat.le_mul_of_pos_right _ hb) h

theorem append_sound (h : Rel B w0 g σ w) {t u ty e : TypeId} {sz bytes : Nat} (ht : elt P t = some (e, sz, bytes)) (hu : noInt (P.underlying u) = true) {s x : Value} {sd xd : D} (hs : RV g s sd) (hx : RV g x xd) {n : Nat} {ds : List D} (hc : xcells σ sz xd = some (n, ds))
    {K : D → St → Prop} (ha : aapp σ e sz bytes sd n ds K) : ∃ v w', (Builtin.append_ #[t, u] ty #[s, x]).run P w = .ok v w' ∧ Comes' B w0 g K v w' := by
  obtain ⟨hut, i, z, hi, hz, hzs, hsz, hsz0, hby, hby0⟩ := elt_spec ht
  subst hby
  obtain ⟨hdl, hd1, vs, hvs, hcx⟩ := xcells_spec (P := P) h hx hc
  have hv1 := one_of hvs hd1
  cases hs with
  | nil =>
    simp only [aapp] at ha
    by_cases hn : n = 0
    · rw [if_pos hn] at ha
      exact ⟨_, _, run_append_room_none hut hu hi hsz hcx hn none, _, g, σ, G.le.refl g, .nil, h, ha⟩
    · rw [if_neg hn] at ha
      have hm := maxLen_of ha.1 hby0
      obtain ⟨cap, hc1, hc2, hr⟩ := run_append_grows (ty := ty) hut hu hi hz hsz hcx (sLen := 0) (sCap := 0) (base := none) (Nat.le_refl _) [] (by simp) (fun b e => by cases e) (fun _ => rfl) (by rw [Nat.zero_add]; exact ha.1) (by omega) (by omega)
      rw [Nat.zero_add] at hr hc1
      rcases ha.2 with ha | ha
      · exact ⟨_, _, hr, grown_row h (St.le.refl _) RVs.nil hvs (by simpa using hd1) (by simpa using hdl) hc1 hc2 hzs e ha⟩
      · exact ⟨_, _, hr, grown_obj h (St.le.refl _) RVs.nil hvs (by simpa using hd1) (by simpa using hdl) hc1 hc2 hzs e ha⟩
  | e0 a =>
    simp only [aapp] at ha
    by_cases hn : n = 0
    · rw [if_pos hn] at ha
      exact ⟨_, _, run_append_room_none hut hu hi hsz hcx hn a, _, g, σ, G.le.refl g, .e0 a, h, ha⟩
    · rw [if_neg hn] at ha
      have hm := maxLen_of ha.1 hby0
      obtain ⟨cap, hc1, hc2, hr⟩ := run_append_grows (ty := ty) hut hu hi hz hsz hcx (sLen := 0) (sCap := 0) (base := a) (Nat.le_refl _) [] (by simp) (fun b e j v ev => by simp at ev) (fun _ => rfl) (by rw [Nat.zero_add]; exact ha.1) (by omega) (by omega)
      rw [Nat.zero_add] at hr hc1
      rcases ha.2 with ha | ha
      · exact ⟨_, _, hr, grown_row h (St.le.refl _) RVs.nil hvs (by simpa using hd1) (by simpa using hdl) hc1 hc2 hzs e ha⟩
      · exact ⟨_, _, hr, grown_obj h (St.le.refl _) RVs.nil hvs (by simpa using hd1) (by simpa using hdl) hc1 hc2 hzs e ha⟩
  | sl b off n0 cap cs tk us hcap hm hi' h1 hr htk =>
    cases tk with
    | none => simp [aapp] at ha
    | some p =>
      obtain ⟨tid, sz'⟩ := p
      simp only [aapp] at ha
      obtain ⟨rfl, ⟨c0, hst⟩, hbn, ha⟩ := ha
      obtain ⟨rfl, hcl, htk1, m, hio, hfit⟩ := htk tid sz' rfl
      have hmx := maxLen_of hbn hby0
      obtain ⟨olds, hol, hov⟩ := list_of cs.length us
      have hold : RVs g olds cs := ⟨hol, fun k v d a e => by
        have hk : k < cs.length := (List.getElem?_eq_some_iff.1 e).1
        rw [hov k hk] at a; cases a
        exact hr k d e⟩
      by_cases hroom : n0 + n ≤ cap
      · obtain ⟨id, hf, hft, hfs⟩ := h.fresh
        have hlen : cs.length + vs.length ≤ m := by
          rw [hcl, hvs.1, hdl, ← Nat.add_mul]
          exact Nat.le_trans (Nat.mul_le_mul_right _ hroom) hfit
        obtain ⟨hth, g', hg, hR, hio', htk', himm'⟩ := fill_row h hst hio htk1 hvs hd1 hlen hf hft hfs (cs := cs) rfl (fun k d e => ⟨us k, by have := hi' k (List.getElem?_eq_some_iff.1 e).1; rwa [Nat.zero_add] at this, hr k d e⟩)
        refine ⟨_, _, run_append_room_gen hut hu hi hsz hcx hroom b 0 (by rw [Nat.zero_add, ← hcl]; exact hth) hv1, ?_⟩
        rw [Nat.zero_add, ← hcl]
        refine ⟨_, g', _, hg, ?_, hR, ha id hfs⟩
        refine .sl b 0 (n0 + n) cap (cs ++ ds) _ (fun k => (olds ++ vs).getD k undef) hroom hm (fun k hk => ?_) ?_ (fun k d e => ?_) (fun id' sz2 e => ?_)
        · rw [Nat.zero_add]
          by_cases hk' : k < cs.length
          · have := hg.imm _ _ _ (hi' k hk')
            rw [Nat.zero_add] at this
            rw [this]
            simp [List.getD, List.getElem?_append_left (show k < olds.length by omega), hov k hk']
          · have hk2 : k - cs.length < vs.length := by simp at hk; rw [hvs.1]; omega
            have := himm' (k - cs.length) _ (List.getElem?_eq_getElem hk2)
            rw [show cs.length + (k - cs.length) = k by omega] at this
            rw [this]
            simp [List.getD, List.getElem?_append_right (show olds.length ≤ k by omega), hol, List.getElem?_eq_getElem hk2]
        · intro d hd
          rcases List.mem_append.1 hd with hd | hd
          · exact h1 d hd
          · exact hd1 d hd
        · have hon := hold.append hvs
          have hk' : k < (olds ++ vs).length := by rw [hon.1]; exact (List.getElem?_eq_some_iff.1 e).1
          have hq := hon.2 k _ d (List.getElem?_eq_getElem hk') e
          simp only [List.getD, List.getElem?_eq_getElem hk', Option.getD_some]
          exact hq.mono hg
        · cases e
          refine ⟨rfl, by rw [List.length_append, hcl, hdl, Nat.add_mul], by rw [htk', List.length_append, hvs.1], m, hio', hfit⟩
      · obtain ⟨cap', hc1, hc2, hrun⟩ := run_append_grows (ty := ty) hut hu hi hz hsz hcx (base := some ⟨b, 0, none⟩) hcap olds (by rw [hol, hcl]) (fun b' e j v ev => by
          cases e
          have hj : j < cs.length := by rw [← hol]; exact (List.getElem?_eq_some_iff.1 ev).1
          rw [hov j hj] at ev; cases ev
          rw [add_at]
          exact h.imm _ _ _ (hi' j hj)) (fun e => by cases e) hbn (by omega) (by omega)
        refine ⟨_, _, hrun, ?_⟩
        refine grown_row h (St.del_le _ _) hold hvs ?_ (by rw [List.length_append, hcl, hdl, Nat.add_mul]) hc1 hc2 hzs e ha
        intro d hd
        rcases List.mem_append.1 hd with hd | hd
        · exact h1 d hd
        · exact hd1 d hd
  | osl tid b m off n0 cap sz' hio hcap hm hfit =>
    simp only [aapp] at ha
    obtain ⟨rfl, rfl, hbn, l, hst, hll, ha⟩ := ha
    have hmx := maxLen_of hbn hby0
    obtain ⟨_, _, arr, T, fr, a3, a4, a5, a6, a7⟩ := h.cell hst hio
    obtain ⟨olds, hol, hov⟩ := list_of l.length (fun k => arr.getD k undef)
    have hold : RVs g olds l := ⟨hol, fun k v d a e => by
      have hk : k < l.length := (List.getElem?_eq_some_iff.1 e).1
      rw [hov k hk] at a; cases a
      obtain ⟨v, c1, _, _, c4⟩ := a7 k d e
      simp [c1]; exact c4⟩
    by_cases hroom : n0 + n ≤ cap
    · obtain ⟨id, hf, hft, hfs⟩ := h.fresh
      have hlen : l.length + vs.length ≤ m := by
        rw [hll, hvs.1, hdl, ← Nat.add_mul]
        have := Nat.mul_le_mul_right sz' hroom
        omega
      obtain ⟨hth, hR⟩ := fill_obj h hst hio hvs hd1 hlen hf hfs
      refine ⟨_, _, run_append_room_gen hut hu hi hsz hcx hroom b 0 (by rw [Nat.zero_add, ← hll]; exact hth) hv1, ?_⟩
      rw [Nat.zero_add, ← hll]
      exact ⟨_, _, _, G.le_name b m hf, .osl id b m 0 (n0 + n) cap sz' G.name_self hroom hm hfit, hR, ha id hfs⟩
    · obtain ⟨cap', hc1, hc2, hrun⟩ := run_append_grows (ty := ty) hut hu hi hz hsz hcx (base := some ⟨b, 0, none⟩) hcap olds (by rw [hol, hll]) (fun b' e j v ev => by
        cases e
        have hj : j < l.length := by rw [← hol]; exact (List.getElem?_eq_some_iff.1 ev).1
        rw [hov j hj] at ev; cases ev
        obtain ⟨v, c1, c2, _, _⟩ := a7 j _ (List.getElem?_eq_getElem hj)
        rw [add_at, Nat.zero_add, c2]
        simp [c1]) (fun e => by cases e) hbn (by omega) (by omega)
      refine ⟨_, _, hrun, ?_⟩
      refine grown_obj h (St.del_le _ _) hold hvs ?_ (by rw [List.length_append, hll, hdl, Nat.add_mul]) hc1 hc2 hzs e ha
      intro d hd
      rcases List.mem_append.1 hd with hd | hd
      · exact a6 d hd
      · exact hd1 d hd
  | oslc tid b m off n0 cap sz' hio hcap hm hfit =>
    simp only [aapp] at ha
    obtain ⟨rfl, hbn, l, hst, hll, ha⟩ := ha
    have hmx := maxLen_of hbn hby0
    obtain ⟨_, _, arr, T, fr, a3, a4, a5, a6, a7⟩ := h.cell hst hio
    have hmul := Nat.mul_le_mul_right sz' hcap
    by_cases hroom : n0 + n ≤ cap
    · rw [if_pos hroom] at ha
      have hfit2 : off + n0 * sz' + ds.length ≤ m := by
        have := Nat.mul_le_mul_right sz' hroom
        rw [Nat.add_mul] at this
        omega
      obtain ⟨hth, hR⟩ := h.store2 hst hio hvs hd1 hll hfit2
      exact ⟨_, _, run_append_room_gen hut hu hi hsz hcx hroom b off hth hv1, _, g, _, G.le.refl g, .oslc tid b m off (n0 + n) cap sz' hio hroom hm hfit, hR, ha⟩
    · rw [if_neg hroom] at ha
      obtain ⟨olds, hol, hov⟩ := list_of (n0 * sz') (fun k => arr.getD (off + k) undef)
      have hget : ∀ k d, ((l.drop off).take (n0 * sz'))[k]? = some d → l[off + k]? = some d := by
        intro k d e
        rw [List.getElem?_take] at e
        split at e
        · rwa [List.getElem?_drop] at e
        · cases e
      have hlen : ((l.drop off).take (n0 * sz')).length = n0 * sz' := by rw [List.length_take, List.length_drop]; omega
      have hold : RVs g olds ((l.drop off).take (n0 * sz')) := ⟨by rw [hol, hlen], fun k v d a e => by
        have hk : k < n0 * sz' := by rw [← hlen]; exact (List.getElem?_eq_some_iff.1 e).1
        rw [hov k hk] at a; cases a
        obtain ⟨v, c1, _, _, c4⟩ := a7 (off + k) d (hget k d e)
        simp [c1]; exact c4⟩
      obtain ⟨cap', hc1, hc2, hrun⟩ := run_append_grows (ty := ty) hut hu hi hz hsz hcx (base := some ⟨b, off, none⟩) hcap olds hol (fun b' e j v ev => by
        cases e
        have hj : j < n0 * sz' := by rw [← hol]; exact (List.getElem?_eq_some_iff.1 ev).1
        rw [hov j hj] at ev; cases ev
        obtain ⟨v, c1, c2, _, _⟩ := a7 (off + j) _ (List.getElem?_eq_getElem (by omega))
        rw [add_at, c2]
        simp [c1]) (fun e => by cases e) hbn (by omega) (by omega)
      refine ⟨_, _, hrun, ?_⟩
      refine grown_obj h (St.le.refl _) hold hvs ?_ (by rw [List.length_append, hlen, hdl, Nat.add_mul]) hc1 hc2 hzs e ha
      intro d hd
      rcases List.mem_append.1 hd with hd | hd
      · exact a6 d (List.mem_of_mem_drop (List.mem_of_mem_take hd))
      · exact hd1 d hd
  | slNil => simp [aapp] at ha
  | str | int | bool | nilp | nili | agg | tup | ptr | eptr | fn | raw => simp [aapp] at ha

end
end Go.Av

/- The operations over abstract values. -/
set_option linter.unusedSimpArgs false
set_option linter.unusedVariables false
namespace Go.Av
open Go.RowKit

abbrev Env := Nat → D
def Env.set (ρ : Env) (t : Nat) (d : D) : Env := fun s => if s = t then d else ρ s
def Env.put (ρ : Env) : Option Nat → D → Env
  | some t, d => ρ.set t d
  | none, _ => ρ

/-- Constants. -/
def ofVal1 : Value → D
  | .int k n => .int k n
  | .bool b => .bool b
  | .string s => .str s.data.toList
  | .pointer none => .nilp
  | .nilIface => .nili
  | .slice none 0 0 => .nil
  | v => .raw v
def ofVal : Value → D
  | .agg cs => if cs.all (·.oneCell') then .agg (cs.toList.map ofVal1) else .raw (.agg cs)
  | v => ofVal1 v

/-- What a package's variables hold. -/
abbrev Gl := Nat → Option (List D)

def aeval (γ : Gl) (ρ : Env) : Operand → D
  | .tmp t => ρ t
  | .const v => ofVal v
  | .global i => match γ i with | some cs => .eptr cs 0 | none => .raw (.pointer (some ⟨i, 0, none⟩))
  | .func f => .fn f []

def cellsOf : D → List D
  | .agg cs => cs
  | d => [d]
def okc : D → Bool
  | .agg _ => true
  | d => d.one

def tsz (P : Program) (t : TypeId) : Nat := ((P.info? t).map (·.size)).getD 0
def tagg (P : Program) (t : TypeId) : Option Bool :=
  match P.underlying t with
  | some (.struct _) => some true
  | some (.array _ _) => some true
  | some _ => some false
  | none => none
/-- A type's zero, by cells. -/
def zc (P : Program) (t : TypeId) : Option (List D) :=
  match P.info? t with
  | some i => match i.zero with
    | some z => if z.cells.all (·.oneCell') ∧ z.cells.size = i.size then some (z.cells.toList.map ofVal1) else none
    | none => none
  | none => none
/-- A field's place and size. -/
def fld (P : Program) (t : TypeId) (f : Nat) : Option (Nat × Nat × TypeId) :=
  match P.underlying t with
  | some (.struct fs) => match fs[f]? with
    | some x => if 0 < tsz P x.type then some (x.offset, tsz P x.type, x.type) else none
    | none => none
  | _ => none
def arrT (P : Program) (t : TypeId) : Option (Nat × TypeId × Nat) :=
  match P.underlying t with
  | some (.array n e) => if 0 < tsz P e ∧ 1 < n then some (n, e, tsz P e) else none
  | _ => none
def intT (P : Program) (t : TypeId) : Option IntKind :=
  match P.underlying t with
  | some (.int k) => some k
  | _ => none
def isStr (P : Program) (t : TypeId) : Bool :=
  match P.underlying t with
  | some .string => true
  | _ => false
def isPtr (P : Program) (t : TypeId) : Bool :=
  match P.underlying t with
  | some (.pointer _) => true
  | _ => false
def isBool (P : Program) (t : TypeId) : Bool :=
  match P.underlying t with
  | some .bool => true
  | _ => false
def isSl (P : Program) (t : TypeId) : Bool :=
  match P.underlying t with
  | some (.slice _) => true
  | _ => false

/-! ### loads and stores -/
def aread (ag : Bool) (sz : Nat) (l : List D) (off : Nat) (σ : St) (K : D → St → Prop) : Prop :=
  if ag = true then off + sz ≤ l.length ∧ K (.agg ((l.drop off).take sz)) σ else ∃ d, l[off]? = some d ∧ K d σ
def aload (P : Program) (t : TypeId) (p : D) (σ : St) (K : D → St → Prop) : Prop :=
  match tagg P t with
  | none => False
  | some ag => match p with
    | .ptr id off => ∃ l T, σ id = some (.cells l T) ∧ aread ag (tsz P t) l off σ K
    | .eptr cs off => aread ag (tsz P t) cs off σ K
    | _ => False
def astore (P : Program) (t : TypeId) (p x : D) (σ : St) (K : D → St → Prop) : Prop :=
  match p with
  | .ptr id off => (tagg P t).isSome = true ∧ ∃ l T, σ id = some (.cells l T) ∧ okc x = true ∧ (cellsOf x).length = tsz P t ∧ off + (cellsOf x).length ≤ l.length ∧ K (.tup []) (σ.set id (.cells (splice l off (cellsOf x)) T))
  | _ => False
def anew (T : TypeId) (l : List D) (σ : St) (K : D → St → Prop) : Prop := ∀ id, σ id = none → K (.ptr id 0) (σ.set id (.cells l T))
def abox (T : TypeId) (x : D) (σ : St) (K : D → St → Prop) : Prop := okc x = true ∧ anew T (cellsOf x) σ K
def aalloc (P : Program) (t : TypeId) (σ : St) (K : D → St → Prop) : Prop :=
  match zc P t with
  | some z => anew t z σ K
  | none => False
/-- A new row of n elements. -/
def anewRow (e : TypeId) (n sz : Nat) (cs : List D) (σ : St) (K : D → St → Prop) : Prop :=
  (∀ id, σ id = none → K (.sl n cs (some (id, sz))) (σ.set id (.tok e cs))) ∨ (∀ id, σ id = none → K (.osl id 0 n sz) (σ.set id (.cells cs e))) ∨ K (.sl n cs none) σ

/-! ### aggregates -/
def afill (place : Nat → Option (Nat × Nat)) (zs : List D) : List (Nat × D) → Option (List D)
  | [] => some zs
  | (i, d) :: rest => match place i with
    | none => none
    | some (off, size) => if okc d = true ∧ (cellsOf d).length = size ∧ off + size ≤ zs.length then afill place (splice zs off (cellsOf d)) rest else none
def places (P : Program) (t : TypeId) : Option (Nat → Option (Nat × Nat)) :=
  match P.underlying t with
  | some (.struct fs) => (fs.toList.mapM (fun f => (P.info? f.type).map fun i => (f.offset, i.size))).map fun ps => (ps.toArray[·]?)
  | some (.array _ e) => (P.info? e).map fun ie => fun i => some (i * ie.size, ie.size)
  | _ => none
def abuild (P : Program) (t : TypeId) (parts : List (Nat × D)) (σ : St) (K : D → St → Prop) : Prop :=
  match zc P t, places P t with
  | some z, some pl => match afill pl z parts with
    | some cs => K (.agg cs) σ
    | none => False
  | _, _ => False
def abuildSl (P : Program) (t : TypeId) (n : Nat) (parts : List (Nat × D)) (σ : St) (K : D → St → Prop) : Prop :=
  match elt P t with
  | some (e, sz, _) => n * sz ≤ 16777216 ∧ match zc P e with
    | some z => match afill (fun i => some (i * sz, sz)) (List.replicate n z).flatten parts with
      | some cs => anewRow e n sz cs σ K
      | none => False
    | none => False
  | none => False
def amake (P : Program) (t : TypeId) (x y : D) (σ : St) (K : D → St → Prop) : Prop :=
  match elt P t with
  | some (e, sz, bytes) => match zc P e, x, y with
    | some z, .int _ n, .int _ m => n = m ∧ 0 ≤ n ∧ n.toNat * bytes ≤ 140737488355328 ∧ anewRow e n.toNat sz (List.replicate n.toNat z).flatten σ K
    | _, _, _ => False
  | none => False
def afield (P : Program) (t : TypeId) (x : D) (f : Nat) (σ : St) (K : D → St → Prop) : Prop :=
  match fld P t f, x with
  | some (off, sz, ft), .agg cs => match tagg P ft with
    | some ag => aread ag sz cs off σ K
    | none => False
  | _, _ => False
def aextract (x : D) (i : Nat) (σ : St) (K : D → St → Prop) : Prop :=
  match x with
  | .tup ds => ∃ d, ds[i]? = some d ∧ K d σ
  | _ => False

/-! ### addresses -/
def afieldAddr (P : Program) (t : TypeId) (p : D) (f : Nat) (σ : St) (K : D → St → Prop) : Prop :=
  match fld P t f, p with
  | some (off, _), .ptr id o => K (.ptr id (o + off)) σ
  | some (off, _), .eptr cs o => K (.eptr cs (o + off)) σ
  | _, _ => False
def aindexAddr (P : Program) (t : TypeId) (x i : D) (σ : St) (K : D → St → Prop) : Prop :=
  match i with
  | .int _ n => match x with
    | .sl m cs _ => match elt P t with
      | some (_, sz, _) => 0 ≤ n ∧ n < m ∧ K (.eptr cs (n.toNat * sz)) σ
      | none => False
    | .osl id off m s => match elt P t with
      | some (_, sz, _) => 0 ≤ n ∧ n < m ∧ K (.ptr id (off + n.toNat * sz)) σ
      | none => False
    | .oslc id off m _ s => match elt P t with
      | some (_, sz, _) => 0 ≤ n ∧ n < m ∧ K (.ptr id (off + n.toNat * sz)) σ
      | none => False
    | .ptr id off => match arrT P t with
      | some (m, _, sz) => 0 ≤ n ∧ n < m ∧ K (.ptr id (off + n.toNat * sz)) σ
      | none => False
    | .eptr cs off => match arrT P t with
      | some (m, _, sz) => 0 ≤ n ∧ n < m ∧ K (.eptr cs (off + n.toNat * sz)) σ
      | none => False
    | _ => False
  | _ => False
def aindex (P : Program) (t : TypeId) (x i : D) (σ : St) (K : D → St → Prop) : Prop :=
  match i with
  | .int _ n => match x with
    | .str l => isStr P t = true ∧ 0 ≤ n ∧ ∃ b, l[n.toNat]? = some b ∧ K (.int .u8 b.toNat) σ
    | .agg cs => match arrT P t with
      | some (m, e, sz) => 0 ≤ n ∧ n < m ∧ match tagg P e with
        | some ag => aread ag sz cs (n.toNat * sz) σ K
        | none => False
      | none => False
    | _ => False
  | _ => False
def anilCheck (x : D) (σ : St) (K : D → St → Prop) : Prop :=
  match x with
  | .ptr id o => K x σ
  | .eptr cs o => K x σ
  | _ => False

/-- A bound of a slice expression. -/
def abound : Option D → Nat → Option Nat
  | none, dflt => some dflt
  | some (.int _ n), _ => if 0 ≤ n then some n.toNat else none
  | _, _ => none
def aslice (P : Program) (t : TypeId) (x : D) (lo hi mx : Option D) (σ : St) (K : D → St → Prop) : Prop :=
  match x with
  | .str s => isStr P t = true ∧ mx.isNone = true ∧ ∃ l h, abound lo 0 = some l ∧ abound hi s.length = some h ∧ l ≤ h ∧ h ≤ s.length ∧ K (.str ((s.take h).drop l)) σ
  | .nil => (elt P t).isSome = true ∧ (mx.isNone = true ∨ hi.isSome = true) ∧ abound lo 0 = some 0 ∧ abound hi 0 = some 0 ∧ abound mx 0 = some 0 ∧ K .nil σ
  | .e0 => (elt P t).isSome = true ∧ (mx.isNone = true ∨ hi.isSome = true) ∧ abound lo 0 = some 0 ∧ abound hi 0 = some 0 ∧ abound mx 0 = some 0 ∧ K .e0 σ
  | .sl n cs _ => match elt P t with
    | some (_, sz, _) => cs.length = n * sz ∧ ∃ l h, abound lo 0 = some l ∧ abound hi n = some h ∧ l ≤ h ∧ h ≤ n ∧
      match mx with
      | none => K (.sl (h - l) ((cs.take (h * sz)).drop (l * sz)) none) σ
      | some m => hi.isSome = true ∧ ∃ m', abound (some m) 0 = some m' ∧ h ≤ m' ∧ m' ≤ n ∧ K (if l = m' then .e0 else .sl (h - l) ((cs.take (h * sz)).drop (l * sz)) none) σ
    | none => False
  | .osl id off n s => match elt P t with
    | some (_, sz, _) => s = sz ∧ mx.isNone = true ∧ ∃ l h, abound lo 0 = some l ∧ abound hi n = some h ∧ l ≤ h ∧ h ≤ n ∧
      K (if l = h then .sl 0 [] none else .osl id (off + l * sz) (h - l) sz) σ
    | none => False
  | .oslc id off n c s => match elt P t with
    | some (_, sz, _) => s = sz ∧ (mx.isNone = true ∨ hi.isSome = true) ∧ ∃ l h m, abound lo 0 = some l ∧ abound hi n = some h ∧ abound mx c = some m ∧ l ≤ h ∧ h ≤ m ∧ m ≤ c ∧
      K (if l = m then .e0 else .oslc id (off + l * sz) (h - l) (m - l) sz) σ
    | none => False
  | .ptr id off => match arrT P t with
    | some (n, _, sz) => mx.isNone = true ∧ n ≤ 9223372036854775807 ∧ ∃ l h ls T, abound lo 0 = some l ∧ abound hi n = some h ∧ l ≤ h ∧ h ≤ n ∧ σ id = some (.cells ls T) ∧ off + n * sz ≤ ls.length ∧
      K (if l = h then .sl 0 [] none else .osl id (off + l * sz) (h - l) sz) σ
    | none => False
  | .eptr cs off => match arrT P t with
    | some (n, _, sz) => mx.isNone = true ∧ n ≤ 9223372036854775807 ∧ ∃ l h, abound lo 0 = some l ∧ abound hi n = some h ∧ l ≤ h ∧ h ≤ n ∧ off + n * sz ≤ cs.length ∧ K (.sl (h - l) ((cs.take (off + h * sz)).drop (off + l * sz)) none) σ
    | none => False
  | _ => False

/-! ### arithmetic and comparisons -/
def bOr (k : IntKind) (x y : Int) : Int := k.wrap (BitVec.ofInt k.bits x ||| BitVec.ofInt k.bits y).toNat
def bAnd (k : IntKind) (x y : Int) : Int := k.wrap (BitVec.ofInt k.bits x &&& BitVec.ofInt k.bits y).toNat
def bXor (k : IntKind) (x y : Int) : Int := k.wrap (BitVec.ofInt k.bits x ^^^ BitVec.ofInt k.bits y).toNat
def bAndNot (k : IntKind) (x y : Int) : Int := k.wrap (BitVec.ofInt k.bits x &&& ~~~(BitVec.ofInt k.bits y)).toNat
def bNot (k : IntKind) (x : Int) : Int := k.wrap (BitVec.ofInt k.bits (if k.signed then -1 else k.max) ^^^ BitVec.ofInt k.bits x).toNat
def bShl (k : IntKind) (x y : Int) : Int := k.wrap (x * 2 ^ min y.toNat k.bits)
def bShr (k : IntKind) (x y : Int) : Int := x.fdiv (2 ^ min y.toNat k.bits)
def abinI (op : BinOp) (k : IntKind) (a : Int) (k' : IntKind) (b : Int) (σ : St) (K : D → St → Prop) : Prop :=
  match op with
  | .shl => 0 ≤ b ∧ K (.int k (bShl k a b)) σ
  | .shr => 0 ≤ b ∧ K (.int k (bShr k a b)) σ
  | .add => k = k' ∧ K (.int k (k.wrap (a + b))) σ
  | .sub => k = k' ∧ K (.int k (k.wrap (a - b))) σ
  | .mul => k = k' ∧ K (.int k (k.wrap (a * b))) σ
  | .quo => k = k' ∧ b ≠ 0 ∧ K (.int k (k.wrap (a.tdiv b))) σ
  | .rem => k = k' ∧ b ≠ 0 ∧ K (.int k (a.tmod b)) σ
  | .eql => k = k' ∧ K (.bool (a == b)) σ
  | .neq => k = k' ∧ K (.bool (a != b)) σ
  | .lss => k = k' ∧ K (.bool (decide (a < b))) σ
  | .leq => k = k' ∧ K (.bool (decide (a ≤ b))) σ
  | .gtr => k = k' ∧ K (.bool (decide (a > b))) σ
  | .geq => k = k' ∧ K (.bool (decide (a ≥ b))) σ
  | .and => k = k' ∧ K (.int k (bAnd k a b)) σ
  | .or => k = k' ∧ K (.int k (bOr k a b)) σ
  | .xor => k = k' ∧ K (.int k (bXor k a b)) σ
  | .andNot => k = k' ∧ K (.int k (bAndNot k a b)) σ
def abinS (op : BinOp) (a b : List UInt8) (σ : St) (K : D → St → Prop) : Prop :=
  match op with
  | .add => a.length + b.length ≤ 9223372036854775807 ∧ K (.str (a ++ b)) σ
  | .eql => K (.bool (a == b)) σ
  | .neq => K (.bool (!(a == b))) σ
  | .lss => K (.bool (Op.bytesLess a b)) σ
  | .leq => K (.bool (Op.bytesLess a b || a == b)) σ
  | .gtr => K (.bool (!(Op.bytesLess a b || a == b))) σ
  | .geq => K (.bool (!Op.bytesLess a b)) σ
  | _ => False
def aeq (op : BinOp) (r : Bool) (σ : St) (K : D → St → Prop) : Prop :=
  match op with
  | .eql => K (.bool r) σ
  | .neq => K (.bool (!r)) σ
  | _ => False
def eq1 : D → D → Option Bool
  | .int k a, .int k' b => if k = k' then some (a == b) else none
  | .bool a, .bool b => some (a == b)
  | .str a, .str b => some (a == b)
  | _, _ => none
def eqL : List D → List D → Option Bool
  | [], [] => some true
  | x :: xs, y :: ys => match eq1 x y, eqL xs ys with
    | some a, some b => some (a && b)
    | _, _ => none
  | _, _ => none
/-- Fields one behind the other: where the last one ends. -/
def contig (P : Program) : Nat → List Field → Option Nat
  | o, [] => some o
  | o, f :: fs => if f.offset = o then contig P (o + tsz P f.type) fs else none
inductive LK where
  | int (k : IntKind)
  | bool
  | str
  deriving DecidableEq
/-- The kinds of a type's cells, where it is made of whole numbers, bools and strings alone, every field counted, one behind the other. -/
def kinds (P : Program) : Nat → TypeId → Option (List LK)
  | 0, _ => none
  | d + 1, t => match P.underlying t with
    | some (.int k) => if tsz P t = 1 then some [.int k] else none
    | some .bool => if tsz P t = 1 then some [.bool] else none
    | some .string => if tsz P t = 1 then some [.str] else none
    | some (.struct fs) => if (!P.stoodInHeld t && fs.toList.all (fun f => f.name != "_") && (contig P 0 fs.toList == some (tsz P t))) = true then (fs.toList.mapM (fun f => (kinds P d f.type).bind fun l => if l.length = tsz P f.type ∧ 0 < l.length then some l else none)).map List.flatten else none
    | some (.array n e) => (kinds P d e).bind fun l => if l.length = tsz P e ∧ 0 < l.length ∧ tsz P t = n * tsz P e then some (List.replicate n l).flatten else none
    | _ => none
def fit1 : LK → D → Bool
  | .int k, .int k' _ => decide (k = k')
  | .bool, .bool _ => true
  | .str, .str _ => true
  | _, _ => false
def fits : List LK → List D → Bool
  | [], [] => true
  | k :: ks, d :: ds => fit1 k d && fits ks ds
  | _, _ => false
def isPtrI (P : Program) (t : TypeId) : Bool :=
  match P.underlying t with
  | some (.pointer e) => (P.info? e).isSome
  | _ => false
def abin (P : Program) (op : BinOp) (t : TypeId) (x y : D) (σ : St) (K : D → St → Prop) : Prop :=
  match x, y with
  | .int k a, .int k' b => abinI op k a k' b σ K
  | .str a, .str b => abinS op a b σ K
  | .bool a, .bool b => isBool P t = true ∧ aeq op (a == b) σ K
  | .agg xs, .agg ys => (tagg P t = some true ∧ P.eqGuardType P.depth t = false) ∧ ∃ ks, kinds P 20 t = some ks ∧ fits ks xs = true ∧ fits ks ys = true ∧ ∃ b, eqL xs ys = some b ∧ aeq op b σ K
  | .nilp, .nilp => isPtr P t = true ∧ aeq op true σ K
  | .ptr i o, .ptr j u => isPtrI P t = true ∧ (i = j ∧ o = u) ∧ aeq op true σ K
  | .ptr _ _, .nilp => isPtr P t = true ∧ aeq op false σ K
  | .nilp, .ptr _ _ => isPtr P t = true ∧ aeq op false σ K
  | .nil, .nil => isSl P t = true ∧ aeq op true σ K
  | .sl n _ _, .nil => isSl P t = true ∧ 0 < n ∧ aeq op false σ K
  | .osl _ _ _ _, .nil => isSl P t = true ∧ aeq op false σ K
  | _, _ => False
def aun (op : UnOp) (x : D) (σ : St) (K : D → St → Prop) : Prop :=
  match op, x with
  | .neg, .int k n => K (.int k (k.wrap (0 - n))) σ
  | .xor, .int k n => K (.int k (bNot k n)) σ
  | .not, .bool b => K (.bool (!b)) σ
  | _, _ => False
/-- A pointer to an unsafe one. -/
def isUns (P : Program) (src dst : TypeId) : Bool :=
  match P.underlying src, P.underlying dst with
  | some (.pointer t), some .unsafePointer => decide (0 < tsz P t)
  | _, _ => false
/-- An unsafe pointer to one to a variable of the type T that the block begins with. -/
def unsBack (P : Program) (src dst : TypeId) (T : TypeId) : Bool :=
  match P.underlying src, P.underlying dst with
  | some .unsafePointer, some (.pointer u) => decide (u = T) && decide (0 < tsz P T)
  | _, _ => false
def aconv (P : Program) (src dst : TypeId) (x : D) (σ : St) (K : D → St → Prop) : Prop :=
  match x with
  | .int _ n => (P.underlying src).isSome = true ∧ match intT P dst with
    | some k => K (.int k (k.wrap n)) σ
    | none => False
  | .str l => isStr P src = true ∧ ((isStr P dst = true ∧ K (.str l) σ) ∨ (∃ e, elt P dst = some (e, 1, 1) ∧ intT P e = some .u8 ∧ l.length ≤ 140737488355328 ∧ anewRow e l.length 1 (bytesD l) σ K))
  | .ptr i o => (∃ l T, σ i = some (.cells l T) ∧ o < l.length ∧ (isUns P src dst = true ∨ (o = 0 ∧ tsz P T ≤ l.length ∧ unsBack P src dst T = true))) ∧ K (.ptr i o) σ
  | .nil => isStr P dst = true ∧ (∃ e, elt P src = some (e, 1, 1) ∧ intT P e = some .u8) ∧ K (.str []) σ
  | .sl n cs _ => isStr P dst = true ∧ (∃ e, elt P src = some (e, 1, 1) ∧ intT P e = some .u8) ∧ ∃ l, cs = bytesD l ∧ n = l.length ∧ K (.str l) σ
  | .osl id off n _ => isStr P dst = true ∧ (∃ e, elt P src = some (e, 1, 1) ∧ intT P e = some .u8) ∧ ∃ ls T l, σ id = some (.cells ls T) ∧ (ls.drop off).take n = bytesD l ∧ n = l.length ∧ K (.str l) σ
  | _ => False

/-! ### builtins -/
def alen (P : Program) (t : TypeId) (x : D) (σ : St) (K : D → St → Prop) : Prop :=
  match x with
  | .str l => isStr P t = true ∧ K (.int .i64 l.length) σ
  | .nil => isSl P t = true ∧ K (.int .i64 0) σ
  | .e0 => isSl P t = true ∧ K (.int .i64 0) σ
  | .sl n _ _ => isSl P t = true ∧ K (.int .i64 n) σ
  | .osl _ _ n _ => isSl P t = true ∧ K (.int .i64 n) σ
  | .oslc _ _ n _ _ => isSl P t = true ∧ K (.int .i64 n) σ
  | _ => False
def acap (P : Program) (t : TypeId) (x : D) (σ : St) (K : D → St → Prop) : Prop :=
  match x with
  | .nil => isSl P t = true ∧ K (.int .i64 0) σ
  | .e0 => isSl P t = true ∧ K (.int .i64 0) σ
  | .oslc _ _ _ c _ => isSl P t = true ∧ K (.int .i64 c) σ
  | _ => False
def aclear (P : Program) (t : TypeId) (x : D) (σ : St) (K : D → St → Prop) : Prop :=
  match elt P t with
  | some (e, sz, _) => match zc P e with
    | some z => match x with
      | .nil => K (.tup []) σ
      | .e0 => K (.tup []) σ
      | .sl 0 _ _ => K (.tup []) σ
      | .oslc id off n _ s => s = sz ∧ ∃ l T, σ id = some (.cells l T) ∧ off ≤ l.length ∧ K (.tup []) (if n = 0 then σ else σ.set id (.cells (splice l off (List.replicate n z).flatten) T))
      | _ => False
    | none => False
  | none => False
def acopy (P : Program) (dt : TypeId) (d s : D) (σ : St) (K : D → St → Prop) : Prop :=
  match elt P dt with
  | some (_, sz, _) => match xcells σ sz s with
    | some (n, ds) => match d with
      | .osl id off m s' => s' = sz ∧ ∃ l T, σ id = some (.cells l T) ∧ off + min n m * sz ≤ l.length ∧ K (.int .i64 (min n m : Nat)) (σ.set id (.cells (splice l off (ds.take (min n m * sz))) T))
      | .oslc id off m _ s' => s' = sz ∧ ∃ l T, σ id = some (.cells l T) ∧ off ≤ l.length ∧ K (.int .i64 (min n m : Nat)) (σ.set id (.cells (splice l off (ds.take (min n m * sz))) T))
      | .sl 0 _ _ => K (.int .i64 0) σ
      | .nil => K (.int .i64 0) σ
      | .e0 => K (.int .i64 0) σ
      | _ => False
    | none => False
  | none => False
def aminmax (mx : Bool) (xs : List D) (σ : St) (K : D → St → Prop) : Prop :=
  match xs with
  | [.int k a, .int _ b] => K (.int k (if mx then (if a < b then b else a) else (if b < a then b else a))) σ
  | _ => False
/-- A pointer type's element type. -/
def ptrE (P : Program) (t : TypeId) : Option TypeId :=
  match P.underlying t with
  | some (.pointer e) => some e
  | _ => none
def asldata (x : D) (σ : St) (K : D → St → Prop) : Prop :=
  match x with
  | .nil => K .nilp σ
  | .sl n _ (some (id, _)) => 0 < n ∧ K (.ptr id 0) σ
  | _ => False
def austr (P : Program) (pt : TypeId) (x y : D) (σ : St) (K : D → St → Prop) : Prop :=
  match y with
  | .int .i64 n => match x with
    | .nilp => n = 0 ∧ K (.str []) σ
    | .ptr id off => ∃ e cs l, σ id = some (.tok e cs) ∧ ptrE P pt = some e ∧ off = 0 ∧ P.cellsOf e = 1 ∧ cs = bytesD l ∧ n = (l.length : Int) ∧ 0 < n ∧ n ≤ 9223372036854775807 ∧ K (.str l) (σ.del id)
    | _ => False
  | _ => False
def abuiltin (P : Program) (b : Builtin) (ts : List TypeId) (xs : List D) (σ : St) (K : D → St → Prop) : Prop :=
  match b, ts, xs with
  | .len, [t], [x] => alen P t x σ K
  | .cap, [t], [x] => acap P t x σ K
  | .clear, [t], [x] => aclear P t x σ K
  | .append, [t, u], [s, x] => noInt (P.underlying u) = true ∧ (match elt P t with
    | some (el, sz, bytes) => match xcells σ sz x with
      | some (n, ds) => aapp σ el sz bytes s n ds K
      | none => False
    | none => False)
  | .copy, [t, _], [d, s] => acopy P t d s σ K
  | .min, _, xs => aminmax false xs σ K
  | .max, _, xs => aminmax true xs σ K
  | .unsafeSliceData, _, [x] => asldata x σ K
  | .unsafeString, [pt, _], [x, y] => austr P pt x y σ K
  | _, _, _ => False

/-! ### calls -/
/-- The package's variables hold what γ says. -/
def GOK (γ : Gl) (g : G) : Prop := ∀ i cs, γ i = some cs → RV g (.pointer (some ⟨i, 0, none⟩)) (.eptr cs 0)
theorem GOK.mono {γ : Gl} {g g' : G} (h : GOK γ g) (hg : g.le g') : GOK γ g' := fun i cs e => (h i cs e).mono hg

/-- The function that hands on what it is given. -/
def noEsc (P : Program) (f : FuncId) : Bool :=
  match P.funcs[f]? with
  | some fn => fn.name == "internal/abi.NoEscape" && fn.body.isNone && (Extern.findNext fn).isNone
  | none => false
def okFn (P : Program) (f : FuncId) : Bool :=
  match P.funcs[f]? with
  | some fn => fn.name != "runtime.NumGoroutine" && fn.body.isSome
  | none => false

/-- A call, over abstract values: whatever the world that holds them, it returns, and what it returns and leaves is as R says. -/
def ACalls (P : Program) (γ : Gl) (f : FuncId) (args : List D) (σ : St) (R : D → St → Prop) : Prop :=
  okFn P f = true ∧ ∀ (B : Nat) (w0 : World) (g : G) (w : World) (vals : List Value), GOK γ g → RVs g vals args → Rel B w0 g σ w →
    Calls P f vals.toArray w fun e w' => ∃ v, e = .returned v ∧ Comes' B w0 g R v w'

theorem ACalls.mono {P : Program} {γ : Gl} {f : FuncId} {args : List D} {σ : St} {R R' : D → St → Prop} (h : ACalls P γ f args σ R) (hr : ∀ d σ, R d σ → R' d σ) : ACalls P γ f args σ R' :=
  ⟨h.1, fun B w0 g w vals hγ hv hR => (h.2 B w0 g w vals hγ hv hR).mono fun e w' ⟨v, he, hc⟩ => ⟨v, he, hc.mono hr⟩⟩

def aop (P : Program) (γ : Gl) (ρ : Env) (σ : St) (op : Op) (K : D → St → Prop) : Prop :=
  match op with
  | .move x => K (aeval γ ρ x) σ
  | .assign x => K (aeval γ ρ x) σ
  | .pick c a b => (match aeval γ ρ c with
    | .bool t => K (if t = true then aeval γ ρ a else aeval γ ρ b) σ
    | _ => False)
  | .alloc t => aalloc P t σ K
  | .box t x => abox t (aeval γ ρ x) σ K
  | .build t ps => abuild P t (ps.toList.map fun p => (p.1, aeval γ ρ p.2)) σ K
  | .buildSlice t n ps => abuildSl P t n (ps.toList.map fun p => (p.1, aeval γ ρ p.2)) σ K
  | .load t p => aload P t (aeval γ ρ p) σ K
  | .store t p x => astore P t (aeval γ ρ p) (aeval γ ρ x) σ K
  | .nilCheck x => anilCheck (aeval γ ρ x) σ K
  | .binOp op t x y _ => abin P op t (aeval γ ρ x) (aeval γ ρ y) σ K
  | .unOp op _ x => aun op (aeval γ ρ x) σ K
  | .convert s d x => aconv P s d (aeval γ ρ x) σ K
  | .makeSlice t l c => amake P t (aeval γ ρ l) (aeval γ ρ c) σ K
  | .slice t x lo hi mx => aslice P t (aeval γ ρ x) (lo.map (aeval γ ρ)) (hi.map (aeval γ ρ)) (mx.map (aeval γ ρ)) σ K
  | .fieldAddr t x f => afieldAddr P t (aeval γ ρ x) f σ K
  | .field t x f => afield P t (aeval γ ρ x) f σ K
  | .indexAddr t x i => aindexAddr P t (aeval γ ρ x) (aeval γ ρ i) σ K
  | .index t x i => aindex P t (aeval γ ρ x) (aeval γ ρ i) σ K
  | .extract x i => aextract (aeval γ ρ x) i σ K
  | .makeFunc (.func f) first caps => first.size = 0 ∧ K (.fn f (caps.toList.map (aeval γ ρ))) σ
  | .call c => (match c.callee with
    | .value f => (match aeval γ ρ f with
      | .fn f caps => ACalls P γ f (c.args.toList.map (aeval γ ρ) ++ caps) σ K ∨ (noEsc P f = true ∧ ∃ d, c.args.toList.map (aeval γ ρ) ++ caps = [d] ∧ K d σ)
      | _ => False)
    | .builtin b => abuiltin P b c.argTypes.toList (c.args.toList.map (aeval γ ρ)) σ K
    | _ => False)
  | _ => False

/-! ### code -/
def awanted (ops : List Oper) (ρ : Env) (o : Oper) : Option Bool :=
  match o.guard with
  | none => some true
  | some (j, want) => match ops[j]? with
    | some p => match p.dst with
      | some t => match ρ t with
        | .bool b => some (b == want)
        | .tup [] => some false
        | _ => none
      | none => none
    | none => none

/-- A region, in the order of its text. -/
def alist (P : Program) (γ : Gl) (ops : List Oper) (Q : Env → St → Prop) : List Oper → Env → St → Prop
  | [], ρ, σ => Q ρ σ
  | o :: rest, ρ, σ => match awanted ops ρ o with
    | some true => aop P γ ρ σ o.op fun d σ' => alist P γ ops Q rest (ρ.put o.dst d) σ'
    | some false => alist P γ ops Q rest (ρ.put o.dst (.tup [])) σ
    | none => False

/-- A region whose order is open: first the operations that change nothing (mask: true): what they come to, and that they do so in whatever state (obs) .. -/
def passA (P : Program) (γ : Gl) (all : List Oper) (σ0 : St) (K : Env → List (Nat × (St → Prop)) → Prop) : Nat → List Oper → List Bool → Env → List (Nat × (St → Prop)) → Prop
  | _, [], _, ρ, obs => K ρ obs
  | _, _ :: _, [], _, _ => False
  | i, o :: r, true :: m, ρ, obs => match awanted all ρ o with
    | some true => ∃ d, aop P γ ρ σ0 o.op (fun d' σ' => d' = d ∧ σ0.le σ') ∧ passA P γ all σ0 K (i + 1) r m (ρ.put o.dst d) ((i, fun σ => aop P γ ρ σ o.op (fun d' σ' => d' = d ∧ σ.le σ')) :: obs)
    | some false => passA P γ all σ0 K (i + 1) r m (ρ.put o.dst (.tup [])) obs
    | none => False
  | i, _ :: r, false :: m, ρ, obs => passA P γ all σ0 K (i + 1) r m ρ obs
/-- Which operations come before, as bits. -/
def befs : List Oper → List Nat → List Nat
  | [], acc => acc
  | o :: r, acc => befs r (acc ++ [o.after.toList.foldl (fun s e => if Region.binds .any e then s ||| 2 ^ e.on ||| acc.getD e.on 0 else s) 0])
def tmpsOf (xs : List Operand) : List Tmp := xs.filterMap fun | .tmp t => some t | _ => none
def readsOf (ops : List Oper) (o : Oper) : List Tmp :=
  tmpsOf o.op.operands.toList ++ (match o.guard with | some (j, _) => ((ops[j]?).bind (·.dst)).toList | none => [])
/-- What an open order must keep to. -/
def dOk (mask : List Bool) (ops : List Oper) : Bool :=
  let b := befs ops []
  let n := ops.length
  (mask.length == n) &&
  (List.range n).all fun j => match ops[j]? with
    | none => false
    | some oj => (oj.after.toList.all fun e => !Region.binds .any e || decide (e.on < j)) &&
      (List.range n).all fun k => match ops[k]? with
        | none => false
        | some ok => (j == k) ||
          ((match ok.dst with
            | none => true
            | some t => (oj.dst != some t) && (!(readsOf ops oj).contains t || ((b.getD (max j k) 0).testBit (min j k) && (mask.getD k true || !mask.getD j true || decide (j < k)) && (mask.getD j true || !mask.getD k true || decide (k < j))))) &&
           (mask.getD j true || mask.getD k true || (b.getD (max j k) 0).testBit (min j k)))
/-- What must be seen behind the operation j: what may still have to be done then. -/
def unseen (all : List Oper) (j : Nat) (obs : List (Nat × (St → Prop))) : List (Nat × (St → Prop)) := obs.filter fun p => !((befs all []).getD j 0).testBit p.1
/-- .. then the others, in the order of the text. -/
def passT (P : Program) (γ : Gl) (all : List Oper) (obs : List (Nat × (St → Prop))) (Q : Env → St → Prop) : Nat → List Oper → List Bool → Env → St → Prop
  | _, [], _, ρ, σ => Q ρ σ
  | _, _ :: _, [], _, _ => False
  | j, o :: r, false :: m, ρ, σ => match awanted all ρ o with
    | some true => aop P γ ρ σ o.op (fun d σ' => (∀ p ∈ unseen all j obs, p.2 σ') ∧ passT P γ all obs Q (j + 1) r m (ρ.put o.dst d) σ')
    | some false => passT P γ all obs Q (j + 1) r m (ρ.put o.dst (.tup [])) σ
    | none => False
  | j, _ :: r, true :: m, ρ, σ => passT P γ all obs Q (j + 1) r m ρ σ
/-- A region whose order is open. -/
def adraw (P : Program) (γ : Gl) (ops : List Oper) (Q : Env → St → Prop) (ρ : Env) (σ : St) : Prop :=
  ∃ mask, dOk mask ops = true ∧ passA P γ ops σ (fun ρ' obs => passT P γ ops obs Q 0 ops mask ρ' σ) 0 ops mask ρ []

theorem alist_mono {P : Program} {γ : Gl} {ops : List Oper} {Q Q' : Env → St → Prop} (h : ∀ ρ σ, Q ρ σ → Q' ρ σ) (hm : ∀ (ρ : Env) (σ : St) (op : Op) (K K' : D → St → Prop), (∀ d σ, K d σ → K' d σ) → aop P γ ρ σ op K → aop P γ ρ σ op K') :
    ∀ (l : List Oper) (ρ : Env) (σ : St), alist P γ ops Q l ρ σ → alist P γ ops Q' l ρ σ
  | [], ρ, σ, hq => h ρ σ hq
  | o :: rest, ρ, σ, hq => by
    unfold alist at hq ⊢
    split
    · rename_i e; rw [e] at hq; exact hm _ _ _ _ _ (fun d σ hk => alist_mono h hm rest _ _ hk) hq
    · rename_i e; rw [e] at hq; exact alist_mono h hm rest _ _ hq
    · rename_i e; rw [e] at hq; exact hq

end Go.Av

/- The operations over abstract values are what the machine does: all but calls. -/
set_option linter.unusedSimpArgs false
set_option linter.unusedVariables false
namespace Go.Av
open Go.RowKit

structure ER (γ : Gl) (g : G) (a : Act) (ρ : Env) (N : Nat) : Prop where
  size : a.tmps.size = N
  slot : ∀ t, RV g (a.tmps.getD t undef) (ρ t)
  gok : GOK γ g
  defers : a.defers = []

section
variable {P : Program} {γ : Gl} {B : Nat} {w0 : World} {g : G} {σ : St} {w : World} {a : Act} {ρ : Env} {N : Nat}

theorem ER.mono (h : ER γ g a ρ N) {g' : G} (hg : g.le g') : ER γ g' a ρ N := ⟨h.size, fun t => (h.slot t).mono hg, h.gok.mono hg, h.defers⟩

theorem rv_undef (g : G) : RV g undef (.tup []) := .tup #[] [] rfl (fun i v d e => by simp at e)

theorem ER.put (h : ER γ g a ρ N) {t : Nat} (ht : t < N) {v : Value} {d : D} (hv : RV g v d) : ER γ g (a.put (some t) v) (ρ.put (some t) d) N := by
  refine ⟨by simp [Act.put, h.size], fun s => ?_, h.gok, h.defers⟩
  show RV g ((a.tmps.setIfInBounds t v).getD s undef) (if s = t then d else ρ s)
  by_cases hs : s = t
  · subst hs
    rw [if_pos rfl]
    simpa [h.size, ht] using hv
  · rw [if_neg hs]
    have : (a.tmps.setIfInBounds t v).getD s undef = a.tmps.getD s undef := by simp [Array.getElem?_setIfInBounds_ne (Ne.symm hs)]
    rw [this]; exact h.slot s

theorem ER.putO (h : ER γ g a ρ N) {o : Option Nat} (ht : ∀ t, o = some t → t < N) {v : Value} {d : D} (hv : RV g v d) : ER γ g (a.put o v) (ρ.put o d) N := by
  cases o with
  | none => exact h
  | some t => exact h.put (ht t rfl) hv

theorem rv_ofVal1 (g : G) (v : Value) : RV g v (ofVal1 v) := by
  unfold ofVal1
  split
  · exact .int _ _
  · exact .bool _
  · exact .str _ _ rfl
  · exact .nilp
  · exact .nili
  · exact .nil
  · exact .raw _

theorem one_ofVal1 {v : Value} (h : v.oneCell' = true) : (ofVal1 v).one = true := by
  unfold ofVal1
  split <;> first | rfl | exact h

theorem rv_ofVal (g : G) (v : Value) : RV g v (ofVal v) := by
  unfold ofVal
  split
  · rename_i cs
    split
    · rename_i hc
      refine .agg cs _ (by simp) (fun d hd => ?_) (fun i v d e e' => ?_)
      · obtain ⟨v, hv, rfl⟩ := List.mem_map.1 hd
        exact one_ofVal1 (Array.all_eq_true_iff_forall_mem.1 hc v (by simpa using hv))
      · simp only [List.getElem?_map, Array.getElem?_toList, e, Option.map_some, Option.some.injEq] at e'
        subst e'
        exact rv_ofVal1 g v
    · exact .raw _
  · exact rv_ofVal1 g _

theorem ER.eval (h : ER γ g a ρ N) (x : Operand) : RV g (a.eval x) (aeval γ ρ x) := by
  cases x with
  | tmp t => exact h.slot t
  | const v => exact rv_ofVal g v
  | global i =>
    simp only [Act.eval, aeval]
    split
    · rename_i cs e; exact h.gok i cs e
    · exact .raw _
  | func f => exact .fn f #[] [] rfl (fun i v d e => by simp at e)

/-- What is known of a value's cells. -/
theorem rvs_cells {v : Value} {d : D} (h : RV g v d) (hc : okc d = true) : RVs g v.cells.toList (cellsOf d) ∧ ∀ x ∈ cellsOf d, x.one = true := by
  cases h with
  | agg cs ds hl h1 hr => exact ⟨⟨by simpa [Value.cells, cellsOf] using hl, fun k v d e e' => hr k v d (by simpa [Value.cells] using e) e'⟩, h1⟩
  | tup => simp [okc, D.one] at hc
  | raw v =>
    have h1 : v.oneCell' = true := by simpa [okc, D.one] using hc
    have : v.cells = #[v] := by cases v <;> first | rfl | cases h1
    rw [this]
    exact ⟨RVs.single (.raw v), fun x hx => by simp [cellsOf] at hx; subst hx; exact h1⟩
  | int k n => exact ⟨RVs.single (.int k n), fun x hx => by simp [cellsOf] at hx; subst hx; rfl⟩
  | bool b => exact ⟨RVs.single (.bool b), fun x hx => by simp [cellsOf] at hx; subst hx; rfl⟩
  | str s l hl => exact ⟨RVs.single (.str s l hl), fun x hx => by simp [cellsOf] at hx; subst hx; rfl⟩
  | nilp => exact ⟨RVs.single .nilp, fun x hx => by simp [cellsOf] at hx; subst hx; rfl⟩
  | nili => exact ⟨RVs.single .nili, fun x hx => by simp [cellsOf] at hx; subst hx; rfl⟩
  | nil => exact ⟨RVs.single .nil, fun x hx => by simp [cellsOf] at hx; subst hx; rfl⟩
  | e0 a => exact ⟨RVs.single (.e0 a), fun x hx => by simp [cellsOf] at hx; subst hx; rfl⟩
  | slNil a => exact ⟨RVs.single (.slNil a), fun x hx => by simp [cellsOf] at hx; subst hx; rfl⟩
  | sl b off n cap cs t us a1 a2 a3 a4 a5 a6 => exact ⟨RVs.single (.sl b off n cap cs t us a1 a2 a3 a4 a5 a6), fun x hx => by simp [cellsOf] at hx; subst hx; rfl⟩
  | osl id b m off n cap sz a1 a2 a3 a4 => exact ⟨RVs.single (.osl id b m off n cap sz a1 a2 a3 a4), fun x hx => by simp [cellsOf] at hx; subst hx; rfl⟩
  | oslc id b m off n cap sz a1 a2 a3 a4 => exact ⟨RVs.single (.oslc id b m off n cap sz a1 a2 a3 a4), fun x hx => by simp [cellsOf] at hx; subst hx; rfl⟩
  | ptr id b m off a1 => exact ⟨RVs.single (.ptr id b m off a1), fun x hx => by simp [cellsOf] at hx; subst hx; rfl⟩
  | eptr b base off cs us a1 a2 a3 => exact ⟨RVs.single (.eptr b base off cs us a1 a2 a3), fun x hx => by simp [cellsOf] at hx; subst hx; rfl⟩
  | fn f caps ds a1 a2 => exact ⟨RVs.single (.fn f caps ds a1 a2), fun x hx => by simp [cellsOf] at hx; subst hx; rfl⟩

theorem rv_agg {vs : List Value} {ds : List D} (h : RVs g vs ds) (h1 : ∀ d ∈ ds, d.one = true) : RV g (.agg vs.toArray) (.agg ds) :=
  .agg vs.toArray ds (by simpa using h.1) h1 (fun i v d e e' => h.2 i v d (by simpa using e) e')

/-- The size of a type. -/
theorem tsz_info {t : TypeId} {n : Nat} (h : tsz P t = n) (hn : 0 < n) : (P.info? t).map (·.size) = some n := by
  unfold tsz at h
  cases hq : (P.info? t).map (·.size) with
  | none => rw [hq] at h; simp at h; omega
  | some m => rw [hq] at h; simp at h; rw [h]

theorem tagg_true {t : TypeId} (h : tagg P t = some true) : ∃ d, P.underlying t = some d ∧ d.isRow = true := by
  unfold tagg at h
  split at h
  · rename_i fs e; exact ⟨_, e, rfl⟩
  · rename_i n e' e; exact ⟨_, e, rfl⟩
  · rename_i d e _ _; cases h
  · cases h
theorem tagg_false {t : TypeId} (h : tagg P t = some false) : ∃ d, P.underlying t = some d ∧ d.isRow = false := by
  unfold tagg at h
  split at h
  · cases h
  · cases h
  · rename_i d e h1 h2
    refine ⟨d, by assumption, ?_⟩
    cases d <;> first | rfl | (exfalso; first | exact e _ rfl | exact h1 _ _ rfl)
  · cases h

/-- A read out of cells that lie there. -/
theorem read_sound {t : TypeId} {ag : Bool} (hag : tagg P t = some ag) {b base off : Nat} {l : List D} (hl1 : ∀ d ∈ l, d.one = true) (hl : ∀ (k : Nat) d, l[k]? = some d → ∃ v, w.cell? ⟨b, base + k, none⟩ = some v ∧ RV g v d)
    (hR : Rel B w0 g σ w) {K : D → St → Prop} (hr : aread ag (tsz P t) l off σ K) :
    ∃ v, (Instr.loadAt t (.pointer (some ⟨b, base + off, none⟩))).run P w = .ok v w ∧ Comes' B w0 g K v w := by
  cases ag with
  | true =>
    simp only [aread, if_true] at hr
    obtain ⟨hle, hk⟩ := hr
    obtain ⟨d, hu, hd⟩ := tagg_true hag
    obtain ⟨vs, hvl, hv⟩ := list_of (tsz P t) (fun k => (w.cell? ⟨b, base + off + k, none⟩).getD undef)
    have hcell : ∀ k, k < tsz P t → ∀ d, l[off + k]? = some d → w.cell? ⟨b, base + off + k, none⟩ = vs[k]? ∧ ∀ v, vs[k]? = some v → RV g v d := fun k hk d e => by
      obtain ⟨v, c1, c2⟩ := hl _ d e
      rw [hv k hk, Nat.add_assoc, c1]
      refine ⟨rfl, fun v' e' => ?_⟩
      cases e'; exact c2
    have hrv : RVs g vs ((l.drop off).take (tsz P t)) := by
      refine ⟨by simp [hvl]; omega, fun k v d e e' => ?_⟩
      have hk' : k < tsz P t := by rw [← hvl]; exact (List.getElem?_eq_some_iff.1 e).1
      rw [List.getElem?_take, if_pos hk', List.getElem?_drop] at e'
      exact (hcell k hk' d e').2 v e
    have hone : ∀ d ∈ (l.drop off).take (tsz P t), d.one = true := fun d hd => hl1 d (List.mem_of_mem_drop (List.mem_of_mem_take hd))
    refine ⟨.agg vs.toArray, ?_, _, g, σ, G.le.refl g, rv_agg hrv hone, hR, hk⟩
    rcases Nat.eq_zero_or_pos (tsz P t) with h0 | h0
    · have hnil : vs = [] := List.eq_nil_of_length_eq_zero (by omega)
      subst hnil
      cases hq : P.info? t with
      | none =>
        have : P.underlying t = none := by simp [Program.underlying, hq]
        rw [this] at hu; cases hu
      | some i => exact run_loadAt_mid w b (base + off) t [] d (fun j v e => by simp at e) hu hd (by simp [hq]; simpa [tsz, hq] using h0)
    · exact run_loadAt_mid w b (base + off) t vs d (fun j v e => by
        have hj : j < tsz P t := by rw [← hvl]; exact (List.getElem?_eq_some_iff.1 e).1
        have := (hcell j hj _ (List.getElem?_eq_getElem (show off + j < l.length by omega))).1
        rw [this]; exact e) hu hd (by rw [hvl]; exact tsz_info rfl h0)
  | false =>
    simp only [aread, Bool.false_eq_true, if_false] at hr
    obtain ⟨d, hd, hk⟩ := hr
    obtain ⟨v, c1, c2⟩ := hl _ d hd
    obtain ⟨dt, hu, hdt⟩ := tagg_false hag
    refine ⟨v, ?_, d, g, σ, G.le.refl g, c2, hR, hk⟩
    have hagg : (isAgg t).run P w = .ok false w := by
      unfold isAgg
      rw [Sem.run_bind, run_underlying hu w]
      cases dt <;> simp_all
    simp [Instr.loadAt, Instr.sureAddr, loadVar, hagg, load, Sem.run, c1]

theorem load_sound {t : TypeId} {p : Value} {pd : D} (hp : RV g p pd) (hR : Rel B w0 g σ w) {K : D → St → Prop} (hl : aload P t pd σ K) :
    ∃ v, (Instr.loadAt t p).run P w = .ok v w ∧ Comes' B w0 g K v w := by
  unfold aload at hl
  split at hl
  · cases hl
  · rename_i ag hag
    cases hp with
    | ptr id b m off hi =>
      obtain ⟨l, T9, hs, hr⟩ := hl
      obtain ⟨_, _, arr, T, fr, a3, a4, a5, a6, a7⟩ := hR.cell hs hi
      have := read_sound (b := b) (base := 0) hag a6 (fun k d e => by
        obtain ⟨v, _, c2, _, c4⟩ := a7 k d e
        exact ⟨v, by rw [Nat.zero_add]; exact c2, c4⟩) hR hr
      rwa [Nat.zero_add] at this
    | eptr b base off cs us hi h1 hr' =>
      exact read_sound hag h1 (fun k d e => ⟨us k, hR.imm _ _ _ (hi k (List.getElem?_eq_some_iff.1 e).1), hr' k d e⟩) hR hl
    | _ => simp at hl

theorem store_sound {t : TypeId} {p x : Value} {pd xd : D} (hp : RV g p pd) (hx : RV g x xd) (hR : Rel B w0 g σ w) {K : D → St → Prop} (hl : astore P t pd xd σ K) :
    ∃ w', (Instr.storeAt t p x).run P w = .ok () w' ∧ Comes' B w0 g K undef w' := by
  cases hp with
  | ptr id b m off hi =>
    obtain ⟨htg, l, T9, hs, hc, hlen, hfit, hk⟩ := hl
    obtain ⟨hrv, hone⟩ := rvs_cells hx hc
    obtain ⟨hth, hR'⟩ := hR.store hs hi hrv hone hfit
    refine ⟨_, ?_, .tup [], g, _, G.le.refl g, rv_undef g, hR', hk⟩
    have h1 := one_of hrv hone
    have hst := run_storeCells_cells (P := P) b off x.cells.toList 0 w (fun j hj => by simpa using (hth j hj).1) (fun j hj => by simpa using (hth j hj).2) h1
    simp only [Nat.add_zero] at hst
    cases hq : P.info? t with
    | none =>
      have : P.underlying t = none := by simp [Program.underlying, hq]
      simp [tagg, this] at htg
    | some i =>
      have hi' : x.cells.size = i.size := by
        have h2 : tsz P t = i.size := by simp [tsz, hq]
        have h3 := hrv.1
        simp at h3
        omega
      simp [Instr.storeAt, Instr.sureAddr, storeVar, sizeOf, typeInfo, hq, hi']
      simpa using hst
  | _ => simp [astore] at hl

end
end Go.Av

/- The operations over abstract values are what the machine does: new memory, aggregates, addresses. -/
set_option linter.unusedSimpArgs false
set_option linter.unusedVariables false
namespace Go.Av
open Go.RowKit

section
variable {P : Program} {γ : Gl} {B : Nat} {w0 : World} {g : G} {σ : St} {w : World}

theorem new_sound (hR : Rel B w0 g σ w) {vs : List Value} {ds : List D} (hv : RVs g vs ds) (h1 : ∀ d ∈ ds, d.one = true) (T : TypeId) {K : D → St → Prop} (hk : anew T ds σ K) :
    Comes' B w0 g K (.pointer (some ⟨w.heap.size, 0, none⟩)) (w.alloc (.cells vs.toArray T)) := by
  obtain ⟨id, hf, _, hs⟩ := hR.fresh
  have hR' := hR.alloc hf hs vs.toArray T ds (by simpa using Nat.le_of_eq hv.1.symm) h1 (fun k v d e e' => hv.2 k v d (by simpa using e) e') (0, 0) (fun o _ => by omega)
  exact ⟨_, _, _, G.le_name _ _ hf, .ptr id w.heap.size _ 0 G.name_self, hR', hk id hs⟩

theorem box_sound (hR : Rel B w0 g σ w) {x : Value} {xd : D} (hx : RV g x xd) (T : TypeId) {K : D → St → Prop} (hk : abox T xd σ K) :
    ∃ v w', (Instr.box T x).run P w = .ok v w' ∧ Comes' B w0 g K v w' := by
  obtain ⟨hc, hn⟩ := hk
  obtain ⟨hrv, hone⟩ := rvs_cells hx hc
  refine ⟨_, _, ?_, new_sound hR hrv hone T hn⟩
  simp [Instr.box, newVar, newRow]

theorem zc_spec {t : TypeId} {z : List D} (h : zc P t = some z) : ∃ i v, P.info? t = some i ∧ i.zero = some v ∧ v.cells.size = i.size ∧ (∀ g, RVs g v.cells.toList z) ∧ ∀ d ∈ z, d.one = true := by
  unfold zc at h
  split at h
  · rename_i i hi
    split at h
    · rename_i v hv
      split at h
      · rename_i hc
        cases h
        refine ⟨i, v, hi, hv, hc.2, fun g => ⟨by simp, fun k u d e e' => ?_⟩, fun d hd => ?_⟩
        · simp only [List.getElem?_map, e, Option.map_some, Option.some.injEq] at e'
          subst e'
          exact rv_ofVal1 g u
        · obtain ⟨u, hu, rfl⟩ := List.mem_map.1 hd
          exact one_ofVal1 (Array.all_eq_true_iff_forall_mem.1 hc.1 u (by simpa using hu))
      · cases h
    · cases h
  · cases h

theorem alloc_sound (hR : Rel B w0 g σ w) {T : TypeId} {K : D → St → Prop} (hk : aalloc P T σ K) :
    ∃ v w', (Instr.alloc T true (.tuple #[])).run P w = .ok v w' ∧ Comes' B w0 g K v w' := by
  unfold aalloc at hk
  split at hk
  · rename_i z hz
    obtain ⟨i, v, hi, hv, hsz, hrv, h1⟩ := zc_spec hz
    refine ⟨_, _, ?_, new_sound hR (hrv g) h1 T hk⟩
    simp [Instr.alloc, zeroValue, typeInfo, hi, hv, newVar, newRow]
  · cases hk

/-- A new row. -/
theorem newRow_sound (hR : Rel B w0 g σ w) {arr : Array Value} {n sz cap : Nat} {ds : List D} (h1 : ∀ d ∈ ds, d.one = true) (hl : ds.length = n * sz) (hv : ∀ (k : Nat) v d, arr[k]? = some v → ds[k]? = some d → RV g v d) (hs : arr.size = cap * sz) (hc : n ≤ cap) (hm : cap ≤ maxLen)
    (T : TypeId) (fr : Nat × Nat) (hfr : ∀ o, o < arr.size → ¬(fr.1 ≤ o ∧ o < fr.2)) {K : D → St → Prop} (hk : anewRow T n sz ds σ K) :
    Comes' B w0 g K (.slice (some ⟨w.heap.size, 0, none⟩) n cap) (w.alloc (.cells arr T fr)) := by
  obtain ⟨id, hf, ht, hsi⟩ := hR.fresh
  have hle : n * sz ≤ cap * sz := Nat.mul_le_mul_right _ hc
  rcases hk with hk | hk | hk
  · have hR' := hR.allocRow hf ht hsi arr T (n * sz) (by rw [hs]; exact hle) fr hfr ds (Nat.le_of_eq hl) hv
    have hg := G.le_row (b := w.heap.size) arr.size arr (n * sz) hf ht (imm_none_new hR (Nat.le_refl _))
    refine ⟨_, _, _, hg, ?_, hR', hk id hsi⟩
    refine .sl w.heap.size 0 n cap ds _ (fun k => arr.getD k undef) hc hm (fun k hk => ?_) h1 (fun k d e => ?_) (fun id' sz' e => ?_)
    · have hk' : k < arr.size := by omega
      show (if w.heap.size = w.heap.size then _ else _) = _
      rw [if_pos rfl, Nat.zero_add, if_pos (by omega)]
      simp [hk']
    · have hk' : k < arr.size := by have := (List.getElem?_eq_some_iff.1 e).1; omega
      simp [hk']
      exact (hv k _ d (Array.getElem?_eq_getElem hk') e).mono hg
    · cases e
      exact ⟨rfl, hl, by simp [G.row, hl], _, if_pos rfl, by rw [hs]; exact Nat.le_refl _⟩
  · have hR' := hR.alloc hf hsi arr T ds (by rw [hl, hs]; exact hle) h1 hv fr hfr
    exact ⟨_, _, _, G.le_name _ _ hf, .osl id w.heap.size _ 0 n cap sz G.name_self hc hm (by rw [hs]; omega), hR', hk id hsi⟩
  · have hR' := hR.allocRow hf ht hsi arr T (n * sz) (by rw [hs]; exact hle) fr hfr ds (Nat.le_of_eq hl) hv
    have hg := G.le_row (b := w.heap.size) arr.size arr (n * sz) hf ht (imm_none_new hR (Nat.le_refl _))
    refine ⟨_, _, σ, hg, ?_, hR'.forget (fun i o e => ?_), hk⟩
    refine .sl w.heap.size 0 n cap ds _ (fun k => arr.getD k undef) hc hm (fun k hk => ?_) h1 (fun k d e => ?_) (fun id' sz' e => ?_)
    · have hk' : k < arr.size := by omega
      show (if w.heap.size = w.heap.size then _ else _) = _
      rw [if_pos rfl, Nat.zero_add, if_pos (by omega)]
      simp [hk']
    · have hk' : k < arr.size := by have := (List.getElem?_eq_some_iff.1 e).1; omega
      simp [hk']
      exact (hv k _ d (Array.getElem?_eq_getElem hk') e).mono hg
    · cases e
    · simp only [St.set]
      split
      · rename_i hi; subst hi; rw [hsi] at e; cases e
      · exact e

/-! ### aggregates -/
theorem fill_sound (place : Nat → Option (Nat × Nat)) : ∀ (ps : List (Nat × Value)) (qs : List (Nat × D)) (arr : Array Value) (zs cs : List D),
    ps.length = qs.length → (∀ (k : Nat) p q, ps[k]? = some p → qs[k]? = some q → p.1 = q.1 ∧ RV g p.2 q.2) → RVs g arr.toList zs → (∀ d ∈ zs, d.one = true) → afill place zs qs = some cs →
    ∃ arr', Instr.fill place arr ps = some arr' ∧ RVs g arr'.toList cs ∧ ∀ d ∈ cs, d.one = true
  | [], [], arr, zs, cs, _, _, hv, h1, h => by
    simp only [afill] at h; cases h
    exact ⟨arr, rfl, hv, h1⟩
  | [], _ :: _, _, _, _, hl, _, _, _, _ => by simp at hl
  | _ :: _, [], _, _, _, hl, _, _, _, _ => by simp at hl
  | (i, v) :: ps, (j, d) :: qs, arr, zs, cs, hl, hp, hv, h1, h => by
    obtain ⟨hij, hrv⟩ := hp 0 _ _ rfl rfl
    simp only at hij hrv
    subst hij
    simp only [afill] at h
    split at h
    · cases h
    · rename_i off size hpl
      split at h
      · rename_i hc
        obtain ⟨hok, hlen, hfit⟩ := hc
        obtain ⟨hcv, hone⟩ := rvs_cells hrv hok
        have hvs : v.cells.size = size := by have := hcv.1; simp at this; omega
        have hfold : ∀ (vs : List Value) (j o : Nat) (arr : Array Value), (vs.zipIdx j).foldl (fun cs (x : Value × Nat) => cs.setIfInBounds (o + x.2) x.1) arr = setA arr (o + j) vs := by
          intro vs
          induction vs with
          | nil => intro j o arr; rfl
          | cons v r ih => intro j o arr; simp only [List.zipIdx_cons, List.foldl_cons, setA]; rw [ih (j + 1) o]; rfl
        have hfold' : v.cells.zipIdx.foldl (fun cs (x : Value × Nat) => cs.setIfInBounds (off + x.2) x.1) arr = setA arr off v.cells.toList := by
          rw [← Array.foldl_toList, Array.toList_zipIdx, hfold]; rfl
        have harr : arr.size = zs.length := by have := hv.1; simpa using this
        obtain ⟨arr', e1, e2, e3⟩ := fill_sound place ps qs (setA arr off v.cells.toList) (splice zs off (cellsOf d)) cs (by simpa using hl) (fun k p q e e' => hp (k + 1) p q (by simpa using e) (by simpa using e'))
          ⟨by simp [size_setA, length_splice (show off + (cellsOf d).length ≤ zs.length by omega), harr], fun k u x e e' => by
            rw [Array.getElem?_toList, get_setA _ _ _ (by simp; omega)] at e
            rw [get_splice (by omega)] at e'
            have hll : v.cells.toList.length = (cellsOf d).length := hcv.1
            rw [hll] at e
            by_cases hk : off ≤ k ∧ k < off + (cellsOf d).length
            · rw [if_pos hk] at e e'; exact hcv.2 _ u x e e'
            · rw [if_neg hk] at e e'; exact hv.2 k u x (by simpa using e) e'⟩
          (fun x hx => by
            simp only [splice, List.mem_append] at hx
            rcases hx with (hx | hx) | hx
            · exact h1 x (List.mem_of_mem_take hx)
            · exact hone x hx
            · exact h1 x (List.mem_of_mem_drop hx)) h
        refine ⟨arr', ?_, e2, e3⟩
        simp only [Instr.fill, hpl]
        rw [if_neg (by simp [hvs]; omega), hfold']
        exact e1
      · cases h

theorem build_sound (hR : Rel B w0 g σ w) {t : TypeId} {ps : Array (Nat × Value)} {qs : List (Nat × D)} (hl : ps.toList.length = qs.length) (hp : ∀ (k : Nat) p q, ps.toList[k]? = some p → qs[k]? = some q → p.1 = q.1 ∧ RV g p.2 q.2)
    {K : D → St → Prop} (hk : abuild P t qs σ K) : ∃ v, (Instr.build t ps).run P w = .ok v w ∧ Comes' B w0 g K v w := by
  unfold abuild at hk
  split at hk
  · rename_i z pl hz hpl
    split at hk
    · rename_i cs hcs
      obtain ⟨i, v, hi, hv, hsz, hrv, h1⟩ := zc_spec hz
      obtain ⟨arr', e1, e2, e3⟩ := fill_sound (g := g) pl ps.toList qs v.cells z cs hl hp (hrv g) h1 hcs
      refine ⟨.agg arr', run_build w t ps arr' ?_, _, g, σ, G.le.refl g, ?_, hR, hk⟩
      · unfold Program.built
        unfold places at hpl
        rw [hi]
        split at hpl
        · rename_i fs hu
          rw [hu]
          cases hm : fs.toList.mapM (fun f => (P.info? f.type).map fun i => (f.offset, i.size)) with
          | none => rw [hm] at hpl; cases hpl
          | some pp =>
            rw [hm] at hpl
            simp only [Option.map_some, Option.some.injEq] at hpl
            subst hpl
            simp only [hv, hm]
            exact e1
        · rename_i n e hu
          rw [hu]
          cases hq : P.info? e with
          | none => rw [hq] at hpl; cases hpl
          | some ie =>
            rw [hq] at hpl
            simp only [Option.map_some, Option.some.injEq] at hpl
            subst hpl
            simp only [hv, hq]
            exact e1
        · cases hpl
      · have := rv_agg e2 e3
        simpa using this
    · cases hk
  · cases hk

theorem replicate_flatten_get {α : Type} (z : List α) (n : Nat) (hz : 0 < z.length) (k : Nat) (hk : k < n * z.length) : (List.replicate n z).flatten[k]? = z[k % z.length]? := by
  induction n generalizing k with
  | zero => simp at hk
  | succ n ih =>
    rw [List.replicate_succ, List.flatten_cons]
    by_cases h : k < z.length
    · rw [List.getElem?_append_left h, Nat.mod_eq_of_lt h]
    · rw [List.getElem?_append_right (by omega), ih (k - z.length) (by rw [Nat.add_mul, Nat.one_mul] at hk; omega)]
      rw [← Nat.mod_eq_sub_mod (by omega)]

theorem length_replicate_flatten {α : Type} (z : List α) (n : Nat) : (List.replicate n z).flatten.length = n * z.length := by
  induction n with
  | zero => simp
  | succ n ih => rw [List.replicate_succ, List.flatten_cons, List.length_append, ih, Nat.add_mul, Nat.one_mul, Nat.add_comm]

/-- n times a type's zero. -/
theorem zeros_sound {z : List D} {v : Value} (hv : RVs g v.cells.toList z) (hz : 0 < v.cells.size) (n : Nat) :
    RVs g (((Array.range (n * v.cells.size)).map fun i => v.cells[i % v.cells.size]!).toList) (List.replicate n z).flatten := by
  have hl : z.length = v.cells.size := by have := hv.1; simp at this; exact this.symm
  refine ⟨by simp [hl], fun k u d e e' => ?_⟩
  have hk : k < n * v.cells.size := by have := (List.getElem?_eq_some_iff.1 e).1; simpa using this
  have hm : k % v.cells.size < v.cells.size := Nat.mod_lt _ hz
  rw [replicate_flatten_get z n (by omega) k (by rw [hl]; exact hk), hl] at e'
  have e2 : v.cells[k % v.cells.size]! = u := by simpa [hk] using e
  refine hv.2 (k % v.cells.size) u d ?_ e'
  rw [Array.getElem?_toList, ← e2]
  simp [hm]

theorem one_zeros {z : List D} (h : ∀ d ∈ z, d.one = true) (n : Nat) : ∀ d ∈ (List.replicate n z).flatten, d.one = true := by
  intro d hd
  simp only [List.mem_flatten, List.mem_replicate] at hd
  obtain ⟨l, ⟨_, rfl⟩, hd⟩ := hd
  exact h d hd

theorem buildSl_sound (hR : Rel B w0 g σ w) {t : TypeId} {n : Nat} {ps : Array (Nat × Value)} {qs : List (Nat × D)} (hl : ps.toList.length = qs.length) (hp : ∀ (k : Nat) p q, ps.toList[k]? = some p → qs[k]? = some q → p.1 = q.1 ∧ RV g p.2 q.2)
    {K : D → St → Prop} (hk : abuildSl P t n qs σ K) : ∃ v w', (Instr.buildSlice t n ps).run P w = .ok v w' ∧ Comes' B w0 g K v w' := by
  unfold abuildSl at hk
  split at hk
  · rename_i e sz bytes he
    obtain ⟨hn, hk⟩ := hk
    split at hk
    · rename_i z hz
      split at hk
      · rename_i cs hcs
        obtain ⟨hut, i, z', hi, hzz, hzs, hsz, hsz0, _, _⟩ := elt_spec he
        obtain ⟨i', v, hi', hv, hsz', hrv, h1⟩ := zc_spec hz
        rw [hi] at hi'; cases hi'
        rw [hzz] at hv; cases hv
        have hz0 : 0 < z'.cells.size := by omega
        have hzr := zeros_sound (hrv g) hz0 n
        rw [hzs] at hzr
        have hcl : cs.length = n * sz := by
          have hlen : ∀ (qs : List (Nat × D)) (zs cs : List D), afill (fun i => some (i * sz, sz)) zs qs = some cs → cs.length = zs.length := by
            intro qs
            induction qs with
            | nil => intro zs cs h; simp only [afill] at h; cases h; rfl
            | cons q r ih =>
              intro zs cs h
              obtain ⟨j, d⟩ := q
              simp only [afill] at h
              split at h
              · rename_i hc
                rw [ih _ _ h, length_splice (by omega)]
              · cases h
          rw [hlen _ _ _ hcs, length_replicate_flatten]
          have := (hrv g).1; simp at this; rw [← this, hzs]
        obtain ⟨arr', e1, e2, e3⟩ := fill_sound (g := g) _ ps.toList qs _ _ cs hl hp hzr (one_zeros h1 n) hcs
        have hsz2 : arr'.size = n * sz := by have := e2.1; simp at this; omega
        refine ⟨_, _, ?_, newRow_sound hR e3 hcl (fun k u d e e' => e2.2 k u d (by simpa using e) e') hsz2 (Nat.le_refl _) (by unfold maxLen; have := Nat.le_mul_of_pos_right n hsz0; omega) e (0, 0) (fun o _ => by omega) hk⟩
        have hcond : ¬ (16777216 < n * sz) := by omega
        by_cases h0 : n * sz = 0
        · have hnz : n = 0 := by
            rcases Nat.mul_eq_zero.1 h0 with h | h
            · exact h
            · omega
          subst hnz
          have e1' : Instr.fill (fun i => some (i * sz, sz)) #[] ps.toList = some arr' := by
            have hr : ((Array.range (0 * sz)).map fun i => z'.cells[i % sz]!) = #[] := by apply Array.ext'; simp
            rw [hr] at e1; exact e1
          have hr2 : ∀ f : Nat → Value, (Array.range 0).map f = #[] := fun f => by apply Array.ext'; simp
          simp [Instr.buildSlice, run_underlying hut, sizeOf, typeInfo, hi, hsz, newRow, hr2, e1']
        · have h0' : ¬ (n = 0 ∨ sz = 0) := by
            rintro (h | h)
            · subst h; simp at h0
            · omega
          simp [Instr.buildSlice, run_underlying hut, sizeOf, typeInfo, zeroValue, hi, hzz, hsz, hcond, h0', h0, newRow, hzs] at e1 ⊢
          simp [e1]
      · cases hk
    · cases hk
  · cases hk

theorem make_sound (hR : Rel B w0 g σ w) {t : TypeId} {x y : Value} {xd yd : D} (hx : RV g x xd) (hy : RV g y yd) {K : D → St → Prop} (hk : amake P t xd yd σ K) :
    ∃ v w', (Instr.makeSlice t x y).run P w = .ok v w' ∧ Comes' B w0 g K v w' := by
  unfold amake at hk
  split at hk
  · rename_i e sz bytes he
    split at hk
    · rename_i z k n k' m hz
      cases hx
      cases hy
      obtain ⟨rfl, hn0, hb, hk⟩ := hk
      obtain ⟨hut, i, z', hi, hzz, hzs, hsz, hsz0, hby, hby0⟩ := elt_spec he
      obtain ⟨i', v, hi', hv, hsz', hrv, h1⟩ := zc_spec hz
      rw [hi] at hi'; cases hi'
      rw [hzz] at hv; cases hv
      obtain ⟨nn, rfl⟩ := Int.eq_ofNat_of_zero_le hn0
      simp only [Int.toNat_natCast] at hb hk
      have hmx := maxLen_of hb hby0
      have hzr := zeros_sound (hrv g) (by omega) nn
      rw [hzs] at hzr
      have hzl : z.length = sz := by have := (hrv g).1; simp at this; omega
      have hb' : (i.bytes : Int) * ((nn : Nat) : Int) ≤ 281474976710656 := by
        have h3 : ∀ q : Nat, q ≤ 140737488355328 → (q : Int) ≤ 281474976710656 := fun q hq => by omega
        rw [hby, Int.mul_comm, ← Int.natCast_mul]
        exact h3 _ hb
      have hrun := run_make (P := P) w t e i z' hut hi hzz k k' (nn : Int) (nn : Int) (by omega) (by omega) hb' (by omega)
      simp only [Int.toNat_natCast, hsz] at hrun
      have hsm : (madeCells z'.cells (nn * sz)).size = nn * sz := size_madeCells _ _
      refine ⟨_, _, hrun, newRow_sound hR (one_zeros h1 nn) (by rw [length_replicate_flatten, hzl]) (fun k u d e e' => ?_) hsm (Nat.le_refl _) (by unfold maxLen; omega) e (0, 0) (fun o _ => by omega) hk⟩
      refine hzr.2 k u d ?_ e'
      rw [Array.getElem?_toList]
      rw [← hzs] at e ⊢
      exact e
    · cases hk
  · cases hk

end
end Go.Av

/- The operations over abstract values are what the machine does: addresses, indexes, slices, builtins. -/
set_option linter.unusedSimpArgs false
set_option linter.unusedVariables false
namespace Go.Av
open Go.RowKit

section
variable {P : Program} {γ : Gl} {B : Nat} {w0 : World} {g : G} {σ : St} {w : World}

/-- A value, the world as it was. -/
theorem same_sound (hR : Rel B w0 g σ w) {v : Value} {d : D} (hv : RV g v d) {K : D → St → Prop} (hk : K d σ) : Comes' B w0 g K v w := ⟨d, g, σ, G.le.refl g, hv, hR, hk⟩

theorem nilCheck_sound (hR : Rel B w0 g σ w) {x : Value} {xd : D} (hx : RV g x xd) {K : D → St → Prop} (hk : anilCheck xd σ K) : (∃ a, x = .pointer (some a)) ∧ Comes' B w0 g K x w := by
  cases hx with
  | ptr id b m off hi => exact ⟨⟨_, rfl⟩, same_sound hR (.ptr id b m off hi) hk⟩
  | eptr b base off cs us a1 a2 a3 => exact ⟨⟨_, rfl⟩, same_sound hR (.eptr b base off cs us a1 a2 a3) hk⟩
  | _ => simp [anilCheck] at hk

theorem extract_sound (hR : Rel B w0 g σ w) {x : Value} {xd : D} (hx : RV g x xd) {i : Nat} {K : D → St → Prop} (hk : aextract xd i σ K) : ∃ v, (Instr.extract x i).run P w = .ok v w ∧ Comes' B w0 g K v w := by
  cases hx with
  | tup vs ds hl hr =>
    obtain ⟨d, hd, hk⟩ := hk
    have hi : i < vs.size := by rw [hl]; exact (List.getElem?_eq_some_iff.1 hd).1
    exact ⟨vs[i], by simp [Instr.extract, hi], same_sound hR (hr i _ d (Array.getElem?_eq_getElem hi) hd) hk⟩
  | _ => simp [aextract] at hk

/-- A part of an aggregate's cells. -/
theorem part_sound (hR : Rel B w0 g σ w) {t : TypeId} {ag : Bool} (hag : tagg P t = some ag) {cs : Array Value} {ds : List D} (hl : cs.size = ds.length) (h1 : ∀ d ∈ ds, d.one = true) (h : ∀ (i : Nat) v d, cs[i]? = some v → ds[i]? = some d → RV g v d) {off : Nat}
    {K : D → St → Prop} (hk : aread ag (tsz P t) ds off σ K) : ∃ v, (part t cs off).run P w = .ok v w ∧ Comes' B w0 g K v w := by
  have hinfo : ∃ i, P.info? t = some i ∧ i.size = tsz P t := by
    cases hq : P.info? t with
    | none =>
      have : P.underlying t = none := by simp [Program.underlying, hq]
      simp [tagg, this] at hag
    | some i => exact ⟨i, rfl, by simp [tsz, hq]⟩
  obtain ⟨i, hi, his⟩ := hinfo
  cases ag with
  | true =>
    simp only [aread, if_true] at hk
    obtain ⟨d, hu, hd⟩ := tagg_true hag
    have hagg : (isAgg t).run P w = .ok true w := by
      unfold isAgg
      rw [Sem.run_bind, run_underlying hu w]
      cases d <;> simp_all
    refine ⟨.agg (cs.extract off (off + tsz P t)), by simp [part, hagg, sizeOf, typeInfo, hi, his], same_sound hR (.agg _ _ (by simp; omega) (fun d hd => h1 d (List.mem_of_mem_drop (List.mem_of_mem_take hd))) (fun k v d e e' => ?_)) hk.2⟩
    have hk' : k < tsz P t := by
      have := (List.getElem?_eq_some_iff.1 e').1
      simp at this; omega
    rw [List.getElem?_take, if_pos hk', List.getElem?_drop] at e'
    refine h (off + k) v d ?_ e'
    rw [Array.getElem?_extract] at e
    split at e
    · exact e
    · cases e
  | false =>
    simp only [aread, Bool.false_eq_true, if_false] at hk
    obtain ⟨d, hd, hk⟩ := hk
    have ho : off < cs.size := by rw [hl]; exact (List.getElem?_eq_some_iff.1 hd).1
    obtain ⟨dt, hu, hdt⟩ := tagg_false hag
    have hagg : (isAgg t).run P w = .ok false w := by
      unfold isAgg
      rw [Sem.run_bind, run_underlying hu w]
      cases dt <;> simp_all
    exact ⟨cs[off], by simp [part, hagg, ho], same_sound hR (h off _ d (Array.getElem?_eq_getElem ho) hd) hk⟩

theorem fld_spec {t : TypeId} {f : Nat} {o n : Nat} {ft : TypeId} (h : fld P t f = some (o, n, ft)) : ∃ fs x, P.underlying t = some (.struct fs) ∧ fs[f]? = some x ∧ x.offset = o ∧ x.type = ft ∧ tsz P ft = n ∧ 0 < n := by
  unfold fld at h
  split at h
  · rename_i fs hu
    split at h
    · rename_i x hx
      split at h
      · rename_i hs
        cases h
        exact ⟨fs, x, hu, hx, rfl, rfl, rfl, hs⟩
      · cases h
    · cases h
  · cases h

theorem field_sound (hR : Rel B w0 g σ w) {t : TypeId} {f : Nat} {x : Value} {xd : D} (hx : RV g x xd) {K : D → St → Prop} (hk : afield P t xd f σ K) : ∃ v, (Instr.field t x f).run P w = .ok v w ∧ Comes' B w0 g K v w := by
  unfold afield at hk
  split at hk
  · rename_i o n ft cs hf
    split at hk
    · rename_i ag hag
      obtain ⟨fs, y, hu, hy, rfl, rfl, hn, _⟩ := fld_spec hf
      cases hx with
      | agg cs' _ hl h1 hr =>
        rw [← hn] at hk
        obtain ⟨v, e1, e2⟩ := part_sound hR hag hl h1 hr hk
        exact ⟨v, by simp [Instr.field, run_underlying hu, hy, asAgg, e1], e2⟩
    · cases hk
  · cases hk

theorem fieldAddr_sound (hR : Rel B w0 g σ w) {t : TypeId} {f : Nat} {x : Value} {xd : D} (hx : RV g x xd) {K : D → St → Prop} (hk : afieldAddr P t xd f σ K) : ∃ v, (Instr.fieldAt t x f).run P w = .ok v w ∧ Comes' B w0 g K v w := by
  have key : ∀ b o off n ft, fld P t f = some (off, n, ft) → (Instr.fieldAt t (.pointer (some ⟨b, o, none⟩)) f).run P w = .ok (.pointer (some ⟨b, o + off, none⟩)) w := by
    intro b o off n ft hf
    obtain ⟨fs, y, hu, hy, rfl, rfl, hn, h0⟩ := fld_spec hf
    have hinfo := tsz_info hn h0
    obtain ⟨i, hi, his⟩ := Option.map_eq_some_iff.1 hinfo
    have hs : ¬ i.size = 0 := by omega
    simp [Instr.fieldAt, run_underlying hu, hy, Instr.sureAddr, fieldPlace, sizeOf, typeInfo, hi, hs, add_at]
  unfold afieldAddr at hk
  split at hk
  · rename_i off n id o hf
    cases hx with
    | ptr _ b m _ hi => exact ⟨_, key b o off _ _ hf, same_sound hR (.ptr id b m (o + off) hi) hk⟩
  · rename_i off n cs o hf
    cases hx with
    | eptr b base _ _ us a1 a2 a3 => exact ⟨_, key b (base + o) off _ _ hf, same_sound hR (by rw [Nat.add_assoc]; exact .eptr b base (o + off) cs us a1 a2 a3) hk⟩
  · cases hk

theorem arrT_spec {t : TypeId} {n : Nat} {e : TypeId} {sz : Nat} (h : arrT P t = some (n, e, sz)) : P.underlying t = some (.array n e) ∧ tsz P e = sz ∧ 0 < sz ∧ 1 < n ∧ ∃ i, P.info? e = some i ∧ i.size = sz := by
  unfold arrT at h
  split at h
  · rename_i n' e' hu
    split at h
    · rename_i hc
      cases h
      obtain ⟨i, hi, his⟩ := Option.map_eq_some_iff.1 (tsz_info rfl hc.1)
      exact ⟨hu, rfl, hc.1, hc.2, i, hi, his⟩
    · cases h
  · cases h

theorem indexAddr_sound (hR : Rel B w0 g σ w) {t : TypeId} {x i : Value} {xd id_ : D} (hx : RV g x xd) (hi : RV g i id_) {K : D → St → Prop} (hk : aindexAddr P t xd id_ σ K) : ∃ v, (Instr.indexAt t x i).run P w = .ok v w ∧ Comes' B w0 g K v w := by
  have keyS : ∀ (b o m c : Nat) (k : IntKind) (n : Int) (e : TypeId) (sz bytes : Nat), elt P t = some (e, sz, bytes) → 0 ≤ n → n < (m : Int) → (Instr.indexAt t (.slice (some ⟨b, o, none⟩) m c) (.int k n)).run P w = .ok (.pointer (some ⟨b, o + n.toNat * sz, none⟩)) w := by
    intro b o m c k n e sz bytes he h0 h1
    obtain ⟨hu, j, z, hj, _, _, hsz, _⟩ := elt_spec he
    simp [Instr.indexAt, asIntOf, run_underlying hu, h0, h1, sizeOf, typeInfo, hj, hsz, add_at]
  have keyA : ∀ (b o : Nat) (k : IntKind) (n : Int) (m : Nat) (e : TypeId) (sz : Nat), arrT P t = some (m, e, sz) → 0 ≤ n → n < (m : Int) → (Instr.indexAt t (.pointer (some ⟨b, o, none⟩)) (.int k n)).run P w = .ok (.pointer (some ⟨b, o + n.toNat * sz, none⟩)) w := by
    intro b o k n m e sz he h0 h1
    obtain ⟨hu, _, _, hm, j, hj, hsz⟩ := arrT_spec he
    simp [Instr.indexAt, asIntOf, run_underlying hu, h0, h1, sizeOf, typeInfo, hj, hsz, add_at, Instr.sureAddr]
  unfold aindexAddr at hk
  split at hk
  · rename_i k n
    cases hi
    split at hk
    · rename_i m cs tk
      split at hk
      · rename_i e sz bytes he
        obtain ⟨h0, h1, hk⟩ := hk
        cases hx with
        | slNil => omega
        | sl b off _ cap _ _ us hc hm hi h1' hr ht => exact ⟨_, keyS b off m cap k n e sz bytes he h0 h1, same_sound hR (.eptr b off (n.toNat * sz) cs us hi h1' hr) hk⟩
      · cases hk
    · rename_i id off m s
      split at hk
      · rename_i e sz bytes he
        obtain ⟨h0, h1, hk⟩ := hk
        cases hx with
        | osl _ b mm _ _ cap _ a1 a2 a3 a4 => exact ⟨_, keyS b off m cap k n e sz bytes he h0 h1, same_sound hR (.ptr id b mm _ a1) hk⟩
      · cases hk
    · rename_i id off m cc s
      split at hk
      · rename_i e sz bytes he
        obtain ⟨h0, h1, hk⟩ := hk
        cases hx with
        | oslc _ b mm _ _ cap _ a1 a2 a3 a4 => exact ⟨_, keyS b off m cc k n e sz bytes he h0 h1, same_sound hR (.ptr id b mm _ a1) hk⟩
      · cases hk
    · rename_i id off
      split at hk
      · rename_i m e sz he
        obtain ⟨h0, h1, hk⟩ := hk
        cases hx with
        | ptr _ b mm _ a1 => exact ⟨_, keyA b off k n m e sz he h0 h1, same_sound hR (.ptr id b mm _ a1) hk⟩
      · cases hk
    · rename_i cs off
      split at hk
      · rename_i m e sz he
        obtain ⟨h0, h1, hk⟩ := hk
        cases hx with
        | eptr b base _ _ us a1 a2 a3 => exact ⟨_, keyA b (base + off) k n m e sz he h0 h1, same_sound hR (by rw [Nat.add_assoc]; exact .eptr b base (off + n.toNat * sz) cs us a1 a2 a3) hk⟩
      · cases hk
    · cases hk
  · cases hk

theorem isStr_spec {t : TypeId} (h : isStr P t = true) : P.underlying t = some .string := by
  unfold isStr at h
  split at h
  · assumption
  · cases h
theorem isSl_spec {t : TypeId} (h : isSl P t = true) : ∃ e, P.underlying t = some (.slice e) := by
  unfold isSl at h
  split at h
  · exact ⟨_, by assumption⟩
  · cases h
theorem isPtr_spec {t : TypeId} (h : isPtr P t = true) : ∃ e, P.underlying t = some (.pointer e) := by
  unfold isPtr at h
  split at h
  · exact ⟨_, by assumption⟩
  · cases h
theorem isBool_spec {t : TypeId} (h : isBool P t = true) : P.underlying t = some .bool := by
  unfold isBool at h
  split at h
  · assumption
  · cases h
theorem intT_spec {t : TypeId} {k : IntKind} (h : intT P t = some k) : P.underlying t = some (.int k) := by
  unfold intT at h
  split at h
  · cases h; assumption
  · cases h

theorem byte_at (s : ByteArray) (n : Nat) (b : UInt8) (h : s.data.toList[n]? = some b) : s[n]? = some b := by
  have hn : n < s.data.size := by have := (List.getElem?_eq_some_iff.1 h).1; simpa using this
  have hb : s.data[n] = b := by have := (List.getElem?_eq_some_iff.1 h).2; simpa using this
  rw [getElem?_pos s n (by simpa using hn)]
  exact congrArg some hb

theorem index_sound (hR : Rel B w0 g σ w) {t : TypeId} {x i : Value} {xd id_ : D} (hx : RV g x xd) (hi : RV g i id_) {K : D → St → Prop} (hk : aindex P t xd id_ σ K) : ∃ v, (Instr.index t x i).run P w = .ok v w ∧ Comes' B w0 g K v w := by
  unfold aindex at hk
  split at hk
  · rename_i k n
    cases hi
    split at hk
    · rename_i l
      obtain ⟨hs, h0, b, hb, hk⟩ := hk
      cases hx with
      | str s _ hl =>
        subst hl
        have hu := isStr_spec hs
        have := byte_at s n.toNat b hb
        exact ⟨_, by simp [Instr.index, asIntOf, run_underlying hu, h0, this], same_sound hR (.int .u8 _) hk⟩
    · rename_i cs
      split at hk
      · rename_i m e sz he
        obtain ⟨h0, h1, hk⟩ := hk
        split at hk
        · rename_i ag hag
          obtain ⟨hu, hsz, _, _, j, hj, hjs⟩ := arrT_spec he
          cases hx with
          | agg cs' _ hl h1' hr =>
            rw [← hsz] at hk
            obtain ⟨v, e1, e2⟩ := part_sound hR hag hl h1' hr hk
            rw [hsz] at e1
            exact ⟨v, by simp [Instr.index, asIntOf, run_underlying hu, h0, h1, sizeOf, typeInfo, hj, hjs, e1], e2⟩
        · cases hk
      · cases hk
    · cases hk
  · cases hk

/-! ### slice expressions -/
def RVo (g : G) : Option Value → Option D → Prop
  | none, none => True
  | some v, some d => RV g v d
  | _, _ => False

theorem bound_run {lo : Option Value} {ld : Option D} (h : RVo g lo ld) {dflt n : Nat} (hb : abound ld dflt = some n) : (lo = none ∧ n = dflt) ∨ ∃ k, lo = some (.int k n) := by
  cases lo with
  | none =>
    cases ld with
    | none => simp [abound] at hb; exact .inl ⟨rfl, hb.symm⟩
    | some d => cases h
  | some v =>
    cases ld with
    | none => cases h
    | some d =>
      right
      cases h with
      | int k i =>
        simp only [abound] at hb
        split at hb
        · rename_i h0
          cases hb
          exact ⟨k, by rw [Int.toNat_of_nonneg h0]⟩
        · cases hb
      | _ => simp [abound] at hb

theorem run_bounds (isS : Bool) (len cap l h : Nat) {lo hi : Option Value} (hl : (lo = none ∧ l = 0) ∨ ∃ k, lo = some (.int k l)) (hh : (hi = none ∧ h = len) ∨ ∃ k, hi = some (.int k h)) (hlh : l ≤ h) (hc : h ≤ cap) :
    (Instr.sliceBounds isS len cap lo hi none).run P w = .ok (l, h, cap) w := by
  rcases hl with ⟨rfl, rfl⟩ | ⟨k, rfl⟩ <;> rcases hh with ⟨rfl, rfl⟩ | ⟨k', rfl⟩ <;>
    simp [Instr.sliceBounds, Instr.sliceBound, asIntOf, Int.natCast_nonneg, hc, hlh]

theorem run_bounds3 (len cap l h m : Nat) {lo hi mx : Option Value} (hl : (lo = none ∧ l = 0) ∨ ∃ k, lo = some (.int k l)) (hh : ∃ k, hi = some (.int k h)) (hm : ∃ k, mx = some (.int k m)) (hlh : l ≤ h) (hc : h ≤ m) (hmc : m ≤ cap) :
    (Instr.sliceBounds true len cap lo hi mx).run P w = .ok (l, h, m) w := by
  obtain ⟨k', rfl⟩ := hh
  obtain ⟨k2, rfl⟩ := hm
  rcases hl with ⟨rfl, rfl⟩ | ⟨k, rfl⟩ <;>
    simp [Instr.sliceBounds, Instr.sliceBound, asIntOf, Int.natCast_nonneg, hc, hlh, hmc]

theorem extract_toList (s : ByteArray) (l h : Nat) : (s.extract l h).data.toList = (s.data.toList.take h).drop l := by
  simp [ByteArray.data_extract, List.extract_eq_take_drop, List.drop_take]

end
end Go.Av

/- The operations over abstract values are what the machine does: slice expressions, arithmetic, comparisons, conversions, builtins. -/
set_option linter.unusedSimpArgs false
set_option linter.unusedVariables false
namespace Go.Av
open Go.RowKit

section
variable {P : Program} {γ : Gl} {B : Nat} {w0 : World} {g : G} {σ : St} {w : World}

theorem take_drop_get {α : Type} (cs : List α) (a b k : Nat) : ((cs.take b).drop a)[k]? = if a + k < b then cs[a + k]? else none := by
  rw [List.getElem?_drop, List.getElem?_take]

theorem slice_sound (hR : Rel B w0 g σ w) {t : TypeId} {x : Value} {xd : D} (hx : RV g x xd) {lo hi mx : Option Value} {ld hd md : Option D} (hl : RVo g lo ld) (hh : RVo g hi hd) (hm : RVo g mx md) {K : D → St → Prop} (hk : aslice P t xd ld hd md σ K) :
    ∃ v, (Instr.sliceAt t x lo hi mx).run P w = .ok v w ∧ Comes' B w0 g K v w := by
  have hnone : md.isNone = true → mx = none := fun h => by
    cases mx with
    | none => rfl
    | some v => cases md with
      | none => cases hm
      | some d => simp at h
  have hS : ∀ e, P.underlying t = some (.slice e) → (Instr.sliceAt t x lo hi mx).run P w = (Instr.slice t x lo hi mx).run P w := fun e hu => by
    simp [Instr.sliceAt, run_underlying hu]
  have key0 : ∀ (a : Option Addr), (elt P t).isSome = true → (md.isNone = true ∨ hd.isSome = true) → abound ld 0 = some 0 → abound hd 0 = some 0 → abound md 0 = some 0 → (Instr.sliceAt t (.slice a 0 0) lo hi mx).run P w = .ok (.slice a 0 0) w := by
    intro a hs hmh hbl hbh hbm
    obtain ⟨⟨e, sz, bytes⟩, he⟩ := Option.isSome_iff_exists.1 hs
    obtain ⟨hu, i, z, hi', _⟩ := elt_spec he
    have h1 := bound_run hl hbl
    have h2 := bound_run hh hbh
    have h3 := bound_run hm hbm
    have hb : (Instr.sliceBounds true 0 0 lo hi mx).run P w = .ok (0, 0, 0) w := by
      rcases h3 with ⟨rfl, _⟩ | ⟨k, rfl⟩
      · exact run_bounds true 0 0 0 0 h1 h2 (Nat.le_refl _) (Nat.le_refl _)
      · rcases h2 with ⟨rfl, _⟩ | h2
        · exfalso
          cases md with
          | none => cases hm
          | some d => cases hd with
            | none => rcases hmh with h | h <;> simp at h
            | some d' => cases hh
        · exact run_bounds3 0 0 0 0 0 h1 h2 ⟨k, rfl⟩ (Nat.le_refl _) (Nat.le_refl _) (Nat.le_refl _)
    rw [show (Instr.sliceAt t (.slice a 0 0) lo hi mx).run P w = (Instr.slice t (.slice a 0 0) lo hi mx).run P w by simp [Instr.sliceAt, run_underlying hu]]
    simp [Instr.slice, run_underlying hu, hb, sizeOf, typeInfo, hi']
  unfold aslice at hk
  split at hk
  · rename_i s
    obtain ⟨hs, hmn, l, h, hbl, hbh, h1, h2, hk⟩ := hk
    have hu := isStr_spec hs
    cases hx with
    | str s' _ hsl =>
      have hsz : s.length = s'.size := by rw [← hsl]; simp
      have := hnone hmn
      subst this
      have hb := run_bounds (P := P) (w := w) false s'.size s'.size l h (bound_run hl hbl) (by rw [← hsz]; exact bound_run hh hbh) h1 (by omega)
      refine ⟨.string (s'.extract l h), by simp [Instr.sliceAt, run_underlying hu, Instr.slice, hb], same_sound hR (.str _ _ ?_) hk⟩
      rw [extract_toList, hsl]
  · obtain ⟨hs, hmh, hbl, hbh, hbm, hk⟩ := hk
    cases hx with
    | nil => exact ⟨_, key0 none hs hmh hbl hbh hbm, same_sound hR .nil hk⟩
  · obtain ⟨hs, hmh, hbl, hbh, hbm, hk⟩ := hk
    cases hx with
    | e0 a => exact ⟨_, key0 a hs hmh hbl hbh hbm, same_sound hR (.e0 a) hk⟩
  · rename_i n cs tk
    split at hk
    · rename_i e sz bytes he
      obtain ⟨hcl, l, h, hbl, hbh, h1, h2, hk⟩ := hk
      obtain ⟨hu, i, z, hi', _, _, hsz, hsz0, _⟩ := elt_spec he
      cases mx with
      | none =>
        cases md with
        | some d => cases hm
        | none =>
          simp only at hk
          cases hx with
          | slNil ad =>
            have h0 : h = 0 := by omega
            have l0 : l = 0 := by omega
            subst h0; subst l0
            have hb := run_bounds (P := P) (w := w) true 0 0 0 0 (bound_run hl hbl) (bound_run hh hbh) (Nat.le_refl _) (Nat.le_refl _)
            refine ⟨.slice ad 0 0, by rw [hS e hu]; cases ad <;> simp [Instr.slice, run_underlying hu, hb, sizeOf, typeInfo, hi', Addr.add], same_sound hR ?_ hk⟩
            simp
            exact .slNil ad
          | sl b off _ cap _ _ us hc hcm himm h1' hr ht =>
            have hb := run_bounds (P := P) (w := w) true n cap l h (bound_run hl hbl) (bound_run hh hbh) h1 (by omega)
            by_cases hcl' : cap = l
            · have : h = l := by omega
              subst this
              refine ⟨.slice (some ⟨b, off, none⟩) 0 0, by rw [hS e hu]; simp [Instr.slice, run_underlying hu, hb, sizeOf, typeInfo, hi', ← hcl'], same_sound hR ?_ hk⟩
              have hnil : (cs.take (h * sz)).drop (h * sz) = [] := by simp
              rw [hnil, Nat.sub_self]
              exact .sl b off 0 0 [] none us (Nat.le_refl _) (Nat.zero_le _) (fun k hk => by simp at hk) (fun d hd => by simp at hd) (fun k d e => by simp at e) (fun _ _ e => by cases e)
            · refine ⟨.slice (some ⟨b, off + l * sz, none⟩) (h - l) (cap - l), by rw [hS e hu]; simp [Instr.slice, run_underlying hu, hb, sizeOf, typeInfo, hi', hcl', hsz, add_at], same_sound hR ?_ hk⟩
              have hlh : l * sz ≤ h * sz := Nat.mul_le_mul_right _ h1
              have hhn : h * sz ≤ n * sz := Nat.mul_le_mul_right _ h2
              refine .sl b (off + l * sz) (h - l) (cap - l) _ none (fun k => us (l * sz + k)) (by omega) (by omega) (fun k hk => ?_) (fun d hd => h1' d (List.mem_of_mem_take (List.mem_of_mem_drop hd))) (fun k d e => ?_) (fun _ _ e => by cases e)
              · simp at hk
                rw [Nat.add_assoc]
                exact himm _ (by omega)
              · rw [take_drop_get] at e
                split at e
                · exact hr _ d e
                · cases e
      | some m =>
        cases md with
        | none => cases hm
        | some md' =>
          simp only at hk
          obtain ⟨hhs, m', hbm, h3, h4, hk⟩ := hk
          have hmr : ∃ k, some m = some (Value.int k (m' : Int)) := by
            rcases bound_run hm hbm with ⟨h, _⟩ | h
            · cases h
            · exact h
          have hhr : ∃ k, hi = some (Value.int k (h : Int)) := by
            rcases bound_run hh hbh with ⟨rfl, _⟩ | h
            · cases hd with
              | none => simp at hhs
              | some d' => cases hh
            · exact h
          cases hx with
          | slNil ad =>
            have h0 : h = 0 := by omega
            have l0 : l = 0 := by omega
            have m0 : m' = 0 := by omega
            subst h0; subst l0; subst m0
            have hb := run_bounds3 (P := P) (w := w) 0 0 0 0 0 (bound_run hl hbl) hhr hmr (Nat.le_refl _) (Nat.le_refl _) (Nat.le_refl _)
            refine ⟨.slice ad 0 0, by rw [hS e hu]; cases ad <;> simp [Instr.slice, run_underlying hu, hb, sizeOf, typeInfo, hi', Addr.add], same_sound hR ?_ hk⟩
            rw [if_pos rfl]
            exact .e0 ad
          | sl b off _ cap _ _ us hc hcm himm h1' hr ht =>
            have hb := run_bounds3 (P := P) (w := w) n cap l h m' (bound_run hl hbl) hhr hmr h1 h3 (by omega)
            by_cases hcl' : m' = l
            · have : h = l := by omega
              subst this
              refine ⟨.slice (some ⟨b, off, none⟩) 0 0, by rw [hS e hu]; simp [Instr.slice, run_underlying hu, hb, sizeOf, typeInfo, hi', ← hcl'], same_sound hR ?_ hk⟩
              rw [if_pos hcl'.symm]
              exact .e0 _
            · refine ⟨.slice (some ⟨b, off + l * sz, none⟩) (h - l) (m' - l), by rw [hS e hu]; simp [Instr.slice, run_underlying hu, hb, sizeOf, typeInfo, hi', hcl', hsz, add_at], same_sound hR ?_ hk⟩
              rw [if_neg (Ne.symm hcl')]
              have hlh : l * sz ≤ h * sz := Nat.mul_le_mul_right _ h1
              have hhn : h * sz ≤ n * sz := Nat.mul_le_mul_right _ h2
              refine .sl b (off + l * sz) (h - l) (m' - l) _ none (fun k => us (l * sz + k)) (by omega) (by omega) (fun k hk => ?_) (fun d hd => h1' d (List.mem_of_mem_take (List.mem_of_mem_drop hd))) (fun k d e => ?_) (fun _ _ e => by cases e)
              · simp at hk
                rw [Nat.add_assoc]
                exact himm _ (by omega)
              · rw [take_drop_get] at e
                split at e
                · exact hr _ d e
                · cases e
    · cases hk
  · rename_i id off n s
    split at hk
    · rename_i e sz bytes he
      obtain ⟨rfl, hmn, l, h, hbl, hbh, h1, h2, hk⟩ := hk
      obtain ⟨hu, i, z, hi', _, _, hsz, hsz0, _⟩ := elt_spec he
      have := hnone hmn
      subst this
      cases hx with
      | osl _ b m _ _ cap _ hio hc hcm hf =>
        have hb := run_bounds (P := P) (w := w) true n cap l h (bound_run hl hbl) (bound_run hh hbh) h1 (by omega)
        by_cases hcl' : cap = l
        · have : h = l := by omega
          subst this
          refine ⟨.slice (some ⟨b, off, none⟩) 0 0, by rw [hS e hu]; simp [Instr.slice, run_underlying hu, hb, sizeOf, typeInfo, hi', ← hcl'], same_sound hR ?_ hk⟩
          rw [if_pos rfl]
          exact .sl b off 0 0 [] none (fun _ => undef) (Nat.le_refl _) (Nat.zero_le _) (fun k hk => by simp at hk) (fun d hd => by simp at hd) (fun k d e => by simp at e) (fun _ _ e => by cases e)
        · refine ⟨.slice (some ⟨b, off + l * s, none⟩) (h - l) (cap - l), by rw [hS e hu]; simp [Instr.slice, run_underlying hu, hb, sizeOf, typeInfo, hi', hcl', hsz, add_at], same_sound hR ?_ hk⟩
          by_cases hlh : l = h
          · rw [if_pos hlh, hlh, Nat.sub_self]
            exact .sl b (off + h * s) 0 (cap - h) [] none (fun _ => undef) (Nat.zero_le _) (by omega) (fun k hk => by simp at hk) (fun d hd => by simp at hd) (fun k d e => by simp at e) (fun _ _ e => by cases e)
          · rw [if_neg hlh]
            have hll : l * s + (cap - l) * s = cap * s := by rw [← Nat.add_mul]; congr 1; omega
            exact .osl id b m (off + l * s) (h - l) (cap - l) s hio (by omega) (by omega) (by omega)
    · cases hk
  · rename_i id off n c s
    split at hk
    · rename_i e sz bytes he
      obtain ⟨rfl, hmh, l, h, m, hbl, hbh, hbm, h1, h2, h3, hk⟩ := hk
      obtain ⟨hu, i, z, hi', _, _, hsz, hsz0, _⟩ := elt_spec he
      cases hx with
      | oslc _ b mm _ _ _ _ hio hc hcm hf =>
        have b1 := bound_run hl hbl
        have b2 := bound_run hh hbh
        have b3 := bound_run hm hbm
        have hb : (Instr.sliceBounds true n c lo hi mx).run P w = .ok (l, h, m) w := by
          rcases b3 with ⟨rfl, rfl⟩ | ⟨k, rfl⟩
          · exact run_bounds true n m l h b1 b2 h1 h2
          · rcases b2 with ⟨rfl, _⟩ | b2
            · exfalso
              cases md with
              | none => cases hm
              | some d => cases hd with
                | none => rcases hmh with h | h <;> simp at h
                | some d' => cases hh
            · exact run_bounds3 n c l h m b1 b2 ⟨k, rfl⟩ h1 h2 h3
        by_cases hcl' : m = l
        · have : h = l := by omega
          subst this
          refine ⟨.slice (some ⟨b, off, none⟩) 0 0, by rw [hS e hu]; simp [Instr.slice, run_underlying hu, hb, sizeOf, typeInfo, hi', ← hcl'], same_sound hR ?_ hk⟩
          rw [if_pos hcl'.symm]
          exact .e0 _
        · refine ⟨.slice (some ⟨b, off + l * s, none⟩) (h - l) (m - l), by rw [hS e hu]; simp [Instr.slice, run_underlying hu, hb, sizeOf, typeInfo, hi', hcl', hsz, add_at], same_sound hR ?_ hk⟩
          rw [if_neg (Ne.symm hcl')]
          have hmc : m * s ≤ c * s := Nat.mul_le_mul_right _ h3
          have hll : l * s + (m - l) * s = m * s := by rw [← Nat.add_mul]; congr 1; omega
          exact .oslc id b mm (off + l * s) (h - l) (m - l) s hio (by omega) (by omega) (by omega)
    · cases hk
  · rename_i id off
    split at hk
    · rename_i n e sz he
      obtain ⟨hmn, hnm, l, h, ls, T9, hbl, hbh, h1, h2, hs, hfit, hk⟩ := hk
      obtain ⟨hu, _, hsz0, _, i, hi', hsz⟩ := arrT_spec he
      have := hnone hmn
      subst this
      cases hx with
      | ptr _ b m _ hio =>
        obtain ⟨hlm, _⟩ := hR.cell hs hio
        have hb := run_bounds (P := P) (w := w) false n n l h (bound_run hl hbl) (bound_run hh hbh) h1 h2
        have hrun : (Instr.sliceAt t (.pointer (some ⟨b, off, none⟩)) lo hi none).run P w = .ok (.slice (some (if n = l then ⟨b, off, none⟩ else ⟨b, off + l * sz, none⟩)) (h - l) (n - l)) w := by
          simp [Instr.sliceAt, run_underlying hu, Instr.sureAddr, hb, sizeOf, typeInfo, hi', hsz, add_at]
        refine ⟨_, hrun, same_sound hR ?_ hk⟩
        by_cases hlh : l = h
        · rw [if_pos hlh, hlh, Nat.sub_self]
          by_cases hn : n = h
          · rw [if_pos hn]
            exact .sl b off 0 (n - h) [] none (fun _ => undef) (Nat.zero_le _) (by unfold maxLen; omega) (fun k hk => by simp at hk) (fun d hd => by simp at hd) (fun k d e => by simp at e) (fun _ _ e => by cases e)
          · rw [if_neg hn]
            exact .sl b (off + h * sz) 0 (n - h) [] none (fun _ => undef) (Nat.zero_le _) (by unfold maxLen; omega) (fun k hk => by simp at hk) (fun d hd => by simp at hd) (fun k d e => by simp at e) (fun _ _ e => by cases e)
        · rw [if_neg hlh, if_neg (by omega)]
          have hll : l * sz + (n - l) * sz = n * sz := by rw [← Nat.add_mul]; congr 1; omega
          exact .osl id b m (off + l * sz) (h - l) (n - l) sz hio (by omega) (by unfold maxLen; omega) (by omega)
    · cases hk
  · rename_i cs off
    split at hk
    · rename_i n e sz he
      obtain ⟨hmn, hnm, l, h, hbl, hbh, h1, h2, hfit, hk⟩ := hk
      obtain ⟨hu, _, hsz0, _, i, hi', hsz⟩ := arrT_spec he
      have := hnone hmn
      subst this
      cases hx with
      | eptr b base _ _ us himm h1' hr =>
        have hb := run_bounds (P := P) (w := w) false n n l h (bound_run hl hbl) (bound_run hh hbh) h1 h2
        have hrun : (Instr.sliceAt t (.pointer (some ⟨b, base + off, none⟩)) lo hi none).run P w = .ok (.slice (some (if n = l then ⟨b, base + off, none⟩ else ⟨b, base + off + l * sz, none⟩)) (h - l) (n - l)) w := by
          simp [Instr.sliceAt, run_underlying hu, Instr.sureAddr, hb, sizeOf, typeInfo, hi', hsz, add_at]
        refine ⟨_, hrun, same_sound hR ?_ hk⟩
        have hhn : h * sz ≤ n * sz := Nat.mul_le_mul_right _ h2
        have hlh' : l * sz ≤ h * sz := Nat.mul_le_mul_right _ h1
        by_cases hn : n = l
        · have hlh : l = h := by omega
          rw [if_pos hn, hlh]
          have hnil : (cs.take (off + h * sz)).drop (off + h * sz) = [] := by simp
          rw [hnil, Nat.sub_self]
          exact .sl b (base + off) 0 (n - h) [] none (fun _ => undef) (Nat.zero_le _) (by unfold maxLen; omega) (fun k hk => by simp at hk) (fun d hd => by simp at hd) (fun k d e => by simp at e) (fun _ _ e => by cases e)
        · rw [if_neg hn]
          refine .sl b (base + off + l * sz) (h - l) (n - l) _ none (fun k => us (off + l * sz + k)) (by omega) (by unfold maxLen; omega) (fun k hk => ?_) (fun d hd => h1' d (List.mem_of_mem_take (List.mem_of_mem_drop hd))) (fun k d e => ?_) (fun _ _ e => by cases e)
          · simp at hk
            rw [show base + off + l * sz + k = base + (off + l * sz + k) by omega]
            exact himm _ (by omega)
          · rw [take_drop_get] at e
            split at e
            · exact hr _ d e
            · cases e
    · cases hk
  · cases hk

/-! ### arithmetic and comparisons -/
theorem toList_eq {a b : ByteArray} (h : a.data.toList = b.data.toList) : a = b := by
  cases a; cases b
  simp at h
  simp [h]

theorem binI_sound (hR : Rel B w0 g σ w) (op : BinOp) (t : TypeId) (k : IntKind) (a : Int) (k' : IntKind) (b : Int) {K : D → St → Prop} (hk : abinI op k a k' b σ K) : ∃ v, (binOp op t (.int k a) (.int k' b)).run P w = .ok v w ∧ Comes' B w0 g K v w := by
  cases op <;> simp only [abinI] at hk
  case shl => exact ⟨.int k (k.wrap (a * 2 ^ min b.toNat k.bits)), by simp only [binOp, Op.shift, if_neg (show ¬ b < 0 by omega)]; rfl, same_sound hR (.int _ _) hk.2⟩
  case shr => exact ⟨.int k (a.fdiv (2 ^ min b.toNat k.bits)), by simp only [binOp, Op.shift, if_neg (show ¬ b < 0 by omega)]; rfl, same_sound hR (.int _ _) hk.2⟩
  all_goals obtain ⟨rfl, hk⟩ := hk
  case quo => exact ⟨.int k (k.wrap (a.tdiv b)), by simp [binOp, Op.intDiv, hk.1], same_sound hR (.int _ _) hk.2⟩
  case rem => exact ⟨.int k (a.tmod b), by simp [binOp, Op.intDiv, hk.1], same_sound hR (.int _ _) hk.2⟩
  case add => exact ⟨.int k (k.wrap (a + b)), by simp [binOp, Op.intArith], same_sound hR (.int _ _) hk⟩
  case sub => exact ⟨.int k (k.wrap (a - b)), by simp [binOp, Op.intArith], same_sound hR (.int _ _) hk⟩
  case mul => exact ⟨.int k (k.wrap (a * b)), by simp [binOp, Op.intArith], same_sound hR (.int _ _) hk⟩
  case eql => exact ⟨.bool (a == b), by simp only [binOp, ne_eq, not_true_eq_false, if_false]; rfl, same_sound hR (.bool _) hk⟩
  case neq => exact ⟨.bool (a != b), by simp only [binOp, ne_eq, not_true_eq_false, if_false]; rfl, same_sound hR (.bool _) hk⟩
  case lss => exact ⟨.bool (decide (a < b)), by simp only [binOp, ne_eq, not_true_eq_false, if_false]; rfl, same_sound hR (.bool _) hk⟩
  case leq => exact ⟨.bool (decide (a ≤ b)), by simp only [binOp, ne_eq, not_true_eq_false, if_false]; rfl, same_sound hR (.bool _) hk⟩
  case gtr => exact ⟨.bool (decide (a > b)), by simp only [binOp, ne_eq, not_true_eq_false, if_false]; rfl, same_sound hR (.bool _) hk⟩
  case geq => exact ⟨.bool (decide (a ≥ b)), by simp only [binOp, ne_eq, not_true_eq_false, if_false]; rfl, same_sound hR (.bool _) hk⟩
  case and => exact ⟨_, by simp only [binOp, ne_eq, not_true_eq_false, if_false]; rfl, same_sound hR (.int _ _) hk⟩
  case or => exact ⟨_, by simp only [binOp, ne_eq, not_true_eq_false, if_false]; rfl, same_sound hR (.int _ _) hk⟩
  case xor => exact ⟨_, by simp only [binOp, ne_eq, not_true_eq_false, if_false]; rfl, same_sound hR (.int _ _) hk⟩
  case andNot => exact ⟨_, by simp only [binOp, ne_eq, not_true_eq_false, if_false]; rfl, same_sound hR (.int _ _) hk⟩

theorem binS_sound (hR : Rel B w0 g σ w) (op : BinOp) (t : TypeId) (a b : ByteArray) {K : D → St → Prop} (hk : abinS op a.data.toList b.data.toList σ K) : ∃ v, (binOp op t (.string a) (.string b)).run P w = .ok v w ∧ Comes' B w0 g K v w := by
  have hl : ∀ s : ByteArray, s.toList = s.data.toList := fun s => by simp [ByteArray.toList_eq]
  cases op <;> simp only [abinS] at hk
  case add =>
    have hn : ¬ (((a.size + b.size : Nat) : Int) > IntKind.i64.max) := by
      have h1 : a.data.toList.length = a.size := by simp
      have h2 : b.data.toList.length = b.size := by simp
      have h3 : IntKind.i64.max = 9223372036854775807 := by decide
      rw [h3]; omega
    exact ⟨.string (a ++ b), by simp only [binOp, Op.stringOp, if_neg hn]; rfl, same_sound hR (.str _ _ (by simp)) hk.2⟩
  case eql => exact ⟨.bool (a.data.toList == b.data.toList), by simp only [binOp, Op.stringOp, hl]; rfl, same_sound hR (.bool _) hk⟩
  case neq => exact ⟨.bool (!(a.data.toList == b.data.toList)), by simp only [binOp, Op.stringOp, hl]; rfl, same_sound hR (.bool _) hk⟩
  case lss => exact ⟨.bool (Op.bytesLess a.data.toList b.data.toList), by simp only [binOp, Op.stringOp, hl]; rfl, same_sound hR (.bool _) hk⟩
  case leq => exact ⟨.bool (Op.bytesLess a.data.toList b.data.toList || a.data.toList == b.data.toList), by simp only [binOp, Op.stringOp, hl]; rfl, same_sound hR (.bool _) hk⟩
  case gtr => exact ⟨.bool (!(Op.bytesLess a.data.toList b.data.toList || a.data.toList == b.data.toList)), by simp only [binOp, Op.stringOp, hl]; rfl, same_sound hR (.bool _) hk⟩
  case geq => exact ⟨.bool (!(Op.bytesLess a.data.toList b.data.toList)), by simp only [binOp, Op.stringOp, hl]; rfl, same_sound hR (.bool _) hk⟩

theorem un_sound (hR : Rel B w0 g σ w) (op : UnOp) {x : Value} {xd : D} (hx : RV g x xd) {K : D → St → Prop} (hk : aun op xd σ K) : ∃ v, (Op.unary op x).run P w = .ok v w ∧ Comes' B w0 g K v w := by
  unfold aun at hk
  split at hk
  · cases hx; exact ⟨_, by simp only [Op.unary, Op.intArith]; rfl, same_sound hR (.int _ _) hk⟩
  · cases hx; exact ⟨_, by simp only [Op.unary, Op.intBits]; rfl, same_sound hR (.int _ _) hk⟩
  · cases hx; exact ⟨_, by simp only [Op.unary]; rfl, same_sound hR (.bool _) hk⟩
  · cases hk

end
end Go.Av

/- '==' of aggregates, conversions, builtins. -/
set_option linter.unusedSimpArgs false
set_option linter.unusedVariables false
namespace Go.Av
open Go.RowKit

section
variable {P : Program} {γ : Gl} {B : Nat} {w0 : World} {g : G} {σ : St} {w : World}

theorem eqL_append : ∀ (a c b d : List D), a.length = c.length → eqL (a ++ b) (c ++ d) = match eqL a c, eqL b d with
    | some p, some q => some (p && q)
    | _, _ => none
  | [], [], b, d, _ => by
    simp only [List.nil_append, eqL]
    cases eqL b d <;> simp
  | x :: a, y :: c, b, d, h => by
    simp only [List.cons_append, eqL]
    rw [eqL_append a c b d (by simpa using h)]
    cases eq1 x y <;> cases eqL a c <;> cases eqL b d <;> simp [Bool.and_assoc]
  | [], _ :: _, _, _, h => by simp at h
  | _ :: _, [], _, _, h => by simp at h

/-- A value of type t whose cells are l. -/
def CV (P : Program) (t : TypeId) (v : Value) (l : List Value) : Prop := (tagg P t = some true → v = .agg l.toArray) ∧ (tagg P t = some false → l = [v])

theorem part_cv {t : TypeId} {ag : Bool} (hag : tagg P t = some ag) {cs : Array Value} {off : Nat} (hf : off + tsz P t ≤ cs.size) (h1 : ag = false → tsz P t = 1) : ∃ v, (part t cs off).run P w = .ok v w ∧ CV P t v ((cs.toList.drop off).take (tsz P t)) := by
  have hinfo : ∃ i, P.info? t = some i ∧ i.size = tsz P t := by
    cases hq : P.info? t with
    | none =>
      have : P.underlying t = none := by simp [Program.underlying, hq]
      simp [tagg, this] at hag
    | some i => exact ⟨i, rfl, by simp [tsz, hq]⟩
  obtain ⟨i, hi, his⟩ := hinfo
  cases ag with
  | true =>
    obtain ⟨d, hu, hd⟩ := tagg_true hag
    have hagg : (isAgg t).run P w = .ok true w := by
      unfold isAgg
      rw [Sem.run_bind, run_underlying hu w]
      cases d <;> simp_all
    refine ⟨.agg (cs.extract off (off + tsz P t)), by simp [part, hagg, sizeOf, typeInfo, hi, his], fun _ => ?_, fun h => by rw [hag] at h; cases h⟩
    congr 1
    apply Array.ext'
    simp [List.extract_eq_take_drop]
  | false =>
    have h1' := h1 rfl
    have ho : off < cs.size := by omega
    obtain ⟨dt, hu, hdt⟩ := tagg_false hag
    have hagg : (isAgg t).run P w = .ok false w := by
      unfold isAgg
      rw [Sem.run_bind, run_underlying hu w]
      cases dt <;> simp_all
    refine ⟨cs[off], by simp [part, hagg, ho], (fun h => by rw [hag] at h; cases h), fun _ => ?_⟩
    rw [h1', List.drop_eq_getElem_cons (by simpa using ho)]
    simp

theorem kinds_spec {m : Nat} {t : TypeId} {ks : List LK} (h : kinds P m t = some ks) : (∃ ag, tagg P t = some ag ∧ (ag = false → tsz P t = 1)) ∧ ks.length = tsz P t := by
  cases m with
  | zero => cases h
  | succ m =>
    unfold kinds at h
    split at h
    · rename_i k hu
      split at h
      · rename_i h1; cases h; exact ⟨⟨false, by simp [tagg, hu], fun _ => h1⟩, h1.symm⟩
      · cases h
    · rename_i hu
      split at h
      · rename_i h1; cases h; exact ⟨⟨false, by simp [tagg, hu], fun _ => h1⟩, h1.symm⟩
      · cases h
    · rename_i hu
      split at h
      · rename_i h1; cases h; exact ⟨⟨false, by simp [tagg, hu], fun _ => h1⟩, h1.symm⟩
      · cases h
    · rename_i fs hu
      split at h
      · rename_i hc
        refine ⟨⟨true, by simp [tagg, hu], fun h => by cases h⟩, ?_⟩
        simp only [Bool.and_eq_true, beq_iff_eq] at hc
        obtain ⟨ls, hls, rfl⟩ := Option.map_eq_some_iff.1 h
        have key : ∀ (fs : List Field) (ls : List (List LK)) (o n : Nat), fs.mapM (fun f => (kinds P m f.type).bind fun l => if l.length = tsz P f.type ∧ 0 < l.length then some l else none) = some ls → contig P o fs = some n → o + ls.flatten.length = n := by
          intro fs
          induction fs with
          | nil => intro ls o n h1 h2; simp at h1; subst h1; simp only [contig, Option.some.injEq] at h2; simp; exact h2
          | cons f fs ih =>
            intro ls o n h1 h2
            rw [List.mapM_cons] at h1
            simp only [bind, Option.bind_eq_some_iff, pure, Option.some.injEq] at h1
            obtain ⟨l, ⟨l', h3, h4⟩, ls', h5, rfl⟩ := h1
            split at h4
            · rename_i hl
              cases h4
              simp only [contig] at h2
              split at h2
              · have := ih ls' _ n h5 h2
                simp only [List.flatten_cons, List.length_append]
                omega
              · cases h2
            · cases h4
        have := key _ _ 0 _ hls hc.2
        omega
      · cases h
    · rename_i n e hu
      simp only [Option.bind_eq_some_iff] at h
      obtain ⟨l, h1, h2⟩ := h
      split at h2
      · rename_i hc
        cases h2
        refine ⟨⟨true, by simp [tagg, hu], fun h => by cases h⟩, ?_⟩
        rw [length_replicate_flatten, hc.1, hc.2.2]
      · cases h2
    · cases h

def EqSound (P : Program) (g : G) (dd : Nat) (t : TypeId) (ks : List LK) : Prop :=
  ∀ (x y : Value) (xs ys : List Value) (dx dy : List D) (b : Bool) (w : World), CV P t x xs → CV P t y ys → RVs g xs dx → RVs g ys dy → fits ks dx = true → fits ks dy = true → eqL dx dy = some b → (Op.equalIn dd t x y).run P w = .ok b w

theorem fits_len : ∀ {ks : List LK} {ds : List D}, fits ks ds = true → ds.length = ks.length
  | [], [], _ => rfl
  | k :: ks, d :: ds, h => by
    simp only [fits, Bool.and_eq_true] at h
    simp [fits_len h.2]
  | [], _ :: _, h => by cases h
  | _ :: _, [], h => by cases h

theorem fits_split : ∀ {k1 k2 : List LK} {ds : List D}, fits (k1 ++ k2) ds = true → fits k1 (ds.take k1.length) = true ∧ fits k2 (ds.drop k1.length) = true
  | [], k2, ds, h => ⟨rfl, by simpa using h⟩
  | k :: k1, k2, [], h => by cases h
  | k :: k1, k2, d :: ds, h => by
    simp only [List.cons_append, fits, Bool.and_eq_true] at h
    obtain ⟨a, b⟩ := fits_split h.2
    exact ⟨by simp [fits, h.1, a], by simpa using b⟩

theorem rvs_range {xs : List Value} {dx : List D} (h : RVs g xs dx) (a n : Nat) : RVs g ((xs.drop a).take n) ((dx.drop a).take n) :=
  ⟨by simp [h.1], fun k v d e e' => by
    rw [List.getElem?_take, List.getElem?_drop] at e e'
    split at e
    · rename_i hk
      rw [if_pos hk] at e'
      exact h.2 _ v d e e'
    · cases e⟩

theorem eqL_len {a b : List D} {r : Bool} (h : eqL a b = some r) : a.length = b.length := by
  induction a generalizing b r with
  | nil => cases b with
    | nil => rfl
    | cons y b => simp [eqL] at h
  | cons x a ih => cases b with
    | nil => simp [eqL] at h
    | cons y b =>
      simp only [eqL] at h
      cases h1 : eq1 x y <;> cases h2 : eqL a b <;> simp [h1, h2] at h
      simp [ih h2]

theorem eqL_split {a b : List D} {r : Bool} (h : eqL a b = some r) (n : Nat) : ∃ p q, eqL (a.take n) (b.take n) = some p ∧ eqL (a.drop n) (b.drop n) = some q ∧ r = (p && q) := by
  have hl := eqL_len h
  have := eqL_append (a.take n) (b.take n) (a.drop n) (b.drop n) (by simp [hl])
  rw [List.take_append_drop, List.take_append_drop, h] at this
  cases h1 : eqL (a.take n) (b.take n) <;> cases h2 : eqL (a.drop n) (b.drop n) <;> simp [h1, h2] at this
  exact ⟨_, _, rfl, rfl, this⟩

theorem drop_take_drop {α : Type} (l : List α) (a n m : Nat) : ((l.drop a).take (n + m)).drop n = (l.drop (a + n)).take m := by
  rw [List.drop_take, List.drop_drop, Nat.add_sub_cancel_left]
theorem take_take_le {α : Type} (l : List α) (a n m : Nat) : ((l.drop a).take (n + m)).take n = (l.drop a).take n := by
  rw [List.take_take, Nat.min_eq_left (by omega)]

theorem eqFields_sound (m dd : Nat) (hs : ∀ t ks, kinds P m t = some ks → EqSound P g dd t ks) {xs ys : Array Value} {dx dy : List D} (hx : RVs g xs.toList dx) (hy : RVs g ys.toList dy) (w : World) : ∀ (fs : List Field) (ls : List (List LK)) (o n : Nat) (b : Bool), (∀ f ∈ fs, f.name ≠ "_") →
    fs.mapM (fun f => (kinds P m f.type).bind fun l => if l.length = tsz P f.type ∧ 0 < l.length then some l else none) = some ls → contig P o fs = some n → fits ls.flatten (dx.drop o) = true → fits ls.flatten (dy.drop o) = true → eqL (dx.drop o) (dy.drop o) = some b → (Op.eqFields dd xs ys fs).run P w = .ok b w
  | [], ls, o, n, b, _, hm, _, f1, f2, he => by
    simp at hm
    subst hm
    have h1 : dx.drop o = [] := List.eq_nil_of_length_eq_zero (by simpa using fits_len f1)
    have h2 : dy.drop o = [] := List.eq_nil_of_length_eq_zero (by simpa using fits_len f2)
    rw [h1, h2] at he
    simp [eqL] at he
    subst he
    simp [Op.eqFields]
  | f :: fs, ls, o, n, b, hall, hm, hc, f1, f2, he => by
    rw [List.mapM_cons] at hm
    simp only [bind, Option.bind_eq_some_iff, pure, Option.some.injEq] at hm
    obtain ⟨l, ⟨l', h3, h4⟩, ls', h5, rfl⟩ := hm
    split at h4
    · rename_i hl
      obtain ⟨hl, hl0⟩ := hl
      cases h4
      simp only [contig] at hc
      split at hc
      · rename_i hfo
        subst hfo
        have hn := hall f (by simp)
        obtain ⟨⟨ag, hag, hag1⟩, _⟩ := kinds_spec h3
        rw [List.flatten_cons] at f1 f2
        have lx := fits_len f1
        have ly := fits_len f2
        obtain ⟨a1, a2⟩ := fits_split f1
        obtain ⟨b1, b2⟩ := fits_split f2
        rw [hl] at a1 a2 b1 b2
        simp only [List.length_drop, List.length_append, hl] at lx ly
        obtain ⟨p, q, e1, e2, rfl⟩ := eqL_split he (tsz P f.type)
        rw [List.drop_drop] at a2 b2
        rw [List.drop_drop, List.drop_drop] at e2
        have sx : xs.size = dx.length := by have := hx.1; simpa using this
        have sy : ys.size = dy.length := by have := hy.1; simpa using this
        obtain ⟨va, ra, ca⟩ := part_cv (P := P) (w := w) hag (cs := xs) (off := f.offset) (by omega) hag1
        obtain ⟨vb, rb, cb⟩ := part_cv (P := P) (w := w) hag (cs := ys) (off := f.offset) (by omega) hag1
        have hr := hs f.type _ h3 va vb _ _ _ _ p w ca cb (rvs_range hx _ _) (rvs_range hy _ _) a1 b1 e1
        have ih := eqFields_sound m dd hs hx hy w fs ls' (f.offset + tsz P f.type) n q (fun f' hf' => hall f' (by simp [hf'])) h5 hc a2 b2 e2
        rw [Op.eqFields]
        simp only [if_pos hn, Sem.run_bind, ra, rb, hr, Result.andThen_ok]
        cases p
        · simp
        · simpa using ih
      · cases hc
    · cases h4

theorem eqItems_sound (dd : Nat) {e : TypeId} {l : List LK} (hs : EqSound P g dd e l) {ag : Bool} (hag : tagg P e = some ag) (hag1 : ag = false → tsz P e = 1) (hl : l.length = tsz P e) (hl0 : 0 < l.length) {xs ys : Array Value} {dx dy : List D} (hx : RVs g xs.toList dx) (hy : RVs g ys.toList dy) (w : World) : ∀ (k i : Nat) (b : Bool),
    fits (List.replicate k l).flatten (dx.drop (i * tsz P e)) = true → fits (List.replicate k l).flatten (dy.drop (i * tsz P e)) = true → eqL (dx.drop (i * tsz P e)) (dy.drop (i * tsz P e)) = some b → (Op.eqItems dd e (tsz P e) xs ys (List.range' i k)).run P w = .ok b w
  | 0, i, b, f1, f2, he => by
    have h1 : dx.drop (i * tsz P e) = [] := List.eq_nil_of_length_eq_zero (by simpa using fits_len f1)
    have h2 : dy.drop (i * tsz P e) = [] := List.eq_nil_of_length_eq_zero (by simpa using fits_len f2)
    rw [h1, h2] at he
    simp [eqL] at he
    subst he
    simp [Op.eqItems]
  | k + 1, i, b, f1, f2, he => by
    rw [List.replicate_succ, List.flatten_cons] at f1 f2
    have lx := fits_len f1
    have ly := fits_len f2
    obtain ⟨a1, a2⟩ := fits_split f1
    obtain ⟨b1, b2⟩ := fits_split f2
    rw [hl] at a1 a2 b1 b2
    simp only [List.length_drop, List.length_append, hl] at lx ly
    obtain ⟨p, q, e1, e2, rfl⟩ := eqL_split he (tsz P e)
    have hi1 : i * tsz P e + tsz P e = (i + 1) * tsz P e := by rw [Nat.add_mul, Nat.one_mul]
    rw [List.drop_drop, hi1] at a2 b2
    rw [List.drop_drop, List.drop_drop, hi1] at e2
    have sx : xs.size = dx.length := by have := hx.1; simpa using this
    have sy : ys.size = dy.length := by have := hy.1; simpa using this
    obtain ⟨va, ra, ca⟩ := part_cv (P := P) (w := w) hag (cs := xs) (off := i * tsz P e) (by omega) hag1
    obtain ⟨vb, rb, cb⟩ := part_cv (P := P) (w := w) hag (cs := ys) (off := i * tsz P e) (by omega) hag1
    have hr := hs va vb _ _ _ _ p w ca cb (rvs_range hx _ _) (rvs_range hy _ _) a1 b1 e1
    have ih := eqItems_sound dd hs hag hag1 hl hl0 hx hy w k (i + 1) q a2 b2 e2
    rw [List.range'_succ, Op.eqItems]
    simp only [Sem.run_bind, ra, rb, hr, Result.andThen_ok]
    cases p
    · simp
    · simpa using ih

theorem eqIn_sound (d : Nat) : ∀ (m : Nat) (t : TypeId) (ks : List LK), kinds P m t = some ks → EqSound P g (d + m) t ks
  | 0, _, _, h => by cases h
  | m + 1, t, ks, hk => by
    intro x y xs ys dx dy b w hx hy rx ry f1 f2 he
    have one : ∀ k, tagg P t = some false → ks = [k] → ∃ d1 d2, RV g x d1 ∧ RV g y d2 ∧ fit1 k d1 = true ∧ fit1 k d2 = true ∧ eq1 d1 d2 = some b := by
      intro k hag hk1
      subst hk1
      have ex := hx.2 hag
      have ey := hy.2 hag
      subst ex; subst ey
      match dx, dy, fits_len f1, fits_len f2 with
      | [d1], [d2], _, _ =>
        simp only [fits, Bool.and_true] at f1 f2
        refine ⟨d1, d2, rx.2 0 _ _ rfl rfl, ry.2 0 _ _ rfl rfl, f1, f2, ?_⟩
        simp only [eqL] at he
        cases h : eq1 d1 d2 <;> simp [h] at he
        rw [he]
    unfold kinds at hk
    split at hk
    · rename_i k hu
      split at hk
      · obtain ⟨d1, d2, r1, r2, g1, g2, e1⟩ := one (.int k) (by simp [tagg, hu]) (by cases hk; rfl)
        cases r1 <;> simp [fit1] at g1
        cases r2 <;> simp [fit1] at g2
        subst g1; subst g2
        simp only [eq1, if_true, Option.some.injEq] at e1
        subst e1
        exact run_equalIn_int w (d + m) t _ _ _ _ hu
      · cases hk
    · rename_i hu
      split at hk
      · obtain ⟨d1, d2, r1, r2, g1, g2, e1⟩ := one .bool (by simp [tagg, hu]) (by cases hk; rfl)
        cases r1 <;> simp [fit1] at g1
        cases r2 <;> simp [fit1] at g2
        simp only [eq1, Option.some.injEq] at e1
        subst e1
        exact run_equalIn_bool' w (d + m) t _ _ hu
      · cases hk
    · rename_i hu
      split at hk
      · obtain ⟨d1, d2, r1, r2, g1, g2, e1⟩ := one .str (by simp [tagg, hu]) (by cases hk; rfl)
        cases r1 with
        | str s l h1 =>
          cases r2 with
          | str s' l' h2 =>
            simp only [eq1, Option.some.injEq] at e1
            subst e1
            have hl : ∀ s : ByteArray, s.toList = s.data.toList := fun s => by simp [ByteArray.toList_eq]
            rw [← h1, ← h2, ← hl, ← hl]
            exact run_equalIn_string w (d + m) t s s' hu
          | _ => simp [fit1] at g2
        | _ => simp [fit1] at g1
      · cases hk
    · rename_i fs hu
      split at hk
      · rename_i hc
        simp only [Bool.and_eq_true, beq_iff_eq, Bool.not_eq_true'] at hc
        obtain ⟨ls, hls, rfl⟩ := Option.map_eq_some_iff.1 hk
        have hag : tagg P t = some true := by simp [tagg, hu]
        have ex := hx.1 hag
        have ey := hy.1 hag
        subst ex; subst ey
        have hfs : P.fieldsOf t = fs := by simp [Program.fieldsOf, hu]
        rw [show d + (m + 1) = (d + m) + 1 from rfl, run_equalIn_struct w (d + m) t _ _ (by rw [hfs]; exact hu) hc.1.1, hfs]
        refine eqFields_sound m (d + m) (fun t' ks' h' => eqIn_sound d m t' ks' h') (dx := dx) (dy := dy) (by simpa using rx) (by simpa using ry) w fs.toList ls 0 _ b (fun f hf => ?_) hls hc.2 (by simpa using f1) (by simpa using f2) (by simpa using he)
        have := List.all_eq_true.1 hc.1.2 f hf
        simpa using this
      · cases hk
    · rename_i n e hu
      simp only [Option.bind_eq_some_iff] at hk
      obtain ⟨l, h1, h2⟩ := hk
      split at h2
      · rename_i hc
        cases h2
        have hag : tagg P t = some true := by simp [tagg, hu]
        have ex := hx.1 hag
        have ey := hy.1 hag
        subst ex; subst ey
        obtain ⟨⟨ag, hage, hag1⟩, _⟩ := kinds_spec h1
        obtain ⟨i, hi, his⟩ : ∃ i, P.info? e = some i ∧ i.size = tsz P e := by
          cases hq : P.info? e with
          | none =>
            have : P.underlying e = none := by simp [Program.underlying, hq]
            simp [tagg, this] at hage
          | some i => exact ⟨i, rfl, by simp [tsz, hq]⟩
        have hco : P.cellsOf e = tsz P e := by simp [Program.cellsOf, tsz]
        rw [show d + (m + 1) = (d + m) + 1 from rfl, run_equalIn_array w (d + m) _ _ hu hi, hco, List.range_eq_range']
        exact eqItems_sound (d + m) (eqIn_sound d m e l h1) hage hag1 hc.1 hc.2.1 (dx := dx) (dy := dy) (by simpa using rx) (by simpa using ry) w n 0 b (by simpa using f1) (by simpa using f2) (by simpa using he)
      · cases h2
    · cases hk

theorem aeq_sound (hR : Rel B w0 g σ w) {op : BinOp} {r : Bool} {K : D → St → Prop} (hk : aeq op r σ K) : ∃ c, Comes' B w0 g K (.bool c) w ∧ ((op = .eql ∧ c = r) ∨ (op = .neq ∧ c = !r)) := by
  unfold aeq at hk
  split at hk
  · exact ⟨r, same_sound hR (.bool _) hk, .inl ⟨rfl, rfl⟩⟩
  · exact ⟨!r, same_sound hR (.bool _) hk, .inr ⟨rfl, rfl⟩⟩
  · cases hk

theorem equal_run {op : BinOp} {t : TypeId} {x y : Value} {r c : Bool} (h : (Op.equal t x y).run P w = .ok r w) (hc : (op = .eql ∧ c = r) ∨ (op = .neq ∧ c = !r))
    (h1 : ∀ v, (binOp .eql t x y).run P w = .ok v w ↔ ((do pure (.bool (← Op.equal t x y)) : Sem Value).run P w = .ok v w)) (h2 : ∀ v, (binOp .neq t x y).run P w = .ok v w ↔ ((do pure (.bool (!(← Op.equal t x y))) : Sem Value).run P w = .ok v w)) :
    (binOp op t x y).run P w = .ok (.bool c) w := by
  rcases hc with ⟨rfl, rfl⟩ | ⟨rfl, rfl⟩
  · rw [h1]; simp [h]
  · rw [h2]; simp [h]

theorem eqIn_ptr_nil (d : Nat) {t e : TypeId} (hu : P.underlying t = some (.pointer e)) (a : Option Addr) : (Op.equalIn (d + 1) t (.pointer a) (.pointer none)).run P w = .ok a.isNone w := by
  cases a <;> simp [Op.equalIn, run_underlying hu]
theorem eqIn_nil_ptr (d : Nat) {t e : TypeId} (hu : P.underlying t = some (.pointer e)) (a : Option Addr) : (Op.equalIn (d + 1) t (.pointer none) (.pointer a)).run P w = .ok a.isNone w := by
  cases a <;> simp [Op.equalIn, run_underlying hu]
theorem eqIn_sl_nil (d : Nat) {t e : TypeId} (hu : P.underlying t = some (.slice e)) (a : Option Addr) (n c n' c' : Nat) : (Op.equalIn (d + 1) t (.slice a n c) (.slice none n' c')).run P w = .ok a.isNone w := by
  cases a <;> simp [Op.equalIn, run_underlying hu]
theorem eq_ptr_same {t e : TypeId} {j : TypeInfo} (hu : P.underlying t = some (.pointer e)) (hj : P.info? e = some j) (a : Addr) : (Op.equal t (.pointer (some a)) (.pointer (some a))).run P w = .ok true w := by
  have h : ∀ d : Nat, (Op.equalIn (d + 1) t (.pointer (some a)) (.pointer (some a))).run P w = .ok true w := fun d => by
    simp [Op.equalIn, run_underlying hu, sizeOf, typeInfo, hj, run_sameAddr_same]
  simp [Op.equal, Op.maxDepth, h 9999]
theorem eq_ptr_nil {t e : TypeId} (hu : P.underlying t = some (.pointer e)) (a : Option Addr) : (Op.equal t (.pointer a) (.pointer none)).run P w = .ok a.isNone w := eqIn_ptr_nil 9999 hu a
theorem eq_nil_ptr {t e : TypeId} (hu : P.underlying t = some (.pointer e)) (a : Option Addr) : (Op.equal t (.pointer none) (.pointer a)).run P w = .ok a.isNone w := eqIn_nil_ptr 9999 hu a
theorem eq_sl_nil {t e : TypeId} (hu : P.underlying t = some (.slice e)) (a : Option Addr) (n c n' c' : Nat) : (Op.equal t (.slice a n c) (.slice none n' c')).run P w = .ok a.isNone w := eqIn_sl_nil 9999 hu a n c n' c'

set_option maxHeartbeats 400000 in
theorem bin_sound (hR : Rel B w0 g σ w) (op : BinOp) {t : TypeId} {x y : Value} {xd yd : D} (hx : RV g x xd) (hy : RV g y yd) {K : D → St → Prop} (hk : abin P op t xd yd σ K) :
    ∃ v, (binOp op t x y).run P w = .ok v w ∧ Comes' B w0 g K v w ∧ ((∃ cx cy, x = .agg cx ∧ y = .agg cy) → P.eqGuardType P.depth t = false) ∧ ¬ (x = .nilIface ∧ y = .nilIface) := by
  unfold abin at hk
  split at hk
  · cases hx; cases hy
    obtain ⟨v, e1, e2⟩ := binI_sound hR op t _ _ _ _ hk
    exact ⟨v, e1, e2, (by rintro ⟨_, _, h, _⟩; cases h), (by rintro ⟨h, _⟩; cases h)⟩
  · cases hx with
    | str s l h1 =>
      cases hy with
      | str s' l' h2 =>
        subst h1; subst h2
        obtain ⟨v, e1, e2⟩ := binS_sound hR op t _ _ hk
        exact ⟨v, e1, e2, (by rintro ⟨_, _, h, _⟩; cases h), (by rintro ⟨h, _⟩; cases h)⟩
  · cases hx; cases hy
    obtain ⟨c, e1, e2⟩ := aeq_sound hR hk.2
    refine ⟨_, equal_run (run_equal_bool w t _ _ (isBool_spec hk.1)) e2 (fun v => ?_) (fun v => ?_), e1, (by rintro ⟨_, _, h, _⟩; cases h), (by rintro ⟨h, _⟩; cases h)⟩ <;> rfl
  · rename_i dx dy
    obtain ⟨⟨hag, hgd⟩, ks, hks, f1, f2, b, he, hk⟩ := hk
    cases hx with
    | agg cx _ hl h1 hr =>
      cases hy with
      | agg cy _ hl' h1' hr' =>
        obtain ⟨c, e1, e2⟩ := aeq_sound hR hk
        have hq := eqIn_sound (P := P) (g := g) 9980 20 t ks hks (.agg cx) (.agg cy) cx.toList cy.toList dx dy b w ⟨fun _ => rfl, fun h => by rw [hag] at h; cases h⟩ ⟨fun _ => rfl, fun h => by rw [hag] at h; cases h⟩ ⟨by simpa using hl, fun k v d e e' => hr k v d (by simpa using e) e'⟩ ⟨by simpa using hl', fun k v d e e' => hr' k v d (by simpa using e) e'⟩ f1 f2 he
        refine ⟨_, equal_run (r := b) hq e2 (fun v => ?_) (fun v => ?_), e1, fun _ => hgd, (by rintro ⟨h, _⟩; cases h)⟩ <;> rfl
  · cases hx; cases hy
    obtain ⟨e, hu⟩ := isPtr_spec hk.1
    obtain ⟨c, e1, e2⟩ := aeq_sound hR hk.2
    exact ⟨_, equal_run (r := true) (eq_ptr_nil hu none) e2 (fun v => Iff.rfl) (fun v => Iff.rfl), e1, (by rintro ⟨_, _, h, _⟩; cases h), (by rintro ⟨h, _⟩; cases h)⟩
  · rename_i i o j u
    obtain ⟨hp, ⟨rfl, rfl⟩, hk⟩ := hk
    obtain ⟨c, e1, e2⟩ := aeq_sound hR hk
    unfold isPtrI at hp
    split at hp
    · rename_i e hu
      obtain ⟨ji, hj⟩ := Option.isSome_iff_exists.1 hp
      cases hx with
      | ptr _ b m _ hi =>
        cases hy with
        | ptr _ b' m' _ hi' =>
          rw [hi] at hi'; cases hi'
          refine ⟨_, equal_run (r := true) (eq_ptr_same hu hj _) e2 (fun v => Iff.rfl) (fun v => Iff.rfl), e1, (by rintro ⟨_, _, h, _⟩; cases h), (by rintro ⟨h, _⟩; cases h)⟩
    · cases hp
  · cases hx; cases hy
    obtain ⟨e, hu⟩ := isPtr_spec hk.1
    obtain ⟨c, e1, e2⟩ := aeq_sound hR hk.2
    exact ⟨_, equal_run (r := false) (eq_ptr_nil hu (some _)) e2 (fun v => Iff.rfl) (fun v => Iff.rfl), e1, (by rintro ⟨_, _, h, _⟩; cases h), (by rintro ⟨h, _⟩; cases h)⟩
  · cases hx; cases hy
    obtain ⟨e, hu⟩ := isPtr_spec hk.1
    obtain ⟨c, e1, e2⟩ := aeq_sound hR hk.2
    exact ⟨_, equal_run (r := false) (eq_nil_ptr hu (some _)) e2 (fun v => Iff.rfl) (fun v => Iff.rfl), e1, (by rintro ⟨_, _, h, _⟩; cases h), (by rintro ⟨h, _⟩; cases h)⟩
  · cases hx; cases hy
    obtain ⟨e, hu⟩ := isSl_spec hk.1
    obtain ⟨c, e1, e2⟩ := aeq_sound hR hk.2
    exact ⟨_, equal_run (r := true) (eq_sl_nil hu none 0 0 0 0) e2 (fun v => Iff.rfl) (fun v => Iff.rfl), e1, (by rintro ⟨_, _, h, _⟩; cases h), (by rintro ⟨h, _⟩; cases h)⟩
  · cases hy
    obtain ⟨hs, h0, hk⟩ := hk
    obtain ⟨e, hu⟩ := isSl_spec hs
    obtain ⟨c, e1, e2⟩ := aeq_sound hR hk
    cases hx with
    | slNil => omega
    | sl => exact ⟨_, equal_run (r := false) (eq_sl_nil hu (some _) _ _ 0 0) e2 (fun v => Iff.rfl) (fun v => Iff.rfl), e1, (by rintro ⟨_, _, h, _⟩; cases h), (by rintro ⟨h, _⟩; cases h)⟩
  · cases hy
    obtain ⟨hs, hk⟩ := hk
    obtain ⟨e, hu⟩ := isSl_spec hs
    obtain ⟨c, e1, e2⟩ := aeq_sound hR hk
    cases hx
    exact ⟨_, equal_run (r := false) (eq_sl_nil hu (some _) _ _ 0 0) e2 (fun v => Iff.rfl) (fun v => Iff.rfl), e1, (by rintro ⟨_, _, h, _⟩; cases h), (by rintro ⟨h, _⟩; cases h)⟩
  · cases hk

end
end Go.Av
