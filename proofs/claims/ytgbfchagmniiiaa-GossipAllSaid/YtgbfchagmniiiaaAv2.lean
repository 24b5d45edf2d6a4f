/- append and copy: what is appended, rows that are filled on or grow. -/
import Derived.Test.YtgbfchagmniiiaaAv1
import Derived.Lib.AppendStr
set_option linter.unusedSimpArgs false
set_option linter.unusedVariables false
namespace Go.Av
open Go.RowKit

/-- A slice type's element type, its cells and bytes. -/
def eltE (P : Program) (e : TypeId) : Option (TypeId × Nat × Nat) :=
  match P.info? e with
  | some i => match i.zero with
    | some z => if z.cells.size = i.size ∧ 0 < i.size ∧ 0 < i.bytes then some (e, i.size, i.bytes) else none
    | none => none
  | none => none
def elt (P : Program) (t : TypeId) : Option (TypeId × Nat × Nat) :=
  match P.underlying t with
  | some (.slice e) => eltE P e
  | _ => none

theorem eltE_spec {P : Program} {t e : TypeId} {sz bytes : Nat} (h : eltE P t = some (e, sz, bytes)) :
    t = e ∧ ∃ i z, P.info? e = some i ∧ i.zero = some z ∧ z.cells.size = sz ∧ i.size = sz ∧ 0 < sz ∧ i.bytes = bytes ∧ 0 < bytes := by
  unfold eltE at h
  split at h
  · rename_i i hi
    split at h
    · rename_i z hz
      split at h
      · rename_i hc
        cases h
        exact ⟨rfl, i, z, hi, hz, hc.1, rfl, hc.2.1, rfl, hc.2.2⟩
      · cases h
    · cases h
  · cases h

theorem elt_spec {P : Program} {t e : TypeId} {sz bytes : Nat} (h : elt P t = some (e, sz, bytes)) :
    P.underlying t = some (.slice e) ∧ ∃ i z, P.info? e = some i ∧ i.zero = some z ∧ z.cells.size = sz ∧ i.size = sz ∧ 0 < sz ∧ i.bytes = bytes ∧ 0 < bytes := by
  unfold elt at h
  split at h
  · rename_i e' he
    obtain ⟨rfl, r⟩ := eltE_spec h
    exact ⟨he, r⟩
  · cases h

def bytesD (l : List UInt8) : List D := l.map fun b => .int .u8 b.toNat

/-- The cells of what is appended or copied, and how many elements. -/
def xcells (σ : St) (sz : Nat) : D → Option (Nat × List D)
  | .nil => some (0, [])
  | .e0 => some (0, [])
  | .sl n cs _ => if cs.length = n * sz then some (n, cs) else none
  | .osl id off n s => if s = sz then match σ id with
    | some (.cells l _) => if off + n * sz ≤ l.length then some (n, (l.drop off).take (n * sz)) else none
    | _ => none
    else none
  | .oslc id off n _ s => if s = sz then match σ id with
    | some (.cells l _) => if off + n * sz ≤ l.length then some (n, (l.drop off).take (n * sz)) else none
    | _ => none
    else none
  | .str l => if sz = 1 then some (l.length, bytesD l) else none
  | _ => none

section
variable {P : Program} {B : Nat} {w0 : World} {g : G} {σ : St} {w : World}

theorem add_at (b o j : Nat) : (⟨b, o, none⟩ : Addr).add j = ⟨b, o + j, none⟩ := by unfold Addr.add; split <;> simp_all

/-- A value of n elements of sz cells, and its cells, in this world and in any that has them. -/
def Cells (P : Program) (w : World) (x : Value) (sz n : Nat) (vs : List Value) : Prop :=
  (∀ w', (Builtin.lenOf x).run P w' = .ok n w') ∧ vs.length = n * sz ∧
  (∀ w', (∀ a v, w.cell? a = some v → w'.cell? a = some v) → ∀ m, m ≤ n → (Builtin.firstCells sz m x).run P w' = .ok (vs.take (m * sz)).toArray w')

theorem cells_slice (a : Option Addr) (n c sz : Nat) (vs : List Value) (hl : vs.length = n * sz) (h : ∀ b, a = some b → ∀ (j : Nat) v, vs[j]? = some v → w.cell? (b.add j) = some v) (ha : a = none → n = 0) :
    Cells P w (.slice a n c) sz n vs := by
  refine ⟨fun w' => rfl, hl, fun w' hw m hm => ?_⟩
  cases a with
  | none =>
    have hn := ha rfl
    subst hn
    have hv : vs = [] := List.eq_nil_of_length_eq_zero (by simpa using hl)
    subst hv
    simp [Builtin.firstCells]
  | some b =>
    have hle : m * sz ≤ vs.length := by rw [hl]; exact Nat.mul_le_mul_right _ hm
    exact run_firstCells_some w' sz m b n c (vs.take (m * sz)) (by rw [List.length_take]; omega) (fun j v e => by
      rw [List.getElem?_take] at e
      split at e
      · exact hw _ _ (h b rfl j v e)
      · cases e)

theorem take_bytes (s : ByteArray) (m : Nat) : (s.extract 0 m).data.map (fun b => Value.int .u8 b.toNat) = ((Lib.strCells s).take m).toArray := by
  apply Array.ext'
  simp [Lib.strCells]

theorem rvs_strCells (g : G) (s : ByteArray) : RVs g (Lib.strCells s) (bytesD s.data.toList) := by
  refine ⟨by simp [Lib.strCells, bytesD], fun k v d a b => ?_⟩
  simp only [Lib.strCells, bytesD, List.getElem?_map, Option.map_eq_some_iff] at a b
  obtain ⟨x, hx, rfl⟩ := a
  obtain ⟨y, hy, rfl⟩ := b
  rw [hx] at hy; cases hy
  exact .int _ _

theorem one_bytesD (l : List UInt8) : ∀ d ∈ bytesD l, d.one = true := by
  intro d hd
  simp only [bytesD, List.mem_map] at hd
  obtain ⟨b, _, rfl⟩ := hd
  rfl

theorem list_of (n : Nat) (f : Nat → Value) : ∃ l : List Value, l.length = n ∧ ∀ k, k < n → l[k]? = some (f k) :=
  ⟨(List.range n).map f, by simp, fun k hk => by simp [hk]⟩

theorem xcells_spec (h : Rel B w0 g σ w) {x : Value} {xd : D} (hx : RV g x xd) {sz n : Nat} {ds : List D} (hc : xcells σ sz xd = some (n, ds)) :
    ds.length = n * sz ∧ (∀ d ∈ ds, d.one = true) ∧ ∃ vs, RVs g vs ds ∧ Cells P w x sz n vs := by
  cases hx with
  | nil =>
    simp only [xcells] at hc; cases hc
    exact ⟨by simp, by simp, [], RVs.nil, cells_slice none 0 0 sz [] (by simp) (fun b e => by cases e) (fun _ => rfl)⟩
  | e0 a =>
    simp only [xcells] at hc; cases hc
    exact ⟨by simp, by simp, [], RVs.nil, cells_slice a 0 0 sz [] (by simp) (fun b e j v ev => by simp at ev) (fun _ => rfl)⟩
  | slNil a =>
    simp only [xcells] at hc
    split at hc
    · cases hc
      exact ⟨by simp, by simp, [], RVs.nil, cells_slice a 0 0 sz [] (by simp) (fun b e j v ev => by simp at ev) (fun _ => rfl)⟩
    · cases hc
  | sl b off n' cap cs t us hcap hm hi h1 hr ht =>
    simp only [xcells] at hc
    split at hc
    · rename_i hl
      cases hc
      obtain ⟨vs, hvl, hv⟩ := list_of ds.length us
      refine ⟨hl, h1, vs, ⟨hvl, fun k v d a e => ?_⟩, cells_slice _ _ _ sz vs (by omega) (fun b' e j v ev => ?_) (fun e => by cases e)⟩
      · have hk : k < ds.length := (List.getElem?_eq_some_iff.1 e).1
        rw [hv k hk] at a; cases a
        exact hr k d e
      · cases e
        have hk : j < ds.length := by rw [← hvl]; exact (List.getElem?_eq_some_iff.1 ev).1
        rw [hv j hk] at ev; cases ev
        rw [add_at]
        exact h.imm _ _ _ (hi j hk)
    · cases hc
  | osl id b m off n' cap s hi hcap hm hf =>
    simp only [xcells] at hc
    split at hc
    · rename_i hs
      subst hs
      split at hc
      · rename_i l T' hl
        split at hc
        · rename_i hfit
          cases hc
          obtain ⟨_, _, arr, T, fr, a3, a4, a5, a6, a7⟩ := h.cell hl hi
          obtain ⟨vs, hvl, hv⟩ := list_of (n * s) (fun k => arr.getD (off + k) undef)
          have hget : ∀ k, k < n * s → ∀ d, ((l.drop off).take (n * s))[k]? = some d → l[off + k]? = some d := by
            intro k hk d e
            rw [List.getElem?_take, if_pos hk, List.getElem?_drop] at e
            exact e
          refine ⟨by simp; omega, fun d hd => a6 d (List.mem_of_mem_drop (List.mem_of_mem_take hd)), vs, ⟨by simp [hvl]; omega, fun k v d a e => ?_⟩, cells_slice _ _ _ s vs hvl (fun b' e j v ev => ?_) (fun e => by cases e)⟩
          · have hk : k < n * s := by rw [← hvl]; exact (List.getElem?_eq_some_iff.1 a).1
            rw [hv k hk] at a; cases a
            obtain ⟨v, c1, _, _, c4⟩ := a7 (off + k) d (hget k hk d e)
            simp [c1]; exact c4
          · cases e
            have hk : j < n * s := by rw [← hvl]; exact (List.getElem?_eq_some_iff.1 ev).1
            have hk' : off + j < l.length := by omega
            obtain ⟨v', c1, c2, _, _⟩ := a7 (off + j) _ (List.getElem?_eq_getElem hk')
            rw [hv j hk] at ev; cases ev
            rw [add_at, c2]
            simp [c1]
        · cases hc
      · cases hc
    · cases hc
  | oslc id b m off n' cap s hi hcap hm hf =>
    simp only [xcells] at hc
    split at hc
    · rename_i hs
      subst hs
      split at hc
      · rename_i l T' hl
        split at hc
        · rename_i hfit
          cases hc
          obtain ⟨_, _, arr, T, fr, a3, a4, a5, a6, a7⟩ := h.cell hl hi
          obtain ⟨vs, hvl, hv⟩ := list_of (n * s) (fun k => arr.getD (off + k) undef)
          have hget : ∀ k, k < n * s → ∀ d, ((l.drop off).take (n * s))[k]? = some d → l[off + k]? = some d := by
            intro k hk d e
            rw [List.getElem?_take, if_pos hk, List.getElem?_drop] at e
            exact e
          refine ⟨by simp; omega, fun d hd => a6 d (List.mem_of_mem_drop (List.mem_of_mem_take hd)), vs, ⟨by simp [hvl]; omega, fun k v d a e => ?_⟩, cells_slice _ _ _ s vs hvl (fun b' e j v ev => ?_) (fun e => by cases e)⟩
          · have hk : k < n * s := by rw [← hvl]; exact (List.getElem?_eq_some_iff.1 a).1
            rw [hv k hk] at a; cases a
            obtain ⟨v, c1, _, _, c4⟩ := a7 (off + k) d (hget k hk d e)
            simp [c1]; exact c4
          · cases e
            have hk : j < n * s := by rw [← hvl]; exact (List.getElem?_eq_some_iff.1 ev).1
            have hk' : off + j < l.length := by omega
            obtain ⟨v', c1, c2, _, _⟩ := a7 (off + j) _ (List.getElem?_eq_getElem hk')
            rw [hv j hk] at ev; cases ev
            rw [add_at, c2]
            simp [c1]
        · cases hc
      · cases hc
    · cases hc
  | str s l hl =>
    simp only [xcells] at hc
    split at hc
    · rename_i hs
      subst hs
      subst hl
      cases hc
      refine ⟨by simp [bytesD], one_bytesD _, Lib.strCells s, rvs_strCells g s, fun w' => ?_, ?_, fun w' _ m hm => ?_⟩
      · have : s.data.toList.length = s.size := by simp
        rw [this]; rfl
      · rw [Lib.strCells_length]; simp
      · simp only [Builtin.firstCells, Nat.mul_one]
        rw [take_bytes]; rfl
    · cases hc
  | int | bool | nilp | nili | agg | tup | ptr | eptr | fn | raw => simp [xcells] at hc

/-! ### append, as the machine runs it -/
/-- A string or a slice. -/
def noInt : Option TypeDesc → Bool
  | some .string => true
  | some (.slice _) => true
  | _ => false

theorem noInt_spec {u : TypeId} (hu : noInt (P.underlying u) = true) : P.underlying u = some .string ∨ ∃ e, P.underlying u = some (.slice e) := by
  unfold noInt at hu
  split at hu
  · left; assumption
  · right; exact ⟨_, by assumption⟩
  · cases hu

theorem cells_full {x : Value} {sz n : Nat} {news : List Value} (hx : Cells P w x sz n news) (w' : World) (hw : ∀ a v, w.cell? a = some v → w'.cell? a = some v) :
    (Builtin.firstCells sz n x).run P w' = .ok news.toArray w' := by
  obtain ⟨h1, h2, h3⟩ := hx
  have := h3 w' hw n (Nat.le_refl _)
  rwa [List.take_of_length_le (by omega)] at this

set_option maxHeartbeats 1000000 in
theorem run_append_grows {t u ty e : TypeId} {i : TypeInfo} {z : Value} {sz : Nat} (ht : P.underlying t = some (.slice e)) (hu : noInt (P.underlying u) = true) (hi : P.info? e = some i) (hz : i.zero = some z) (hsz : i.size = sz)
    {base : Option Addr} {sLen sCap n : Nat} {x : Value} {news : List Value} (hx : Cells P w x sz n news) (hcap : sLen ≤ sCap)
    (olds : List Value) (hlo : olds.length = sLen * sz) (ho : ∀ b, base = some b → ∀ (j : Nat) v, olds[j]? = some v → w.cell? (b.add j) = some v) (hb : base = none → sCap = 0)
    (hn : (sLen + n) * i.bytes ≤ 140737488355328) (h63 : sLen + n ≤ 9223372036854775807) (hg : sCap < sLen + n) :
    ∃ cap, sLen + n ≤ cap ∧ cap ≤ maxLen ∧ (Builtin.append_ #[t, u] ty #[.slice base sLen sCap, x]).run P w = .ok (.slice (some ⟨w.heap.size, 0, none⟩) (sLen + n) cap) (w.drew.alloc (.cells (olds ++ news ++ (Builtin.zeroCells z.cells (cap - (sLen + n))).toList).toArray e)) := by
  have hold : (Builtin.firstCells sz sLen (.slice base sLen sCap)).run P w.drew = .ok olds.toArray w.drew := by
    cases base with
    | none =>
      have hs0 : sLen = 0 := by have := hb rfl; omega
      subst hs0
      have : olds = [] := List.eq_nil_of_length_eq_zero (by simpa using hlo)
      subst this
      simp [Builtin.firstCells]
    | some b => exact run_firstCells_some w.drew sz sLen b sLen sCap olds hlo (fun j v e => ho b rfl j v e)
  have h63' : ¬ (9223372036854775807 < ((sLen : Int) + (n : Int))) := by omega
  have hn' : ¬ (sLen + n ≤ sCap) := by omega
  have h48' : ¬ (281474976710656 < Builtin.nextslicecap (sLen + n) sCap * i.bytes) := by
    have := growslice_fits hg hn
    omega
  refine ⟨grownCap w (sLen + n) sCap e, grownCap_ge w _ _ _, grownCap_le_maxLen w _ _ _ (by unfold maxLen; omega), ?_⟩
  have hf := cells_full hx w.drew (fun a v e => e)
  have hl := hx.1
  subst hsz
  rcases noInt_spec hu with hu' | ⟨e', hu'⟩
  all_goals simp only [Builtin.append_, List.size_toArray, List.length_cons, List.length_nil, List.getElem?_toArray, List.getElem?_cons_zero, List.getElem?_cons_succ, Sem.run_bind, run_underlying ht, Result.andThen_ok, sizeOf, typeInfo, run_program, Sem.run_pure, hi, run_underlying hu', hl, Bool.false_eq_true, if_false, if_neg hn']
  all_goals simp [h63', h48', Question.forced, hold, hf, newRow, grownCap, zeroValue, typeInfo, hi, hz]
  all_goals congr 2
  all_goals apply Array.ext'
  all_goals simp [List.append_assoc]

theorem run_append_room_none {t u ty e : TypeId} {i : TypeInfo} {sz : Nat} (ht : P.underlying t = some (.slice e)) (hu : noInt (P.underlying u) = true) (hi : P.info? e = some i) (hsz : i.size = sz)
    {n : Nat} {x : Value} {news : List Value} (hx : Cells P w x sz n news) (hn0 : n = 0) (base : Option Addr) :
    (Builtin.append_ #[t, u] ty #[.slice base 0 0, x]).run P w = .ok (.slice base 0 0) w := by
  have hf := cells_full hx w (fun a v e => e)
  have hl := hx.1
  subst hsz
  subst hn0
  have hnn : news = [] := List.eq_nil_of_length_eq_zero (by simpa using hx.2.1)
  subst hnn
  rcases noInt_spec hu with hu' | ⟨e', hu'⟩
  all_goals simp only [Builtin.append_, List.size_toArray, List.length_cons, List.length_nil, List.getElem?_toArray, List.getElem?_cons_zero, List.getElem?_cons_succ, Sem.run_bind, run_underlying ht, Result.andThen_ok, sizeOf, typeInfo, run_program, Sem.run_pure, hi, run_underlying hu', hl, Bool.false_eq_true, if_false]
  all_goals cases base <;> simp [hf, storeCells]

theorem run_append_room_gen {t u ty e : TypeId} {i : TypeInfo} {sz : Nat} (ht : P.underlying t = some (.slice e)) (hu : noInt (P.underlying u) = true) (hi : P.info? e = some i) (hsz : i.size = sz)
    {sLen sCap n : Nat} {x : Value} {news : List Value} (hx : Cells P w x sz n news) (hroom : sLen + n ≤ sCap) (b off : Nat) (hth : w.there b (off + sLen * sz) news.length) (h1c : ∀ v ∈ news, v.oneCell' = true) :
    (Builtin.append_ #[t, u] ty #[.slice (some ⟨b, off, none⟩) sLen sCap, x]).run P w = .ok (.slice (some ⟨b, off, none⟩) (sLen + n) sCap) (w.setCells b (off + sLen * sz) news) := by
  have hf := cells_full hx w (fun a v e => e)
  have hl := hx.1
  subst hsz
  have hst := run_storeCells_cells (P := P) b (off + sLen * i.size) news 0 w (fun j hj => by simpa using (hth j hj).1) (fun j hj => by simpa using (hth j hj).2) h1c
  simp only [Nat.add_zero] at hst
  rcases noInt_spec hu with hu' | ⟨e', hu'⟩
  all_goals simp only [Builtin.append_, List.size_toArray, List.length_cons, List.length_nil, List.getElem?_toArray, List.getElem?_cons_zero, List.getElem?_cons_succ, Sem.run_bind, run_underlying ht, Result.andThen_ok, sizeOf, typeInfo, run_program, Sem.run_pure, hi, run_underlying hu', hl, Bool.false_eq_true, if_false, if_pos hroom]
  all_goals simp [hf, add_at, hst]

end
end Go.Av
