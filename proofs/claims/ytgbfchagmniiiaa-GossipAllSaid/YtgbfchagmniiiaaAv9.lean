/- '==' of aggregates, conversions, builtins. -/
import Derived.Test.YtgbfchagmniiiaaAv8
import Derived.LaidEql
import Derived.DeepKeys
import Derived.Lib.ConvBytes
set_option linter.unusedSimpArgs false
set_option linter.unusedVariables false
namespace Go.Av
open Go.RowKit

section
variable {P : Program} {γ : Gl} {B : Nat} {w0 : World} {g : G} {σ : St} {w : World}

theorem eqL_append : ∀ (a c b d : List D), a.length = c.length → eqL (a ++ b) (c ++ d) = match eqL a c, eqL b d with
    | some p, some q => some (p && q)
    | _, _ => none
  | [], [], b, d, _ => by
    simp only [List.nil_append, eqL]
    cases eqL b d <;> simp
  | x :: a, y :: c, b, d, h => by
    simp only [List.cons_append, eqL]
    rw [eqL_append a c b d (by simpa using h)]
    cases eq1 x y <;> cases eqL a c <;> cases eqL b d <;> simp [Bool.and_assoc]
  | [], _ :: _, _, _, h => by simp at h
  | _ :: _, [], _, _, h => by simp at h

/-- A value of type t whose cells are l. -/
def CV (P : Program) (t : TypeId) (v : Value) (l : List Value) : Prop := (tagg P t = some true → v = .agg l.toArray) ∧ (tagg P t = some false → l = [v])

theorem part_cv {t : TypeId} {ag : Bool} (hag : tagg P t = some ag) {cs : Array Value} {off : Nat} (hf : off + tsz P t ≤ cs.size) (h1 : ag = false → tsz P t = 1) : ∃ v, (part t cs off).run P w = .ok v w ∧ CV P t v ((cs.toList.drop off).take (tsz P t)) := by
  have hinfo : ∃ i, P.info? t = some i ∧ i.size = tsz P t := by
    cases hq : P.info? t with
    | none =>
      have : P.underlying t = none := by simp [Program.underlying, hq]
      simp [tagg, this] at hag
    | some i => exact ⟨i, rfl, by simp [tsz, hq]⟩
  obtain ⟨i, hi, his⟩ := hinfo
  cases ag with
  | true =>
    obtain ⟨d, hu, hd⟩ := tagg_true hag
    have hagg : (isAgg t).run P w = .ok true w := by
      unfold isAgg
      rw [Sem.run_bind, run_underlying hu w]
      cases d <;> simp_all
    refine ⟨.agg (cs.extract off (off + tsz P t)), by simp [part, hagg, sizeOf, typeInfo, hi, his], fun _ => ?_, fun h => by rw [hag] at h; cases h⟩
    congr 1
    apply Array.ext'
    simp [List.extract_eq_take_drop]
  | false =>
    have h1' := h1 rfl
    have ho : off < cs.size := by omega
    obtain ⟨dt, hu, hdt⟩ := tagg_false hag
    have hagg : (isAgg t).run P w = .ok false w := by
      unfold isAgg
      rw [Sem.run_bind, run_underlying hu w]
      cases dt <;> simp_all
    refine ⟨cs[off], by simp [part, hagg, ho], (fun h => by rw [hag] at h; cases h), fun _ => ?_⟩
    rw [h1', List.drop_eq_getElem_cons (by simpa using ho)]
    simp

theorem kinds_spec {m : Nat} {t : TypeId} {ks : List LK} (h : kinds P m t = some ks) : (∃ ag, tagg P t = some ag ∧ (ag = false → tsz P t = 1)) ∧ ks.length = tsz P t := by
  cases m with
  | zero => cases h
  | succ m =>
    unfold kinds at h
    split at h
    · rename_i k hu
      split at h
      · rename_i h1; cases h; exact ⟨⟨false, by simp [tagg, hu], fun _ => h1⟩, h1.symm⟩
      · cases h
    · rename_i hu
      split at h
      · rename_i h1; cases h; exact ⟨⟨false, by simp [tagg, hu], fun _ => h1⟩, h1.symm⟩
      · cases h
    · rename_i hu
      split at h
      · rename_i h1; cases h; exact ⟨⟨false, by simp [tagg, hu], fun _ => h1⟩, h1.symm⟩
      · cases h
    · rename_i fs hu
      split at h
      · rename_i hc
        refine ⟨⟨true, by simp [tagg, hu], fun h => by cases h⟩, ?_⟩
        simp only [Bool.and_eq_true, beq_iff_eq] at hc
        obtain ⟨ls, hls, rfl⟩ := Option.map_eq_some_iff.1 h
        have key : ∀ (fs : List Field) (ls : List (List LK)) (o n : Nat), fs.mapM (fun f => (kinds P m f.type).bind fun l => if l.length = tsz P f.type ∧ 0 < l.length then some l else none) = some ls → contig P o fs = some n → o + ls.flatten.length = n := by
          intro fs
          induction fs with
          | nil => intro ls o n h1 h2; simp at h1; subst h1; simp only [contig, Option.some.injEq] at h2; simp; exact h2
          | cons f fs ih =>
            intro ls o n h1 h2
            rw [List.mapM_cons] at h1
            simp only [bind, Option.bind_eq_some_iff, pure, Option.some.injEq] at h1
            obtain ⟨l, ⟨l', h3, h4⟩, ls', h5, rfl⟩ := h1
            split at h4
            · rename_i hl
              cases h4
              simp only [contig] at h2
              split at h2
              · have := ih ls' _ n h5 h2
                simp only [List.flatten_cons, List.length_append]
                omega
              · cases h2
            · cases h4
        have := key _ _ 0 _ hls hc.2
        omega
      · cases h
    · rename_i n e hu
      simp only [Option.bind_eq_some_iff] at h
      obtain ⟨l, h1, h2⟩ := h
      split at h2
      · rename_i hc
        cases h2
        refine ⟨⟨true, by simp [tagg, hu], fun h => by cases h⟩, ?_⟩
        rw [length_replicate_flatten, hc.1, hc.2.2]
      · cases h2
    · cases h

def EqSound (P : Program) (g : G) (dd : Nat) (t : TypeId) (ks : List LK) : Prop :=
  ∀ (x y : Value) (xs ys : List Value) (dx dy : List D) (b : Bool) (w : World), CV P t x xs → CV P t y ys → RVs g xs dx → RVs g ys dy → fits ks dx = true → fits ks dy = true → eqL dx dy = some b → (Op.equalIn dd t x y).run P w = .ok b w

theorem fits_len : ∀ {ks : List LK} {ds : List D}, fits ks ds = true → ds.length = ks.length
  | [], [], _ => rfl
  | k :: ks, d :: ds, h => by
    simp only [fits, Bool.and_eq_true] at h
    simp [fits_len h.2]
  | [], _ :: _, h => by cases h
  | _ :: _, [], h => by cases h

theorem fits_split : ∀ {k1 k2 : List LK} {ds : List D}, fits (k1 ++ k2) ds = true → fits k1 (ds.take k1.length) = true ∧ fits k2 (ds.drop k1.length) = true
  | [], k2, ds, h => ⟨rfl, by simpa using h⟩
  | k :: k1, k2, [], h => by cases h
  | k :: k1, k2, d :: ds, h => by
    simp only [List.cons_append, fits, Bool.and_eq_true] at h
    obtain ⟨a, b⟩ := fits_split h.2
    exact ⟨by simp [fits, h.1, a], by simpa using b⟩

theorem rvs_range {xs : List Value} {dx : List D} (h : RVs g xs dx) (a n : Nat) : RVs g ((xs.drop a).take n) ((dx.drop a).take n) :=
  ⟨by simp [h.1], fun k v d e e' => by
    rw [List.getElem?_take, List.getElem?_drop] at e e'
    split at e
    · rename_i hk
      rw [if_pos hk] at e'
      exact h.2 _ v d e e'
    · cases e⟩

theorem eqL_len {a b : List D} {r : Bool} (h : eqL a b = some r) : a.length = b.length := by
  induction a generalizing b r with
  | nil => cases b with
    | nil => rfl
    | cons y b => simp [eqL] at h
  | cons x a ih => cases b with
    | nil => simp [eqL] at h
    | cons y b =>
      simp only [eqL] at h
      cases h1 : eq1 x y <;> cases h2 : eqL a b <;> simp [h1, h2] at h
      simp [ih h2]

theorem eqL_split {a b : List D} {r : Bool} (h : eqL a b = some r) (n : Nat) : ∃ p q, eqL (a.take n) (b.take n) = some p ∧ eqL (a.drop n) (b.drop n) = some q ∧ r = (p && q) := by
  have hl := eqL_len h
  have := eqL_append (a.take n) (b.take n) (a.drop n) (b.drop n) (by simp [hl])
  rw [List.take_append_drop, List.take_append_drop, h] at this
  cases h1 : eqL (a.take n) (b.take n) <;> cases h2 : eqL (a.drop n) (b.drop n) <;> simp [h1, h2] at this
  exact ⟨_, _, rfl, rfl, this⟩

theorem drop_take_drop {α : Type} (l : List α) (a n m : Nat) : ((l.drop a).take (n + m)).drop n = (l.drop (a + n)).take m := by
  rw [List.drop_take, List.drop_drop, Nat.add_sub_cancel_left]
theorem take_take_le {α : Type} (l : List α) (a n m : Nat) : ((l.drop a).take (n + m)).take n = (l.drop a).take n := by
  rw [List.take_take, Nat.min_eq_left (by omega)]

theorem eqFields_sound (m dd : Nat) (hs : ∀ t ks, kinds P m t = some ks → EqSound P g dd t ks) {xs ys : Array Value} {dx dy : List D} (hx : RVs g xs.toList dx) (hy : RVs g ys.toList dy) (w : World) : ∀ (fs : List Field) (ls : List (List LK)) (o n : Nat) (b : Bool), (∀ f ∈ fs, f.name ≠ "_") →
    fs.mapM (fun f => (kinds P m f.type).bind fun l => if l.length = tsz P f.type ∧ 0 < l.length then some l else none) = some ls → contig P o fs = some n → fits ls.flatten (dx.drop o) = true → fits ls.flatten (dy.drop o) = true → eqL (dx.drop o) (dy.drop o) = some b → (Op.eqFields dd xs ys fs).run P w = .ok b w
  | [], ls, o, n, b, _, hm, _, f1, f2, he => by
    simp at hm
    subst hm
    have h1 : dx.drop o = [] := List.eq_nil_of_length_eq_zero (by simpa using fits_len f1)
    have h2 : dy.drop o = [] := List.eq_nil_of_length_eq_zero (by simpa using fits_len f2)
    rw [h1, h2] at he
    simp [eqL] at he
    subst he
    simp [Op.eqFields]
  | f :: fs, ls, o, n, b, hall, hm, hc, f1, f2, he => by
    rw [List.mapM_cons] at hm
    simp only [bind, Option.bind_eq_some_iff, pure, Option.some.injEq] at hm
    obtain ⟨l, ⟨l', h3, h4⟩, ls', h5, rfl⟩ := hm
    split at h4
    · rename_i hl
      obtain ⟨hl, hl0⟩ := hl
      cases h4
      simp only [contig] at hc
      split at hc
      · rename_i hfo
        subst hfo
        have hn := hall f (by simp)
        obtain ⟨⟨ag, hag, hag1⟩, _⟩ := kinds_spec h3
        rw [List.flatten_cons] at f1 f2
        have lx := fits_len f1
        have ly := fits_len f2
        obtain ⟨a1, a2⟩ := fits_split f1
        obtain ⟨b1, b2⟩ := fits_split f2
        rw [hl] at a1 a2 b1 b2
        simp only [List.length_drop, List.length_append, hl] at lx ly
        obtain ⟨p, q, e1, e2, rfl⟩ := eqL_split he (tsz P f.type)
        rw [List.drop_drop] at a2 b2
        rw [List.drop_drop, List.drop_drop] at e2
        have sx : xs.size = dx.length := by have := hx.1; simpa using this
        have sy : ys.size = dy.length := by have := hy.1; simpa using this
        obtain ⟨va, ra, ca⟩ := part_cv (P := P) (w := w) hag (cs := xs) (off := f.offset) (by omega) hag1
        obtain ⟨vb, rb, cb⟩ := part_cv (P := P) (w := w) hag (cs := ys) (off := f.offset) (by omega) hag1
        have hr := hs f.type _ h3 va vb _ _ _ _ p w ca cb (rvs_range hx _ _) (rvs_range hy _ _) a1 b1 e1
        have ih := eqFields_sound m dd hs hx hy w fs ls' (f.offset + tsz P f.type) n q (fun f' hf' => hall f' (by simp [hf'])) h5 hc a2 b2 e2
        rw [Op.eqFields]
        simp only [if_pos hn, Sem.run_bind, ra, rb, hr, Result.andThen_ok]
        cases p
        · simp
        · simpa using ih
      · cases hc
    · cases h4

theorem eqItems_sound (dd : Nat) {e : TypeId} {l : List LK} (hs : EqSound P g dd e l) {ag : Bool} (hag : tagg P e = some ag) (hag1 : ag = false → tsz P e = 1) (hl : l.length = tsz P e) (hl0 : 0 < l.length) {xs ys : Array Value} {dx dy : List D} (hx : RVs g xs.toList dx) (hy : RVs g ys.toList dy) (w : World) : ∀ (k i : Nat) (b : Bool),
    fits (List.replicate k l).flatten (dx.drop (i * tsz P e)) = true → fits (List.replicate k l).flatten (dy.drop (i * tsz P e)) = true → eqL (dx.drop (i * tsz P e)) (dy.drop (i * tsz P e)) = some b → (Op.eqItems dd e (tsz P e) xs ys (List.range' i k)).run P w = .ok b w
  | 0, i, b, f1, f2, he => by
    have h1 : dx.drop (i * tsz P e) = [] := List.eq_nil_of_length_eq_zero (by simpa using fits_len f1)
    have h2 : dy.drop (i * tsz P e) = [] := List.eq_nil_of_length_eq_zero (by simpa using fits_len f2)
    rw [h1, h2] at he
    simp [eqL] at he
    subst he
    simp [Op.eqItems]
  | k + 1, i, b, f1, f2, he => by
    rw [List.replicate_succ, List.flatten_cons] at f1 f2
    have lx := fits_len f1
    have ly := fits_len f2
    obtain ⟨a1, a2⟩ := fits_split f1
    obtain ⟨b1, b2⟩ := fits_split f2
    rw [hl] at a1 a2 b1 b2
    simp only [List.length_drop, List.length_append, hl] at lx ly
    obtain ⟨p, q, e1, e2, rfl⟩ := eqL_split he (tsz P e)
    have hi1 : i * tsz P e + tsz P e = (i + 1) * tsz P e := by rw [Nat.add_mul, Nat.one_mul]
    rw [List.drop_drop, hi1] at a2 b2
    rw [List.drop_drop, List.drop_drop, hi1] at e2
    have sx : xs.size = dx.length := by have := hx.1; simpa using this
    have sy : ys.size = dy.length := by have := hy.1; simpa using this
    obtain ⟨va, ra, ca⟩ := part_cv (P := P) (w := w) hag (cs := xs) (off := i * tsz P e) (by omega) hag1
    obtain ⟨vb, rb, cb⟩ := part_cv (P := P) (w := w) hag (cs := ys) (off := i * tsz P e) (by omega) hag1
    have hr := hs va vb _ _ _ _ p w ca cb (rvs_range hx _ _) (rvs_range hy _ _) a1 b1 e1
    have ih := eqItems_sound dd hs hag hag1 hl hl0 hx hy w k (i + 1) q a2 b2 e2
    rw [List.range'_succ, Op.eqItems]
    simp only [Sem.run_bind, ra, rb, hr, Result.andThen_ok]
    cases p
    · simp
    · simpa using ih

theorem eqIn_sound (d : Nat) : ∀ (m : Nat) (t : TypeId) (ks : List LK), kinds P m t = some ks → EqSound P g (d + m) t ks
  | 0, _, _, h => by cases h
  | m + 1, t, ks, hk => by
    intro x y xs ys dx dy b w hx hy rx ry f1 f2 he
    have one : ∀ k, tagg P t = some false → ks = [k] → ∃ d1 d2, RV g x d1 ∧ RV g y d2 ∧ fit1 k d1 = true ∧ fit1 k d2 = true ∧ eq1 d1 d2 = some b := by
      intro k hag hk1
      subst hk1
      have ex := hx.2 hag
      have ey := hy.2 hag
      subst ex; subst ey
      match dx, dy, fits_len f1, fits_len f2 with
      | [d1], [d2], _, _ =>
        simp only [fits, Bool.and_true] at f1 f2
        refine ⟨d1, d2, rx.2 0 _ _ rfl rfl, ry.2 0 _ _ rfl rfl, f1, f2, ?_⟩
        simp only [eqL] at he
        cases h : eq1 d1 d2 <;> simp [h] at he
        rw [he]
    unfold kinds at hk
    split at hk
    · rename_i k hu
      split at hk
      · obtain ⟨d1, d2, r1, r2, g1, g2, e1⟩ := one (.int k) (by simp [tagg, hu]) (by cases hk; rfl)
        cases r1 <;> simp [fit1] at g1
        cases r2 <;> simp [fit1] at g2
        subst g1; subst g2
        simp only [eq1, if_true, Option.some.injEq] at e1
        subst e1
        exact run_equalIn_int w (d + m) t _ _ _ _ hu
      · cases hk
    · rename_i hu
      split at hk
      · obtain ⟨d1, d2, r1, r2, g1, g2, e1⟩ := one .bool (by simp [tagg, hu]) (by cases hk; rfl)
        cases r1 <;> simp [fit1] at g1
        cases r2 <;> simp [fit1] at g2
        simp only [eq1, Option.some.injEq] at e1
        subst e1
        exact run_equalIn_bool' w (d + m) t _ _ hu
      · cases hk
    · rename_i hu
      split at hk
      · obtain ⟨d1, d2, r1, r2, g1, g2, e1⟩ := one .str (by simp [tagg, hu]) (by cases hk; rfl)
        cases r1 with
        | str s l h1 =>
          cases r2 with
          | str s' l' h2 =>
            simp only [eq1, Option.some.injEq] at e1
            subst e1
            have hl : ∀ s : ByteArray, s.toList = s.data.toList := fun s => by simp [ByteArray.toList_eq]
            rw [← h1, ← h2, ← hl, ← hl]
            exact run_equalIn_string w (d + m) t s s' hu
          | _ => simp [fit1] at g2
        | _ => simp [fit1] at g1
      · cases hk
    · rename_i fs hu
      split at hk
      · rename_i hc
        simp only [Bool.and_eq_true, beq_iff_eq, Bool.not_eq_true'] at hc
        obtain ⟨ls, hls, rfl⟩ := Option.map_eq_some_iff.1 hk
        have hag : tagg P t = some true := by simp [tagg, hu]
        have ex := hx.1 hag
        have ey := hy.1 hag
        subst ex; subst ey
        have hfs : P.fieldsOf t = fs := by simp [Program.fieldsOf, hu]
        rw [show d + (m + 1) = (d + m) + 1 from rfl, run_equalIn_struct w (d + m) t _ _ (by rw [hfs]; exact hu) hc.1.1, hfs]
        refine eqFields_sound m (d + m) (fun t' ks' h' => eqIn_sound d m t' ks' h') (dx := dx) (dy := dy) (by simpa using rx) (by simpa using ry) w fs.toList ls 0 _ b (fun f hf => ?_) hls hc.2 (by simpa using f1) (by simpa using f2) (by simpa using he)
        have := List.all_eq_true.1 hc.1.2 f hf
        simpa using this
      · cases hk
    · rename_i n e hu
      simp only [Option.bind_eq_some_iff] at hk
      obtain ⟨l, h1, h2⟩ := hk
      split at h2
      · rename_i hc
        cases h2
        have hag : tagg P t = some true := by simp [tagg, hu]
        have ex := hx.1 hag
        have ey := hy.1 hag
        subst ex; subst ey
        obtain ⟨⟨ag, hage, hag1⟩, _⟩ := kinds_spec h1
        obtain ⟨i, hi, his⟩ : ∃ i, P.info? e = some i ∧ i.size = tsz P e := by
          cases hq : P.info? e with
          | none =>
            have : P.underlying e = none := by simp [Program.underlying, hq]
            simp [tagg, this] at hage
          | some i => exact ⟨i, rfl, by simp [tsz, hq]⟩
        have hco : P.cellsOf e = tsz P e := by simp [Program.cellsOf, tsz]
        rw [show d + (m + 1) = (d + m) + 1 from rfl, run_equalIn_array w (d + m) _ _ hu hi, hco, List.range_eq_range']
        exact eqItems_sound (d + m) (eqIn_sound d m e l h1) hage hag1 hc.1 hc.2.1 (dx := dx) (dy := dy) (by simpa using rx) (by simpa using ry) w n 0 b (by simpa using f1) (by simpa using f2) (by simpa using he)
      · cases h2
    · cases hk

theorem aeq_sound (hR : Rel B w0 g σ w) {op : BinOp} {r : Bool} {K : D → St → Prop} (hk : aeq op r σ K) : ∃ c, Comes' B w0 g K (.bool c) w ∧ ((op = .eql ∧ c = r) ∨ (op = .neq ∧ c = !r)) := by
  unfold aeq at hk
  split at hk
  · exact ⟨r, same_sound hR (.bool _) hk, .inl ⟨rfl, rfl⟩⟩
  · exact ⟨!r, same_sound hR (.bool _) hk, .inr ⟨rfl, rfl⟩⟩
  · cases hk

theorem equal_run {op : BinOp} {t : TypeId} {x y : Value} {r c : Bool} (h : (Op.equal t x y).run P w = .ok r w) (hc : (op = .eql ∧ c = r) ∨ (op = .neq ∧ c = !r))
    (h1 : ∀ v, (binOp .eql t x y).run P w = .ok v w ↔ ((do pure (.bool (← Op.equal t x y)) : Sem Value).run P w = .ok v w)) (h2 : ∀ v, (binOp .neq t x y).run P w = .ok v w ↔ ((do pure (.bool (!(← Op.equal t x y))) : Sem Value).run P w = .ok v w)) :
    (binOp op t x y).run P w = .ok (.bool c) w := by
  rcases hc with ⟨rfl, rfl⟩ | ⟨rfl, rfl⟩
  · rw [h1]; simp [h]
  · rw [h2]; simp [h]

theorem eqIn_ptr_nil (d : Nat) {t e : TypeId} (hu : P.underlying t = some (.pointer e)) (a : Option Addr) : (Op.equalIn (d + 1) t (.pointer a) (.pointer none)).run P w = .ok a.isNone w := by
  cases a <;> simp [Op.equalIn, run_underlying hu]
theorem eqIn_nil_ptr (d : Nat) {t e : TypeId} (hu : P.underlying t = some (.pointer e)) (a : Option Addr) : (Op.equalIn (d + 1) t (.pointer none) (.pointer a)).run P w = .ok a.isNone w := by
  cases a <;> simp [Op.equalIn, run_underlying hu]
theorem eqIn_sl_nil (d : Nat) {t e : TypeId} (hu : P.underlying t = some (.slice e)) (a : Option Addr) (n c n' c' : Nat) : (Op.equalIn (d + 1) t (.slice a n c) (.slice none n' c')).run P w = .ok a.isNone w := by
  cases a <;> simp [Op.equalIn, run_underlying hu]
theorem eq_ptr_same {t e : TypeId} {j : TypeInfo} (hu : P.underlying t = some (.pointer e)) (hj : P.info? e = some j) (a : Addr) : (Op.equal t (.pointer (some a)) (.pointer (some a))).run P w = .ok true w := by
  have h : ∀ d : Nat, (Op.equalIn (d + 1) t (.pointer (some a)) (.pointer (some a))).run P w = .ok true w := fun d => by
    simp [Op.equalIn, run_underlying hu, sizeOf, typeInfo, hj, run_sameAddr_same]
  simp [Op.equal, Op.maxDepth, h 9999]
theorem eq_ptr_nil {t e : TypeId} (hu : P.underlying t = some (.pointer e)) (a : Option Addr) : (Op.equal t (.pointer a) (.pointer none)).run P w = .ok a.isNone w := eqIn_ptr_nil 9999 hu a
theorem eq_nil_ptr {t e : TypeId} (hu : P.underlying t = some (.pointer e)) (a : Option Addr) : (Op.equal t (.pointer none) (.pointer a)).run P w = .ok a.isNone w := eqIn_nil_ptr 9999 hu a
theorem eq_sl_nil {t e : TypeId} (hu : P.underlying t = some (.slice e)) (a : Option Addr) (n c n' c' : Nat) : (Op.equal t (.slice a n c) (.slice none n' c')).run P w = .ok a.isNone w := eqIn_sl_nil 9999 hu a n c n' c'

set_option maxHeartbeats 400000 in
theorem bin_sound (hR : Rel B w0 g σ w) (op : BinOp) {t : TypeId} {x y : Value} {xd yd : D} (hx : RV g x xd) (hy : RV g y yd) {K : D → St → Prop} (hk : abin P op t xd yd σ K) :
    ∃ v, (binOp op t x y).run P w = .ok v w ∧ Comes' B w0 g K v w ∧ ((∃ cx cy, x = .agg cx ∧ y = .agg cy) → P.eqGuardType P.depth t = false) ∧ ¬ (x = .nilIface ∧ y = .nilIface) := by
  unfold abin at hk
  split at hk
  · cases hx; cases hy
    obtain ⟨v, e1, e2⟩ := binI_sound hR op t _ _ _ _ hk
    exact ⟨v, e1, e2, (by rintro ⟨_, _, h, _⟩; cases h), (by rintro ⟨h, _⟩; cases h)⟩
  · cases hx with
    | str s l h1 =>
      cases hy with
      | str s' l' h2 =>
        subst h1; subst h2
        obtain ⟨v, e1, e2⟩ := binS_sound hR op t _ _ hk
        exact ⟨v, e1, e2, (by rintro ⟨_, _, h, _⟩; cases h), (by rintro ⟨h, _⟩; cases h)⟩
  · cases hx; cases hy
    obtain ⟨c, e1, e2⟩ := aeq_sound hR hk.2
    refine ⟨_, equal_run (run_equal_bool w t _ _ (isBool_spec hk.1)) e2 (fun v => ?_) (fun v => ?_), e1, (by rintro ⟨_, _, h, _⟩; cases h), (by rintro ⟨h, _⟩; cases h)⟩ <;> rfl
  · rename_i dx dy
    obtain ⟨⟨hag, hgd⟩, ks, hks, f1, f2, b, he, hk⟩ := hk
    cases hx with
    | agg cx _ hl h1 hr =>
      cases hy with
      | agg cy _ hl' h1' hr' =>
        obtain ⟨c, e1, e2⟩ := aeq_sound hR hk
        have hq := eqIn_sound (P := P) (g := g) 9980 20 t ks hks (.agg cx) (.agg cy) cx.toList cy.toList dx dy b w ⟨fun _ => rfl, fun h => by rw [hag] at h; cases h⟩ ⟨fun _ => rfl, fun h => by rw [hag] at h; cases h⟩ ⟨by simpa using hl, fun k v d e e' => hr k v d (by simpa using e) e'⟩ ⟨by simpa using hl', fun k v d e e' => hr' k v d (by simpa using e) e'⟩ f1 f2 he
        refine ⟨_, equal_run (r := b) hq e2 (fun v => ?_) (fun v => ?_), e1, fun _ => hgd, (by rintro ⟨h, _⟩; cases h)⟩ <;> rfl
  · cases hx; cases hy
    obtain ⟨e, hu⟩ := isPtr_spec hk.1
    obtain ⟨c, e1, e2⟩ := aeq_sound hR hk.2
    exact ⟨_, equal_run (r := true) (eq_ptr_nil hu none) e2 (fun v => Iff.rfl) (fun v => Iff.rfl), e1, (by rintro ⟨_, _, h, _⟩; cases h), (by rintro ⟨h, _⟩; cases h)⟩
  · rename_i i o j u
    obtain ⟨hp, ⟨rfl, rfl⟩, hk⟩ := hk
    obtain ⟨c, e1, e2⟩ := aeq_sound hR hk
    unfold isPtrI at hp
    split at hp
    · rename_i e hu
      obtain ⟨ji, hj⟩ := Option.isSome_iff_exists.1 hp
      cases hx with
      | ptr _ b m _ hi =>
        cases hy with
        | ptr _ b' m' _ hi' =>
          rw [hi] at hi'; cases hi'
          refine ⟨_, equal_run (r := true) (eq_ptr_same hu hj _) e2 (fun v => Iff.rfl) (fun v => Iff.rfl), e1, (by rintro ⟨_, _, h, _⟩; cases h), (by rintro ⟨h, _⟩; cases h)⟩
    · cases hp
  · cases hx; cases hy
    obtain ⟨e, hu⟩ := isPtr_spec hk.1
    obtain ⟨c, e1, e2⟩ := aeq_sound hR hk.2
    exact ⟨_, equal_run (r := false) (eq_ptr_nil hu (some _)) e2 (fun v => Iff.rfl) (fun v => Iff.rfl), e1, (by rintro ⟨_, _, h, _⟩; cases h), (by rintro ⟨h, _⟩; cases h)⟩
  · cases hx; cases hy
    obtain ⟨e, hu⟩ := isPtr_spec hk.1
    obtain ⟨c, e1, e2⟩ := aeq_sound hR hk.2
    exact ⟨_, equal_run (r := false) (eq_nil_ptr hu (some _)) e2 (fun v => Iff.rfl) (fun v => Iff.rfl), e1, (by rintro ⟨_, _, h, _⟩; cases h), (by rintro ⟨h, _⟩; cases h)⟩
  · cases hx; cases hy
    obtain ⟨e, hu⟩ := isSl_spec hk.1
    obtain ⟨c, e1, e2⟩ := aeq_sound hR hk.2
    exact ⟨_, equal_run (r := true) (eq_sl_nil hu none 0 0 0 0) e2 (fun v => Iff.rfl) (fun v => Iff.rfl), e1, (by rintro ⟨_, _, h, _⟩; cases h), (by rintro ⟨h, _⟩; cases h)⟩
  · cases hy
    obtain ⟨hs, h0, hk⟩ := hk
    obtain ⟨e, hu⟩ := isSl_spec hs
    obtain ⟨c, e1, e2⟩ := aeq_sound hR hk
    cases hx with
    | slNil => omega
    | sl => exact ⟨_, equal_run (r := false) (eq_sl_nil hu (some _) _ _ 0 0) e2 (fun v => Iff.rfl) (fun v => Iff.rfl), e1, (by rintro ⟨_, _, h, _⟩; cases h), (by rintro ⟨h, _⟩; cases h)⟩
  · cases hy
    obtain ⟨hs, hk⟩ := hk
    obtain ⟨e, hu⟩ := isSl_spec hs
    obtain ⟨c, e1, e2⟩ := aeq_sound hR hk
    cases hx
    exact ⟨_, equal_run (r := false) (eq_sl_nil hu (some _) _ _ 0 0) e2 (fun v => Iff.rfl) (fun v => Iff.rfl), e1, (by rintro ⟨_, _, h, _⟩; cases h), (by rintro ⟨h, _⟩; cases h)⟩
  · cases hk

end
end Go.Av
