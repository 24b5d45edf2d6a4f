/- The operations over abstract values are what the machine does: new memory, aggregates, addresses. -/
import Derived.Test.YtgbfchagmniiiaaAv5
set_option linter.unusedSimpArgs false
set_option linter.unusedVariables false
namespace Go.Av
open Go.RowKit

section
variable {P : Program} {γ : Gl} {B : Nat} {w0 : World} {g : G} {σ : St} {w : World}

theorem new_sound (hR : Rel B w0 g σ w) {vs : List Value} {ds : List D} (hv : RVs g vs ds) (h1 : ∀ d ∈ ds, d.one = true) (T : TypeId) {K : D → St → Prop} (hk : anew T ds σ K) :
    Comes' B w0 g K (.pointer (some ⟨w.heap.size, 0, none⟩)) (w.alloc (.cells vs.toArray T)) := by
  obtain ⟨id, hf, _, hs⟩ := hR.fresh
  have hR' := hR.alloc hf hs vs.toArray T ds (by simpa using Nat.le_of_eq hv.1.symm) h1 (fun k v d e e' => hv.2 k v d (by simpa using e) e') (0, 0) (fun o _ => by omega)
  exact ⟨_, _, _, G.le_name _ _ hf, .ptr id w.heap.size _ 0 G.name_self, hR', hk id hs⟩

theorem box_sound (hR : Rel B w0 g σ w) {x : Value} {xd : D} (hx : RV g x xd) (T : TypeId) {K : D → St → Prop} (hk : abox T xd σ K) :
    ∃ v w', (Instr.box T x).run P w = .ok v w' ∧ Comes' B w0 g K v w' := by
  obtain ⟨hc, hn⟩ := hk
  obtain ⟨hrv, hone⟩ := rvs_cells hx hc
  refine ⟨_, _, ?_, new_sound hR hrv hone T hn⟩
  simp [Instr.box, newVar, newRow]

theorem zc_spec {t : TypeId} {z : List D} (h : zc P t = some z) : ∃ i v, P.info? t = some i ∧ i.zero = some v ∧ v.cells.size = i.size ∧ (∀ g, RVs g v.cells.toList z) ∧ ∀ d ∈ z, d.one = true := by
  unfold zc at h
  split at h
  · rename_i i hi
    split at h
    · rename_i v hv
      split at h
      · rename_i hc
        cases h
        refine ⟨i, v, hi, hv, hc.2, fun g => ⟨by simp, fun k u d e e' => ?_⟩, fun d hd => ?_⟩
        · simp only [List.getElem?_map, e, Option.map_some, Option.some.injEq] at e'
          subst e'
          exact rv_ofVal1 g u
        · obtain ⟨u, hu, rfl⟩ := List.mem_map.1 hd
          exact one_ofVal1 (Array.all_eq_true_iff_forall_mem.1 hc.1 u (by simpa using hu))
      · cases h
    · cases h
  · cases h

theorem alloc_sound (hR : Rel B w0 g σ w) {T : TypeId} {K : D → St → Prop} (hk : aalloc P T σ K) :
    ∃ v w', (Instr.alloc T true (.tuple #[])).run P w = .ok v w' ∧ Comes' B w0 g K v w' := by
  unfold aalloc at hk
  split at hk
  · rename_i z hz
    obtain ⟨i, v, hi, hv, hsz, hrv, h1⟩ := zc_spec hz
    refine ⟨_, _, ?_, new_sound hR (hrv g) h1 T hk⟩
    simp [Instr.alloc, zeroValue, typeInfo, hi, hv, newVar, newRow]
  · cases hk

/-- A new row. -/
theorem newRow_sound (hR : Rel B w0 g σ w) {arr : Array Value} {n sz cap : Nat} {ds : List D} (h1 : ∀ d ∈ ds, d.one = true) (hl : ds.length = n * sz) (hv : ∀ (k : Nat) v d, arr[k]? = some v → ds[k]? = some d → RV g v d) (hs : arr.size = cap * sz) (hc : n ≤ cap) (hm : cap ≤ maxLen)
    (T : TypeId) (fr : Nat × Nat) (hfr : ∀ o, o < arr.size → ¬(fr.1 ≤ o ∧ o < fr.2)) {K : D → St → Prop} (hk : anewRow T n sz ds σ K) :
    Comes' B w0 g K (.slice (some ⟨w.heap.size, 0, none⟩) n cap) (w.alloc (.cells arr T fr)) := by
  obtain ⟨id, hf, ht, hsi⟩ := hR.fresh
  have hle : n * sz ≤ cap * sz := Nat.mul_le_mul_right _ hc
  rcases hk with hk | hk | hk
  · have hR' := hR.allocRow hf ht hsi arr T (n * sz) (by rw [hs]; exact hle) fr hfr ds (Nat.le_of_eq hl) hv
    have hg := G.le_row (b := w.heap.size) arr.size arr (n * sz) hf ht (imm_none_new hR (Nat.le_refl _))
    refine ⟨_, _, _, hg, ?_, hR', hk id hsi⟩
    refine .sl w.heap.size 0 n cap ds _ (fun k => arr.getD k undef) hc hm (fun k hk => ?_) h1 (fun k d e => ?_) (fun id' sz' e => ?_)
    · have hk' : k < arr.size := by omega
      show (if w.heap.size = w.heap.size then _ else _) = _
      rw [if_pos rfl, Nat.zero_add, if_pos (by omega)]
      simp [hk']
    · have hk' : k < arr.size := by have := (List.getElem?_eq_some_iff.1 e).1; omega
      simp [hk']
      exact (hv k _ d (Array.getElem?_eq_getElem hk') e).mono hg
    · cases e
      exact ⟨rfl, hl, by simp [G.row, hl], _, if_pos rfl, by rw [hs]; exact Nat.le_refl _⟩
  · have hR' := hR.alloc hf hsi arr T ds (by rw [hl, hs]; exact hle) h1 hv fr hfr
    exact ⟨_, _, _, G.le_name _ _ hf, .osl id w.heap.size _ 0 n cap sz G.name_self hc hm (by rw [hs]; omega), hR', hk id hsi⟩
  · have hR' := hR.allocRow hf ht hsi arr T (n * sz) (by rw [hs]; exact hle) fr hfr ds (Nat.le_of_eq hl) hv
    have hg := G.le_row (b := w.heap.size) arr.size arr (n * sz) hf ht (imm_none_new hR (Nat.le_refl _))
    refine ⟨_, _, σ, hg, ?_, hR'.forget (fun i o e => ?_), hk⟩
    refine .sl w.heap.size 0 n cap ds _ (fun k => arr.getD k undef) hc hm (fun k hk => ?_) h1 (fun k d e => ?_) (fun id' sz' e => ?_)
    · have hk' : k < arr.size := by omega
      show (if w.heap.size = w.heap.size then _ else _) = _
      rw [if_pos rfl, Nat.zero_add, if_pos (by omega)]
      simp [hk']
    · have hk' : k < arr.size := by have := (List.getElem?_eq_some_iff.1 e).1; omega
      simp [hk']
      exact (hv k _ d (Array.getElem?_eq_getElem hk') e).mono hg
    · cases e
    · simp only [St.set]
      split
      · rename_i hi; subst hi; rw [hsi] at e; cases e
      · exact e

/-! ### aggregates -/
theorem fill_sound (place : Nat → Option (Nat × Nat)) : ∀ (ps : List (Nat × Value)) (qs : List (Nat × D)) (arr : Array Value) (zs cs : List D),
    ps.length = qs.length → (∀ (k : Nat) p q, ps[k]? = some p → qs[k]? = some q → p.1 = q.1 ∧ RV g p.2 q.2) → RVs g arr.toList zs → (∀ d ∈ zs, d.one = true) → afill place zs qs = some cs →
    ∃ arr', Instr.fill place arr ps = some arr' ∧ RVs g arr'.toList cs ∧ ∀ d ∈ cs, d.one = true
  | [], [], arr, zs, cs, _, _, hv, h1, h => by
    simp only [afill] at h; cases h
    exact ⟨arr, rfl, hv, h1⟩
  | [], _ :: _, _, _, _, hl, _, _, _, _ => by simp at hl
  | _ :: _, [], _, _, _, hl, _, _, _, _ => by simp at hl
  | (i, v) :: ps, (j, d) :: qs, arr, zs, cs, hl, hp, hv, h1, h => by
    obtain ⟨hij, hrv⟩ := hp 0 _ _ rfl rfl
    simp only at hij hrv
    subst hij
    simp only [afill] at h
    split at h
    · cases h
    · rename_i off size hpl
      split at h
      · rename_i hc
        obtain ⟨hok, hlen, hfit⟩ := hc
        obtain ⟨hcv, hone⟩ := rvs_cells hrv hok
        have hvs : v.cells.size = size := by have := hcv.1; simp at this; omega
        have hfold : ∀ (vs : List Value) (j o : Nat) (arr : Array Value), (vs.zipIdx j).foldl (fun cs (x : Value × Nat) => cs.setIfInBounds (o + x.2) x.1) arr = setA arr (o + j) vs := by
          intro vs
          induction vs with
          | nil => intro j o arr; rfl
          | cons v r ih => intro j o arr; simp only [List.zipIdx_cons, List.foldl_cons, setA]; rw [ih (j + 1) o]; rfl
        have hfold' : v.cells.zipIdx.foldl (fun cs (x : Value × Nat) => cs.setIfInBounds (off + x.2) x.1) arr = setA arr off v.cells.toList := by
          rw [← Array.foldl_toList, Array.toList_zipIdx, hfold]; rfl
        have harr : arr.size = zs.length := by have := hv.1; simpa using this
        obtain ⟨arr', e1, e2, e3⟩ := fill_sound place ps qs (setA arr off v.cells.toList) (splice zs off (cellsOf d)) cs (by simpa using hl) (fun k p q e e' => hp (k + 1) p q (by simpa using e) (by simpa using e'))
          ⟨by simp [size_setA, length_splice (show off + (cellsOf d).length ≤ zs.length by omega), harr], fun k u x e e' => by
            rw [Array.getElem?_toList, get_setA _ _ _ (by simp; omega)] at e
            rw [get_splice (by omega)] at e'
            have hll : v.cells.toList.length = (cellsOf d).length := hcv.1
            rw [hll] at e
            by_cases hk : off ≤ k ∧ k < off + (cellsOf d).length
            · rw [if_pos hk] at e e'; exact hcv.2 _ u x e e'
            · rw [if_neg hk] at e e'; exact hv.2 k u x (by simpa using e) e'⟩
          (fun x hx => by
            simp only [splice, List.mem_append] at hx
            rcases hx with (hx | hx) | hx
            · exact h1 x (List.mem_of_mem_take hx)
            · exact hone x hx
            · exact h1 x (List.mem_of_mem_drop hx)) h
        refine ⟨arr', ?_, e2, e3⟩
        simp only [Instr.fill, hpl]
        rw [if_neg (by simp [hvs]; omega), hfold']
        exact e1
      · cases h

theorem build_sound (hR : Rel B w0 g σ w) {t : TypeId} {ps : Array (Nat × Value)} {qs : List (Nat × D)} (hl : ps.toList.length = qs.length) (hp : ∀ (k : Nat) p q, ps.toList[k]? = some p → qs[k]? = some q → p.1 = q.1 ∧ RV g p.2 q.2)
    {K : D → St → Prop} (hk : abuild P t qs σ K) : ∃ v, (Instr.build t ps).run P w = .ok v w ∧ Comes' B w0 g K v w := by
  unfold abuild at hk
  split at hk
  · rename_i z pl hz hpl
    split at hk
    · rename_i cs hcs
      obtain ⟨i, v, hi, hv, hsz, hrv, h1⟩ := zc_spec hz
      obtain ⟨arr', e1, e2, e3⟩ := fill_sound (g := g) pl ps.toList qs v.cells z cs hl hp (hrv g) h1 hcs
      refine ⟨.agg arr', run_build w t ps arr' ?_, _, g, σ, G.le.refl g, ?_, hR, hk⟩
      · unfold Program.built
        unfold places at hpl
        rw [hi]
        split at hpl
        · rename_i fs hu
          rw [hu]
          cases hm : fs.toList.mapM (fun f => (P.info? f.type).map fun i => (f.offset, i.size)) with
          | none => rw [hm] at hpl; cases hpl
          | some pp =>
            rw [hm] at hpl
            simp only [Option.map_some, Option.some.injEq] at hpl
            subst hpl
            simp only [hv, hm]
            exact e1
        · rename_i n e hu
          rw [hu]
          cases hq : P.info? e with
          | none => rw [hq] at hpl; cases hpl
          | some ie =>
            rw [hq] at hpl
            simp only [Option.map_some, Option.some.injEq] at hpl
            subst hpl
            simp only [hv, hq]
            exact e1
        · cases hpl
      · have := rv_agg e2 e3
        simpa using this
    · cases hk
  · cases hk

theorem replicate_flatten_get {α : Type} (z : List α) (n : Nat) (hz : 0 < z.length) (k : Nat) (hk : k < n * z.length) : (List.replicate n z).flatten[k]? = z[k % z.length]? := by
  induction n generalizing k with
  | zero => simp at hk
  | succ n ih =>
    rw [List.replicate_succ, List.flatten_cons]
    by_cases h : k < z.length
    · rw [List.getElem?_append_left h, Nat.mod_eq_of_lt h]
    · rw [List.getElem?_append_right (by omega), ih (k - z.length) (by rw [Nat.add_mul, Nat.one_mul] at hk; omega)]
      rw [← Nat.mod_eq_sub_mod (by omega)]

theorem length_replicate_flatten {α : Type} (z : List α) (n : Nat) : (List.replicate n z).flatten.length = n * z.length := by
  induction n with
  | zero => simp
  | succ n ih => rw [List.replicate_succ, List.flatten_cons, List.length_append, ih, Nat.add_mul, Nat.one_mul, Nat.add_comm]

/-- n times a type's zero. -/
theorem zeros_sound {z : List D} {v : Value} (hv : RVs g v.cells.toList z) (hz : 0 < v.cells.size) (n : Nat) :
    RVs g (((Array.range (n * v.cells.size)).map fun i => v.cells[i % v.cells.size]!).toList) (List.replicate n z).flatten := by
  have hl : z.length = v.cells.size := by have := hv.1; simp at this; exact this.symm
  refine ⟨by simp [hl], fun k u d e e' => ?_⟩
  have hk : k < n * v.cells.size := by have := (List.getElem?_eq_some_iff.1 e).1; simpa using this
  have hm : k % v.cells.size < v.cells.size := Nat.mod_lt _ hz
  rw [replicate_flatten_get z n (by omega) k (by rw [hl]; exact hk), hl] at e'
  have e2 : v.cells[k % v.cells.size]! = u := by simpa [hk] using e
  refine hv.2 (k % v.cells.size) u d ?_ e'
  rw [Array.getElem?_toList, ← e2]
  simp [hm]

theorem one_zeros {z : List D} (h : ∀ d ∈ z, d.one = true) (n : Nat) : ∀ d ∈ (List.replicate n z).flatten, d.one = true := by
  intro d hd
  simp only [List.mem_flatten, List.mem_replicate] at hd
  obtain ⟨l, ⟨_, rfl⟩, hd⟩ := hd
  exact h d hd

theorem buildSl_sound (hR : Rel B w0 g σ w) {t : TypeId} {n : Nat} {ps : Array (Nat × Value)} {qs : List (Nat × D)} (hl : ps.toList.length = qs.length) (hp : ∀ (k : Nat) p q, ps.toList[k]? = some p → qs[k]? = some q → p.1 = q.1 ∧ RV g p.2 q.2)
    {K : D → St → Prop} (hk : abuildSl P t n qs σ K) : ∃ v w', (Instr.buildSlice t n ps).run P w = .ok v w' ∧ Comes' B w0 g K v w' := by
  unfold abuildSl at hk
  split at hk
  · rename_i e sz bytes he
    obtain ⟨hn, hk⟩ := hk
    split at hk
    · rename_i z hz
      split at hk
      · rename_i cs hcs
        obtain ⟨hut, i, z', hi, hzz, hzs, hsz, hsz0, _, _⟩ := elt_spec he
        obtain ⟨i', v, hi', hv, hsz', hrv, h1⟩ := zc_spec hz
        rw [hi] at hi'; cases hi'
        rw [hzz] at hv; cases hv
        have hz0 : 0 < z'.cells.size := by omega
        have hzr := zeros_sound (hrv g) hz0 n
        rw [hzs] at hzr
        have hcl : cs.length = n * sz := by
          have hlen : ∀ (qs : List (Nat × D)) (zs cs : List D), afill (fun i => some (i * sz, sz)) zs qs = some cs → cs.length = zs.length := by
            intro qs
            induction qs with
            | nil => intro zs cs h; simp only [afill] at h; cases h; rfl
            | cons q r ih =>
              intro zs cs h
              obtain ⟨j, d⟩ := q
              simp only [afill] at h
              split at h
              · rename_i hc
                rw [ih _ _ h, length_splice (by omega)]
              · cases h
          rw [hlen _ _ _ hcs, length_replicate_flatten]
          have := (hrv g).1; simp at this; rw [← this, hzs]
        obtain ⟨arr', e1, e2, e3⟩ := fill_sound (g := g) _ ps.toList qs _ _ cs hl hp hzr (one_zeros h1 n) hcs
        have hsz2 : arr'.size = n * sz := by have := e2.1; simp at this; omega
        refine ⟨_, _, ?_, newRow_sound hR e3 hcl (fun k u d e e' => e2.2 k u d (by simpa using e) e') hsz2 (Nat.le_refl _) (by unfold maxLen; have := Nat.le_mul_of_pos_right n hsz0; omega) e (0, 0) (fun o _ => by omega) hk⟩
        have hcond : ¬ (16777216 < n * sz) := by omega
        by_cases h0 : n * sz = 0
        · have hnz : n = 0 := by
            rcases Nat.mul_eq_zero.1 h0 with h | h
            · exact h
            · omega
          subst hnz
          have e1' : Instr.fill (fun i => some (i * sz, sz)) #[] ps.toList = some arr' := by
            have hr : ((Array.range (0 * sz)).map fun i => z'.cells[i % sz]!) = #[] := by apply Array.ext'; simp
            rw [hr] at e1; exact e1
          have hr2 : ∀ f : Nat → Value, (Array.range 0).map f = #[] := fun f => by apply Array.ext'; simp
          simp [Instr.buildSlice, run_underlying hut, sizeOf, typeInfo, hi, hsz, newRow, hr2, e1']
        · have h0' : ¬ (n = 0 ∨ sz = 0) := by
            rintro (h | h)
            · subst h; simp at h0
            · omega
          simp [Instr.buildSlice, run_underlying hut, sizeOf, typeInfo, zeroValue, hi, hzz, hsz, hcond, h0', h0, newRow, hzs] at e1 ⊢
          simp [e1]
      · cases hk
    · cases hk
  · cases hk

theorem make_sound (hR : Rel B w0 g σ w) {t : TypeId} {x y : Value} {xd yd : D} (hx : RV g x xd) (hy : RV g y yd) {K : D → St → Prop} (hk : amake P t xd yd σ K) :
    ∃ v w', (Instr.makeSlice t x y).run P w = .ok v w' ∧ Comes' B w0 g K v w' := by
  unfold amake at hk
  split at hk
  · rename_i e sz bytes he
    split at hk
    · rename_i z k n k' m hz
      cases hx
      cases hy
      obtain ⟨rfl, hn0, hb, hk⟩ := hk
      obtain ⟨hut, i, z', hi, hzz, hzs, hsz, hsz0, hby, hby0⟩ := elt_spec he
      obtain ⟨i', v, hi', hv, hsz', hrv, h1⟩ := zc_spec hz
      rw [hi] at hi'; cases hi'
      rw [hzz] at hv; cases hv
      obtain ⟨nn, rfl⟩ := Int.eq_ofNat_of_zero_le hn0
      simp only [Int.toNat_natCast] at hb hk
      have hmx := maxLen_of hb hby0
      have hzr := zeros_sound (hrv g) (by omega) nn
      rw [hzs] at hzr
      have hzl : z.length = sz := by have := (hrv g).1; simp at this; omega
      have hb' : (i.bytes : Int) * ((nn : Nat) : Int) ≤ 281474976710656 := by
        have h3 : ∀ q : Nat, q ≤ 140737488355328 → (q : Int) ≤ 281474976710656 := fun q hq => by omega
        rw [hby, Int.mul_comm, ← Int.natCast_mul]
        exact h3 _ hb
      have hrun := run_make (P := P) w t e i z' hut hi hzz k k' (nn : Int) (nn : Int) (by omega) (by omega) hb' (by omega)
      simp only [Int.toNat_natCast, hsz] at hrun
      have hsm : (madeCells z'.cells (nn * sz)).size = nn * sz := size_madeCells _ _
      refine ⟨_, _, hrun, newRow_sound hR (one_zeros h1 nn) (by rw [length_replicate_flatten, hzl]) (fun k u d e e' => ?_) hsm (Nat.le_refl _) (by unfold maxLen; omega) e (0, 0) (fun o _ => by omega) hk⟩
      refine hzr.2 k u d ?_ e'
      rw [Array.getElem?_toList]
      rw [← hzs] at e ⊢
      exact e
    · cases hk
  · cases hk

end
end Go.Av
