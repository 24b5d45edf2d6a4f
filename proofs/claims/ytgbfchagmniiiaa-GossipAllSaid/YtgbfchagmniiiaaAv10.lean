/- Conversions, builtins. -/
import Derived.Test.YtgbfchagmniiiaaAv9
import Derived.Lib.Builder
import Derived.Lib.UnsafeStr
import Derived.Laws.BytesArg
set_option linter.unusedSimpArgs false
set_option linter.unusedVariables false
namespace Go.Av
open Go.RowKit

section
variable {P : Program} {γ : Gl} {B : Nat} {w0 : World} {g : G} {σ : St} {w : World}

theorem strOfNums_bytes (l : List UInt8) : (strOfNums (l.map fun b => (b.toNat : Int))).data.toList = l := by
  simp [strOfNums]
  induction l with
  | nil => rfl
  | cons a l ih => simp [ih]

/-- A row of bytes. -/
theorem bytes_cells {b off n cap : Nat} {l : List UInt8} (hl : n = l.length) (hc : ∀ k, k < n → ∃ v, w.cell? ⟨b, off + k, none⟩ = some v ∧ ∀ d, (bytesD l)[k]? = some d → RV g v d) {src dst e : TypeId} (hs : P.underlying src = some (.slice e)) (he : P.underlying e = some (.int .u8)) (hd : P.underlying dst = some .string) :
    ∃ s, (convert src dst (.slice (some ⟨b, off, none⟩) n cap)).run P w = .ok (.string s) w ∧ s.data.toList = l := by
  refine ⟨_, run_convert_bytes_arg w src e hs he b off n cap (l.map fun b => (b.toNat : Int)) (by simp [hl]) (fun i hi => ?_) dst hd, strOfNums_bytes l⟩
  obtain ⟨v, h1, h2⟩ := hc i hi
  have hi' : i < l.length := by omega
  have hd : (bytesD l)[i]? = some (.int .u8 (l[i].toNat : Int)) := by simp [bytesD, List.getElem?_eq_getElem hi']
  have := h2 _ hd
  rw [h1]
  cases this
  simp [List.getElem?_eq_getElem hi']

theorem conv_sound (hR : Rel B w0 g σ w) {src dst : TypeId} {x : Value} {xd : D} (hx : RV g x xd) {K : D → St → Prop} (hk : aconv P src dst xd σ K) : ∃ v w', (convert src dst x).run P w = .ok v w' ∧ Comes' B w0 g K v w' := by
  unfold aconv at hk
  split at hk
  · rename_i k n
    cases hx
    obtain ⟨hs, hk⟩ := hk
    split at hk
    · rename_i k' hk'
      have hu := intT_spec hk'
      obtain ⟨d, hd⟩ := Option.isSome_iff_exists.mp hs
      exact ⟨_, w, by simp [convert, run_underlying hd, run_underlying hu, Conv.intToInt], same_sound hR (.int _ _) hk⟩
    · cases hk
  · rename_i l
    obtain ⟨hs, hk⟩ := hk
    have hu := isStr_spec hs
    cases hx with
    | str s _ hl =>
      rcases hk with ⟨hd, hk⟩ | ⟨e, he, hi, hlen, hk⟩
      · have hd' := isStr_spec hd
        exact ⟨_, w, by simp [convert, run_underlying hu, run_underlying hd'], same_sound hR (.str _ _ hl) hk⟩
      · obtain ⟨hue, i, z, hi', _⟩ := elt_spec he
        have h8 := intT_spec hi
        refine ⟨_, _, Lib.run_convert_string_bytes w src dst e s hu hue h8, ?_⟩
        have hsz : s.size = l.length := by rw [← hl]; simp
        have hge := grownCap_ge w s.size 0 e
        have hle := grownCap_le_maxLen w s.size 0 e (by unfold maxLen; omega)
        have hcs : (Lib.bytesCells w e s).size = grownCap w s.size 0 e * 1 := by
          simp only [Lib.bytesCells, Array.size_append, Array.size_map, Array.size_replicate]
          have : s.data.size = s.size := rfl
          omega
        have hfz : Lib.bytesWorld w e s = w.drew.alloc (.cells (Lib.bytesCells w e s) e ((Lib.bytesCells w e s).size, (Lib.bytesCells w e s).size + 1)) := by
          have hm : ∀ (h : Array Obj) (o : Obj) (f : Obj → Obj), (h.push o).modify h.size f = h.push (f o) := by
            intro h o f
            apply Array.ext
            · simp
            · intro i h1 h2
              by_cases hi : i = h.size
              · subst hi; simp [Array.getElem_modify_self]
              · have hlt : i < h.size := by simp at h2; omega
                rw [Array.getElem_modify_of_ne (by omega)]
                simp [Array.getElem_push_lt hlt]
          unfold Lib.bytesWorld World.freeze
          rw [if_neg (by omega)]
          simp only [World.alloc, World.drew]
          rw [hm]
          simp
        rw [hfz]
        rw [← hsz] at hk
        refine newRow_sound hR.drew (arr := Lib.bytesCells w e s) (sz := 1) (ds := bytesD l) (one_bytesD l) (by simp [bytesD, hsz]) (fun k v d e1 e2 => ?_) hcs hge hle e _ (fun o ho => by omega) hk
        simp only [bytesD, List.getElem?_map, Option.map_eq_some_iff] at e2
        obtain ⟨y, hy, rfl⟩ := e2
        rw [← hl] at hy
        have hk' : k < s.data.size := by
          have := (List.getElem?_eq_some_iff.1 hy).1
          simpa using this
        have hv : v = .int .u8 (s.data[k].toNat : Int) := by
          simp only [Lib.bytesCells] at e1
          rw [Array.getElem?_append_left (by simpa using hk'), Array.getElem?_map, Array.getElem?_eq_getElem hk'] at e1
          exact (Option.some.inj e1).symm
        have hy' : s.data[k] = y := by
          rw [Array.getElem?_toList, Array.getElem?_eq_getElem hk'] at hy
          exact Option.some.inj hy
        rw [hv, hy']
        exact .int _ _
  · rename_i i o
    obtain ⟨⟨l, T, hs, ho, hc⟩, hk⟩ := hk
    cases hx with
    | ptr _ b m _ hi =>
      obtain ⟨hlm, _, arr, T2, fr, a3, a4, _⟩ := hR.cell hs hi
      obtain ⟨b', arr', T', fr', c1, _, c3, _, c5⟩ := hR.obj i _ hs
      rw [hi] at c1
      have hbb : b = b' ∧ m = arr'.size := by cases c1; exact ⟨rfl, rfl⟩
      obtain ⟨rfl, hma⟩ := hbb
      have hT : T = T' := c5.2.2.2.2
      have hsh : w.shape? b = some (T, m) := by simp [World.shape?, c3, hT, hma]
      refine ⟨.pointer (some ⟨b, o, none⟩), w, ?_, same_sound hR (.ptr i b m o hi) hk⟩
      rcases hc with hc | ⟨rfl, hl, hc⟩
      · unfold isUns at hc
        split at hc
        · rename_i t u1 u2
          have h0 : 0 < tsz P t := by simpa using hc
          cases hq : P.info? t with
          | none => simp [tsz, hq] at h0
          | some j => exact Lib.run_to_unsafe w _ u1 u2 hq (by simp [tsz, hq] at h0; omega) hsh (by simp; omega)
        · cases hc
      · unfold unsBack at hc
        split at hc
        · rename_i u u1 u2
          simp only [Bool.and_eq_true, decide_eq_true_eq] at hc
          obtain ⟨rfl, h0⟩ := hc
          cases hq : P.info? u with
          | none => simp [tsz, hq] at h0
          | some j =>
            have hcs : P.cellsOf u = tsz P u := rfl
            refine Lib.run_from_unsafe w _ u1 u2 hq hsh ?_
            have hcnt : 1 ≤ m / P.cellsOf u := by
              rw [hcs]; exact (Nat.le_div_iff_mul_le h0).2 (by omega)
            have hd : P.depth = (2 * (P.types.size + Made.depth) + 1) + 1 := rfl
            rw [hd]
            simp only [liesAt, Bool.or_eq_true]
            left
            rw [hd]
            have hne : P.cellsOf u ≠ 0 := by rw [hcs]; omega
            simp [rowAt, sameLayout, hcnt, hne]
        · cases hc
  · obtain ⟨hd, ⟨e, he, hi⟩, hk⟩ := hk
    cases hx with
    | nil =>
      obtain ⟨hue, _⟩ := elt_spec he
      exact ⟨_, w, run_convert_bytes_nil w src e hue (intT_spec hi) 0 0 dst (isStr_spec hd), same_sound hR (.str _ _ rfl) hk⟩
  · rename_i n cs tk
    obtain ⟨hd, ⟨e, he, hi⟩, l, hcs, hn, hk⟩ := hk
    obtain ⟨hue, _⟩ := elt_spec he
    cases hx with
    | slNil ad =>
      have : l = [] := List.eq_nil_of_length_eq_zero hn.symm
      subst this
      refine ⟨.string ByteArray.empty, w, ?_, same_sound hR (.str _ _ rfl) hk⟩
      rw [run_convert_bytes_string w src dst e _ 0 0 hue (intT_spec hi) (isStr_spec hd)]
      cases ad with
      | none => simp [Conv.bytesToString]
      | some a0 => simp [Conv.bytesToString, loadCells, loadCellsFrom]
    | sl b off _ cap _ _ us hc hm himm h1 hr ht =>
      subst hcs
      obtain ⟨s, hrun, hs⟩ := bytes_cells (w := w) (g := g) (cap := cap) hn (fun k hk => ⟨us k, hR.imm _ _ _ (himm k (by simp [bytesD]; omega)), fun d e => hr k d e⟩) hue (intT_spec hi) (isStr_spec hd)
      exact ⟨_, w, hrun, same_sound hR (.str _ _ hs) hk⟩
  · rename_i id off n s
    obtain ⟨hd, ⟨e, he, hi⟩, ls, T9, l, hs, hls, hn, hk⟩ := hk
    obtain ⟨hue, _⟩ := elt_spec he
    cases hx with
    | osl _ b m _ _ cap _ hio hc hm hf =>
      obtain ⟨_, _, arr, T, fr, a3, a4, a5, a6, a7⟩ := hR.cell hs hio
      have hlen : ((ls.drop off).take n).length = n := by rw [hls]; simp [bytesD, hn]
      obtain ⟨s', hrun, hs'⟩ := bytes_cells (w := w) (g := g) (cap := cap) hn (fun k hk => by
        have hk' : off + k < ls.length := by simp at hlen; omega
        obtain ⟨v, c1, c2, _, c4⟩ := a7 (off + k) _ (List.getElem?_eq_getElem hk')
        refine ⟨v, c2, fun d e => ?_⟩
        rw [← hls, List.getElem?_take, if_pos hk, List.getElem?_drop, List.getElem?_eq_getElem hk'] at e
        cases e
        exact c4) hue (intT_spec hi) (isStr_spec hd)
      exact ⟨_, w, hrun, same_sound hR (.str _ _ hs') hk⟩
  · cases hk

/-! ### builtins -/
theorem len_sound (hR : Rel B w0 g σ w) {t : TypeId} {ty : TypeId} {x : Value} {xd : D} (hx : RV g x xd) {K : D → St → Prop} (hk : alen P t xd σ K) : ∃ v, (Builtin.len_ #[t] ty #[x]).run P w = .ok v w ∧ Comes' B w0 g K v w := by
  unfold alen at hk
  split at hk
  · cases hx with
    | str s l hl =>
      have hu := isStr_spec hk.1
      refine ⟨_, by simp [Builtin.len_, run_underlying hu]; rfl, same_sound hR ?_ hk.2⟩
      rw [← hl]
      simp [goInt]
      exact .int _ _
  · obtain ⟨e, hu⟩ := isSl_spec hk.1
    cases hx
    exact ⟨_, by simp [Builtin.len_, run_underlying hu]; rfl, same_sound hR (.int .i64 0) hk.2⟩
  · obtain ⟨e, hu⟩ := isSl_spec hk.1
    cases hx
    exact ⟨_, by simp [Builtin.len_, run_underlying hu]; rfl, same_sound hR (.int .i64 0) hk.2⟩
  · obtain ⟨e, hu⟩ := isSl_spec hk.1
    cases hx with
    | slNil => exact ⟨_, by simp [Builtin.len_, run_underlying hu]; rfl, same_sound hR (.int .i64 0) hk.2⟩
    | sl => exact ⟨_, by simp [Builtin.len_, run_underlying hu]; rfl, same_sound hR (.int .i64 _) hk.2⟩
  · obtain ⟨e, hu⟩ := isSl_spec hk.1
    cases hx
    exact ⟨_, by simp [Builtin.len_, run_underlying hu]; rfl, same_sound hR (.int .i64 _) hk.2⟩
  · obtain ⟨e, hu⟩ := isSl_spec hk.1
    cases hx
    exact ⟨_, by simp [Builtin.len_, run_underlying hu]; rfl, same_sound hR (.int .i64 _) hk.2⟩
  · cases hk

theorem cap_sound (hR : Rel B w0 g σ w) {t : TypeId} {ty : TypeId} {x : Value} {xd : D} (hx : RV g x xd) {K : D → St → Prop} (hk : acap P t xd σ K) : ∃ v, (Builtin.cap_ #[t] ty #[x]).run P w = .ok v w ∧ Comes' B w0 g K v w := by
  unfold acap at hk
  split at hk
  all_goals first | cases hk; done | skip
  all_goals (
    obtain ⟨e, hu⟩ := isSl_spec hk.1
    cases hx
    exact ⟨_, by simp [Builtin.cap_, run_underlying hu]; rfl, same_sound hR (.int .i64 _) hk.2⟩)

theorem clear_sound (hR : Rel B w0 g σ w) {t : TypeId} {ty : TypeId} {x : Value} {xd : D} (hx : RV g x xd) {K : D → St → Prop} (hk : aclear P t xd σ K) : ∃ v w', (Builtin.clear_ #[t] ty #[x]).run P w = .ok v w' ∧ Comes' B w0 g K v w' := by
  unfold aclear at hk
  split at hk
  · rename_i e sz bytes he
    obtain ⟨hu, i, z0, hi, hz0, hzs0, hsz, hsz0, _⟩ := elt_spec he
    split at hk
    · rename_i z hz
      obtain ⟨j, v, hj, hv, hvs, hrv, hone⟩ := zc_spec hz
      rw [hi] at hj; cases hj
      have none0 : ∀ (a : Option Addr) (c : Nat), (Builtin.clear_ #[t] ty #[.slice a 0 c]).run P w = .ok (.tuple #[]) w := by
        intro a c
        cases a <;> simp [Builtin.clear_, run_underlying hu]
      split at hk
      · cases hx; exact ⟨_, _, none0 _ _, same_sound hR (rv_undef g) hk⟩
      · cases hx; exact ⟨_, _, none0 _ _, same_sound hR (rv_undef g) hk⟩
      · cases hx with
        | slNil => exact ⟨_, _, none0 _ _, same_sound hR (rv_undef g) hk⟩
        | sl => exact ⟨_, _, none0 _ _, same_sound hR (rv_undef g) hk⟩
      · rename_i id off n c s
        obtain ⟨rfl, l, T9, hs, ho, hk⟩ := hk
        cases hx with
        | oslc _ b mm _ _ _ _ hio hc hcm hf =>
          by_cases hn : n = 0
          · subst hn
            rw [if_pos rfl] at hk
            exact ⟨_, _, none0 _ _, same_sound hR (rv_undef g) hk⟩
          · rw [if_neg hn] at hk
            have hvs0 : v.cells.size = s := by rw [hvs, hsz]
            have hzr := zeros_sound (g := g) (hrv g) (by omega) n
            have hzl : z.length = s := by have := (hrv g).1; simp at this; omega
            have hfl : (List.replicate n z).flatten.length = n * s := by rw [length_replicate_flatten, hzl]
            have hmul := Nat.mul_le_mul_right s hc
            obtain ⟨hth, hR'⟩ := hR.store2 hs hio hzr (one_zeros hone n) ho (by rw [hfl]; omega)
            have hst := run_storeCells_cells (P := P) b off _ 0 w (fun j hj => by simpa using (hth j hj).1) (fun j hj => by simpa using (hth j hj).2) (one_of hzr (one_zeros hone n))
            simp only [Nat.add_zero] at hst
            obtain ⟨m, rfl⟩ : ∃ m, n = m + 1 := ⟨n - 1, by omega⟩
            refine ⟨.tuple #[], _, ?_, .tup [], g, _, G.le.refl g, rv_undef g, hR', hk⟩
            simp only [Builtin.clear_, List.getElem?_toArray, List.getElem?_cons_zero, Sem.run_bind, run_underlying hu, Result.andThen_ok, zeroValue, typeInfo, run_program, Sem.run_pure, hi, hv, Builtin.zeroCells]
            simp only [hst, Result.andThen_ok, Sem.run_pure]
      · cases hk
    · cases hk
  · cases hk

theorem minmax_sound (hR : Rel B w0 g σ w) {mx : Bool} {xs : List Value} {ds : List D} (hx : RVs g xs ds) {ts : Array TypeId} {ty : TypeId} {K : D → St → Prop} (hk : aminmax mx ds σ K) :
    ∃ v, ((if mx then Builtin.max_ ts ty xs.toArray else Builtin.min_ ts ty xs.toArray)).run P w = .ok v w ∧ Comes' B w0 g K v w := by
  unfold aminmax at hk
  split at hk
  · rename_i k a k' b
    match xs, hx.1 with
    | [x, y], _ =>
      have h0 := hx.2 0 x _ rfl rfl
      have h1 := hx.2 1 y _ rfl rfl
      cases h0; cases h1
      cases mx
      · exact ⟨.int k (if b < a then b else a), by simp [Builtin.min_, Builtin.min2], same_sound hR (.int _ _) (by simpa using hk)⟩
      · exact ⟨.int k (if a < b then b else a), by simp [Builtin.max_, Builtin.max2], same_sound hR (.int _ _) (by simpa using hk)⟩
  · cases hk

theorem copy_sound (hR : Rel B w0 g σ w) {t u ty : TypeId} {x y : Value} {xd yd : D} (hx : RV g x xd) (hy : RV g y yd) {K : D → St → Prop} (hk : acopy P t xd yd σ K) :
    ∃ v w', (Builtin.copy_ #[t, u] ty #[x, y]).run P w = .ok v w' ∧ Comes' B w0 g K v w' := by
  unfold acopy at hk
  split at hk
  · rename_i e sz bytes he
    obtain ⟨hu, i, z, hi, _, _, hsz, hsz0, _⟩ := elt_spec he
    split at hk
    · rename_i n ds hc
      obtain ⟨hdl, hd1, vs, hvs, hcx⟩ := xcells_spec (P := P) hR hy hc
      have run : ∀ (base : Option Addr) (m c : Nat), (Builtin.copy_ #[t, u] ty #[.slice base m c, y]).run P w = (match base with | some a => (storeCells a (vs.take (min n m * sz)) 0).run P w | none => .ok () w).andThen fun _ w' => .ok (.int .i64 (min n m : Nat)) w' := by
        intro base m c
        have h3 := hcx.2.2 w (fun a v e => e) (min n m) (Nat.min_le_left _ _)
        subst hsz
        cases base <;> simp [Builtin.copy_, run_underlying hu, hcx.1, sizeOf, typeInfo, hi, h3, goInt]
      have zero : ∀ (base : Option Addr) (c : Nat), (Builtin.copy_ #[t, u] ty #[.slice base 0 c, y]).run P w = .ok (.int .i64 0) w := by
        intro base c
        rw [run base 0 c]
        cases base <;> simp [storeCells]
      split at hk
      · rename_i id off m s'
        obtain ⟨rfl, l, T9, hs, hfit, hk⟩ := hk
        cases hx with
        | osl _ b mm _ _ cap _ hio hcc hm hf =>
          have hlt : (vs.take (min n m * s')).length = min n m * s' := by
            have := Nat.mul_le_mul_right s' (Nat.min_le_left n m)
            rw [List.length_take, hvs.1, hdl]; omega
          have hrv : RVs g (vs.take (min n m * s')) (ds.take (min n m * s')) := by
            have := rvs_range hvs 0 (min n m * s')
            simpa using this
          obtain ⟨hth, hR'⟩ := hR.store hs hio hrv (fun d hd => hd1 d (List.mem_of_mem_take hd)) (by rw [← hrv.1, hlt]; exact hfit)
          have hst := run_storeCells_cells (P := P) b off (vs.take (min n m * s')) 0 w (fun j hj => by simpa using (hth j hj).1) (fun j hj => by simpa using (hth j hj).2) (one_of hrv (fun d hd => hd1 d (List.mem_of_mem_take hd)))
          simp only [Nat.add_zero] at hst
          refine ⟨_, _, by rw [run]; simp only [hst, Result.andThen_ok], _, g, _, G.le.refl g, .int _ _, hR', hk⟩
      · rename_i id off m cc s'
        obtain ⟨rfl, l, T9, hs, ho, hk⟩ := hk
        cases hx with
        | oslc _ b mm _ _ _ _ hio hcc hm hf =>
          have hlt : (vs.take (min n m * s')).length = min n m * s' := by
            have := Nat.mul_le_mul_right s' (Nat.min_le_left n m)
            rw [List.length_take, hvs.1, hdl]; omega
          have hrv : RVs g (vs.take (min n m * s')) (ds.take (min n m * s')) := by
            have := rvs_range hvs 0 (min n m * s')
            simpa using this
          have hmul := Nat.mul_le_mul_right s' (Nat.le_trans (Nat.min_le_right n m) hcc)
          obtain ⟨hth, hR'⟩ := hR.store2 hs hio hrv (fun d hd => hd1 d (List.mem_of_mem_take hd)) ho (by rw [← hrv.1, hlt]; omega)
          have hst := run_storeCells_cells (P := P) b off (vs.take (min n m * s')) 0 w (fun j hj => by simpa using (hth j hj).1) (fun j hj => by simpa using (hth j hj).2) (one_of hrv (fun d hd => hd1 d (List.mem_of_mem_take hd)))
          simp only [Nat.add_zero] at hst
          refine ⟨_, _, by rw [run]; simp only [hst, Result.andThen_ok], _, g, _, G.le.refl g, .int _ _, hR', hk⟩
      · cases hx with
        | slNil => exact ⟨_, _, zero _ _, same_sound hR (.int .i64 0) hk⟩
        | sl => exact ⟨_, _, zero _ _, same_sound hR (.int .i64 0) hk⟩
      · cases hx
        exact ⟨_, _, zero _ _, same_sound hR (.int .i64 0) hk⟩
      · cases hx
        exact ⟨_, _, zero _ _, same_sound hR (.int .i64 0) hk⟩
      · cases hk
    · cases hk
  · cases hk


/-! ### the bytes of a builder -/
theorem Rel.frost (h : Rel B w0 g σ w) {id b m : Nat} {e : TypeId} {cs : List D} (hs : σ id = some (.tok e cs)) (hi : g.io id = some (b, m)) (n : Nat) : Rel B w0 g (σ.del id) (w.freeze ⟨b, 0, none⟩ n) := by
  obtain ⟨b', arr, T, fr, e1, e2, e3, e4, e5⟩ := h.obj id _ hs
  rw [hi] at e1; cases e1
  have hsz : (w.freeze ⟨b, 0, none⟩ n).heap.size = w.heap.size := by unfold World.freeze; split <;> simp
  have hother : ∀ k, k ≠ b → (w.freeze ⟨b, 0, none⟩ n).heap[k]? = w.heap[k]? := fun k hk => by
    unfold World.freeze
    split
    · rfl
    · simp only [Array.getElem?_modify]; rw [if_neg (by omega)]
  have hb : ∃ fr', (w.freeze ⟨b, 0, none⟩ n).heap[b]? = some (.cells arr T fr') := by
    unfold World.freeze
    split
    · exact ⟨fr, e3⟩
    · simp [Array.getElem?_modify, e3]
  obtain ⟨fr', hb⟩ := hb
  have hdel : ∀ i ob, (σ.del id) i = some ob → σ i = some ob ∧ i ≠ id := by
    intro i ob e
    simp only [St.del] at e
    by_cases hx : i = id
    · rw [if_pos hx] at e; cases e
    · rw [if_neg hx] at e; exact ⟨e, hx⟩
  refine ⟨Lib.below_freeze h.below e2 n, by rw [hsz]; exact h.base, ?_, fun i b n e => by rw [hsz]; exact h.dom i b n e, h.fin, ?_, ?_⟩
  · intro b' o v e
    by_cases hbb : b' = b
    · subst hbb
      have := h.imm b' o v e
      simp [World.cell?, e3] at this
      simp [World.cell?, hb, this]
    · exact (World.cell?_of_block (w := w) (a := ⟨b', o, none⟩) (hother b' hbb)).trans (h.imm b' o v e)
  · intro i ob e
    obtain ⟨p1, p2⟩ := hdel i ob e
    obtain ⟨b', arr', T', fr2, c1, c2, c3, c4, c5⟩ := h.obj i ob p1
    have hbb : b' ≠ b := by
      rintro rfl
      exact p2 (h.inj i id b' _ _ (by rw [p1]; simp) (by rw [hs]; simp) c1 hi)
    exact ⟨b', arr', T', fr2, c1, c2, (hother b' hbb).trans c3, c4, c5⟩
  · intro i j b' n n' e e' c c'
    refine h.inj i j b' n n' ?_ ?_ c c'
    · intro hn; apply e; simp only [St.del]; split <;> first | rfl | exact hn
    · intro hn; apply e'; simp only [St.del]; split <;> first | rfl | exact hn

theorem sldata_sound (hR : Rel B w0 g σ w) {ts : Array TypeId} {ty : TypeId} {x : Value} {xd : D} (hx : RV g x xd) {K : D → St → Prop} (hk : asldata xd σ K) : ∃ v, (Builtin.unsafeSliceData_ ts ty #[x]).run P w = .ok v w ∧ Comes' B w0 g K v w := by
  unfold asldata at hk
  split at hk
  · cases hx
    exact ⟨_, rfl, same_sound hR .nilp hk⟩
  · rename_i n cs id sz
    cases hx with
    | sl b off _ cap _ _ us a1 a2 a3 a4 a5 a6 =>
      obtain ⟨rfl, _, _, m, hio, _⟩ := a6 _ _ rfl
      have hc : cap ≠ 0 := by have := hk.1; omega
      refine ⟨.pointer (some ⟨b, 0, none⟩), ?_, same_sound hR (.ptr _ b m 0 hio) hk.2⟩
      have hdef : Builtin.unsafeSliceData_ ts ty #[.slice (some ⟨b, 0, none⟩) n cap] =
          (do
            if cap ≠ 0 then pure (.pointer (some ⟨b, 0, none⟩))
            else if (← viewAt b).isSome then pure (.pointer (some ⟨b, 0, none⟩))
            else pure (.pointer (some ⟨← newObj (.view ⟨b, 0, none⟩ (← elemOf ty)), 0, none⟩))) := rfl
      rw [hdef]
      simp [hc]
  · cases hk

theorem ustr_sound (hR : Rel B w0 g σ w) {pt it ty : TypeId} {x y : Value} {xd yd : D} (hx : RV g x xd) (hy : RV g y yd) {K : D → St → Prop} (hk : austr P pt xd yd σ K) : ∃ v w', (Builtin.unsafeString_ #[pt, it] ty #[x, y]).run P w = .ok v w' ∧ Comes' B w0 g K v w' := by
  unfold austr at hk
  split at hk
  · cases hy
    split at hk
    · cases hx
      obtain ⟨rfl, hk⟩ := hk
      exact ⟨_, w, Lib.run_unsafeString_none w pt it ty none, same_sound hR (.str _ _ rfl) hk⟩
    · rename_i id off
      obtain ⟨e, cs, l, hs, hp, rfl, hc, rfl, rfl, hn0, hn1, hk⟩ := hk
      cases hx with
      | ptr _ b m _ hi =>
        obtain ⟨b', arr, T, fr, e1, e2, e3, e4, rfl, e5, n', e6, e7, e8⟩ := hR.obj id _ hs
        rw [hi] at e1
        have hbb : b = b' ∧ m = arr.size := by cases e1; exact ⟨rfl, rfl⟩
        obtain ⟨rfl, hma⟩ := hbb
        have hpt : P.underlying pt = some (.pointer e) := by
          unfold ptrE at hp
          split at hp
          · rename_i e' he'; cases hp; exact he'
          · cases hp
        have hcell : ∀ (j : Nat) (x : UInt8), l[j]? = some x → w.cell? ((⟨b, 0, none⟩ : Addr).add j) = some (.int .u8 x.toNat) := fun j x e => by
          obtain ⟨v, c1, c2⟩ := e5 j (.int .u8 x.toNat) (by simp [bytesD, e])
          cases c2
          rw [add_at, Nat.zero_add]
          exact hR.imm _ _ _ c1
        have hlen : l.length ≤ arr.size := by
          rcases Nat.lt_or_ge arr.size l.length with h | h
          · have h1 := hcell arr.size l[arr.size] (List.getElem?_eq_getElem h)
            rw [add_at, Nat.zero_add] at h1
            simp [World.cell?, e3] at h1
          · exact h
        refine ⟨_, _, Lib.run_unsafeString_row w pt it ty e hpt hc b arr.size (by simp [World.shape?, e3]) l (by rintro rfl; simp at hn0) hlen (by omega) hcell, ?_⟩
        exact ⟨_, g, _, G.le.refl g, .str _ l rfl, hR.frost hs hi _, hk⟩
    · cases hk
  · cases hk

end
end Go.Av
