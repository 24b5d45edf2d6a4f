/- Conversions, builtins. -/
import Derived.Test.YtgbfchagmniiiaaAvA
import Derived.Lib.Builder
import Derived.Lib.UnsafeStr
import Derived.Laws.BytesArg
import Derived.Laws.Externs
import Derived.Orders
import Derived.Deep.LoopGhost
import Derived.IntWalk
import Derived.KernelRfl
set_option linter.unusedSimpArgs false
set_option linter.unusedVariables false
namespace Go.Av
open Go.RowKit

section
variable {P : Program} {γ : Gl} {B : Nat} {w0 : World} {g : G} {σ : St} {w : World}

theorem strOfNums_bytes (l : List UInt8) : (strOfNums (l.map fun b => (b.toNat : Int))).data.toList = l := by
  simp [strOfNums]
  induction l with
  | nil => rfl
  | cons a l ih => simp [ih]

/-- A row of bytes. -/
theorem bytes_cells {b off n cap : Nat} {l : List UInt8} (hl : n = l.length) (hc : ∀ k, k < n → ∃ v, w.cell? ⟨b, off + k, none⟩ = some v ∧ ∀ d, (bytesD l)[k]? = some d → RV g v d) {src dst e : TypeId} (hs : P.underlying src = some (.slice e)) (he : P.underlying e = some (.int .u8)) (hd : P.underlying dst = some .string) :
    ∃ s, (convert src dst (.slice (some ⟨b, off, none⟩) n cap)).run P w = .ok (.string s) w ∧ s.data.toList = l := by
  refine ⟨_, run_convert_bytes_arg w src e hs he b off n cap (l.map fun b => (b.toNat : Int)) (by simp [hl]) (fun i hi => ?_) dst hd, strOfNums_bytes l⟩
  obtain ⟨v, h1, h2⟩ := hc i hi
  have hi' : i < l.length := by omega
  have hd : (bytesD l)[i]? = some (.int .u8 (l[i].toNat : Int)) := by simp [bytesD, List.getElem?_eq_getElem hi']
  have := h2 _ hd
  rw [h1]
  cases this
  simp [List.getElem?_eq_getElem hi']

theorem conv_sound (hR : Rel B w0 g σ w) {src dst : TypeId} {x : Value} {xd : D} (hx : RV g x xd) {K : D → St → Prop} (hk : aconv P src dst xd σ K) : ∃ v w', (convert src dst x).run P w = .ok v w' ∧ Comes' B w0 g K v w' := by
  unfold aconv at hk
  split at hk
  · rename_i k n
    cases hx
    obtain ⟨hs, hk⟩ := hk
    split at hk
    · rename_i k' hk'
      have hu := intT_spec hk'
      obtain ⟨d, hd⟩ := Option.isSome_iff_exists.mp hs
      exact ⟨_, w, by simp [convert, run_underlying hd, run_underlying hu, Conv.intToInt], same_sound hR (.int _ _) hk⟩
    · cases hk
  · rename_i l
    obtain ⟨hs, hk⟩ := hk
    have hu := isStr_spec hs
    cases hx with
    | str s _ hl =>
      rcases hk with ⟨hd, hk⟩ | ⟨e, he, hi, hlen, hk⟩
      · have hd' := isStr_spec hd
        exact ⟨_, w, by simp [convert, run_underlying hu, run_underlying hd'], same_sound hR (.str _ _ hl) hk⟩
      · obtain ⟨hue, i, z, hi', _⟩ := elt_spec he
        have h8 := intT_spec hi
        refine ⟨_, _, Lib.run_convert_string_bytes w src dst e s hu hue h8, ?_⟩
        have hsz : s.size = l.length := by rw [← hl]; simp
        have hge := grownCap_ge w s.size 0 e
        have hle := grownCap_le_maxLen w s.size 0 e (by unfold maxLen; omega)
        have hcs : (Lib.bytesCells w e s).size = grownCap w s.size 0 e * 1 := by
          simp only [Lib.bytesCells, Array.size_append, Array.size_map, Array.size_replicate]
          have : s.data.size = s.size := rfl
          omega
        have hfz : Lib.bytesWorld w e s = w.drew.alloc (.cells (Lib.bytesCells w e s) e ((Lib.bytesCells w e s).size, (Lib.bytesCells w e s).size + 1)) := by
          have hm : ∀ (h : Array Obj) (o : Obj) (f : Obj → Obj), (h.push o).modify h.size f = h.push (f o) := by
            intro h o f
            apply Array.ext
            · simp
            · intro i h1 h2
              by_cases hi : i = h.size
              · subst hi; simp [Array.getElem_modify_self]
              · have hlt : i < h.size := by simp at h2; omega
                rw [Array.getElem_modify_of_ne (by omega)]
                simp [Array.getElem_push_lt hlt]
          unfold Lib.bytesWorld World.freeze
          rw [if_neg (by omega)]
          simp only [World.alloc, World.drew]
          rw [hm]
          simp
        rw [hfz]
        rw [← hsz] at hk
        refine newRow_sound hR.drew (arr := Lib.bytesCells w e s) (sz := 1) (ds := bytesD l) (one_bytesD l) (by simp [bytesD, hsz]) (fun k v d e1 e2 => ?_) hcs hge hle e _ (fun o ho => by omega) hk
        simp only [bytesD, List.getElem?_map, Option.map_eq_some_iff] at e2
        obtain ⟨y, hy, rfl⟩ := e2
        rw [← hl] at hy
        have hk' : k < s.data.size := by
          have := (List.getElem?_eq_some_iff.1 hy).1
          simpa using this
        have hv : v = .int .u8 (s.data[k].toNat : Int) := by
          simp only [Lib.bytesCells] at e1
          rw [Array.getElem?_append_left (by simpa using hk'), Array.getElem?_map, Array.getElem?_eq_getElem hk'] at e1
          exact (Option.some.inj e1).symm
        have hy' : s.data[k] = y := by
          rw [Array.getElem?_toList, Array.getElem?_eq_getElem hk'] at hy
          exact Option.some.inj hy
        rw [hv, hy']
        exact .int _ _
  · rename_i i o
    obtain ⟨⟨l, T, hs, ho, hc⟩, hk⟩ := hk
    cases hx with
    | ptr _ b m _ hi =>
      obtain ⟨hlm, _, arr, T2, fr, a3, a4, _⟩ := hR.cell hs hi
      obtain ⟨b', arr', T', fr', c1, _, c3, _, c5⟩ := hR.obj i _ hs
      rw [hi] at c1
      have hbb : b = b' ∧ m = arr'.size := by cases c1; exact ⟨rfl, rfl⟩
      obtain ⟨rfl, hma⟩ := hbb
      have hT : T = T' := c5.2.2.2.2
      have hsh : w.shape? b = some (T, m) := by simp [World.shape?, c3, hT, hma]
      refine ⟨.pointer (some ⟨b, o, none⟩), w, ?_, same_sound hR (.ptr i b m o hi) hk⟩
      rcases hc with hc | ⟨rfl, hl, hc⟩
      · unfold isUns at hc
        split at hc
        · rename_i t u1 u2
          have h0 : 0 < tsz P t := by simpa using hc
          cases hq : P.info? t with
          | none => simp [tsz, hq] at h0
          | some j => exact Lib.run_to_unsafe w _ u1 u2 hq (by simp [tsz, hq] at h0; omega) hsh (by simp; omega)
        · cases hc
      · unfold unsBack at hc
        split at hc
        · rename_i u u1 u2
          simp only [Bool.and_eq_true, decide_eq_true_eq] at hc
          obtain ⟨rfl, h0⟩ := hc
          cases hq : P.info? u with
          | none => simp [tsz, hq] at h0
          | some j =>
            have hcs : P.cellsOf u = tsz P u := rfl
            refine Lib.run_from_unsafe w _ u1 u2 hq hsh ?_
            have hcnt : 1 ≤ m / P.cellsOf u := by
              rw [hcs]; exact (Nat.le_div_iff_mul_le h0).2 (by omega)
            have hd : P.depth = (2 * (P.types.size + Made.depth) + 1) + 1 := rfl
            rw [hd]
            simp only [liesAt, Bool.or_eq_true]
            left
            rw [hd]
            have hne : P.cellsOf u ≠ 0 := by rw [hcs]; omega
            simp [rowAt, sameLayout, hcnt, hne]
        · cases hc
  · obtain ⟨hd, ⟨e, he, hi⟩, hk⟩ := hk
    cases hx with
    | nil =>
      obtain ⟨hue, _⟩ := elt_spec he
      exact ⟨_, w, run_convert_bytes_nil w src e hue (intT_spec hi) 0 0 dst (isStr_spec hd), same_sound hR (.str _ _ rfl) hk⟩
  · rename_i n cs tk
    obtain ⟨hd, ⟨e, he, hi⟩, l, hcs, hn, hk⟩ := hk
    obtain ⟨hue, _⟩ := elt_spec he
    cases hx with
    | slNil ad =>
      have : l = [] := List.eq_nil_of_length_eq_zero hn.symm
      subst this
      refine ⟨.string ByteArray.empty, w, ?_, same_sound hR (.str _ _ rfl) hk⟩
      rw [run_convert_bytes_string w src dst e _ 0 0 hue (intT_spec hi) (isStr_spec hd)]
      cases ad with
      | none => simp [Conv.bytesToString]
      | some a0 => simp [Conv.bytesToString, loadCells, loadCellsFrom]
    | sl b off _ cap _ _ us hc hm himm h1 hr ht =>
      subst hcs
      obtain ⟨s, hrun, hs⟩ := bytes_cells (w := w) (g := g) (cap := cap) hn (fun k hk => ⟨us k, hR.imm _ _ _ (himm k (by simp [bytesD]; omega)), fun d e => hr k d e⟩) hue (intT_spec hi) (isStr_spec hd)
      exact ⟨_, w, hrun, same_sound hR (.str _ _ hs) hk⟩
  · rename_i id off n s
    obtain ⟨hd, ⟨e, he, hi⟩, ls, T9, l, hs, hls, hn, hk⟩ := hk
    obtain ⟨hue, _⟩ := elt_spec he
    cases hx with
    | osl _ b m _ _ cap _ hio hc hm hf =>
      obtain ⟨_, _, arr, T, fr, a3, a4, a5, a6, a7⟩ := hR.cell hs hio
      have hlen : ((ls.drop off).take n).length = n := by rw [hls]; simp [bytesD, hn]
      obtain ⟨s', hrun, hs'⟩ := bytes_cells (w := w) (g := g) (cap := cap) hn (fun k hk => by
        have hk' : off + k < ls.length := by simp at hlen; omega
        obtain ⟨v, c1, c2, _, c4⟩ := a7 (off + k) _ (List.getElem?_eq_getElem hk')
        refine ⟨v, c2, fun d e => ?_⟩
        rw [← hls, List.getElem?_take, if_pos hk, List.getElem?_drop, List.getElem?_eq_getElem hk'] at e
        cases e
        exact c4) hue (intT_spec hi) (isStr_spec hd)
      exact ⟨_, w, hrun, same_sound hR (.str _ _ hs') hk⟩
  · cases hk

/-! ### builtins -/
theorem len_sound (hR : Rel B w0 g σ w) {t : TypeId} {ty : TypeId} {x : Value} {xd : D} (hx : RV g x xd) {K : D → St → Prop} (hk : alen P t xd σ K) : ∃ v, (Builtin.len_ #[t] ty #[x]).run P w = .ok v w ∧ Comes' B w0 g K v w := by
  unfold alen at hk
  split at hk
  · cases hx with
    | str s l hl =>
      have hu := isStr_spec hk.1
      refine ⟨_, by simp [Builtin.len_, run_underlying hu]; rfl, same_sound hR ?_ hk.2⟩
      rw [← hl]
      simp [goInt]
      exact .int _ _
  · obtain ⟨e, hu⟩ := isSl_spec hk.1
    cases hx
    exact ⟨_, by simp [Builtin.len_, run_underlying hu]; rfl, same_sound hR (.int .i64 0) hk.2⟩
  · obtain ⟨e, hu⟩ := isSl_spec hk.1
    cases hx
    exact ⟨_, by simp [Builtin.len_, run_underlying hu]; rfl, same_sound hR (.int .i64 0) hk.2⟩
  · obtain ⟨e, hu⟩ := isSl_spec hk.1
    cases hx with
    | slNil => exact ⟨_, by simp [Builtin.len_, run_underlying hu]; rfl, same_sound hR (.int .i64 0) hk.2⟩
    | sl => exact ⟨_, by simp [Builtin.len_, run_underlying hu]; rfl, same_sound hR (.int .i64 _) hk.2⟩
  · obtain ⟨e, hu⟩ := isSl_spec hk.1
    cases hx
    exact ⟨_, by simp [Builtin.len_, run_underlying hu]; rfl, same_sound hR (.int .i64 _) hk.2⟩
  · obtain ⟨e, hu⟩ := isSl_spec hk.1
    cases hx
    exact ⟨_, by simp [Builtin.len_, run_underlying hu]; rfl, same_sound hR (.int .i64 _) hk.2⟩
  · cases hk

theorem cap_sound (hR : Rel B w0 g σ w) {t : TypeId} {ty : TypeId} {x : Value} {xd : D} (hx : RV g x xd) {K : D → St → Prop} (hk : acap P t xd σ K) : ∃ v, (Builtin.cap_ #[t] ty #[x]).run P w = .ok v w ∧ Comes' B w0 g K v w := by
  unfold acap at hk
  split at hk
  all_goals first | cases hk; done | skip
  all_goals (
    obtain ⟨e, hu⟩ := isSl_spec hk.1
    cases hx
    exact ⟨_, by simp [Builtin.cap_, run_underlying hu]; rfl, same_sound hR (.int .i64 _) hk.2⟩)

theorem clear_sound (hR : Rel B w0 g σ w) {t : TypeId} {ty : TypeId} {x : Value} {xd : D} (hx : RV g x xd) {K : D → St → Prop} (hk : aclear P t xd σ K) : ∃ v w', (Builtin.clear_ #[t] ty #[x]).run P w = .ok v w' ∧ Comes' B w0 g K v w' := by
  unfold aclear at hk
  split at hk
  · rename_i e sz bytes he
    obtain ⟨hu, i, z0, hi, hz0, hzs0, hsz, hsz0, _⟩ := elt_spec he
    split at hk
    · rename_i z hz
      obtain ⟨j, v, hj, hv, hvs, hrv, hone⟩ := zc_spec hz
      rw [hi] at hj; cases hj
      have none0 : ∀ (a : Option Addr) (c : Nat), (Builtin.clear_ #[t] ty #[.slice a 0 c]).run P w = .ok (.tuple #[]) w := by
        intro a c
        cases a <;> simp [Builtin.clear_, run_underlying hu]
      split at hk
      · cases hx; exact ⟨_, _, none0 _ _, same_sound hR (rv_undef g) hk⟩
      · cases hx; exact ⟨_, _, none0 _ _, same_sound hR (rv_undef g) hk⟩
      · cases hx with
        | slNil => exact ⟨_, _, none0 _ _, same_sound hR (rv_undef g) hk⟩
        | sl => exact ⟨_, _, none0 _ _, same_sound hR (rv_undef g) hk⟩
      · rename_i id off n c s
        obtain ⟨rfl, l, T9, hs, ho, hk⟩ := hk
        cases hx with
        | oslc _ b mm _ _ _ _ hio hc hcm hf =>
          by_cases hn : n = 0
          · subst hn
            rw [if_pos rfl] at hk
            exact ⟨_, _, none0 _ _, same_sound hR (rv_undef g) hk⟩
          · rw [if_neg hn] at hk
            have hvs0 : v.cells.size = s := by rw [hvs, hsz]
            have hzr := zeros_sound (g := g) (hrv g) (by omega) n
            have hzl : z.length = s := by have := (hrv g).1; simp at this; omega
            have hfl : (List.replicate n z).flatten.length = n * s := by rw [length_replicate_flatten, hzl]
            have hmul := Nat.mul_le_mul_right s hc
            obtain ⟨hth, hR'⟩ := hR.store2 hs hio hzr (one_zeros hone n) ho (by rw [hfl]; omega)
            have hst := run_storeCells_cells (P := P) b off _ 0 w (fun j hj => by simpa using (hth j hj).1) (fun j hj => by simpa using (hth j hj).2) (one_of hzr (one_zeros hone n))
            simp only [Nat.add_zero] at hst
            obtain ⟨m, rfl⟩ : ∃ m, n = m + 1 := ⟨n - 1, by omega⟩
            refine ⟨.tuple #[], _, ?_, .tup [], g, _, G.le.refl g, rv_undef g, hR', hk⟩
            simp only [Builtin.clear_, List.getElem?_toArray, List.getElem?_cons_zero, Sem.run_bind, run_underlying hu, Result.andThen_ok, zeroValue, typeInfo, run_program, Sem.run_pure, hi, hv, Builtin.zeroCells]
            simp only [hst, Result.andThen_ok, Sem.run_pure]
      · cases hk
    · cases hk
  · cases hk

theorem minmax_sound (hR : Rel B w0 g σ w) {mx : Bool} {xs : List Value} {ds : List D} (hx : RVs g xs ds) {ts : Array TypeId} {ty : TypeId} {K : D → St → Prop} (hk : aminmax mx ds σ K) :
    ∃ v, ((if mx then Builtin.max_ ts ty xs.toArray else Builtin.min_ ts ty xs.toArray)).run P w = .ok v w ∧ Comes' B w0 g K v w := by
  unfold aminmax at hk
  split at hk
  · rename_i k a k' b
    match xs, hx.1 with
    | [x, y], _ =>
      have h0 := hx.2 0 x _ rfl rfl
      have h1 := hx.2 1 y _ rfl rfl
      cases h0; cases h1
      cases mx
      · exact ⟨.int k (if b < a then b else a), by simp [Builtin.min_, Builtin.min2], same_sound hR (.int _ _) (by simpa using hk)⟩
      · exact ⟨.int k (if a < b then b else a), by simp [Builtin.max_, Builtin.max2], same_sound hR (.int _ _) (by simpa using hk)⟩
  · cases hk

theorem copy_sound (hR : Rel B w0 g σ w) {t u ty : TypeId} {x y : Value} {xd yd : D} (hx : RV g x xd) (hy : RV g y yd) {K : D → St → Prop} (hk : acopy P t xd yd σ K) :
    ∃ v w', (Builtin.copy_ #[t, u] ty #[x, y]).run P w = .ok v w' ∧ Comes' B w0 g K v w' := by
  unfold acopy at hk
  split at hk
  · rename_i e sz bytes he
    obtain ⟨hu, i, z, hi, _, _, hsz, hsz0, _⟩ := elt_spec he
    split at hk
    · rename_i n ds hc
      obtain ⟨hdl, hd1, vs, hvs, hcx⟩ := xcells_spec (P := P) hR hy hc
      have run : ∀ (base : Option Addr) (m c : Nat), (Builtin.copy_ #[t, u] ty #[.slice base m c, y]).run P w = (match base with | some a => (storeCells a (vs.take (min n m * sz)) 0).run P w | none => .ok () w).andThen fun _ w' => .ok (.int .i64 (min n m : Nat)) w' := by
        intro base m c
        have h3 := hcx.2.2 w (fun a v e => e) (min n m) (Nat.min_le_left _ _)
        subst hsz
        cases base <;> simp [Builtin.copy_, run_underlying hu, hcx.1, sizeOf, typeInfo, hi, h3, goInt]
      have zero : ∀ (base : Option Addr) (c : Nat), (Builtin.copy_ #[t, u] ty #[.slice base 0 c, y]).run P w = .ok (.int .i64 0) w := by
        intro base c
        rw [run base 0 c]
        cases base <;> simp [storeCells]
      split at hk
      · rename_i id off m s'
        obtain ⟨rfl, l, T9, hs, hfit, hk⟩ := hk
        cases hx with
        | osl _ b mm _ _ cap _ hio hcc hm hf =>
          have hlt : (vs.take (min n m * s')).length = min n m * s' := by
            have := Nat.mul_le_mul_right s' (Nat.min_le_left n m)
            rw [List.length_take, hvs.1, hdl]; omega
          have hrv : RVs g (vs.take (min n m * s')) (ds.take (min n m * s')) := by
            have := rvs_range hvs 0 (min n m * s')
            simpa using this
          obtain ⟨hth, hR'⟩ := hR.store hs hio hrv (fun d hd => hd1 d (List.mem_of_mem_take hd)) (by rw [← hrv.1, hlt]; exact hfit)
          have hst := run_storeCells_cells (P := P) b off (vs.take (min n m * s')) 0 w (fun j hj => by simpa using (hth j hj).1) (fun j hj => by simpa using (hth j hj).2) (one_of hrv (fun d hd => hd1 d (List.mem_of_mem_take hd)))
          simp only [Nat.add_zero] at hst
          refine ⟨_, _, by rw [run]; simp only [hst, Result.andThen_ok], _, g, _, G.le.refl g, .int _ _, hR', hk⟩
      · rename_i id off m cc s'
        obtain ⟨rfl, l, T9, hs, ho, hk⟩ := hk
        cases hx with
        | oslc _ b mm _ _ _ _ hio hcc hm hf =>
          have hlt : (vs.take (min n m * s')).length = min n m * s' := by
            have := Nat.mul_le_mul_right s' (Nat.min_le_left n m)
            rw [List.length_take, hvs.1, hdl]; omega
          have hrv : RVs g (vs.take (min n m * s')) (ds.take (min n m * s')) := by
            have := rvs_range hvs 0 (min n m * s')
            simpa using this
          have hmul := Nat.mul_le_mul_right s' (Nat.le_trans (Nat.min_le_right n m) hcc)
          obtain ⟨hth, hR'⟩ := hR.store2 hs hio hrv (fun d hd => hd1 d (List.mem_of_mem_take hd)) ho (by rw [← hrv.1, hlt]; omega)
          have hst := run_storeCells_cells (P := P) b off (vs.take (min n m * s')) 0 w (fun j hj => by simpa using (hth j hj).1) (fun j hj => by simpa using (hth j hj).2) (one_of hrv (fun d hd => hd1 d (List.mem_of_mem_take hd)))
          simp only [Nat.add_zero] at hst
          refine ⟨_, _, by rw [run]; simp only [hst, Result.andThen_ok], _, g, _, G.le.refl g, .int _ _, hR', hk⟩
      · cases hx with
        | slNil => exact ⟨_, _, zero _ _, same_sound hR (.int .i64 0) hk⟩
        | sl => exact ⟨_, _, zero _ _, same_sound hR (.int .i64 0) hk⟩
      · cases hx
        exact ⟨_, _, zero _ _, same_sound hR (.int .i64 0) hk⟩
      · cases hx
        exact ⟨_, _, zero _ _, same_sound hR (.int .i64 0) hk⟩
      · cases hk
    · cases hk
  · cases hk


/-! ### the bytes of a builder -/
theorem Rel.frost (h : Rel B w0 g σ w) {id b m : Nat} {e : TypeId} {cs : List D} (hs : σ id = some (.tok e cs)) (hi : g.io id = some (b, m)) (n : Nat) : Rel B w0 g (σ.del id) (w.freeze ⟨b, 0, none⟩ n) := by
  obtain ⟨b', arr, T, fr, e1, e2, e3, e4, e5⟩ := h.obj id _ hs
  rw [hi] at e1; cases e1
  have hsz : (w.freeze ⟨b, 0, none⟩ n).heap.size = w.heap.size := by unfold World.freeze; split <;> simp
  have hother : ∀ k, k ≠ b → (w.freeze ⟨b, 0, none⟩ n).heap[k]? = w.heap[k]? := fun k hk => by
    unfold World.freeze
    split
    · rfl
    · simp only [Array.getElem?_modify]; rw [if_neg (by omega)]
  have hb : ∃ fr', (w.freeze ⟨b, 0, none⟩ n).heap[b]? = some (.cells arr T fr') := by
    unfold World.freeze
    split
    · exact ⟨fr, e3⟩
    · simp [Array.getElem?_modify, e3]
  obtain ⟨fr', hb⟩ := hb
  have hdel : ∀ i ob, (σ.del id) i = some ob → σ i = some ob ∧ i ≠ id := by
    intro i ob e
    simp only [St.del] at e
    by_cases hx : i = id
    · rw [if_pos hx] at e; cases e
    · rw [if_neg hx] at e; exact ⟨e, hx⟩
  refine ⟨Lib.below_freeze h.below e2 n, by rw [hsz]; exact h.base, ?_, fun i b n e => by rw [hsz]; exact h.dom i b n e, h.fin, ?_, ?_⟩
  · intro b' o v e
    by_cases hbb : b' = b
    · subst hbb
      have := h.imm b' o v e
      simp [World.cell?, e3] at this
      simp [World.cell?, hb, this]
    · exact (World.cell?_of_block (w := w) (a := ⟨b', o, none⟩) (hother b' hbb)).trans (h.imm b' o v e)
  · intro i ob e
    obtain ⟨p1, p2⟩ := hdel i ob e
    obtain ⟨b', arr', T', fr2, c1, c2, c3, c4, c5⟩ := h.obj i ob p1
    have hbb : b' ≠ b := by
      rintro rfl
      exact p2 (h.inj i id b' _ _ (by rw [p1]; simp) (by rw [hs]; simp) c1 hi)
    exact ⟨b', arr', T', fr2, c1, c2, (hother b' hbb).trans c3, c4, c5⟩
  · intro i j b' n n' e e' c c'
    refine h.inj i j b' n n' ?_ ?_ c c'
    · intro hn; apply e; simp only [St.del]; split <;> first | rfl | exact hn
    · intro hn; apply e'; simp only [St.del]; split <;> first | rfl | exact hn

theorem sldata_sound (hR : Rel B w0 g σ w) {ts : Array TypeId} {ty : TypeId} {x : Value} {xd : D} (hx : RV g x xd) {K : D → St → Prop} (hk : asldata xd σ K) : ∃ v, (Builtin.unsafeSliceData_ ts ty #[x]).run P w = .ok v w ∧ Comes' B w0 g K v w := by
  unfold asldata at hk
  split at hk
  · cases hx
    exact ⟨_, rfl, same_sound hR .nilp hk⟩
  · rename_i n cs id sz
    cases hx with
    | sl b off _ cap _ _ us a1 a2 a3 a4 a5 a6 =>
      obtain ⟨rfl, _, _, m, hio, _⟩ := a6 _ _ rfl
      have hc : cap ≠ 0 := by have := hk.1; omega
      refine ⟨.pointer (some ⟨b, 0, none⟩), ?_, same_sound hR (.ptr _ b m 0 hio) hk.2⟩
      have hdef : Builtin.unsafeSliceData_ ts ty #[.slice (some ⟨b, 0, none⟩) n cap] =
          (do
            if cap ≠ 0 then pure (.pointer (some ⟨b, 0, none⟩))
            else if (← viewAt b).isSome then pure (.pointer (some ⟨b, 0, none⟩))
            else pure (.pointer (some ⟨← newObj (.view ⟨b, 0, none⟩ (← elemOf ty)), 0, none⟩))) := rfl
      rw [hdef]
      simp [hc]
  · cases hk

theorem ustr_sound (hR : Rel B w0 g σ w) {pt it ty : TypeId} {x y : Value} {xd yd : D} (hx : RV g x xd) (hy : RV g y yd) {K : D → St → Prop} (hk : austr P pt xd yd σ K) : ∃ v w', (Builtin.unsafeString_ #[pt, it] ty #[x, y]).run P w = .ok v w' ∧ Comes' B w0 g K v w' := by
  unfold austr at hk
  split at hk
  · cases hy
    split at hk
    · cases hx
      obtain ⟨rfl, hk⟩ := hk
      exact ⟨_, w, Lib.run_unsafeString_none w pt it ty none, same_sound hR (.str _ _ rfl) hk⟩
    · rename_i id off
      obtain ⟨e, cs, l, hs, hp, rfl, hc, rfl, rfl, hn0, hn1, hk⟩ := hk
      cases hx with
      | ptr _ b m _ hi =>
        obtain ⟨b', arr, T, fr, e1, e2, e3, e4, rfl, e5, n', e6, e7, e8⟩ := hR.obj id _ hs
        rw [hi] at e1
        have hbb : b = b' ∧ m = arr.size := by cases e1; exact ⟨rfl, rfl⟩
        obtain ⟨rfl, hma⟩ := hbb
        have hpt : P.underlying pt = some (.pointer e) := by
          unfold ptrE at hp
          split at hp
          · rename_i e' he'; cases hp; exact he'
          · cases hp
        have hcell : ∀ (j : Nat) (x : UInt8), l[j]? = some x → w.cell? ((⟨b, 0, none⟩ : Addr).add j) = some (.int .u8 x.toNat) := fun j x e => by
          obtain ⟨v, c1, c2⟩ := e5 j (.int .u8 x.toNat) (by simp [bytesD, e])
          cases c2
          rw [add_at, Nat.zero_add]
          exact hR.imm _ _ _ c1
        have hlen : l.length ≤ arr.size := by
          rcases Nat.lt_or_ge arr.size l.length with h | h
          · have h1 := hcell arr.size l[arr.size] (List.getElem?_eq_getElem h)
            rw [add_at, Nat.zero_add] at h1
            simp [World.cell?, e3] at h1
          · exact h
        refine ⟨_, _, Lib.run_unsafeString_row w pt it ty e hpt hc b arr.size (by simp [World.shape?, e3]) l (by rintro rfl; simp at hn0) hlen (by omega) hcell, ?_⟩
        exact ⟨_, g, _, G.le.refl g, .str _ l rfl, hR.frost hs hi _, hk⟩
    · cases hk
  · cases hk

end
end Go.Av

/- One operation over abstract values is what the machine does. -/
set_option linter.unusedSimpArgs false
set_option linter.unusedVariables false
namespace Go.Av
open Go.RowKit

section
variable {P : Program} {γ : Gl} {B : Nat} {w0 : World} {g : G} {σ : St} {w : World} {a : Act} {ρ : Env} {N : Nat}

theorem guard_ok (op : BinOp) (t : TypeId) (X Y : Operand) {x y : Value} (h1 : (∃ cx cy, x = .agg cx ∧ y = .agg cy) → P.eqGuardType P.depth t = false) (h2 : ¬ (x = .nilIface ∧ y = .nilIface)) : (eqGuard op t X Y x y).run P w = .ok () w := by
  have key : ∀ op, op = .eql ∨ op = .neq → (eqGuard op t X Y x y).run P w = .ok () w := by
    intro op ho
    rcases ho with rfl | rfl
    all_goals
      simp only [eqGuard, Bool.not_true, Bool.false_eq_true, if_false]
      split
      · exact (h2 ⟨rfl, rfl⟩).elim
      · have := h1 ⟨_, _, rfl, rfl⟩
        simp [this]
      · simp
  cases op
  case eql => exact key _ (.inl rfl)
  case neq => exact key _ (.inr rfl)
  all_goals simp [eqGuard]

theorem rvs_evals (hE : ER γ g a ρ N) (xs : List Operand) : RVs g (xs.map a.eval) (xs.map (aeval γ ρ)) :=
  ⟨by simp, fun k v d e e' => by
    simp only [List.getElem?_map, Option.map_eq_some_iff] at e e'
    obtain ⟨x, hx, rfl⟩ := e
    obtain ⟨y, hy, rfl⟩ := e'
    rw [hx] at hy; cases hy
    exact hE.eval x⟩

theorem rvo_evals (hE : ER γ g a ρ N) (x : Option Operand) : RVo g (x.map a.eval) (x.map (aeval γ ρ)) := by
  cases x with
  | none => trivial
  | some x => exact hE.eval x

theorem parts_evals (hE : ER γ g a ρ N) (ps : Array (Nat × Operand)) : (ps.map fun (i, x) => (i, a.eval x)).toList.length = (ps.toList.map fun p => (p.1, aeval γ ρ p.2)).length ∧
    ∀ (k : Nat) p q, (ps.map fun (i, x) => (i, a.eval x)).toList[k]? = some p → (ps.toList.map fun p => (p.1, aeval γ ρ p.2))[k]? = some q → p.1 = q.1 ∧ RV g p.2 q.2 := by
  refine ⟨by simp, fun k p q e e' => ?_⟩
  simp only [Array.toList_map, List.getElem?_map, Option.map_eq_some_iff] at e e'
  obtain ⟨x, hx, rfl⟩ := e
  obtain ⟨y, hy, rfl⟩ := e'
  rw [hx] at hy; cases hy
  exact ⟨rfl, hE.eval _⟩

theorem okFn_spec {f : FuncId} (h : okFn P f = true) : ∃ fn, P.funcs[f]? = some fn ∧ (fn.name == "runtime.NumGoroutine") = false ∧ fn.body.isNone = false := by
  unfold okFn at h
  split at h
  · rename_i fn hf
    simp only [Bool.and_eq_true, bne_iff_ne, ne_eq] at h
    refine ⟨fn, hf, by simpa using h.1, ?_⟩
    cases hb : fn.body with
    | none => rw [hb] at h; simp at h
    | some c => rfl
  · cases h

theorem wp_value {o : Oper} {next : Act → World → Prop} {Q : Exit → Act → World → Prop} {v : Value} {w' : World} (h : (execOp a.eval o).run P w = .ok (.value v) w') (hn : next (a.put o.dst v) w') : o.wp P a w next Q := by
  unfold Oper.wp; rw [h]; exact hn
theorem wp_skip' {o : Oper} {next : Act → World → Prop} {Q : Exit → Act → World → Prop} {w' : World} (h : (execOp a.eval o).run P w = .ok .skip w') (hn : next (a.put o.dst undef) w') : o.wp P a w next Q := by
  unfold Oper.wp; rw [h]; exact hn

theorem run_v {s : Sem Value} {v : Value} {w' : World} (h : s.run P w = .ok v w') : (do pure (.value (← s)) : Sem Next).run P w = .ok (.value v) w' := by
  simp only [Sem.run_bind, h, Result.andThen_ok, Sem.run_pure]

theorem builtin_sound (hE : ER γ g a ρ N) (hR : Rel B w0 g σ w) {b : Builtin} {ts : Array TypeId} {ty : TypeId} {consts : Array Bool} {xs : Array Operand} {K : D → St → Prop} (hk : abuiltin P b ts.toList (xs.toList.map (aeval γ ρ)) σ K) :
    ∃ v w', (builtin b ts ty consts (xs.map a.eval)).run P w = .ok (.value v) w' ∧ Comes' B w0 g K v w' := by
  obtain ⟨xl⟩ := xs
  obtain ⟨tl⟩ := ts
  simp only [List.map_toArray] at *
  unfold abuiltin at hk
  split at hk
  · rename_i t x hx
    match xl, hx with
    | [y], hx =>
      simp only [List.map_cons, List.map_nil, List.cons.injEq, and_true] at hx
      subst hx
      obtain ⟨v, e1, e2⟩ := len_sound (ty := ty) hR (hE.eval y) hk
      exact ⟨v, w, run_v e1, e2⟩
  · rename_i t x hx
    match xl, hx with
    | [y], hx =>
      simp only [List.map_cons, List.map_nil, List.cons.injEq, and_true] at hx
      subst hx
      obtain ⟨v, e1, e2⟩ := cap_sound (ty := ty) hR (hE.eval y) hk
      exact ⟨v, w, run_v e1, e2⟩
  · rename_i t x hx
    match xl, hx with
    | [y], hx =>
      simp only [List.map_cons, List.map_nil, List.cons.injEq, and_true] at hx
      subst hx
      obtain ⟨v, w', e1, e2⟩ := clear_sound (ty := ty) hR (hE.eval y) hk
      exact ⟨v, w', run_v e1, e2⟩
  · rename_i t u s x hx
    match xl, hx with
    | [y, z], hx =>
      simp only [List.map_cons, List.map_nil, List.cons.injEq, and_true] at hx
      obtain ⟨rfl, rfl⟩ := hx
      obtain ⟨hu, hk⟩ := hk
      split at hk
      · rename_i e sz bytes he
        split at hk
        · rename_i n ds hc
          obtain ⟨v, w', e1, e2⟩ := append_sound (ty := ty) hR he hu (hE.eval y) (hE.eval z) hc hk
          exact ⟨v, w', run_v e1, e2⟩
        · cases hk
      · cases hk
  · rename_i t u s x hx
    match xl, hx with
    | [y, z], hx =>
      simp only [List.map_cons, List.map_nil, List.cons.injEq, and_true] at hx
      obtain ⟨rfl, rfl⟩ := hx
      obtain ⟨v, w', e1, e2⟩ := copy_sound (u := u) (ty := ty) hR (hE.eval y) (hE.eval z) hk
      exact ⟨v, w', run_v e1, e2⟩
  · obtain ⟨v, e1, e2⟩ := minmax_sound (ts := _) (ty := ty) hR (rvs_evals hE xl) hk
    exact ⟨v, w, run_v (by simpa using e1), e2⟩
  · obtain ⟨v, e1, e2⟩ := minmax_sound (ts := _) (ty := ty) hR (rvs_evals hE xl) hk
    exact ⟨v, w, run_v (by simpa using e1), e2⟩
  · rename_i x hx
    match xl, hx with
    | [y], hx =>
      simp only [List.map_cons, List.map_nil, List.cons.injEq, and_true] at hx
      subst hx
      obtain ⟨v, e1, e2⟩ := sldata_sound (ts := List.toArray _) (ty := ty) hR (hE.eval y) hk
      exact ⟨v, w, run_v e1, e2⟩
  · rename_i pt u x y hx
    match xl, hx with
    | [z1, z2], hx =>
      simp only [List.map_cons, List.map_nil, List.cons.injEq, and_true] at hx
      obtain ⟨rfl, rfl⟩ := hx
      obtain ⟨v, w', e1, e2⟩ := ustr_sound (it := u) (ty := ty) hR (hE.eval z1) (hE.eval z2) hk
      exact ⟨v, w', run_v e1, e2⟩
  · cases hk

theorem noEsc_run {f : FuncId} (h : noEsc P f = true) (x : Value) (w : World) : (callFunc f #[x]).run P w = .ok (.value x) w := by
  unfold noEsc at h
  split at h
  · rename_i fn hf
    simp only [Bool.and_eq_true, beq_iff_eq] at h
    obtain ⟨⟨hn, hb⟩, hx⟩ := h
    have hfind : Extern.find fn = some Extern.AbiNoEscape.same := by
      unfold Extern.find
      simp only [hn]
      rfl
    have hnext : Extern.findNext fn = none := by simpa using hx
    exact (run_callFunc_extern hf (by rw [hn]; decide) hb hnext hfind #[x] w).trans rfl
  · cases h

theorem aop_sound (hE : ER γ g a ρ N) (hR : Rel B w0 g σ w) {o : Oper} {K : D → St → Prop} (hk : aop P γ ρ σ o.op K) {next : Act → World → Prop} {Q : Exit → Act → World → Prop}
    (hn : ∀ v w', Comes' B w0 g K v w' → next (a.put o.dst v) w') : o.wp P a w next Q := by
  obtain ⟨dst, op, type, pos, after, guard⟩ := o
  simp only at hk hn
  unfold aop at hk
  split at hk
  · exact wp_value (v := a.eval _) (by simp [execOp]) (hn _ _ (same_sound hR (hE.eval _) hk))
  · exact wp_value (v := a.eval _) (by simp [execOp]) (hn _ _ (same_sound hR (hE.eval _) hk))
  · rename_i c x y
    split at hk
    · rename_i t ht
      have hc := hE.eval c
      rw [ht] at hc
      generalize hcv : a.eval c = cv at hc
      cases hc
      refine wp_value (v := if t = true then a.eval x else a.eval y) (w' := w) (by simp [execOp, hcv, asBool]) (hn _ _ (same_sound hR ?_ hk))
      cases t
      · exact hE.eval y
      · exact hE.eval x
    · cases hk
  · obtain ⟨v, w', e1, e2⟩ := alloc_sound hR hk
    exact wp_value (by simpa [execOp] using run_v e1) (hn _ _ e2)
  · rename_i t x
    obtain ⟨v, w', e1, e2⟩ := box_sound hR (hE.eval x) t hk
    exact wp_value (by simpa [execOp] using run_v e1) (hn _ _ e2)
  · rename_i t ps
    obtain ⟨h1, h2⟩ := parts_evals hE ps
    obtain ⟨v, e1, e2⟩ := build_sound hR h1 h2 hk
    exact wp_value (by simpa [execOp] using run_v e1) (hn _ _ e2)
  · rename_i t n ps
    obtain ⟨h1, h2⟩ := parts_evals hE ps
    obtain ⟨v, w', e1, e2⟩ := buildSl_sound hR h1 h2 hk
    exact wp_value (by simpa [execOp] using run_v e1) (hn _ _ e2)
  · rename_i t p
    obtain ⟨v, e1, e2⟩ := load_sound (hE.eval p) hR hk
    exact wp_value (by simpa [execOp] using run_v e1) (hn _ _ e2)
  · rename_i t p x
    obtain ⟨w', e1, e2⟩ := store_sound (hE.eval p) (hE.eval x) hR hk
    exact wp_skip' (by simp only [execOp, Sem.run_bind, e1, Result.andThen_ok, Sem.run_pure]) (hn _ _ e2)
  · rename_i x
    obtain ⟨⟨ad, e1⟩, e2⟩ := nilCheck_sound hR (hE.eval x) hk
    exact wp_value (v := a.eval x) (w' := w) (by simp [execOp, e1]) (hn _ _ e2)
  · rename_i bo t x y t'
    obtain ⟨v, e1, e2, e3, e4⟩ := bin_sound hR bo (hE.eval x) (hE.eval y) hk
    have hg := guard_ok (P := P) (w := w) bo t x y e3 e4
    exact wp_value (by simp only [execOp, Sem.run_bind, hg, Result.andThen_ok, e1, Sem.run_pure]) (hn _ _ e2)
  · rename_i uo t x
    obtain ⟨v, e1, e2⟩ := un_sound hR uo (hE.eval x) hk
    exact wp_value (by simpa [execOp] using run_v e1) (hn _ _ e2)
  · rename_i s d x
    obtain ⟨v, w', e1, e2⟩ := conv_sound hR (hE.eval x) hk
    exact wp_value (by simpa [execOp] using run_v e1) (hn _ _ e2)
  · rename_i t l c
    obtain ⟨v, w', e1, e2⟩ := make_sound hR (hE.eval l) (hE.eval c) hk
    exact wp_value (by simpa [execOp] using run_v e1) (hn _ _ e2)
  · rename_i t x lo hi mx
    obtain ⟨v, e1, e2⟩ := slice_sound hR (hE.eval x) (rvo_evals hE lo) (rvo_evals hE hi) (rvo_evals hE mx) hk
    exact wp_value (by simpa [execOp] using run_v e1) (hn _ _ e2)
  · rename_i t x f
    obtain ⟨v, e1, e2⟩ := fieldAddr_sound hR (hE.eval x) hk
    exact wp_value (by simpa [execOp] using run_v e1) (hn _ _ e2)
  · rename_i t x f
    obtain ⟨v, e1, e2⟩ := field_sound hR (hE.eval x) hk
    exact wp_value (by simpa [execOp] using run_v e1) (hn _ _ e2)
  · rename_i t x i
    obtain ⟨v, e1, e2⟩ := indexAddr_sound hR (hE.eval x) (hE.eval i) hk
    exact wp_value (by simpa [execOp] using run_v e1) (hn _ _ e2)
  · rename_i t x i
    obtain ⟨v, e1, e2⟩ := index_sound hR (hE.eval x) (hE.eval i) hk
    exact wp_value (by simpa [execOp] using run_v e1) (hn _ _ e2)
  · rename_i x i
    obtain ⟨v, e1, e2⟩ := extract_sound hR (hE.eval x) hk
    exact wp_value (by simpa [execOp] using run_v e1) (hn _ _ e2)
  · rename_i f first caps
    obtain ⟨hf, hk⟩ := hk
    have hfe : first = #[] := Array.eq_empty_of_size_eq_zero hf
    subst hfe
    have hr := rvs_evals hE caps.toList
    refine wp_value (v := .func (.func f) #[] (caps.map a.eval)) (w' := w) (by simp [execOp, Instr.makeFunc]) (hn _ _ (same_sound hR (.fn f _ _ (by simp) (fun i v d e e' => hr.2 i v d (by simpa using e) e')) hk))
  · rename_i c
    split at hk
    · rename_i f hc
      split at hk
      · rename_i fid caps hf
        have hfv := hE.eval f
        rw [hf] at hfv
        generalize hfe : a.eval f = fv at hfv
        cases hfv with
        | fn _ cv _ hl hr =>
          have hvals : RVs g ((c.args.toList.map a.eval) ++ cv.toList) ((c.args.toList.map (aeval γ ρ)) ++ caps) := (rvs_evals hE c.args.toList).append ⟨by simpa using hl, fun k v d e e' => hr k v d (by simpa using e) e'⟩
          have harr : ((c.args.toList.map a.eval) ++ cv.toList).toArray = c.args.map a.eval ++ cv := by
            apply Array.ext'; simp
          rcases hk with ⟨hok, hcall⟩ | ⟨hno, d, hd, hk⟩
          case inr =>
            rw [hd] at hvals
            have hone : ∃ x, (c.args.toList.map a.eval) ++ cv.toList = [x] := by
              have := hvals.1
              match hq : (c.args.toList.map a.eval) ++ cv.toList, this with
              | [x], _ => exact ⟨x, rfl⟩
            obtain ⟨x, hx⟩ := hone
            rw [hx] at hvals
            have hax : #[] ++ c.args.map a.eval ++ cv = #[x] := by rw [Array.empty_append, ← harr, hx]
            refine wp_value (v := x) (w' := w) ?_ (hn _ _ (same_sound hR (hvals.2 0 x d rfl rfl) hk))
            have := noEsc_run hno x w
            simp only [execOp, resolve, hc, hfe, Deferred.ofValue, invoke, Sem.run_bind, Sem.run_pure, Result.andThen_ok, hax]
            exact this
          obtain ⟨fn, h1, h2, h3⟩ := okFn_spec hok
          have h2' : ¬ (fn.name = "runtime.NumGoroutine") := by simpa using h2
          have h3' : ¬ (fn.body = none) := fun hb => by rw [hb] at h3; cases h3
          have hrun : (execOp a.eval ⟨dst, .call c, type, pos, after, guard⟩).run P w = .ok (.enter fid (c.args.map a.eval ++ cv)) w := by
            simp [execOp, resolve, hc, hfe, Deferred.ofValue, invoke, callFunc, h1, h2', h3']
          have hC := hcall B w0 g w _ hE.gok hvals hR
          unfold Oper.wp
          rw [hrun]
          simp only [Oper.upon]
          rw [harr] at hC
          exact hC.mono fun e w' ⟨v, he, hcm⟩ => by subst he; exact hn v w' hcm
      · cases hk
    · rename_i b hc
      obtain ⟨v, w', e1, e2⟩ := builtin_sound (ty := type) (consts := c.args.map fun | .const _ => true | _ => false) hE hR hk
      refine wp_value (v := v) (w' := w') ?_ (hn _ _ e2)
      simp only [execOp, resolve, hc, Sem.run_bind, Sem.run_pure, Result.andThen_ok, invoke]
      exact e1
    · cases hk
  · cases hk

end
end Go.Av

/- A region whose order is open. -/
set_option linter.unusedSimpArgs false
set_option linter.unusedVariables false
namespace Go.Av
open Go.RowKit

section
variable {P : Program} {γ : Gl} {B : Nat} {w0 : World} {g : G} {σ : St} {w : World} {a : Act} {ρ : Env} {N : Nat}

theorem aeval_congr {ρ ρ' : Env} (x : Operand) (h : ∀ t, x = .tmp t → ρ t = ρ' t) : aeval γ ρ x = aeval γ ρ' x := by
  cases x with
  | tmp t => exact h t rfl
  | _ => rfl

theorem mem_tmpsOf {xs : List Operand} {t : Tmp} (h : .tmp t ∈ xs) : t ∈ tmpsOf xs := List.mem_filterMap.2 ⟨.tmp t, h, rfl⟩

theorem aop_congr {ρ ρ' : Env} (op : Op) (h : ∀ x ∈ op.operands, aeval γ ρ x = aeval γ ρ' x) {σ : St} {K : D → St → Prop} : aop P γ ρ σ op K = aop P γ ρ' σ op K := by
  have hmap : ∀ xs : List Operand, (∀ x ∈ xs, x ∈ op.operands) → xs.map (aeval γ ρ) = xs.map (aeval γ ρ') := fun xs hx => List.map_congr_left fun x hm => h x (hx x hm)
  have hpart : ∀ ps : List (Nat × Operand), (∀ p ∈ ps, p.2 ∈ op.operands) → (ps.map fun p => (p.1, aeval γ ρ p.2)) = (ps.map fun p => (p.1, aeval γ ρ' p.2)) := fun ps hp => List.map_congr_left fun p hm => by rw [h p.2 (hp p hm)]
  cases op <;> simp only [Op.operands] at h hmap hpart <;> simp only [aop]
  case move x => rw [h x (by simp)]
  case assign x => rw [h x (by simp)]
  case pick c x y => rw [h c (by simp), h x (by simp), h y (by simp)]
  case box t x => rw [h x (by simp)]
  case build t ps => rw [hpart ps.toList (fun p hp => by simp; exact ⟨p.1, by simpa using hp⟩)]
  case buildSlice t n ps => rw [hpart ps.toList (fun p hp => by simp; exact ⟨p.1, by simpa using hp⟩)]
  case load t x => rw [h x (by simp)]
  case store t x y => rw [h x (by simp), h y (by simp)]
  case nilCheck x => rw [h x (by simp)]
  case binOp o t x y t' => rw [h x (by simp), h y (by simp)]
  case unOp o t x => rw [h x (by simp)]
  case convert s d x => rw [h x (by simp)]
  case makeSlice t x y => rw [h x (by simp), h y (by simp)]
  case slice t x l hh m =>
    have e1 : l.map (aeval γ ρ) = l.map (aeval γ ρ') := by cases l with | none => rfl | some y => simp [h y (by simp)]
    have e2 : hh.map (aeval γ ρ) = hh.map (aeval γ ρ') := by cases hh with | none => rfl | some y => simp [h y (by simp)]
    have e3 : m.map (aeval γ ρ) = m.map (aeval γ ρ') := by cases m with | none => rfl | some y => simp [h y (by simp)]
    rw [h x (by simp), e1, e2, e3]
  case fieldAddr t x f => rw [h x (by simp)]
  case field t x f => rw [h x (by simp)]
  case indexAddr t x y => rw [h x (by simp), h y (by simp)]
  case index t x y => rw [h x (by simp), h y (by simp)]
  case extract x i => rw [h x (by simp)]
  case makeFunc fn first caps =>
    cases fn <;> simp only
    rw [hmap caps.toList (fun x hx => by simp; right; simpa using hx)]
  case call c =>
    cases hc : c.callee with
    | value f =>
      simp only
      rw [h f (by simp [Call.operands, hc]), hmap c.args.toList (fun x hx => by simp only [Call.operands, hc]; simp; right; simpa using hx)]
    | invoke r m => rfl
    | builtin b =>
      simp only
      rw [hmap c.args.toList (fun x hx => by simp only [Call.operands, hc]; simpa using hx)]

/-! ### the bits -/
theorem befs_prefix : ∀ (ops : List Oper) (acc : List Nat), ∃ r, befs ops acc = acc ++ r ∧ r.length = ops.length
  | [], acc => ⟨[], by simp [befs], rfl⟩
  | o :: r, acc => by
    obtain ⟨q, h1, h2⟩ := befs_prefix r (acc ++ [o.after.toList.foldl (fun s e => if Region.binds .any e then s ||| 2 ^ e.on ||| acc.getD e.on 0 else s) 0])
    refine ⟨_ :: q, by rw [befs, h1, List.append_assoc]; rfl, by simp [h2]⟩

theorem fold_bits (acc : List Nat) (i : Nat) : ∀ (es : List Edge) (s : Nat), (es.foldl (fun s e => if Region.binds .any e then s ||| 2 ^ e.on ||| acc.getD e.on 0 else s) s).testBit i = true →
    s.testBit i = true ∨ ∃ e ∈ es, Region.binds .any e = true ∧ (e.on = i ∨ (acc.getD e.on 0).testBit i = true)
  | [], s, h => .inl h
  | e :: es, s, h => by
    rw [List.foldl_cons] at h
    rcases fold_bits acc i es _ h with h | ⟨e', h1, h2⟩
    · by_cases hb : Region.binds .any e = true
      · rw [if_pos hb, Nat.testBit_or, Nat.testBit_or] at h
        simp only [Bool.or_eq_true] at h
        rcases h with (h | h) | h
        · exact .inl h
        · rw [Nat.testBit_two_pow] at h
          exact .inr ⟨e, by simp, hb, .inl (by simpa using h)⟩
        · exact .inr ⟨e, by simp, hb, .inr h⟩
      · rw [if_neg hb] at h; exact .inl h
    · exact .inr ⟨e', by simp [h1], h2⟩

theorem befs_at : ∀ (ops : List Oper) (acc : List Nat) (j : Nat) (o : Oper), ops[j]? = some o → ∀ i, ((befs ops acc).getD (acc.length + j) 0).testBit i = true →
    ∃ e ∈ o.after.toList, Region.binds .any e = true ∧ (e.on = i ∨ (e.on < acc.length + j ∧ ((befs ops acc).getD e.on 0).testBit i = true))
  | [], acc, j, o, h, _, _ => by simp at h
  | p :: r, acc, 0, o, h, i, hb => by
    simp only [List.getElem?_cons_zero, Option.some.injEq] at h
    subst h
    obtain ⟨q, h1, h2⟩ := befs_prefix r (acc ++ [p.after.toList.foldl (fun s e => if Region.binds .any e then s ||| 2 ^ e.on ||| acc.getD e.on 0 else s) 0])
    have hbe : befs (p :: r) acc = acc ++ ([p.after.toList.foldl (fun s e => if Region.binds .any e then s ||| 2 ^ e.on ||| acc.getD e.on 0 else s) 0] ++ q) := by rw [befs, h1, List.append_assoc]
    rw [hbe] at hb ⊢
    have hv : (acc ++ ([p.after.toList.foldl (fun s e => if Region.binds .any e then s ||| 2 ^ e.on ||| acc.getD e.on 0 else s) 0] ++ q)).getD (acc.length + 0) 0 = p.after.toList.foldl (fun s e => if Region.binds .any e then s ||| 2 ^ e.on ||| acc.getD e.on 0 else s) 0 := by
      simp [List.getD]
    rw [hv] at hb
    rcases fold_bits acc i _ _ hb with h | ⟨e, e1, e2, e3⟩
    · simp at h
    · refine ⟨e, e1, e2, ?_⟩
      rcases e3 with e3 | e3
      · exact .inl e3
      · right
        have hlt : e.on < acc.length := by
          rcases Nat.lt_or_ge e.on acc.length with h | h
          · exact h
          · simp [List.getD, List.getElem?_eq_none h] at e3
        refine ⟨by omega, ?_⟩
        rw [List.getD, List.getElem?_append_left hlt]
        exact e3
  | p :: r, acc, j + 1, o, h, i, hb => by
    simp only [List.getElem?_cons_succ] at h
    rw [befs] at hb ⊢
    have := befs_at r (acc ++ [p.after.toList.foldl (fun s e => if Region.binds .any e then s ||| 2 ^ e.on ||| acc.getD e.on 0 else s) 0]) j o h i (by simpa [Nat.add_assoc, Nat.add_comm 1 j] using hb)
    obtain ⟨e, e1, e2, e3⟩ := this
    refine ⟨e, e1, e2, ?_⟩
    rcases e3 with e3 | ⟨e3, e4⟩
    · exact .inl e3
    · exact .inr ⟨by simp at e3; omega, e4⟩

/-- What has been done is closed under 'before'. -/
def ClosedS (ops : List Oper) (S : Nat → Prop) : Prop := ∀ j o, ops[j]? = some o → S j → ∀ e ∈ o.after.toList, Region.binds .any e = true → S e.on

theorem before_done {ops : List Oper} {S : Nat → Prop} (hS : ClosedS ops S) : ∀ (j : Nat) (o : Oper), ops[j]? = some o → (∀ e ∈ o.after.toList, Region.binds .any e = true → S e.on) → ∀ i, ((befs ops []).getD j 0).testBit i = true → S i := by
  intro j
  induction j using Nat.strongRecOn with
  | _ j ih =>
    intro o ho hd i hb
    obtain ⟨e, e1, e2, e3⟩ := befs_at ops [] j o ho i (by simpa using hb)
    rcases e3 with rfl | ⟨e3, e4⟩
    · exact hd e e1 e2
    · have hlt : e.on < j := by simpa using e3
      have hs := hd e e1 e2
      have hj : j < ops.length := (List.getElem?_eq_some_iff.1 ho).1
      have ho' := List.getElem?_eq_getElem (show e.on < ops.length by omega)
      exact ih e.on hlt _ ho' (fun e' h1 h2 => hS e.on _ ho' hs e' h1 h2) i e4

/-! ### the orders -/
def cnt (l : Array Bool) : Nat := (l.toList.filter (fun b => !b)).length

theorem cnt_set (l : Array Bool) (i : Nat) (h : l.getD i true = false) : cnt (l.setIfInBounds i true) + 1 = cnt l := by
  obtain ⟨l⟩ := l
  have hi : l[i]? = some false := by
    simp at h
    cases hq : l[i]? with
    | none => rw [hq] at h; simp at h
    | some b => rw [hq] at h; simp at h; rw [h]
  have key : ∀ (l : List Bool) (i : Nat), l[i]? = some false → ((l.set i true).filter (fun b => !b)).length + 1 = (l.filter (fun b => !b)).length := by
    intro l
    induction l with
    | nil => intro i h; simp at h
    | cons b l ih =>
      intro i h
      cases i with
      | zero => simp at h; subst h; simp
      | succ i =>
        simp at h
        have := ih i h
        cases b <;> simp_all
  simpa [cnt] using key l i hi

theorem wpAny_inv {ops : Array Oper} {Q : Exit → Act → World → Prop} (Inv : Array Bool → Act → World → Prop)
    (hsize : ∀ l a w, Inv l a w → l.size = ops.size)
    (hstep : ∀ l a w i, Inv l a w → i ∈ Region.ready .any ops l → wpOp P ops Q i (fun a' w' => Inv (l.setIfInBounds i true) a' w') a w)
    (hend : ∀ l a w, Inv l a w → Region.ready .any ops l = [] → Q .normal a w) :
    ∀ (fuel : Nat) (l : Array Bool) (a : Act) (w : World), Inv l a w → cnt l ≤ fuel → wpAny P .any ops Q fuel l a w
  | 0, l, a, w, hI, hc => by
    have hr : Region.ready .any ops l = [] := by
      cases hq : Region.ready .any ops l with
      | nil => rfl
      | cons i r =>
        have hi : i ∈ Region.ready .any ops l := by rw [hq]; simp
        have := cnt_set l i (mem_ready.1 hi).1
        omega
    exact ⟨hr, hend l a w hI hr⟩
  | fuel + 1, l, a, w, hI, hc => by
    refine ⟨fun h => hend l a w hI h, fun i hi => ?_⟩
    refine wpOp_mono (fun a' w' h => ?_) (hstep l a w i hI hi)
    have := cnt_set l i (mem_ready.1 hi).1
    exact wpAny_inv Inv hsize hstep hend fuel _ a' w' h (by omega)

end
end Go.Av

/- A region whose order is open: whatever the order, it comes to what its text comes to. -/
set_option linter.unusedSimpArgs false
set_option linter.unusedVariables false
namespace Go.Av
open Go.RowKit

def dstOf (ops : List Oper) (j : Nat) : Option Tmp := (ops[j]?).bind (·.dst)
def wr (ops : List Oper) (t : Tmp) : Option Nat := (List.range ops.length).find? fun k => dstOf ops k == some t
/-- The frame when the operations of S have been carried out. -/
def EV (ops : List Oper) (ρ0 : Env) (S : Nat → Bool) (ds : Nat → D) : Env := fun t => match wr ops t with
  | some k => if S k = true then ds k else ρ0 t
  | none => ρ0 t

structure DOk (mask : List Bool) (ops : List Oper) : Prop where
  len : mask.length = ops.length
  down : ∀ j o, ops[j]? = some o → ∀ e ∈ o.after.toList, Region.binds .any e = true → e.on < j
  uniq : ∀ j k t, j ≠ k → dstOf ops j = some t → dstOf ops k ≠ some t
  reads : ∀ j o k t, ops[j]? = some o → j ≠ k → k < ops.length → dstOf ops k = some t → t ∈ readsOf ops o → ((befs ops []).getD (max j k) 0).testBit (min j k) = true ∧ (mask.getD k true = true ∨ mask.getD j true = false ∨ j < k) ∧ (mask.getD j true = true ∨ mask.getD k true = false ∨ k < j)
  chain : ∀ j k, j < ops.length → k < ops.length → j ≠ k → mask.getD j true = false → mask.getD k true = false → ((befs ops []).getD (max j k) 0).testBit (min j k) = true

theorem dOk_spec {mask : List Bool} {ops : List Oper} (h : dOk mask ops = true) : DOk mask ops := by
  unfold dOk at h
  simp only [Bool.and_eq_true, beq_iff_eq, List.all_eq_true, List.mem_range] at h
  obtain ⟨hl, h⟩ := h
  have get : ∀ j o, ops[j]? = some o → (∀ e ∈ o.after.toList, Region.binds .any e = true → e.on < j) ∧ ∀ k ok, ops[k]? = some ok → j ≠ k →
      (∀ t, ok.dst = some t → o.dst ≠ some t ∧ (t ∈ readsOf ops o → ((befs ops []).getD (max j k) 0).testBit (min j k) = true ∧ (mask.getD k true = true ∨ mask.getD j true = false ∨ j < k) ∧ (mask.getD j true = true ∨ mask.getD k true = false ∨ k < j))) ∧
      (mask.getD j true = true ∨ mask.getD k true = true ∨ ((befs ops []).getD (max j k) 0).testBit (min j k) = true) := by
    intro j o ho
    have hj := h j (List.getElem?_eq_some_iff.1 ho).1
    rw [ho] at hj
    simp only [Bool.and_eq_true, List.all_eq_true, List.mem_range] at hj
    refine ⟨fun e he hb => ?_, fun k ok hok hne => ?_⟩
    · have := hj.1 e he
      simpa [hb] using this
    · have hk := hj.2 k (List.getElem?_eq_some_iff.1 hok).1
      rw [hok] at hk
      simp only [Bool.or_eq_true, beq_iff_eq, hne, false_or, Bool.and_eq_true] at hk
      refine ⟨fun t ht => ?_, ?_⟩
      · have h1 := hk.1
        rw [ht] at h1
        simp only [Bool.and_eq_true, bne_iff_ne, ne_eq, Bool.or_eq_true, Bool.not_eq_true', decide_eq_true_eq] at h1
        refine ⟨h1.1, fun hr => ?_⟩
        have h2 := h1.2
        rcases h2 with h2 | h2
        · rw [List.contains_iff_mem.2 hr] at h2; cases h2
        · refine ⟨h2.1.1, ?_, ?_⟩
          · rcases h2.1.2 with (h3 | h3) | h3
            · exact .inl h3
            · exact .inr (.inl h3)
            · exact .inr (.inr h3)
          · rcases h2.2 with (h3 | h3) | h3
            · exact .inl h3
            · exact .inr (.inl h3)
            · exact .inr (.inr h3)
      · have h1 := hk.2
        rcases h1 with (h1 | h1) | h1
        · exact .inl h1
        · exact .inr (.inl h1)
        · exact .inr (.inr h1)
  refine ⟨hl, fun j o ho => (get j o ho).1, ?_, ?_, ?_⟩
  · intro j k t hne hj hk
    unfold dstOf at hj hk
    cases hoj : ops[j]? with
    | none => simp [hoj] at hj
    | some oj =>
      cases hok : ops[k]? with
      | none => simp [hok] at hk
      | some ok =>
        simp [hoj] at hj
        simp [hok] at hk
        exact (((get j oj hoj).2 k ok hok hne).1 t hk).1 hj
  · intro j o k t ho hne hk hd hr
    unfold dstOf at hd
    cases hok : ops[k]? with
    | none => simp [hok] at hd
    | some ok =>
      simp [hok] at hd
      exact (((get j o ho).2 k ok hok hne).1 t hd).2 hr
  · intro j k hj hk hne h1 h2
    rcases ((get j _ (List.getElem?_eq_getElem hj)).2 k _ (List.getElem?_eq_getElem hk) hne).2 with h | h | h
    · rw [h1] at h; cases h
    · rw [h2] at h; cases h
    · exact h

section
variable {ops : List Oper} {mask : List Bool} {ρ0 : Env}

theorem wr_spec {t : Tmp} {k : Nat} (h : wr ops t = some k) : dstOf ops k = some t ∧ k < ops.length := by
  unfold wr at h
  have := List.find?_some h
  have hm := List.mem_of_find?_eq_some h
  exact ⟨by simpa using this, by simpa using hm⟩

theorem wr_of (hd : DOk mask ops) {t : Tmp} {k : Nat} (h : dstOf ops k = some t) : wr ops t = some k := by
  have hk : k < ops.length := by
    unfold dstOf at h
    cases hq : ops[k]? with
    | none => simp [hq] at h
    | some o => exact (List.getElem?_eq_some_iff.1 hq).1
  cases hq : wr ops t with
  | none =>
    unfold wr at hq
    rw [List.find?_eq_none] at hq
    have := hq k (by simpa using hk)
    simp [h] at this
  | some j =>
    obtain ⟨h1, h2⟩ := wr_spec hq
    by_cases hjk : j = k
    · rw [hjk]
    · exact (hd.uniq j k t hjk h1 h).elim

theorem EV_put (hd : DOk mask ops) {S S' : Nat → Bool} {ds : Nat → D} {j : Nat} (hj : S' j = true) (hS : ∀ k, k ≠ j → S' k = S k) : (EV ops ρ0 S ds).put (dstOf ops j) (ds j) = EV ops ρ0 S' ds := by
  funext t
  cases hdj : dstOf ops j with
  | none =>
    show EV ops ρ0 S ds t = EV ops ρ0 S' ds t
    unfold EV
    cases hw : wr ops t with
    | none => rfl
    | some k =>
      have hk := (wr_spec hw).1
      have hne : k ≠ j := by rintro rfl; rw [hdj] at hk; cases hk
      simp only [hS k hne]
  | some t' =>
    show (if t = t' then ds j else EV ops ρ0 S ds t) = EV ops ρ0 S' ds t
    by_cases ht : t = t'
    · subst ht
      rw [if_pos rfl]
      simp only [EV, wr_of hd hdj, hj, if_true]
    · rw [if_neg ht]
      unfold EV
      cases hw : wr ops t with
      | none => rfl
      | some k =>
        have hk := (wr_spec hw).1
        have hne : k ≠ j := by rintro rfl; rw [hdj] at hk; cases hk; exact ht rfl
        simp only [hS k hne]

theorem EV_congr {S S' : Nat → Bool} {ds ds' : Nat → D} (h : ∀ k, k < ops.length → S k = S' k ∧ (S k = true → ds k = ds' k)) : EV ops ρ0 S ds = EV ops ρ0 S' ds' := by
  funext t
  unfold EV
  cases hw : wr ops t with
  | none => rfl
  | some k =>
    obtain ⟨h1, h2⟩ := h k (wr_spec hw).2
    simp only [← h1]
    split
    · rename_i hs; exact h2 hs
    · rfl

/-- Two frames alike on what an operation reads. -/
theorem EV_reads {S S' : Nat → Bool} {ds ds' : Nat → D} {t : Tmp} (h : ∀ k, dstOf ops k = some t → k < ops.length → S k = S' k ∧ (S k = true → ds k = ds' k)) : EV ops ρ0 S ds t = EV ops ρ0 S' ds' t := by
  unfold EV
  cases hw : wr ops t with
  | none => rfl
  | some k =>
    obtain ⟨h1, h2⟩ := wr_spec hw
    obtain ⟨h3, h4⟩ := h k h1 h2
    simp only [← h3]
    split
    · rename_i hs; exact h4 hs
    · rfl
end

theorem awanted_congr {ops : List Oper} {ρ ρ' : Env} {o : Oper} (h : ∀ t ∈ readsOf ops o, ρ t = ρ' t) : awanted ops ρ o = awanted ops ρ' o := by
  unfold awanted
  split
  · rfl
  · rename_i j want hg
    cases hp : ops[j]? with
    | none => rfl
    | some p =>
      simp only
      cases hd : p.dst with
      | none => rfl
      | some t =>
        simp only
        rw [h t (by unfold readsOf; rw [hg]; simp [hp, hd])]

theorem aop_reads {P : Program} {γ : Gl} {ops : List Oper} {ρ ρ' : Env} {o : Oper} (h : ∀ t ∈ readsOf ops o, ρ t = ρ' t) {σ : St} {K : D → St → Prop} : aop P γ ρ σ o.op K = aop P γ ρ' σ o.op K :=
  aop_congr o.op fun x hx => aeval_congr x fun t ht => h t (by subst ht; unfold readsOf; exact List.mem_append_left _ (mem_tmpsOf (by simpa using hx)))

section
variable {P : Program} {γ : Gl} {B : Nat} {w0 : World} {g : G} {σ : St} {w : World} {a : Act} {ρ : Env} {N : Nat}

theorem wanted_sound (hE : ER γ g a ρ N) {ops : Array Oper} {o : Oper} {b : Bool} (h : awanted ops.toList ρ o = some b) : Region.wanted o (yielded ops a.tmps) = b := by
  unfold awanted at h
  unfold Region.wanted
  split at h
  · rename_i hg
    rw [hg]
    cases h; rfl
  · rename_i j want hg
    rw [hg]
    simp only
    split at h
    · rename_i p hp
      have hp' : ops[j]? = some p := by simpa using hp
      split at h
      · rename_i t ht
        have hv := hE.slot t
        have hy : yielded ops a.tmps j = match a.tmps[t]? with | some (.bool b) => some b | _ => none := by
          simp only [yielded, hp', ht, Option.bind_some]
          cases a.tmps[t]? with
          | none => rfl
          | some v => cases v <;> rfl
        rw [hy]
        split at h
        · rename_i c hc
          rw [hc] at hv
          cases hq : a.tmps[t]? with
          | none => simp [hq, undef] at hv; cases hv
          | some v =>
            simp [hq] at hv
            cases hv
            cases h
            cases c <;> cases want <;> rfl
        · rename_i hc
          rw [hc] at hv
          cases h
          cases hq : a.tmps[t]? with
          | none => rfl
          | some v =>
            simp [hq] at hv
            cases hv
            rfl
        · cases h
      · cases h
    · cases h

/-- What an operation of the first kind comes to, in a state. -/
def GoodA (P : Program) (γ : Gl) (ops : List Oper) (mask : List Bool) (ρ0 : Env) (σ : St) (j : Nat) (o : Oper) (ds : Nat → D) : Prop :=
  ∃ b, awanted ops (EV ops ρ0 (fun k => decide (k < j) && mask.getD k true) ds) o = some b ∧
    (b = true → aop P γ (EV ops ρ0 (fun k => decide (k < j) && mask.getD k true) ds) σ o.op fun d' σ' => d' = ds j ∧ σ.le σ') ∧ (b = false → ds j = .tup [])

theorem drop_cons {α : Type} {l : List α} {i : Nat} {x : α} {r : List α} (h : l.drop i = x :: r) : l[i]? = some x ∧ l.drop (i + 1) = r := by
  constructor
  · have := congrArg (fun l => l[0]?) h
    simpa [List.getElem?_drop] using this
  · have : l.drop (i + 1) = (l.drop i).drop 1 := by rw [List.drop_drop]
    rw [this, h]; rfl

theorem passA_ext {ops : List Oper} {mask : List Bool} (hd : DOk mask ops) {ρ0 : Env} {σ0 : St} {K : Env → List (Nat × (St → Prop)) → Prop} : ∀ (l : List Oper) (m : List Bool) (i : Nat) (obs : List (Nat × (St → Prop))) (ds0 : Nat → D), ops.drop i = l → mask.drop i = m →
    passA P γ ops σ0 K i l m (EV ops ρ0 (fun k => decide (k < i) && mask.getD k true) ds0) obs →
    ∃ (ds : Nat → D) (obs' : List (Nat × (St → Prop))), (∀ k, k < i → ds k = ds0 k) ∧ (∀ p ∈ obs, p ∈ obs') ∧ (∀ p ∈ obs', p ∈ obs ∨ p.2 σ0) ∧ (∀ j o, i ≤ j → ops[j]? = some o → mask.getD j true = true → ∀ σ, (∀ p ∈ obs', p.1 = j → p.2 σ) → GoodA P γ ops mask ρ0 σ j o ds) ∧ K (EV ops ρ0 (fun k => mask.getD k true) ds) obs'
  | [], m, i, obs, ds0, hl, hm, h => by
    simp only [passA] at h
    have hi : ops.length ≤ i := by simpa using hl
    refine ⟨ds0, obs, fun _ _ => rfl, fun p hp => hp, fun p hp => .inl hp, fun j o hij hj => ?_, ?_⟩
    · have := (List.getElem?_eq_some_iff.1 hj).1; omega
    · have he : EV ops ρ0 (fun k => decide (k < i) && mask.getD k true) ds0 = EV ops ρ0 (fun k => mask.getD k true) ds0 := EV_congr fun k hk => ⟨by simp [show k < i by omega], fun _ => rfl⟩
      rw [he] at h; exact h
  | o :: r, [], i, obs, ds0, hl, hm, h => by simp [passA] at h
  | o :: r, false :: m, i, obs, ds0, hl, hm, h => by
    simp only [passA] at h
    obtain ⟨h1, h2⟩ := drop_cons hl
    obtain ⟨h3, h4⟩ := drop_cons hm
    have he : EV ops ρ0 (fun k => decide (k < i) && mask.getD k true) ds0 = EV ops ρ0 (fun k => decide (k < i + 1) && mask.getD k true) ds0 := EV_congr fun k hk => ⟨by
      by_cases hki : k = i
      · subst hki; simp [List.getD, h3]
      · have : (k < i) ↔ (k < i + 1) := by omega
        simp [this], fun _ => rfl⟩
    rw [he] at h
    obtain ⟨ds, obs', e1, e0, e2, e3, e4⟩ := passA_ext hd r m (i + 1) obs ds0 h2 h4 h
    refine ⟨ds, obs', fun k hk => e1 k (by omega), e0, e2, fun j o' hij hj hmj => ?_, e4⟩
    rcases Nat.eq_or_lt_of_le hij with hji | hji
    · subst hji; simp [List.getD, h3] at hmj
    · exact e3 j o' hji hj hmj
  | o :: r, true :: m, i, obs, ds0, hl, hm, h => by
    simp only [passA] at h
    obtain ⟨h1, h2⟩ := drop_cons hl
    obtain ⟨h3, h4⟩ := drop_cons hm
    have hmi : mask.getD i true = true := by simp [List.getD, h3]
    have hdst : o.dst = dstOf ops i := by simp [dstOf, h1]
    have step : ∀ d, (EV ops ρ0 (fun k => decide (k < i) && mask.getD k true) ds0).put o.dst d = EV ops ρ0 (fun k => decide (k < i + 1) && mask.getD k true) (fun k => if k = i then d else ds0 k) := by
      intro d
      have he : EV ops ρ0 (fun k => decide (k < i) && mask.getD k true) ds0 = EV ops ρ0 (fun k => decide (k < i) && mask.getD k true) (fun k => if k = i then d else ds0 k) := EV_congr fun k hk => ⟨rfl, fun hs => by
        have : k ≠ i := by rintro rfl; simp at hs
        simp [this]⟩
      rw [he, hdst]
      have := EV_put (ρ0 := ρ0) (ops := ops) (S := fun k => decide (k < i) && mask.getD k true) (S' := fun k => decide (k < i + 1) && mask.getD k true) (ds := fun k => if k = i then d else ds0 k) hd (j := i) (by simp only [hmi]; simp) (fun k hk => by
        have : (k < i) ↔ (k < i + 1) := by omega
        simp [this])
      simpa using this
    have hEq : ∀ (ds : Nat → D), (∀ k, k < i + 1 → ds k = (fun k => if k = i then ds i else ds0 k) k) → EV ops ρ0 (fun k => decide (k < i) && mask.getD k true) ds0 = EV ops ρ0 (fun k => decide (k < i) && mask.getD k true) ds := fun ds hds => EV_congr fun k hk => ⟨rfl, fun hs => by
      have hki : k < i := by simp at hs; exact hs.1
      have := hds k (by omega)
      rw [this]
      simp [show k ≠ i by omega]⟩
    split at h
    · rename_i hw
      obtain ⟨d, hop, h⟩ := h
      rw [step d] at h
      obtain ⟨ds, obs', e1, e0, e2, e3, e4⟩ := passA_ext hd r m (i + 1) _ _ h2 h4 h
      have hdi : ds i = d := by rw [e1 i (by omega)]; simp
      have hEV := hEq ds (fun k hk => by
        rw [e1 k hk]
        by_cases hki : k = i
        · subst hki; simp [hdi]
        · simp [hki])
      refine ⟨ds, obs', fun k hk => by rw [e1 k (by omega)]; simp [show k ≠ i by omega], fun p hp => e0 p (by simp [hp]), fun p hp => ?_, fun j o' hij hj hmj => ?_, e4⟩
      · rcases e2 p hp with h | h
        · rcases List.mem_cons.1 h with rfl | h
          · exact .inr hop
          · exact .inl h
        · exact .inr h
      · rcases Nat.eq_or_lt_of_le hij with hji | hji
        · subst hji
          rw [h1] at hj; cases hj
          intro σ hσ
          refine ⟨true, by rw [← hEV]; exact hw, fun _ => ?_, fun hf => by cases hf⟩
          have := hσ _ (e0 _ (List.mem_cons_self ..)) rfl
          rw [← hEV, hdi]; exact this
        · exact e3 j o' hji hj hmj
    · rename_i hw
      rw [step (.tup [])] at h
      obtain ⟨ds, obs', e1, e0, e2, e3, e4⟩ := passA_ext hd r m (i + 1) _ _ h2 h4 h
      have hdi : ds i = .tup [] := by rw [e1 i (by omega)]; simp
      have hEV := hEq ds (fun k hk => by
        rw [e1 k hk]
        by_cases hki : k = i
        · subst hki; simp [hdi]
        · simp [hki])
      refine ⟨ds, obs', fun k hk => by rw [e1 k (by omega)]; simp [show k ≠ i by omega], e0, e2, fun j o' hij hj hmj => ?_, e4⟩
      rcases Nat.eq_or_lt_of_le hij with hji | hji
      · subst hji
        rw [h1] at hj; cases hj
        exact fun σ hσ => ⟨false, by rw [← hEV]; exact hw, fun hf => (by cases hf), fun _ => hdi⟩
      · exact e3 j o' hji hj hmj
    · cases h

end
end Go.Av

/- A region whose order is open is sound. -/
set_option linter.unusedSimpArgs false
set_option linter.unusedVariables false
set_option linter.unnecessarySimpa false
namespace Go.Av
open Go.RowKit

section
variable {P : Program} {γ : Gl} {B : Nat} {w0 : World} {g : G} {σ : St} {w : World} {a : Act} {ρ : Env} {N : Nat}

theorem passT_skip {ops : List Oper} {mask : List Bool} {obs : List (Nat × (St → Prop))} {Q : Env → St → Prop} (hl : mask.length = ops.length) {ρ : Env} {σ : St} : ∀ (n i : Nat), i + n ≤ ops.length → (∀ k, i ≤ k → k < i + n → mask.getD k true = true) →
    passT P γ ops obs Q i (ops.drop i) (mask.drop i) ρ σ → passT P γ ops obs Q (i + n) (ops.drop (i + n)) (mask.drop (i + n)) ρ σ
  | 0, i, _, _, h => h
  | n + 1, i, hi, hm, h => by
    have h1 : i < ops.length := by omega
    have h2 : i < mask.length := by omega
    have hmi := hm i (Nat.le_refl _) (by omega)
    rw [List.drop_eq_getElem_cons h1, List.drop_eq_getElem_cons h2] at h
    have : mask[i] = true := by simpa [List.getD, h2] using hmi
    rw [this] at h
    simp only [passT] at h
    have := passT_skip hl n (i + 1) (by omega) (fun k a b => hm k (by omega) (by omega)) h
    rw [show i + (n + 1) = i + 1 + n by omega]
    exact this

structure DInv (P : Program) (γ : Gl) (B : Nat) (w0 : World) (g : G) (N : Nat) (ops : List Oper) (mask : List Bool) (ρ0 : Env) (ds : Nat → D) (obs : List (Nat × (St → Prop))) (Q : Env → St → Prop) (l : Array Bool) (a : Act) (w : World)
    (g' : G) (ds' : Nat → D) (σ' : St) (i : Nat) : Prop where
  size : l.size = ops.length
  le : g.le g'
  rel : Rel B w0 g' σ' w
  er : ER γ g' a (EV ops ρ0 (fun k => l.getD k false) ds') N
  sees : ∀ p ∈ obs, l.getD p.1 false = false → p.2 σ'
  same : ∀ k, mask.getD k true = true → ds' k = ds k
  closed : ClosedS ops (fun k => l.getD k false = true)
  upto : ∀ j, j < ops.length → mask.getD j true = false → (l.getD j false = true ↔ j < i)
  rest : passT P γ ops obs Q i (ops.drop i) (mask.drop i) (EV ops ρ0 (fun k => mask.getD k true || decide (k < i)) ds') σ'
  inn : i ≤ ops.length

theorem getD_set (l : Array Bool) (i k : Nat) (hi : i < l.size) : (l.setIfInBounds i true).getD k false = if k = i then true else l.getD k false := by
  by_cases h : k = i
  · subst h; simp [hi]
  · simp [h, Array.getElem?_setIfInBounds_ne (Ne.symm h)]

theorem region_any_sound (hm : P.follows .mixedOrders = true) (hE : ER γ g a ρ N) (hR : Rel B w0 g σ w) {id : Nat} {ops : Array Oper} (hN : ∀ o ∈ ops.toList, ∀ t, o.dst = some t → t < N)
    {Q' : Env → St → Prop} (h : adraw P γ ops.toList Q' ρ σ) {Q : Exit → Act → World → Prop}
    (hn : ∀ g' ρ' σ' a' w', g.le g' → ER γ g' a' ρ' N → Rel B w0 g' σ' w' → Q' ρ' σ' → Q .normal a' w') : (Code.region id ops true).wp P Q a w := by
  obtain ⟨mask, hdok, hA⟩ := h
  have hd := dOk_spec hdok
  have h0 : EV ops.toList ρ (fun k => decide (k < 0) && mask.getD k true) (fun _ => .nil) = ρ := by
    funext t; unfold EV; cases wr ops.toList t <;> simp
  rw [← h0] at hA
  obtain ⟨ds, obs, -, -, ho, hobs, hT⟩ := passA_ext hd ops.toList mask 0 [] (fun _ => .nil) rfl rfl (by rw [h0]; rw [h0] at hA; exact hA)
  have hlen : ops.size = ops.toList.length := by simp
  refine wp_region_any hm (wpAny_inv (P := P) (ops := ops) (Q := Q) (fun l a w => ∃ g' ds' σ' i, DInv P γ B w0 g N ops.toList mask ρ ds obs Q' l a w g' ds' σ' i) ?_ ?_ ?_ ops.size _ a _ ?_ ?_)
  · rintro l a w ⟨g', ds', σ', i, hI⟩; rw [hI.size]; simp
  · rintro l a w j ⟨g', ds', σ', i, hI⟩ hj
    obtain ⟨hlj, o, hoj, hed⟩ := mem_ready.1 hj
    have hol : ops.toList[j]? = some o := by simpa using hoj
    have hjl : j < ops.toList.length := (List.getElem?_eq_some_iff.1 hol).1
    have hjs : j < l.size := by rw [hI.size]; exact hjl
    have hlf : l.getD j false = false := by
      have : l[j]? = some l[j] := Array.getElem?_eq_getElem hjs
      simp [this] at hlj ⊢; exact hlj
    have hdst : o.dst = dstOf ops.toList j := by simp [dstOf, hoj]
    have hedl : ∀ e ∈ o.after.toList, Region.binds .any e = true → l.getD e.on false = true := fun e he hb => hed e (by simpa using he) hb
    -- what lies before, and after
    have hord : ∀ k, k ≠ j → k < ops.toList.length → ((befs ops.toList []).getD (max j k) 0).testBit (min j k) = true → l.getD k false = decide (k < j) := by
      intro k hkj hk hb
      rcases Nat.lt_or_gt_of_ne hkj with hlt | hgt
      · rw [Nat.max_eq_left (by omega), Nat.min_eq_right (by omega)] at hb
        have := before_done hI.closed j o hol hedl k hb
        simp only [this, hlt, decide_true]
      · rw [Nat.max_eq_right (by omega), Nat.min_eq_left (by omega)] at hb
        have hnot : ¬ (l.getD k false = true) := fun hk' => by
          have hok := List.getElem?_eq_getElem hk
          have := before_done hI.closed k _ hok (fun e he hb => hI.closed k _ hok hk' e he hb) j hb
          rw [hlf] at this; cases this
        have : decide (k < j) = false := by simp; omega
        rw [this]; simpa using hnot
    have hclosed : ClosedS ops.toList (fun k => (l.setIfInBounds j true).getD k false = true) := by
      intro k ok hok hk e he hb
      simp only [getD_set _ _ _ hjs] at hk ⊢
      by_cases hkj : k = j
      · subst hkj
        rw [hol] at hok; cases hok
        split
        · rfl
        · exact hedl e he hb
      · rw [if_neg hkj] at hk
        split
        · rfl
        · exact hI.closed k ok hok hk e he hb
    have hNj : ∀ t, o.dst = some t → t < N := hN o (List.mem_iff_getElem?.2 ⟨j, hol⟩)
    have hseen : ∀ {τ : St}, (∀ p ∈ obs, l.getD p.1 false = false → p.1 ≠ j → p.2 τ) → ∀ p ∈ obs, (l.setIfInBounds j true).getD p.1 false = false → p.2 τ := by
      intro τ h p hp hf
      rw [getD_set _ _ _ hjs] at hf
      by_cases hpj : p.1 = j
      · rw [if_pos hpj] at hf; cases hf
      · rw [if_neg hpj] at hf; exact h p hp hf hpj
    unfold wpOp
    rw [hoj]
    simp only
    by_cases hmj : mask.getD j true = true
    · -- one of the first kind
      obtain ⟨b, hw, hb1, hb0⟩ := hobs j o (Nat.zero_le _) hol hmj σ' (fun p hp e => hI.sees p hp (by rw [e]; exact hlf))
      have hreads : ∀ t ∈ readsOf ops.toList o, EV ops.toList ρ (fun k => decide (k < j) && mask.getD k true) ds t = EV ops.toList ρ (fun k => l.getD k false) ds' t := by
        intro t ht
        refine EV_reads fun k hk hkl => ?_
        by_cases hkj : k = j
        · subst hkj
          simp only [Nat.lt_irrefl, decide_false, Bool.false_and]
          exact ⟨hlf.symm, fun hf => by cases hf⟩
        · obtain ⟨r1, r2, r3⟩ := hd.reads j o k t hol (Ne.symm hkj) hkl hk ht
          have hor := hord k hkj hkl r1
          rcases r2 with hmk | hmk | hmk
          · rw [hor, hmk, hI.same k hmk]
            simp
          · rw [hmj] at hmk; cases hmk
          · have hnk : decide (k < j) = false := by simp; omega
            rw [hor, hnk]
            simp
      rw [awanted_congr hreads] at hw
      have hws := wanted_sound hI.er hw
      have hput : (EV ops.toList ρ (fun k => l.getD k false) ds').put o.dst (ds' j) = EV ops.toList ρ (fun k => (l.setIfInBounds j true).getD k false) ds' := by
        rw [hdst]
        exact EV_put hd (by simp only [getD_set _ _ _ hjs, if_true]) (fun k hk => by simp only [getD_set _ _ _ hjs, if_neg hk])
      have hupto : ∀ j', j' < ops.toList.length → mask.getD j' true = false → ((l.setIfInBounds j true).getD j' false = true ↔ j' < i) := by
        intro k hk hmk
        have hkj : k ≠ j := by rintro rfl; rw [hmj] at hmk; cases hmk
        rw [getD_set _ _ _ hjs, if_neg hkj]
        exact hI.upto k hk hmk
      rw [hws]
      cases b
      · simp only [Bool.false_eq_true, if_false]
        refine ⟨g', ds', σ', i, by simp [hI.size], hI.le, hI.rel, ?_, hseen (fun p hp hf _ => hI.sees p hp hf), hI.same, hclosed, hupto, hI.rest, hI.inn⟩
        rw [← hput]
        refine hI.er.putO hNj ?_
        rw [hI.same j hmj, hb0 rfl]; exact rv_undef _
      · simp only [if_true]
        left
        have ha := hb1 rfl
        rw [aop_reads hreads] at ha
        refine aop_sound hI.er hI.rel ha ?_
        rintro v w' ⟨d, g'', σ'', e1, e2, e3, e4, e5⟩
        refine ⟨g'', ds', σ', i, by simp [hI.size], hI.le.trans e1, e3.forget e5, ?_, hseen (fun p hp hf _ => hI.sees p hp hf), hI.same, hclosed, hupto, hI.rest, hI.inn⟩
        rw [← hput]
        refine (hI.er.mono e1).putO hNj ?_
        rw [hI.same j hmj, ← e4]; exact e2
    · -- the next of the second
      have hmj : mask.getD j true = false := by simpa using hmj
      have hij : i ≤ j := by
        have := hI.upto j hjl hmj
        rw [hlf] at this
        have h := fun hlt => this.2 hlt
        exact Nat.le_of_not_lt fun hlt => by cases h hlt
      have hbet : ∀ k, i ≤ k → k < j → mask.getD k true = true := by
        intro k hik hkj
        cases hmk : mask.getD k true with
        | true => rfl
        | false =>
          have hc := hd.chain j k hjl (by omega) (by omega) hmj hmk
          have := hord k (by omega) (by omega) hc
          have h2 := (hI.upto k (by omega) hmk).1 (by rw [this]; simp [hkj])
          omega
      have hEVi : ∀ ds', EV ops.toList ρ (fun k => mask.getD k true || decide (k < i)) ds' = EV ops.toList ρ (fun k => mask.getD k true || decide (k < j)) ds' := fun ds' => EV_congr fun k hk => ⟨by
        by_cases hki : k < i
        · simp [hki, show k < j by omega]
        · by_cases hkj : k < j
          · rw [hbet k (by omega) hkj]; simp
          · simp [hki, hkj], fun _ => rfl⟩
      have hrest := passT_skip hd.len (j - i) i (by omega) (fun k a b => hbet k a (by omega)) hI.rest
      rw [show i + (j - i) = j by omega] at hrest
      rw [hEVi] at hrest
      have hjm : j < mask.length := by rw [hd.len]; exact hjl
      rw [List.drop_eq_getElem_cons hjl, List.drop_eq_getElem_cons hjm] at hrest
      have hmje : mask[j] = false := by simpa [List.getD, hjm] using hmj
      have hoe : ops.toList[j] = o := by have := List.getElem?_eq_getElem hjl; rw [hol] at this; exact (Option.some.inj this).symm
      rw [hmje, hoe] at hrest
      simp only [passT] at hrest
      have hreads : ∀ t ∈ readsOf ops.toList o, EV ops.toList ρ (fun k => mask.getD k true || decide (k < j)) ds' t = EV ops.toList ρ (fun k => l.getD k false) ds' t := by
        intro t ht
        refine EV_reads fun k hk hkl => ⟨?_, fun _ => rfl⟩
        by_cases hkj : k = j
        · subst hkj; rw [hmj, hlf]; simp
        · obtain ⟨r1, r2, r3⟩ := hd.reads j o k t hol (Ne.symm hkj) hkl hk ht
          rw [hord k hkj hkl r1]
          rcases r3 with r3 | r3 | r3
          · rw [hmj] at r3; cases r3
          · rw [r3]; simp
          · simp [r3]
      have hupto : ∀ j', j' < ops.toList.length → mask.getD j' true = false → ((l.setIfInBounds j true).getD j' false = true ↔ j' < j + 1) := by
        intro k hk hmk
        rw [getD_set _ _ _ hjs]
        by_cases hkj : k = j
        · subst hkj; simp
        · rw [if_neg hkj, hI.upto k hk hmk]
          constructor
          · intro h; omega
          · intro h
            rcases Nat.lt_or_ge k i with hki | hki
            · exact hki
            · have := hbet k hki (by omega); rw [hmk] at this; cases this
      have hput : ∀ d, (EV ops.toList ρ (fun k => l.getD k false) ds').put o.dst d = EV ops.toList ρ (fun k => (l.setIfInBounds j true).getD k false) (fun k => if k = j then d else ds' k) := by
        intro d
        have he : EV ops.toList ρ (fun k => l.getD k false) ds' = EV ops.toList ρ (fun k => l.getD k false) (fun k => if k = j then d else ds' k) := EV_congr fun k hk => ⟨rfl, fun hs => by
          have hkj : k ≠ j := by rintro rfl; rw [hlf] at hs; cases hs
          simp [hkj]⟩
        rw [he, hdst]
        have := EV_put (ρ0 := ρ) (S := fun k => l.getD k false) (S' := fun k => (l.setIfInBounds j true).getD k false) (ds := fun k => if k = j then d else ds' k) hd (j := j) (by simp only [getD_set _ _ _ hjs, if_true]) (fun k hk => by simp only [getD_set _ _ _ hjs, if_neg hk])
        simpa using this
      have hput2 : ∀ d, (EV ops.toList ρ (fun k => mask.getD k true || decide (k < j)) ds').put o.dst d = EV ops.toList ρ (fun k => mask.getD k true || decide (k < j + 1)) (fun k => if k = j then d else ds' k) := by
        intro d
        have he : EV ops.toList ρ (fun k => mask.getD k true || decide (k < j)) ds' = EV ops.toList ρ (fun k => mask.getD k true || decide (k < j)) (fun k => if k = j then d else ds' k) := EV_congr fun k hk => ⟨rfl, fun hs => by
          have hkj : k ≠ j := by rintro rfl; rw [hmj] at hs; simp at hs
          simp [hkj]⟩
        rw [he, hdst]
        have := EV_put (ρ0 := ρ) (S := fun k => mask.getD k true || decide (k < j)) (S' := fun k => mask.getD k true || decide (k < j + 1)) (ds := fun k => if k = j then d else ds' k) hd (j := j) (by simp) (fun k hk => by
          have : (k < j) ↔ (k < j + 1) := by omega
          simp [this])
        simpa using this
      have hsame : ∀ d k, mask.getD k true = true → (if k = j then d else ds' k) = ds k := fun d k hmk => by
        have hkj : k ≠ j := by rintro rfl; rw [hmj] at hmk; cases hmk
        rw [if_neg hkj]; exact hI.same k hmk
      split at hrest
      · rename_i hw
        rw [awanted_congr hreads] at hw
        rw [wanted_sound hI.er hw]
        simp only [if_true]
        left
        rw [aop_reads hreads] at hrest
        refine aop_sound hI.er hI.rel hrest ?_
        rintro v w' ⟨d, g'', σ'', e1, e2, e3, e4, e5⟩
        refine ⟨g'', fun k => if k = j then d else ds' k, σ'', j + 1, by simp [hI.size], hI.le.trans e1, e3, ?_, hseen (fun p hp hf _ => e4 p (List.mem_filter.2 ⟨hp, by
          cases hb : ((befs ops.toList []).getD j 0).testBit p.1 with
          | false => rfl
          | true => rw [before_done hI.closed j o hol hedl p.1 hb] at hf; cases hf⟩)), hsame d, hclosed, hupto, ?_, hjl⟩
        · rw [← hput]; exact (hI.er.mono e1).putO hNj e2
        · rw [← hput2]; exact e5
      · rename_i hw
        rw [awanted_congr hreads] at hw
        rw [wanted_sound hI.er hw]
        simp only [Bool.false_eq_true, if_false]
        refine ⟨g', fun k => if k = j then .tup [] else ds' k, σ', j + 1, by simp [hI.size], hI.le, hI.rel, ?_, hseen (fun p hp hf _ => hI.sees p hp hf), hsame _, hclosed, hupto, ?_, hjl⟩
        · rw [← hput]; exact hI.er.putO hNj (rv_undef _)
        · rw [← hput2]; exact hrest
      · cases hrest
  · rintro l a w ⟨g', ds', σ', i, hI⟩ hr
    have hall : ∀ k, k < ops.toList.length → l.getD k false = true := by
      intro k
      induction k using Nat.strongRecOn with
      | _ k ih =>
        intro hk
        have hks : k < l.size := by rw [hI.size]; exact hk
        have hlk : l[k]? = some l[k] := Array.getElem?_eq_getElem hks
        cases hq : l[k] with
        | true => simp [hlk, hq]
        | false =>
          have hok := List.getElem?_eq_getElem hk
          have : k ∈ Region.ready .any ops l := mem_ready.2 ⟨by simp [hlk, hq], ops.toList[k], by simpa using hok, fun e he hb => by
            have hlt := hd.down k _ hok e (by simpa using he) hb
            exact ih e.on hlt (by omega)⟩
          rw [hr] at this; cases this
    have hrest := passT_skip hd.len (ops.toList.length - i) i (by have := hI.inn; omega) (fun k a b => by
      cases hmk : mask.getD k true with
      | true => rfl
      | false =>
        have hk : k < ops.toList.length := by have := hI.inn; omega
        have := (hI.upto k hk hmk).1 (hall k hk)
        omega) hI.rest
    rw [show i + (ops.toList.length - i) = ops.toList.length by have := hI.inn; omega] at hrest
    rw [List.drop_length] at hrest
    simp only [passT] at hrest
    have hEVe : EV ops.toList ρ (fun k => mask.getD k true || decide (k < i)) ds' = EV ops.toList ρ (fun k => l.getD k false) ds' := EV_congr fun k hk => ⟨by
      rw [hall k hk]
      cases hmk : mask.getD k true with
      | true => rfl
      | false =>
        have := (hI.upto k hk hmk).1 (hall k hk)
        simp [this], fun _ => rfl⟩
    rw [hEVe] at hrest
    exact hn g' _ σ' a w hI.le hI.er hI.rel hrest
  · have hE0 : ∀ ds, EV ops.toList ρ (fun k => (Array.replicate ops.size false).getD k false) ds = ρ := by
      intro ds; funext t; unfold EV
      cases wr ops.toList t with
      | none => rfl
      | some k =>
        have : (Array.replicate ops.size false).getD k false = false := by
          simp only [Array.getD_eq_getD_getElem?, Array.getElem?_replicate]; split <;> rfl
        simp only [this]; rfl
    have hfalse : ∀ k, (Array.replicate ops.size false).getD k false = false := fun k => by
      simp only [Array.getD_eq_getD_getElem?, Array.getElem?_replicate]; split <;> rfl
    refine ⟨g, ds, σ, 0, by simp, G.le.refl _, hR.drew, ?_, fun p hp _ => (ho p hp).resolve_left (by simp), fun _ _ => rfl, ?_, ?_, ?_, Nat.zero_le _⟩
    · rw [hE0]; exact hE
    · intro k o _ hk; rw [hfalse] at hk; cases hk
    · intro k _ _; rw [hfalse]; simp
    · have : EV ops.toList ρ (fun k => mask.getD k true || decide (k < 0)) ds = EV ops.toList ρ (fun k => mask.getD k true) ds := EV_congr fun k _ => ⟨by simp, fun _ => rfl⟩
      rw [this]; exact hT
  · have : ∀ n, cnt (Array.replicate n false) = n := fun n => by simp [cnt]
    rw [this]; exact Nat.le_refl _

end
end Go.Av

/- The weakest precondition over abstract values is sound. -/
set_option linter.unusedSimpArgs false
set_option linter.unusedVariables false
namespace Go.Av
open Go.RowKit

/-- A value may be said to be less. -/
inductive Wk : D → D → Prop where
  | refl (d : D) : Wk d d
  | nil : Wk .nil (.sl 0 [] none)
  | tok (n : Nat) (cs : List D) (t : Option (Nat × Nat)) : Wk (.sl n cs t) (.sl n cs none)
  | e0 : Wk .e0 (.sl 0 [] none)
  | osl0 (id off sz : Nat) : Wk (.osl id off 0 sz) (.sl 0 [] none)
  | oslc0 (id off c sz : Nat) : Wk (.oslc id off 0 c sz) (.sl 0 [] none)
  | oslc (id off n c sz : Nat) : Wk (.oslc id off n c sz) (.osl id off n sz)
  | cells (n : Nat) (cs cs' : List D) (t : Option (Nat × Nat)) : cs'.length ≤ cs.length → (∀ (k : Nat) d d', cs[k]? = some d → cs'[k]? = some d' → Wk d d') → Wk (.sl n cs t) (.sl n cs' none)
  | agg (cs cs' : List D) : cs'.length = cs.length → (∀ (k : Nat) d d', cs[k]? = some d → cs'[k]? = some d' → Wk d d') → Wk (.agg cs) (.agg cs')

theorem Wk.one {d d' : D} (h : Wk d d') (h1 : d.one = true) : d'.one = true := by
  cases h <;> first | rfl | exact h1 | cases h1
theorem Wk.ones {cs cs' : List D} (hl : cs'.length ≤ cs.length) (hw : ∀ (k : Nat) d d', cs[k]? = some d → cs'[k]? = some d' → Wk d d') (h1 : ∀ d ∈ cs, d.one = true) : ∀ d ∈ cs', d.one = true := by
  intro d hd
  obtain ⟨k, hk, rfl⟩ := List.mem_iff_getElem.1 hd
  have hk' : k < cs.length := by omega
  exact (hw k _ _ (List.getElem?_eq_getElem hk') (List.getElem?_eq_getElem hk)).one (h1 _ (List.getElem_mem hk'))

theorem Wk.sound {d d' : D} (h : Wk d d') : ∀ {g : G} {v : Value}, RV g v d → RV g v d' := by
  induction h with
  | refl => exact fun hv => hv
  | e0 => intro g v hv; cases hv; exact .slNil _
  | osl0 id off sz =>
    intro g v hv
    cases hv with
    | osl _ b m _ _ cap _ hi hc hm hf => exact .sl b off 0 cap [] none (fun _ => undef) hc hm (fun k hk => by simp at hk) (fun d hd => by simp at hd) (fun k d e => by simp at e) (fun _ _ e => by cases e)
  | oslc0 id off c sz =>
    intro g v hv
    cases hv with
    | oslc _ b m _ _ cap _ hi hc hm hf => exact .sl b off 0 c [] none (fun _ => undef) hc hm (fun k hk => by simp at hk) (fun d hd => by simp at hd) (fun k d e => by simp at e) (fun _ _ e => by cases e)
  | oslc id off n c sz =>
    intro g v hv
    cases hv with
    | oslc _ b m _ _ cap _ hi hc hm hf => exact .osl id b m off n c sz hi hc hm hf
  | cells n cs cs' t hl hw ih =>
    intro g v hv
    cases hv with
    | slNil a =>
      have : cs' = [] := List.eq_nil_of_length_eq_zero (by simpa using hl)
      subst this
      exact .slNil a
    | sl b off n cap cs t us a1 a2 a3 a4 a5 a6 =>
      refine .sl b off n cap cs' none us a1 a2 (fun k hk => a3 k (by omega)) (Wk.ones hl hw a4) (fun k d e => ?_) (fun _ _ e => by cases e)
      have hk : k < cs'.length := (List.getElem?_eq_some_iff.1 e).1
      have hk' : k < cs.length := by omega
      exact ih k _ _ (List.getElem?_eq_getElem hk') e (a5 k _ (List.getElem?_eq_getElem hk'))
  | agg cs cs' hl hw ih =>
    intro g v hv
    cases hv with
    | agg vs ds a1 a2 a3 =>
      refine .agg vs cs' (by omega) (Wk.ones (by omega) hw a2) (fun k v d e e' => ?_)
      have hk : k < cs'.length := (List.getElem?_eq_some_iff.1 e').1
      have hk' : k < cs.length := by omega
      exact ih k _ _ (List.getElem?_eq_getElem hk') e' (a3 k v _ e (List.getElem?_eq_getElem hk'))
  | nil => intro g v hv; cases hv; exact .slNil none
  | tok n cs t =>
    intro g v hv
    cases hv with
    | slNil a => exact .slNil a
    | sl b off n cap cs t us a1 a2 a3 a4 a5 a6 => exact .sl b off n cap cs none us a1 a2 a3 a4 a5 (fun _ _ e => by cases e)

/-- What a value is when the object id is let go for good. -/
def frzD (id : Nat) (l : List D) : D → D
  | .osl i off n sz => if i = id then .sl n ((l.drop off).take (n * sz)) none else .osl i off n sz
  | .oslc i off n c sz => if i = id then .sl n ((l.drop off).take (n * sz)) none else .oslc i off n c sz
  | .ptr i off => if i = id then .eptr l off else .ptr i off
  | d => d
def frzs (id : Nat) (l : List D) : List Tmp → Env → Env
  | [], ρ => ρ
  | t :: ts, ρ => (frzs id l ts ρ).put (some t) (frzD id l (ρ t))

/-- What may be said on the way: less; an object let go for good. -/
inductive Rx (Q : Env → St → Prop) : Env → St → Prop where
  | done {ρ : Env} {σ : St} : Q ρ σ → Rx Q ρ σ
  | forget {ρ : Env} {σ : St} (σ' : St) : σ'.le σ → Rx Q ρ σ' → Rx Q ρ σ
  | weak {ρ : Env} {σ : St} (t : Tmp) (d : D) : Wk (ρ t) d → Rx Q (ρ.put (some t) d) σ → Rx Q ρ σ
  | freeze {ρ : Env} {σ : St} (id : Nat) (l : List D) (T : TypeId) (ts : List Tmp) : σ id = some (.cells l T) → Rx Q (frzs id l ts ρ) (σ.del id) → Rx Q ρ σ
  | cap {ρ : Env} {σ : St} (t : Tmp) (id off n sz : Nat) : ρ t = .osl id off n sz → (∀ c, n ≤ c → Rx Q (ρ.put (some t) (.oslc id off n c sz)) σ) → Rx Q ρ σ
  | wkc {ρ : Env} {σ : St} (id : Nat) (l l' : List D) (T : TypeId) : σ id = some (.cells l T) → l'.length ≤ l.length → (∀ (k : Nat) d d', l[k]? = some d → l'[k]? = some d' → Wk d d') → Rx Q ρ (σ.set id (.cells l' T)) → Rx Q ρ σ

inductive AExit where
  | normal
  | exit (id : Nat)
  | ret

def AExit.thn (K : Env → St → Prop) (Q : AExit → Env → St → Prop) : AExit → Env → St → Prop
  | .normal => K
  | e => Q e
def AExit.blk (id : Nat) (Q : AExit → Env → St → Prop) : AExit → Env → St → Prop
  | .exit i => if i = id then Q .normal else Q (.exit i)
  | e => Q e

def awp (P : Program) (γ : Gl) : Code → (AExit → Env → St → Prop) → Env → St → Prop
  | .skip, Q, ρ, σ => Q .normal ρ σ
  | .region _ ops false, Q, ρ, σ => alist P γ ops.toList (Q .normal) ops.toList ρ σ
  | .region _ ops true, Q, ρ, σ => adraw P γ ops.toList (Q .normal) ρ σ
  | .seq a b, Q, ρ, σ => awp P γ a (AExit.thn (fun ρ σ => Rx (awp P γ b Q) ρ σ) Q) ρ σ
  | .cond c a b, Q, ρ, σ => (match aeval γ ρ c with
    | .bool t => if t = true then awp P γ a Q ρ σ else awp P γ b Q ρ σ
    | _ => False)
  | .block id c, Q, ρ, σ => awp P γ c (AExit.blk id Q) ρ σ
  | .loop c, Q, ρ, σ => ∃ (I : Nat → Env → St → Prop) (n : Nat), I n ρ σ ∧ ∀ n ρ σ, I n ρ σ → awp P γ c (AExit.thn (fun ρ' σ' => Rx (fun ρ σ => ∃ k, k < n ∧ I k ρ σ) ρ' σ') Q) ρ σ
  | .exit id, Q, ρ, σ => Q (.exit id) ρ σ
  | .ret, Q, ρ, σ => Q .ret ρ σ
  | _, _, _, _ => False

/-- Every slot written is one of the frame's. -/
def codeOk (N : Nat) : Code → Bool
  | .skip => true
  | .region _ ops _ => ops.toList.all fun o => match o.dst with | some t => decide (t < N) | none => true
  | .seq a b => codeOk N a && codeOk N b
  | .cond _ a b => codeOk N a && codeOk N b
  | .block _ c => codeOk N c
  | .loop c => codeOk N c
  | _ => true

section
variable {P : Program} {γ : Gl} {B : Nat} {w0 : World} {g : G} {σ : St} {w : World} {a : Act} {ρ : Env} {N : Nat}

theorem ER.env (h : ER γ g a ρ N) {ρ' : Env} (hr : ∀ t v, RV g v (ρ t) → RV g v (ρ' t)) : ER γ g a ρ' N := ⟨h.size, fun t => hr t _ (h.slot t), h.gok, h.defers⟩

theorem frzD_sound {g' : G} (hg : g.le g') {id b m : Nat} {l : List D} (hi : g.io id = some (b, m)) (h1 : ∀ k, k < l.length → ∃ u, g'.imm b k = some u) (h2 : ∀ (k : Nat) u d, g'.imm b k = some u → l[k]? = some d → RV g' u d)
    (ho : ∀ d ∈ l, d.one = true) {v : Value} {d : D} (hv : RV g v d) : RV g' v (frzD id l d) := by
  have hus : ∀ k, k < l.length → g'.imm b k = some ((g'.imm b k).getD default) := fun k hk => by obtain ⟨u, hu⟩ := h1 k hk; rw [hu]; rfl
  have hv' := hv
  cases hv with
  | osl i b' m' off n cap sz hi' hc hm hf =>
    simp only [frzD]
    split
    · rename_i hid; subst hid
      rw [hi] at hi'; cases hi'
      have hlen : ∀ k, k < ((l.drop off).take (n * sz)).length → off + k < l.length := fun k hk => by simp at hk; omega
      refine .sl b off n cap _ none (fun k => (g'.imm b (off + k)).getD default) hc hm (fun k hk => hus _ (hlen k hk)) (fun d hd => ho d (List.mem_of_mem_drop (List.mem_of_mem_take hd))) (fun k d hd => ?_) (fun _ _ e => by cases e)
      have hk : k < ((l.drop off).take (n * sz)).length := (List.getElem?_eq_some_iff.1 hd).1
      have hd' : l[off + k]? = some d := by
        rw [List.getElem?_take] at hd
        split at hd
        · simpa [List.getElem?_drop] using hd
        · cases hd
      exact h2 _ _ d (hus _ (hlen k hk)) hd'
    · exact .osl i b' m' off n cap sz (hg.io _ _ hi') hc hm hf
  | oslc i b' m' off n cap sz hi' hc hm hf =>
    simp only [frzD]
    split
    · rename_i hid; subst hid
      rw [hi] at hi'; cases hi'
      have hlen : ∀ k, k < ((l.drop off).take (n * sz)).length → off + k < l.length := fun k hk => by simp at hk; omega
      refine .sl b off n cap _ none (fun k => (g'.imm b (off + k)).getD default) hc hm (fun k hk => hus _ (hlen k hk)) (fun d hd => ho d (List.mem_of_mem_drop (List.mem_of_mem_take hd))) (fun k d hd => ?_) (fun _ _ e => by cases e)
      have hk : k < ((l.drop off).take (n * sz)).length := (List.getElem?_eq_some_iff.1 hd).1
      have hd' : l[off + k]? = some d := by
        rw [List.getElem?_take] at hd
        split at hd
        · simpa [List.getElem?_drop] using hd
        · cases hd
      exact h2 _ _ d (hus _ (hlen k hk)) hd'
    · exact .oslc i b' m' off n cap sz (hg.io _ _ hi') hc hm hf
  | ptr i b' m' off hi' =>
    simp only [frzD]
    split
    · rename_i hid; subst hid
      rw [hi] at hi'; cases hi'
      have := RV.eptr (g := g') b 0 off l (fun k => (g'.imm b k).getD default) (fun k hk => by rw [Nat.zero_add]; exact hus k hk) ho (fun k d hd => h2 k _ d (hus k (List.getElem?_eq_some_iff.1 hd).1) hd)
      simpa using this
    · exact .ptr i b' m' off (hg.io _ _ hi')
  | _ => exact RV.mono hg hv'

theorem Rel.wkc (h : Rel B w0 g σ w) {id : Nat} {l l' : List D} {T : TypeId} (hs : σ id = some (.cells l T)) (hl : l'.length ≤ l.length) (hw : ∀ (k : Nat) d d', l[k]? = some d → l'[k]? = some d' → Wk d d') : Rel B w0 g (σ.set id (.cells l' T)) w := by
  refine ⟨h.below, h.base, h.imm, h.dom, h.fin, fun i ob e => ?_, fun i j b n n' e e' => h.inj i j b n n' ?_ ?_⟩
  · by_cases hi : i = id
    · subst hi
      simp only [St.set, if_true, Option.some.injEq] at e
      subst e
      obtain ⟨b, arr, T', fr, a1, a2, a3, a4, a5, a6, a7, a8, a9⟩ := h.obj i _ hs
      refine ⟨b, arr, T', fr, a1, a2, a3, a4, by omega, Wk.ones hl hw a6, fun k v d x y => ?_, a8, a9⟩
      have hk : k < l'.length := (List.getElem?_eq_some_iff.1 y).1
      have hk' : k < l.length := by omega
      exact (hw k _ d (List.getElem?_eq_getElem hk') y).sound (a7 k v _ x (List.getElem?_eq_getElem hk'))
    · simp only [St.set, if_neg hi] at e
      exact h.obj i ob e
  · by_cases hi : i = id
    · subst hi; rw [hs]; simp
    · simpa only [St.set, if_neg hi] using e
  · by_cases hi : j = id
    · subst hi; rw [hs]; simp
    · simpa only [St.set, if_neg hi] using e'

theorem Rx.sound {Q : Env → St → Prop} (h : Rx Q ρ σ) : ∀ {g : G}, ER γ g a ρ N → Rel B w0 g σ w → ∃ g' ρ' σ', g.le g' ∧ ER γ g' a ρ' N ∧ Rel B w0 g' σ' w ∧ Q ρ' σ' := by
  induction h with
  | done h => intro g hE hR; exact ⟨g, _, _, G.le.refl _, hE, hR, h⟩
  | forget σ' hs _ ih => intro g hE hR; exact ih hE (hR.forget hs)
  | weak t d hw _ ih =>
    intro g hE hR
    refine ih (hE.env fun s v hv => ?_) hR
    show RV g v (if s = t then d else _)
    split
    · rename_i e; subst e; exact hw.sound hv
    · exact hv
  | @freeze ρ σ id l T' ts hs _ ih =>
    intro g hE hR
    obtain ⟨b, arr, T, fr, a1, a2, a3, a4, a5⟩ := hR.obj id _ hs
    obtain ⟨g', b1, b2, b3, b4⟩ := hR.freeze hs a1
    have hf : ∀ {v d}, RV g v d → RV g' v (frzD id l d) := fun hv => frzD_sound b1 a1 b3 b4 a5.2.1 hv
    have hE' : ∀ ts, ER γ g' a (frzs id l ts ρ) N := by
      intro ts
      induction ts with
      | nil => exact hE.mono b1
      | cons t ts ih2 =>
        refine ⟨ih2.size, fun s => ?_, ih2.gok, ih2.defers⟩
        show RV g' _ (if s = t then frzD id l (ρ t) else frzs id l ts ρ s)
        split
        · rename_i e; subst e; exact hf (hE.slot s)
        · exact ih2.slot s
    obtain ⟨g'', ρ', σ', c1, c2, c3, c4⟩ := ih (hE' ts) b2
    exact ⟨g'', ρ', σ', b1.trans c1, c2, c3, c4⟩
  | @cap ρ σ t id off n sz ht _ ih =>
    intro g hE hR
    have hs := hE.slot t
    rw [ht] at hs
    generalize hv : a.tmps.getD t undef = v at hs
    cases hs with
    | osl _ b m _ _ c _ hi hc hm hf =>
      refine ih c hc ⟨hE.size, fun s => ?_, hE.gok, hE.defers⟩ hR
      show RV g _ (if s = t then _ else ρ s)
      split
      · rename_i e; subst e; rw [hv]; exact .oslc id b m off n c sz hi hc hm hf
      · exact hE.slot s
  | wkc id l l' T hs hl hw _ ih => intro g hE hR; exact ih hE (hR.wkc hs hl hw)

/-- What stands behind the code. -/
def QS (γ : Gl) (B : Nat) (w0 : World) (g : G) (N : Nat) (Q : AExit → Env → St → Prop) : Exit → Act → World → Prop := fun e a w => ∃ g' ρ σ, g.le g' ∧ ER γ g' a ρ N ∧ Rel B w0 g' σ w ∧
  match e with
  | .normal => Q .normal ρ σ
  | .exit i => Q (.exit i) ρ σ
  | .ret => Q .ret ρ σ
  | _ => False

theorem QS.le {g g' : G} (hg : g.le g') {Q : AExit → Env → St → Prop} {e : Exit} {a : Act} {w : World} (h : QS γ B w0 g' N Q e a w) : QS γ B w0 g N Q e a w :=
  let ⟨g'', ρ, σ, h1, h2⟩ := h; ⟨g'', ρ, σ, hg.trans h1, h2⟩

theorem alist_sound {ops : Array Oper} {Q' : Env → St → Prop} {Q : Exit → Act → World → Prop} {g0 : G} (hn : ∀ g' ρ' σ' a' w', g0.le g' → ER γ g' a' ρ' N → Rel B w0 g' σ' w' → Q' ρ' σ' → Q .normal a' w') :
    ∀ (l : List Oper) (g : G) (ρ : Env) (σ : St) (a : Act) (w : World), (∀ o ∈ l, ∀ t, o.dst = some t → t < N) → g0.le g → ER γ g a ρ N → Rel B w0 g σ w → alist P γ ops.toList Q' l ρ σ → wpList P ops Q l a w
  | [], g, ρ, σ, a, w, _, hg, hE, hR, h => hn g ρ σ a w hg hE hR h
  | o :: rest, g, ρ, σ, a, w, hN, hg, hE, hR, h => by
    unfold alist at h
    unfold wpList
    split at h
    · rename_i hw
      rw [wanted_sound hE hw]
      simp only [if_true]
      left
      refine aop_sound hE hR h ?_
      rintro v w' ⟨d, g', σ', e1, e2, e3, e4⟩
      exact alist_sound hn rest g' _ σ' _ w' (fun o' ho => hN o' (by simp [ho])) (hg.trans e1) ((hE.mono e1).putO (hN o (by simp)) e2) e3 e4
    · rename_i hw
      rw [wanted_sound hE hw]
      simp only [Bool.false_eq_true, if_false]
      exact alist_sound hn rest g _ σ _ w (fun o' ho => hN o' (by simp [ho])) hg (hE.putO (hN o (by simp)) (rv_undef _)) hR h
    · cases h

theorem awp_sound (hm : P.follows .mixedOrders = true) : ∀ (c : Code) (Q : AExit → Env → St → Prop) (g : G) (ρ : Env) (σ : St) (a : Act) (w : World), codeOk N c = true → ER γ g a ρ N → Rel B w0 g σ w → awp P γ c Q ρ σ → c.wp P (QS γ B w0 g N Q) a w
  | .skip, Q, g, ρ, σ, a, w, hc, hE, hR, h => wp_skip ⟨g, ρ, σ, G.le.refl _, hE, hR, by simpa [awp] using h⟩
  | .region id ops false, Q, g, ρ, σ, a, w, hc, hE, hR, h => by
    refine wp_region_list (alist_sound (γ := γ) (Q' := Q .normal) (fun g' ρ' σ' a' w' h1 h2 h3 h4 => ⟨g', ρ', σ', h1, h2, h3, h4⟩) ops.toList g ρ σ a w ?_ (G.le.refl _) hE hR (by simpa only [awp] using h))
    intro o ho t ht
    have := List.all_eq_true.1 (by simpa only [codeOk] using hc) o ho
    rw [ht] at this; simpa using this
  | .region id ops true, Q, g, ρ, σ, a, w, hc, hE, hR, h => by
    refine region_any_sound hm hE hR (Q' := Q .normal) ?_ (by simpa only [awp] using h) (fun g' ρ' σ' a' w' h1 h2 h3 h4 => ⟨g', ρ', σ', h1, h2, h3, h4⟩)
    intro o ho t ht
    have := List.all_eq_true.1 (by simpa only [codeOk] using hc) o ho
    rw [ht] at this; simpa using this
  | .seq x y, Q, g, ρ, σ, a, w, hc, hE, hR, h => by
    simp only [codeOk, Bool.and_eq_true] at hc
    refine wp_seq (wp_mono (awp_sound hm x _ g ρ σ a w hc.1 hE hR (by simpa only [awp] using h)) ?_)
    rintro e a' w' ⟨g', ρ', σ', h1, h2, h3, h4⟩
    cases e with
    | normal =>
      obtain ⟨g'', ρ'', σ'', k1, k2, k3, k4⟩ := Rx.sound (show Rx (awp P γ y Q) ρ' σ' from h4) h2 h3
      exact wp_mono (awp_sound hm y Q g'' ρ'' σ'' a' w' hc.2 k2 k3 k4) fun e a w hq => hq.le (h1.trans k1)
    | exit i => exact ⟨g', ρ', σ', h1, h2, h3, h4⟩
    | ret => exact ⟨g', ρ', σ', h1, h2, h3, h4⟩
    | goto i => exact h4.elim
    | panic ch => exact h4.elim
    | outgrown => exact h4.elim
  | .cond c x y, Q, g, ρ, σ, a, w, hc, hE, hR, h => by
    simp only [codeOk, Bool.and_eq_true] at hc
    simp only [awp] at h
    split at h
    · rename_i t ht
      have hv := hE.eval c
      rw [ht] at hv
      generalize hcv : a.eval c = cv at hv
      cases hv
      refine wp_cond hcv ?_
      cases t
      · simp only [Bool.false_eq_true, if_false] at h ⊢
        exact awp_sound hm y Q g ρ σ a w hc.2 hE hR h
      · simp only [if_true] at h ⊢
        exact awp_sound hm x Q g ρ σ a w hc.1 hE hR h
    · cases h
  | .block id c, Q, g, ρ, σ, a, w, hc, hE, hR, h => by
    simp only [codeOk] at hc
    refine wp_block (wp_mono (awp_sound hm c _ g ρ σ a w hc hE hR (by simpa only [awp] using h)) ?_)
    rintro e a' w' ⟨g', ρ', σ', h1, h2, h3, h4⟩
    cases e with
    | normal => exact ⟨g', ρ', σ', h1, h2, h3, h4⟩
    | exit i =>
      have h4 : AExit.blk id Q (.exit i) ρ' σ' := h4
      simp only [AExit.blk] at h4
      simp only [Exit.inBlock]
      split at h4
      · rename_i e; rw [if_pos e]; exact ⟨g', ρ', σ', h1, h2, h3, h4⟩
      · rename_i e; rw [if_neg e]; exact ⟨g', ρ', σ', h1, h2, h3, h4⟩
    | ret => exact ⟨g', ρ', σ', h1, h2, h3, h4⟩
    | goto i => exact h4.elim
    | panic ch => exact h4.elim
    | outgrown => exact h4.elim
  | .loop c, Q, g, ρ, σ, a, w, hc, hE, hR, h => by
    simp only [codeOk] at hc
    simp only [awp] at h
    obtain ⟨I, n, hI, hround⟩ := h
    refine wp_loop_ghost (fun n a w => ∃ g' ρ σ, g.le g' ∧ ER γ g' a ρ N ∧ Rel B w0 g' σ w ∧ I n ρ σ) n ⟨g, ρ, σ, G.le.refl _, hE, hR, hI⟩ ?_
    rintro n a w ⟨g', ρ', σ', h1, h2, h3, h4⟩
    refine wp_mono (awp_sound hm c _ g' ρ' σ' a w hc h2 h3 (hround n ρ' σ' h4)) ?_
    rintro e a' w' ⟨g'', ρ'', σ'', k1, k2, k3, k4⟩
    cases e with
    | normal =>
      obtain ⟨g3, ρ3, σ3, m1, m2, m3, k, hk, hI⟩ := Rx.sound (show Rx (fun ρ σ => ∃ k, k < n ∧ I k ρ σ) ρ'' σ'' from k4) k2 k3
      exact ⟨k, hk, g3, ρ3, σ3, h1.trans (k1.trans m1), m2, m3, hI⟩
    | exit i => exact ⟨g'', ρ'', σ'', h1.trans k1, k2, k3, k4⟩
    | ret => exact ⟨g'', ρ'', σ'', h1.trans k1, k2, k3, k4⟩
    | goto i => exact k4.elim
    | panic ch => exact k4.elim
    | outgrown => exact k4.elim
  | .exit id, Q, g, ρ, σ, a, w, hc, hE, hR, h => wp_exit ⟨g, ρ, σ, G.le.refl _, hE, hR, by simpa [awp] using h⟩
  | .ret, Q, g, ρ, σ, a, w, hc, hE, hR, h => wp_ret ⟨g, ρ, σ, G.le.refl _, hE, hR, by simpa [awp] using h⟩
  | .rangeFunc .., _, _, _, _, _, _, _, _, _, h => by simp [awp] at h
  | .scope .., _, _, _, _, _, _, _, _, _, h => by simp [awp] at h
  | .label .., _, _, _, _, _, _, _, _, _, h => by simp [awp] at h
  | .goto .., _, _, _, _, _, _, _, _, _, h => by simp [awp] at h

/-! ### a function -/
def ares (P : Program) : List ResultVar → Env → St → (List D → Prop) → Prop
  | [], _, _, K => K []
  | .tmp t :: r, ρ, σ, K => ares P r ρ σ fun ds => K (ρ t :: ds)
  | .cell p t :: r, ρ, σ, K => aload P t (ρ p) σ fun d _ => ares P r ρ σ fun ds => K (d :: ds)

def aone : List D → D
  | [d] => d
  | ds => .tup ds

theorem aread_elim {ag : Bool} {sz : Nat} {l : List D} {off : Nat} {σ : St} {K : D → St → Prop} (h : aread ag sz l off σ K) : ∃ d, aread ag sz l off σ (fun d' σ' => d' = d ∧ σ' = σ) ∧ K d σ := by
  unfold aread at *
  cases ag
  · simp only [Bool.false_eq_true, if_false] at *
    obtain ⟨d, h1, h2⟩ := h
    exact ⟨d, ⟨d, h1, by simp⟩, h2⟩
  · simp only [if_true] at *
    exact ⟨_, ⟨h.1, by simp⟩, h.2⟩
theorem aload_elim {t : TypeId} {p : D} {σ : St} {K : D → St → Prop} (h : aload P t p σ K) : ∃ d, aload P t p σ (fun d' σ' => d' = d ∧ σ' = σ) ∧ K d σ := by
  unfold aload at *
  cases hq : tagg P t with
  | none => rw [hq] at h; cases h
  | some ag =>
    rw [hq] at h
    cases p with
    | ptr i o =>
      obtain ⟨l, T9, h1, h2⟩ := h
      obtain ⟨d, h3, h4⟩ := aread_elim h2
      exact ⟨d, ⟨l, T9, h1, h3⟩, h4⟩
    | eptr cs o => exact aread_elim h
    | _ => exact h.elim

theorem loadVar_of {t : TypeId} {p : Value} {pd : D} (hp : RV g p pd) {σ : St} {K : D → St → Prop} (hl : aload P t pd σ K) {w : World} {v : Value} (h : (Instr.loadAt t p).run P w = .ok v w) :
    (do loadVar t (← asAddr p) : Sem Value).run P w = .ok v w := by
  unfold aload at hl
  split at hl
  · cases hl
  · cases hp <;> simp at hl
    · simpa [Instr.loadAt, Instr.sureAddr, asAddr] using h
    · simpa [Instr.loadAt, Instr.sureAddr, asAddr] using h

def resOne (tmps : Array Value) : ResultVar → Sem Value
  | .tmp t => pure (tmps.getD t undef)
  | .cell p t => do loadVar t (← asAddr (tmps.getD p undef))

theorem results_eq (fn : Func) (tmps : Array Value) : results fn tmps = (do
    let vs ← fn.results.mapM (resOne tmps)
    pure (if h : vs.size = 1 then vs[0] else .tuple vs)) := by
  unfold results
  congr 1

def aoneV : List Value → Value
  | [v] => v
  | vs => .tuple vs.toArray

theorem ares_sound {σ : St} : ∀ (l : List ResultVar) {g : G} {K : List D → Prop}, ER γ g a ρ N → Rel B w0 g σ w → ares P l ρ σ K →
    ∃ g' vs ds, g.le g' ∧ Rel B w0 g' σ w ∧ RVs g' vs ds ∧ K ds ∧ (l.mapM (resOne a.tmps)).run P w = .ok vs w
  | [], g, K, hE, hR, h => ⟨g, [], [], G.le.refl _, hR, ⟨rfl, fun _ _ _ e => by simp at e⟩, h, by simp⟩
  | .tmp t :: r, g, K, hE, hR, h => by
    obtain ⟨g', vs, ds, h1, h2, h3, h4, h5⟩ := ares_sound r hE hR h
    refine ⟨g', a.tmps.getD t undef :: vs, ρ t :: ds, h1, h2, ⟨by simp [h3.1], fun k v d e e' => ?_⟩, h4, ?_⟩
    · cases k with
      | zero => simp only [List.getElem?_cons_zero, Option.some.injEq] at e e'; subst e; subst e'; exact (hE.slot t).mono h1
      | succ k => simp only [List.getElem?_cons_succ] at e e'; exact h3.2 k v d e e'
    · rw [List.mapM_cons]
      simp only [resOne, Sem.run_bind, Sem.run_pure, Result.andThen_ok, h5]
  | .cell p t :: r, g, K, hE, hR, h => by
    obtain ⟨d, k1, k2⟩ := aload_elim (show aload P t (ρ p) σ _ from h)
    obtain ⟨v, m1, d', g1, σ', m2, m3, m4, m5, m6⟩ := load_sound (hE.slot p) hR k1
    subst m5; subst m6
    obtain ⟨g', vs, ds, h1, h2, h3, h4, h5⟩ := ares_sound r (hE.mono m2) m4 k2
    refine ⟨g', v :: vs, d' :: ds, m2.trans h1, h2, ⟨by simp [h3.1], fun k v d e e' => ?_⟩, h4, ?_⟩
    · cases k with
      | zero => simp only [List.getElem?_cons_zero, Option.some.injEq] at e e'; subst e; subst e'; exact m3.mono h1
      | succ k => simp only [List.getElem?_cons_succ] at e e'; exact h3.2 k v d e e'
    · have := loadVar_of (hE.slot p) k1 m1
      rw [List.mapM_cons]
      simp only [Sem.run_bind] at this ⊢
      simp only [resOne, Sem.run_bind, this, Sem.run_pure, Result.andThen_ok, h5]

def afin (P : Program) (rs : List ResultVar) (R : D → St → Prop) : AExit → Env → St → Prop
  | .exit _, _, _ => False
  | _, ρ, σ => Rx (fun ρ σ => ares P rs ρ σ fun ds => ∃ σ', σ'.le σ ∧ R (aone ds) σ') ρ σ

/-- The frame as the call begins. -/
def aenv (args : List D) : Env := fun t => args.getD t (.tup [])

theorem acalls_of_awp (hm : P.follows .mixedOrders = true) {γ : Gl} {f : FuncId} {fn : Func} {c : Code} {rs : List ResultVar} {N : Nat} {args : List D} {σ : St} {R : D → St → Prop}
    (hf : P.funcs[f]? = some fn) (hb : fn.body = some c) (hname : (fn.name != "runtime.NumGoroutine") = true) (hrs : fn.results = rs.toArray) (hn : fn.ntmps = N) (hok : codeOk N c = true) (hargs : args.length ≤ N)
    (h : awp P γ c (afin P rs R) (aenv args) σ) : ACalls P γ f args σ R := by
  subst hn
  have hrs' : fn.results.toList = rs := by rw [hrs]
  subst hrs'
  refine ⟨by simp [okFn, hf, hb, hname], fun B w0 g w vals hγ hv hR => ?_⟩
  refine calls_of_wp hf hb (wp_mono (awp_sound (N := fn.ntmps) hm c _ g (aenv args) σ _ w hok ?_ hR h) ?_)
  · have hl := hv.1
    refine ⟨by simp; omega, fun t => ?_, hγ, rfl⟩
    simp only [aenv]
    by_cases ht : t < args.length
    · have h1 : vals[t]? = some vals[t] := List.getElem?_eq_getElem (by omega)
      have h2 : args[t]? = some args[t] := List.getElem?_eq_getElem ht
      have h3 : (vals.toArray ++ Array.replicate (fn.ntmps - vals.toArray.size) undef).getD t undef = vals[t] := by
        simp [Array.getElem?_append, show t < vals.length by omega]
      have h4 : args.getD t (.tup []) = args[t] := by simp [List.getD, h2]
      rw [h3, h4]
      exact hv.2 t _ _ h1 h2
    · have h3 : (vals.toArray ++ Array.replicate (fn.ntmps - vals.toArray.size) undef).getD t undef = undef := by
        simp only [Array.getD_eq_getD_getElem?, Array.getElem?_append, Array.getElem?_replicate]
        rw [if_neg (by simp; omega)]
        split <;> rfl
      have h4 : args.getD t (.tup []) = .tup [] := by simp [List.getD, List.getElem?_eq_none (Nat.le_of_not_lt ht)]
      rw [h3, h4]; exact rv_undef _
  · rintro e a' w' ⟨g', ρ', σ', h1, h2, h3, h4⟩
    have fin : Rx (fun ρ σ => ares P fn.results.toList ρ σ fun ds => ∃ σ', σ'.le σ ∧ R (aone ds) σ') ρ' σ' → a'.defers = [] ∧ ∃ v, (results fn a'.tmps).run P w' = .ok v w' ∧ ∃ v', Ending.returned v = .returned v' ∧ Comes' B w0 g R v' w' := by
      intro hx
      obtain ⟨g2, ρ2, σ2, k1, k2, k3, k4⟩ := hx.sound h2 h3
      obtain ⟨g3, vs, ds, m1, m2, m3, ⟨σ3, m6, m4⟩, m5⟩ := ares_sound fn.results.toList k2 k3 k4
      refine ⟨k2.defers, aoneV vs, ?_, _, rfl, aone ds, g3, σ3, (h1.trans k1).trans m1, ?_, m2.forget m6, m4⟩
      · rw [results_eq, Array.mapM_eq_mapM_toList]
        simp only [Sem.run_bind, map_eq_pure_bind]
        rw [m5]
        simp only [Result.andThen_ok, Sem.run_pure]
        cases vs with
        | nil => rfl
        | cons x xs => cases xs <;> rfl
      · cases vs with
        | nil =>
          cases ds with
          | nil => exact .tup #[] [] rfl (fun _ _ _ e => by simp at e)
          | cons _ _ => simp [RVs] at m3
        | cons x xs =>
          cases ds with
          | nil => simp [RVs] at m3
          | cons d ds =>
            cases xs with
            | nil =>
              cases ds with
              | nil => exact m3.2 0 x d rfl rfl
              | cons _ _ => simp [RVs] at m3
            | cons y ys =>
              cases ds with
              | nil => simp [RVs] at m3
              | cons d2 ds => exact .tup _ _ (by simpa using m3.1) (fun i v d e e' => m3.2 i v d (by simpa using e) e')
    cases e with
    | normal => exact fin h4
    | ret => exact fin h4
    | exit i => exact h4.elim
    | goto i => exact h4.elim
    | panic ch => exact h4.elim
    | outgrown => exact h4.elim
end
end Go.Av

/- Steps over abstract values. -/
set_option linter.unusedSimpArgs false
set_option linter.unusedVariables false
namespace Go.Av
open Go.RowKit

theorem set_get (ρ : Env) (t : Nat) (d : D) (s : Nat) : (ρ.set t d) s = if s = t then d else ρ s := rfl
theorem one_ne (n : Nat) : (n + 1 = 0) = False := by simp
theorem aenv0 (d : D) (l : List D) : aenv (d :: l) 0 = d := rfl
theorem aenvS (d : D) (l : List D) (n : Nat) : aenv (d :: l) (n + 1) = aenv l n := rfl
theorem aenvN (n : Nat) : aenv [] n = .tup [] := rfl
theorem arr_toList {α : Type} (l : List α) : l.toArray.toList = l := rfl

/-! ### whole numbers -/
theorem w_i64 {n : Int} (h1 : -9223372036854775808 ≤ n) (h2 : n ≤ 9223372036854775807) : IntKind.i64.wrap n = n := IntWalk.i64_in n ⟨h1, h2⟩
theorem w_i32 {n : Int} (h1 : -2147483648 ≤ n) (h2 : n ≤ 2147483647) : IntKind.i32.wrap n = n := IntWalk.i32_in n ⟨h1, h2⟩
theorem w_u8 {n : Int} (h1 : 0 ≤ n) (h2 : n ≤ 255) : IntKind.u8.wrap n = n := IntWalk.u8_in n ⟨h1, h2⟩
theorem w_u16 {n : Int} (h1 : 0 ≤ n) (h2 : n ≤ 65535) : IntKind.u16.wrap n = n := IntWalk.u16_in n ⟨h1, h2⟩
theorem w_u32 {n : Int} (h1 : 0 ≤ n) (h2 : n ≤ 4294967295) : IntKind.u32.wrap n = n := IntWalk.u32_in n ⟨h1, h2⟩
theorem w_u64 {n : Int} (h1 : 0 ≤ n) (h2 : n ≤ 18446744073709551615) : IntKind.u64.wrap n = n := IntWalk.u64_in n ⟨h1, h2⟩
theorem t_mod {a b : Int} (h : 0 ≤ a) : a.tmod b = a % b := Int.tmod_eq_emod_of_nonneg h
theorem t_div {a b : Int} (h : 0 ≤ a) : a.tdiv b = a / b := Int.tdiv_eq_ediv_of_nonneg h

section
variable {P : Program} {γ : Gl} {σ σ' : St} {ρ : Env} {ops rest : List Oper} {Q : Env → St → Prop} {dst : Option Tmp} {op : Op} {ty : TypeId} {pos : String} {aft : Array Edge} {d : D}

theorem abin_ii {op : BinOp} {t : TypeId} {k k' : IntKind} {a b : Int} {K : D → St → Prop} : abin P op t (.int k a) (.int k' b) σ K = abinI op k a k' b σ K := rfl
theorem abin_ss {op : BinOp} {t : TypeId} {a b : List UInt8} {K : D → St → Prop} : abin P op t (.str a) (.str b) σ K = abinS op a b σ K := rfl
theorem abin_bb {op : BinOp} {t : TypeId} {a b : Bool} {K : D → St → Prop} : abin P op t (.bool a) (.bool b) σ K = (isBool P t = true ∧ aeq op (a == b) σ K) := rfl
theorem abin_nn {op : BinOp} {t : TypeId} {K : D → St → Prop} : abin P op t .nilp .nilp σ K = (isPtr P t = true ∧ aeq op true σ K) := rfl
theorem abin_pn {op : BinOp} {t : TypeId} {i o : Nat} {K : D → St → Prop} : abin P op t (.ptr i o) .nilp σ K = (isPtr P t = true ∧ aeq op false σ K) := rfl
theorem abin_np {op : BinOp} {t : TypeId} {i o : Nat} {K : D → St → Prop} : abin P op t .nilp (.ptr i o) σ K = (isPtr P t = true ∧ aeq op false σ K) := rfl
theorem abin_pp {op : BinOp} {t : TypeId} {i o j u : Nat} {K : D → St → Prop} : abin P op t (.ptr i o) (.ptr j u) σ K = (isPtrI P t = true ∧ (i = j ∧ o = u) ∧ aeq op true σ K) := rfl
theorem abin_nl {op : BinOp} {t : TypeId} {K : D → St → Prop} : abin P op t .nil .nil σ K = (isSl P t = true ∧ aeq op true σ K) := rfl
theorem abin_sn {op : BinOp} {t : TypeId} {n : Nat} {cs : List D} {tk : Option (Nat × Nat)} {K : D → St → Prop} : abin P op t (.sl n cs tk) .nil σ K = (isSl P t = true ∧ 0 < n ∧ aeq op false σ K) := rfl
/-- '==' of aggregates. -/
theorem abin_agg {op : BinOp} {t : TypeId} {xs ys : List D} {ks : List LK} {b : Bool} {K : D → St → Prop} (h1 : tagg P t = some true) (h2 : P.eqGuardType P.depth t = false) (h3 : kinds P 20 t = some ks) (h4 : fits ks xs = true) (h5 : fits ks ys = true) (h6 : eqL xs ys = some b) (hk : aeq op b σ K) : abin P op t (.agg xs) (.agg ys) σ K :=
  ⟨⟨h1, h2⟩, ks, h3, h4, h5, b, h6, hk⟩
theorem fits_bytes : ∀ (n : Nat) (l : List UInt8), l.length = n → fits (List.replicate n (.int .u8)) (bytesD l) = true
  | 0, [], _ => rfl
  | n + 1, b :: l, h => by
    have := fits_bytes n l (by simpa using h)
    simp only [List.replicate_succ, bytesD, List.map_cons, fits, fit1, decide_true, Bool.true_and]
    exact this
theorem eqL_bytes : ∀ (l r : List UInt8), l.length = r.length → eqL (bytesD l) (bytesD r) = some (decide (l = r))
  | [], [], _ => rfl
  | a :: l, b :: r, h => by
    have := eqL_bytes l r (by simpa using h)
    simp only [bytesD, List.map_cons, eqL, eq1, if_true] at this ⊢
    rw [this]
    simp only [Option.some.injEq, List.cons.injEq]
    have hab : ((a.toNat : Int) == (b.toNat : Int)) = decide (a = b) := by
      rw [Bool.eq_iff_iff]
      simp only [beq_iff_eq, decide_eq_true_eq]
      constructor
      · intro e; exact UInt8.toNat_inj.1 (by omega)
      · rintro rfl; rfl
    rw [hab, Bool.decide_and]
  | [], _ :: _, h => by simp at h
  | _ :: _, [], h => by simp at h
def mapv (γ : Gl) (ρ : Env) : List (Nat × Operand) → List (Nat × D)
  | [] => []
  | (i, x) :: r => (i, aeval γ ρ x) :: mapv γ ρ r
theorem mapv_nil : mapv γ ρ [] = [] := rfl
theorem mapv_cons (i : Nat) (x : Operand) (r : List (Nat × Operand)) : mapv γ ρ ((i, x) :: r) = (i, aeval γ ρ x) :: mapv γ ρ r := rfl
theorem mapv_eq : ∀ ps : List (Nat × Operand), ps.map (fun p => (p.1, aeval γ ρ p.2)) = mapv γ ρ ps
  | [] => rfl
  | (i, x) :: r => by rw [List.map_cons, mapv_eq r]; rfl
theorem o_bsl {t : TypeId} {n : Nat} {ps : List (Nat × Operand)} {K : D → St → Prop} : aop P γ ρ σ (.buildSlice t n ps.toArray) K = abuildSl P t n (mapv γ ρ ps) σ K := by
  rw [← mapv_eq]; rfl
theorem o_build {t : TypeId} {ps : List (Nat × Operand)} {K : D → St → Prop} : aop P γ ρ σ (.build t ps.toArray) K = abuild P t (mapv γ ρ ps) σ K := by
  rw [← mapv_eq]; rfl
theorem al_nil (h : Q ρ σ) : alist P γ ops Q [] ρ σ := h
theorem al_cons (d : D) (σ' : St) (h : ∀ K : D → St → Prop, K d σ' → aop P γ ρ σ op K) (h2 : alist P γ ops Q rest (ρ.put dst d) σ') : alist P γ ops Q (⟨dst, op, ty, pos, aft, none⟩ :: rest) ρ σ := by
  unfold alist
  exact h _ h2
theorem al_set {t : Nat} (d : D) (σ' : St) (h : ∀ K : D → St → Prop, K d σ' → aop P γ ρ σ op K) (h2 : alist P γ ops Q rest (ρ.set t d) σ') : alist P γ ops Q (⟨some t, op, ty, pos, aft, none⟩ :: rest) ρ σ := al_cons d σ' h h2
theorem al_none (d : D) (σ' : St) (h : ∀ K : D → St → Prop, K d σ' → aop P γ ρ σ op K) (h2 : alist P γ ops Q rest ρ σ') : alist P γ ops Q (⟨none, op, ty, pos, aft, none⟩ :: rest) ρ σ := al_cons d σ' h h2
theorem al_move {t s : Nat} {d : D} (h : ρ s = d) (h2 : alist P γ ops Q rest (ρ.set t d) σ) : alist P γ ops Q (⟨some t, .move (.tmp s), ty, pos, aft, none⟩ :: rest) ρ σ := by
  subst h; exact al_cons _ σ (fun K hK => hK) h2
theorem al_assign {t s : Nat} {d : D} (h : ρ s = d) (h2 : alist P γ ops Q rest (ρ.set t d) σ) : alist P γ ops Q (⟨some t, .assign (.tmp s), ty, pos, aft, none⟩ :: rest) ρ σ := by
  subst h; exact al_cons _ σ (fun K hK => hK) h2
/-- An operation whose answer is not one. -/
theorem al_any {t : Nat} (h : aop P γ ρ σ op fun d σ' => alist P γ ops Q rest (ρ.set t d) σ') : alist P γ ops Q (⟨some t, op, ty, pos, aft, none⟩ :: rest) ρ σ := by
  unfold alist; exact h

theorem awp_region {id : Nat} {l : List Oper} {Q : AExit → Env → St → Prop} (h : alist P γ l (Q .normal) l ρ σ) : awp P γ (.region id l.toArray false) Q ρ σ := by
  simpa only [awp] using h
theorem awp_seq {a b : Code} {Q : AExit → Env → St → Prop} (h : awp P γ a (AExit.thn (fun ρ σ => Rx (awp P γ b Q) ρ σ) Q) ρ σ) : awp P γ (.seq a b) Q ρ σ := by
  simpa only [awp] using h
theorem awp_assoc {a b c : Code} {Q : AExit → Env → St → Prop} (h : awp P γ (.seq a (.seq b c)) Q ρ σ) : awp P γ (.seq (.seq a b) c) Q ρ σ := by
  simp only [awp] at h ⊢
  have : AExit.thn (fun ρ σ => Rx (awp P γ b (AExit.thn (fun ρ σ => Rx (awp P γ c Q) ρ σ) Q)) ρ σ) Q = AExit.thn (fun ρ σ => Rx (awp P γ b (AExit.thn (fun ρ σ => Rx (awp P γ c Q) ρ σ) Q)) ρ σ) (AExit.thn (fun ρ σ => Rx (awp P γ c Q) ρ σ) Q) := by
    funext e; cases e <;> rfl
  rw [this] at h; exact h
/-- A region, and what follows. -/
theorem awp_rs {id : Nat} {l : List Oper} {b : Code} {Q : AExit → Env → St → Prop} (h : alist P γ l (fun ρ σ => Rx (awp P γ b Q) ρ σ) l ρ σ) : awp P γ (.seq (.region id l.toArray false) b) Q ρ σ := awp_seq (awp_region h)
/-! ### an open order, where nothing is changed -/
def apure (P : Program) (γ : Gl) (ops : List Oper) (Q : Env → St → Prop) : List Oper → Env → St → Prop
  | [], ρ, σ => Q ρ σ
  | o :: rest, ρ, σ => match awanted ops ρ o with
    | some true => ∃ d, aop P γ ρ σ o.op (fun d' σ' => d' = d ∧ σ.le σ') ∧ apure P γ ops Q rest (ρ.put o.dst d) σ
    | some false => apure P γ ops Q rest (ρ.put o.dst (.tup [])) σ
    | none => False
theorem apure_passT {obs : List (Nat × (St → Prop))} {Q : Env → St → Prop} (all : List Oper) : ∀ (l : List Oper) (i n : Nat) (ρ : Env) (σ : St), n = l.length → Q ρ σ → passT P γ all obs Q i l (List.replicate n true) ρ σ
  | [], i, n, ρ, σ, hn, h => by subst hn; exact h
  | o :: r, i, n, ρ, σ, hn, h => by
    subst hn
    simp only [List.length_cons, List.replicate_succ, passT]
    exact apure_passT all r (i + 1) r.length ρ σ rfl h
theorem apure_passA {K : Env → List (Nat × (St → Prop)) → Prop} {Q : Env → St → Prop} (all : List Oper) (hK : ∀ ρ obs, Q ρ σ → K ρ obs) : ∀ (l : List Oper) (i n : Nat) (ρ : Env) (obs : List (Nat × (St → Prop))), n = l.length → apure P γ all Q l ρ σ → passA P γ all σ K i l (List.replicate n true) ρ obs
  | [], i, n, ρ, obs, hn, h => by subst hn; exact hK ρ obs h
  | o :: r, i, n, ρ, obs, hn, h => by
    subst hn
    simp only [apure] at h
    simp only [List.length_cons, List.replicate_succ, passA]
    split
    · rename_i hw
      rw [hw] at h
      obtain ⟨d, h1, h2⟩ := h
      exact ⟨d, h1, apure_passA all hK r (i + 1) r.length _ _ rfl h2⟩
    · rename_i hw
      rw [hw] at h
      exact apure_passA all hK r (i + 1) r.length _ _ rfl h
    · rename_i hw
      rw [hw] at h
      exact h

theorem awp_pure {id : Nat} {l : List Oper} {b : Code} {Q : AExit → Env → St → Prop} (hd : dOk (List.replicate l.length true) l = true) (h : apure P γ l (fun ρ σ => Rx (awp P γ b Q) ρ σ) l ρ σ) : awp P γ (.seq (.region id l.toArray true) b) Q ρ σ := by
  refine awp_seq ?_
  simp only [awp, adraw]
  exact ⟨_, hd, apure_passA l (fun ρ obs hq => apure_passT l l 0 l.length ρ σ rfl hq) l 0 l.length ρ _ rfl h⟩
theorem ap_nil (h : Q ρ σ) : apure P γ ops Q [] ρ σ := h
theorem ap_done (h : Q ρ σ) : apure P γ ops (fun ρ σ => Rx Q ρ σ) [] ρ σ := Rx.done h
theorem ap_set {t : Nat} (d : D) (h : ∀ K : D → St → Prop, K d σ → aop P γ ρ σ op K) (h2 : apure P γ ops Q rest (ρ.set t d) σ) : apure P γ ops Q (⟨some t, op, ty, pos, aft, none⟩ :: rest) ρ σ := by
  unfold apure
  exact ⟨d, h _ ⟨rfl, St.le.refl _⟩, h2⟩
theorem ap_guard {t : Nat} {j : Nat} {want b : Bool} {g : Tmp} (hg : (ops[j]?).bind (·.dst) = some g) (hv : ρ g = .bool b) (h1 : b = want → apure P γ ops Q (⟨some t, op, ty, pos, aft, none⟩ :: rest) ρ σ) (h0 : b ≠ want → apure P γ ops Q rest (ρ.set t (.tup [])) σ) :
    apure P γ ops Q (⟨some t, op, ty, pos, aft, some (j, want)⟩ :: rest) ρ σ := by
  cases hp : ops[j]? with
  | none => simp [hp] at hg
  | some p =>
    simp [hp] at hg
    have hw : awanted ops ρ ⟨some t, op, ty, pos, aft, some (j, want)⟩ = some (b == want) := by
      simp only [awanted, hp, hg, hv]
    unfold apure
    rw [hw]
    by_cases hb : b = want
    · have := h1 hb
      rw [show (b == want) = true by simpa using hb]
      unfold apure at this
      exact this
    · rw [show (b == want) = false by simpa using hb]
      exact h0 hb
theorem ap_guard0 {t : Nat} {j : Nat} {want : Bool} {g : Tmp} (hg : (ops[j]?).bind (·.dst) = some g) (hv : ρ g = .tup []) (h0 : apure P γ ops Q rest (ρ.set t (.tup [])) σ) :
    apure P γ ops Q (⟨some t, op, ty, pos, aft, some (j, want)⟩ :: rest) ρ σ := by
  cases hp : ops[j]? with
  | none => simp [hp] at hg
  | some p =>
    simp [hp] at hg
    have hw : awanted ops ρ ⟨some t, op, ty, pos, aft, some (j, want)⟩ = some false := by
      simp only [awanted, hp, hg, hv]
    unfold apure
    rw [hw]
    exact h0
theorem al_done (h : Q ρ σ) : alist P γ ops (fun ρ σ => Rx Q ρ σ) [] ρ σ := Rx.done h
theorem awp_cond {c : Operand} {x y : Code} {Q : AExit → Env → St → Prop} {b : Bool} (hc : aeval γ ρ c = .bool b) (h1 : b = true → awp P γ x Q ρ σ) (h2 : b = false → awp P γ y Q ρ σ) : awp P γ (.cond c x y) Q ρ σ := by
  simp only [awp, hc]
  cases b
  · exact h2 rfl
  · exact h1 rfl
theorem awp_skip {Q : AExit → Env → St → Prop} (h : Q .normal ρ σ) : awp P γ .skip Q ρ σ := by simpa only [awp] using h
theorem awp_exit {Q : AExit → Env → St → Prop} {id : Nat} (h : Q (.exit id) ρ σ) : awp P γ (.exit id) Q ρ σ := by simpa only [awp] using h
theorem awp_ret {Q : AExit → Env → St → Prop} (h : Q .ret ρ σ) : awp P γ .ret Q ρ σ := by simpa only [awp] using h
theorem awp_block {Q : AExit → Env → St → Prop} {id : Nat} {c : Code} (h : awp P γ c (AExit.blk id Q) ρ σ) : awp P γ (.block id c) Q ρ σ := by simpa only [awp] using h
theorem awp_loop {Q : AExit → Env → St → Prop} {c : Code} (I : Nat → Env → St → Prop) (n : Nat) (h0 : I n ρ σ) (h : ∀ n ρ σ, I n ρ σ → awp P γ c (AExit.thn (fun ρ' σ' => Rx (fun ρ σ => ∃ k, k < n ∧ I k ρ σ) ρ' σ') Q) ρ σ) : awp P γ (.loop c) Q ρ σ := by
  simp only [awp]; exact ⟨I, n, h0, h⟩
/-- The end. -/
theorem aload_mono {t : TypeId} {p : D} {K K' : D → St → Prop} (hk : ∀ d σ, K d σ → K' d σ) (h : aload P t p σ K) : aload P t p σ K' := by
  have hr : ∀ ag sz l off, aread ag sz l off σ K → aread ag sz l off σ K' := fun ag sz l off h => by
    unfold aread at *
    cases ag
    · simp only [Bool.false_eq_true, if_false] at *; obtain ⟨d, h1, h2⟩ := h; exact ⟨d, h1, hk _ _ h2⟩
    · simp only [if_true] at *; exact ⟨h.1, hk _ _ h.2⟩
  unfold aload at *
  cases hq : tagg P t with
  | none => rw [hq] at h; cases h
  | some ag =>
    rw [hq] at h
    cases p with
    | ptr i o => obtain ⟨l, T, h1, h2⟩ := h; exact ⟨l, T, h1, hr _ _ _ _ h2⟩
    | eptr cs o => exact hr _ _ _ _ h
    | _ => exact h.elim
theorem ares_mono : ∀ (rs : List ResultVar) {K K' : List D → Prop}, (∀ ds, K ds → K' ds) → ares P rs ρ σ K → ares P rs ρ σ K'
  | [], K, K', h, hk => h _ hk
  | .tmp t :: r, K, K', h, hk => ares_mono r (fun ds => h _) hk
  | .cell p t :: r, K, K', h, hk => aload_mono (fun d _ hd => ares_mono r (fun ds => h _) hd) (show aload P t (ρ p) σ _ from hk)
theorem Rx.mono {Q Q' : Env → St → Prop} (hq : ∀ ρ σ, Q ρ σ → Q' ρ σ) (h : Rx Q ρ σ) : Rx Q' ρ σ := by
  induction h with
  | done h => exact .done (hq _ _ h)
  | forget s hs _ ih => exact .forget s hs ih
  | weak t d hw _ ih => exact .weak t d hw ih
  | freeze id l T ts hs _ ih => exact .freeze id l T ts hs ih
  | cap t id off n sz ht _ ih => exact .cap t id off n sz ht ih
  | wkc id l l' T hs hl hw _ ih => exact .wkc id l l' T hs hl hw ih
theorem afin_ret {rs : List ResultVar} {R : D → St → Prop} (h : Rx (fun ρ σ => ares P rs ρ σ fun ds => R (aone ds) σ) ρ σ) : afin P rs R .ret ρ σ :=
  h.mono fun ρ σ hr => ares_mono rs (fun ds hd => ⟨σ, St.le.refl _, hd⟩) hr
/-- .. where what is known of the results' own cells goes. -/
theorem afin_cell {rs : List ResultVar} {R : D → St → Prop} (s : St) (hs : s.le σ) (h : ares P rs ρ σ fun ds => R (aone ds) s) : afin P rs R .ret ρ σ :=
  Rx.done (ares_mono rs (fun ds hd => ⟨s, hs, hd⟩) h)
/-- An operation that makes something new: whatever its name. σb: the state that a new name must not be in. -/
theorem al_fresh {t : Nat} (σb : St) (f : Nat → D) (g : Nat → St) (h : ∀ K : D → St → Prop, (∀ id, σb id = none → K (f id) (g id)) → aop P γ ρ σ op K) (h2 : ∀ id, σb id = none → alist P γ ops Q rest (ρ.set t (f id)) (g id)) : alist P γ ops Q (⟨some t, op, ty, pos, aft, none⟩ :: rest) ρ σ :=
  al_any (h _ h2)
/-- Operations under a guard. -/
theorem al_guard {t : Nat} {j : Nat} {want b : Bool} {g : Tmp} (hg : (ops[j]?).bind (·.dst) = some g) (hv : ρ g = .bool b) (h1 : b = want → alist P γ ops Q (⟨some t, op, ty, pos, aft, none⟩ :: rest) ρ σ) (h0 : b ≠ want → alist P γ ops Q rest (ρ.set t (.tup [])) σ) :
    alist P γ ops Q (⟨some t, op, ty, pos, aft, some (j, want)⟩ :: rest) ρ σ := by
  cases hp : ops[j]? with
  | none => simp [hp] at hg
  | some p =>
    simp [hp] at hg
    have hw : awanted ops ρ ⟨some t, op, ty, pos, aft, some (j, want)⟩ = some (b == want) := by
      simp only [awanted, hp, hg, hv]
    unfold alist
    rw [hw]
    by_cases hb : b = want
    · have := h1 hb
      rw [show (b == want) = true by simpa using hb]
      unfold alist at this
      exact this
    · rw [show (b == want) = false by simpa using hb]
      exact h0 hb
theorem al_guard0 {t : Nat} {j : Nat} {want : Bool} {g : Tmp} (hg : (ops[j]?).bind (·.dst) = some g) (hv : ρ g = .tup []) (h0 : alist P γ ops Q rest (ρ.set t (.tup [])) σ) :
    alist P γ ops Q (⟨some t, op, ty, pos, aft, some (j, want)⟩ :: rest) ρ σ := by
  cases hp : ops[j]? with
  | none => simp [hp] at hg
  | some p =>
    simp [hp] at hg
    have hw : awanted ops ρ ⟨some t, op, ty, pos, aft, some (j, want)⟩ = some false := by
      simp only [awanted, hp, hg, hv]
    unfold alist
    rw [hw]
    exact h0

/-! ### tests and loops -/
theorem awp_if {c : Operand} {x rest : Code} {Q : AExit → Env → St → Prop} {b : Bool} (hc : aeval γ ρ c = .bool b) (h1 : b = true → awp P γ x (AExit.thn (fun ρ σ => Rx (awp P γ rest Q) ρ σ) Q) ρ σ) (h2 : b = false → awp P γ rest Q ρ σ) : awp P γ (.seq (.cond c x .skip) rest) Q ρ σ :=
  awp_seq (awp_cond hc h1 fun h => awp_skip (Rx.done (h2 h)))
theorem awp_test {c : Operand} {id : Nat} {rest : Code} {Q : AExit → Env → St → Prop} {b : Bool} (hc : aeval γ ρ c = .bool b) (h1 : b = true → awp P γ rest Q ρ σ) (h2 : b = false → Q (.exit id) ρ σ) : awp P γ (.seq (.cond c .skip (.exit id)) rest) Q ρ σ :=
  awp_seq (awp_cond hc (fun h => awp_skip (Rx.done (h1 h))) fun h => awp_exit (h2 h))
/-- What a loop's round comes to: another round, what follows the loop, a return. -/
def LQ (P : Program) (γ : Gl) (id : Nat) (rest : Code) (I : Nat → Env → St → Prop) (n : Nat) (Q : AExit → Env → St → Prop) : AExit → Env → St → Prop
  | .normal, ρ, σ => Rx (fun ρ σ => ∃ k, k < n ∧ I k ρ σ) ρ σ
  | .exit i, ρ, σ => if i = id then Rx (awp P γ rest Q) ρ σ else Q (.exit i) ρ σ
  | .ret, ρ, σ => Q .ret ρ σ
theorem awp_Q {c : Code} {Q Q' : AExit → Env → St → Prop} (h : Q = Q') (hc : awp P γ c Q ρ σ) : awp P γ c Q' ρ σ := h ▸ hc
theorem awp_while {id : Nat} {c rest : Code} {Q : AExit → Env → St → Prop} (I : Nat → Env → St → Prop) (n : Nat) (h0 : I n ρ σ) (h : ∀ n ρ σ, I n ρ σ → awp P γ c (LQ P γ id rest I n Q) ρ σ) : awp P γ (.seq (.block id (.loop c)) rest) Q ρ σ := by
  refine awp_seq (awp_block (awp_loop I n h0 fun n ρ σ hI => awp_Q ?_ (h n ρ σ hI)))
  funext e ρ σ
  cases e with
  | normal => rfl
  | exit i =>
    simp only [LQ, AExit.thn, AExit.blk]
    split <;> rfl
  | ret => rfl
theorem lq_exit {id : Nat} {rest : Code} {I : Nat → Env → St → Prop} {n : Nat} {Q : AExit → Env → St → Prop} (h : awp P γ rest Q ρ σ) : LQ P γ id rest I n Q (.exit id) ρ σ := by
  simp only [LQ, if_true]; exact Rx.done h
theorem lq_next {id : Nat} {rest : Code} {I : Nat → Env → St → Prop} {n : Nat} {Q : AExit → Env → St → Prop} (k : Nat) (hk : k < n) (h : I k ρ σ) : LQ P γ id rest I n Q .normal ρ σ := Rx.done ⟨k, hk, h⟩
/-- The body of a round, in its block: no way out of the block but its end. -/
theorem awp_body {id : Nat} {c rest : Code} {Q : AExit → Env → St → Prop} (h : awp P γ c (AExit.blk id (AExit.thn (fun ρ σ => Rx (awp P γ rest Q) ρ σ) Q)) ρ σ) : awp P γ (.seq (.block id c) rest) Q ρ σ := awp_seq (awp_block h)

/-! ### what may be said less -/
theorem rx_tok {Q : Env → St → Prop} {t id sz n : Nat} {cs c0 : List D} {e : TypeId} (ht : ρ t = .sl n cs (some (id, sz))) (h0 : σ id = none) (h : Rx Q (ρ.set t (.sl n cs none)) σ) : Rx Q ρ (σ.set id (.tok e c0)) := by
  refine .forget σ (fun i o e => ?_) (.weak t (.sl n cs none) (by rw [ht]; exact .tok n cs _) h)
  simp only [St.set]
  split
  · rename_i hi; subst hi; rw [h0] at e; cases e
  · exact e
theorem rx_drop {Q : Env → St → Prop} {id : Nat} {o : Ob} (h0 : σ id = none) (h : Rx Q ρ σ) : Rx Q ρ (σ.set id o) := by
  refine .forget σ (fun i o' e => ?_) h
  simp only [St.set]
  split
  · rename_i hi; subst hi; rw [h0] at e; cases e
  · exact e
theorem rx_nil {Q : Env → St → Prop} {t : Nat} (ht : ρ t = .nil) (h : Rx Q (ρ.set t (.sl 0 [] none)) σ) : Rx Q ρ σ := .weak t _ (by rw [ht]; exact .nil) h

/-! ### rows -/
theorem length_bytesD (l : List UInt8) : (bytesD l).length = l.length := by simp [bytesD]
theorem bytesD_nil : bytesD [] = [] := rfl
theorem bytesD_cons (b : UInt8) (l : List UInt8) : bytesD (b :: l) = .int .u8 b.toNat :: bytesD l := rfl
theorem bytesD_append (a b : List UInt8) : bytesD (a ++ b) = bytesD a ++ bytesD b := by simp [bytesD]
theorem xcells_sl {σ : St} {sz n : Nat} {cs : List D} {t : Option (Nat × Nat)} (h : cs.length = n * sz) : xcells σ sz (.sl n cs t) = some (n, cs) := by simp only [xcells, h, if_true]
theorem aconv_int {s d : TypeId} {k : IntKind} {n : Int} {K : D → St → Prop} : aconv P s d (.int k n) σ K = ((P.underlying s).isSome = true ∧ match intT P d with | some k => K (.int k (k.wrap n)) σ | none => False) := rfl
theorem conv_bytes {s d e : TypeId} {l : List UInt8} {t : Option (Nat × Nat)} {K : D → St → Prop} (hd : isStr P d = true) (he : elt P s = some (e, 1, 1)) (hi : intT P e = some .u8) (hk : K (.str l) σ) : aconv P s d (.sl l.length (bytesD l) t) σ K :=
  ⟨hd, ⟨e, he, hi⟩, l, rfl, rfl, hk⟩
theorem conv_bytes' {s d e : TypeId} {l : List UInt8} {n : Nat} {cs : List D} {t : Option (Nat × Nat)} {K : D → St → Prop} (hd : isStr P d = true) (he : elt P s = some (e, 1, 1)) (hi : intT P e = some .u8) (hc : cs = bytesD l) (hn : n = l.length) (hk : K (.str l) σ) : aconv P s d (.sl n cs t) σ K :=
  ⟨hd, ⟨e, he, hi⟩, l, hc, hn, hk⟩
theorem conv_nil {s d e : TypeId} {K : D → St → Prop} (hd : isStr P d = true) (he : elt P s = some (e, 1, 1)) (hi : intT P e = some .u8) (hk : K (.str []) σ) : aconv P s d .nil σ K := ⟨hd, ⟨e, he, hi⟩, hk⟩
theorem conv_str {s d : TypeId} {l : List UInt8} {K : D → St → Prop} (hs : isStr P s = true) (hd : isStr P d = true) (hk : K (.str l) σ) : aconv P s d (.str l) σ K := ⟨hs, .inl ⟨hd, hk⟩⟩
theorem conv_row {s d e : TypeId} {l : List UInt8} {K : D → St → Prop} (hs : isStr P s = true) (he : elt P d = some (e, 1, 1)) (hi : intT P e = some .u8) (hl : l.length ≤ 140737488355328) (hk : ∀ id, σ id = none → K (.osl id 0 l.length 1) (σ.set id (.cells (bytesD l) e))) : aconv P s d (.str l) σ K := ⟨hs, .inr ⟨e, he, hi, hl, .inr (.inl hk)⟩⟩
theorem bsl_int0 {t e : TypeId} {by_ : Nat} {z : D} {k : IntKind} {n : Int} {K : D → St → Prop} (he : elt P t = some (e, 1, by_)) (hz : zc P e = some [z]) (hk : K (.sl 1 [.int k n] none) σ) :
    abuildSl P t 1 [(0, .int k n)] σ K := by
  simp only [abuildSl, he, hz]
  refine ⟨by decide, ?_⟩
  have : afill (fun i => some (i * 1, 1)) (List.replicate 1 [z]).flatten [(0, .int k n)] = some [.int k n] := by
    simp [afill, okc, D.one, cellsOf, splice]
  rw [this]
  exact .inr (.inr hk)
/-- A row of one number. -/
theorem bsl_int {t e : TypeId} {by_ : Nat} {z : D} {k : IntKind} {n : Int} {K : D → St → Prop} (he : elt P t = some (e, 1, by_)) (hz : zc P e = some [z]) (hk : ∀ id, σ id = none → K (.sl 1 [.int k n] (some (id, 1))) (σ.set id (.tok e [.int k n]))) :
    abuildSl P t 1 [(0, .int k n)] σ K := by
  simp only [abuildSl, he, hz]
  refine ⟨by decide, ?_⟩
  have : afill (fun i => some (i * 1, 1)) (List.replicate 1 [z]).flatten [(0, .int k n)] = some [.int k n] := by
    simp [afill, okc, D.one, cellsOf, splice]
  rw [this]
  exact .inl hk
theorem del_set {σ : St} {i : Nat} (o : Ob) (h : σ i = none) : (σ.set i o).del i = σ := by
  funext j
  simp only [St.set, St.del]
  split
  · rename_i hj; subst hj; exact h.symm
  · rfl
theorem app_tok {e : TypeId} {sz bytes : Nat} {n0 n t : Nat} {cs ds c0 : List D} {K : D → St → Prop} (h0 : σ t = none) (hb : (n0 + n) * bytes ≤ 140737488355328) (hk : ∀ id, σ id = none → K (.sl (n0 + n) (cs ++ ds) (some (id, sz))) (σ.set id (.tok e (cs ++ ds)))) :
    aapp (σ.set t (.tok e c0)) e sz bytes (.sl n0 cs (some (t, sz))) n ds K := by
  refine ⟨rfl, ⟨c0, by simp [St.set]⟩, hb, fun id hid => ?_⟩
  rw [del_set _ h0]
  refine hk id ?_
  simp only [St.set] at hid
  split at hid
  · cases hid
  · exact hid
theorem app_nil {e : TypeId} {sz bytes : Nat} {n : Nat} {ds : List D} {K : D → St → Prop} (hn : 0 < n) (hb : n * bytes ≤ 140737488355328) (hk : ∀ id, σ id = none → K (.sl n ds (some (id, sz))) (σ.set id (.tok e ds))) :
    aapp σ e sz bytes .nil n ds K := by
  simp only [aapp, if_neg (show n ≠ 0 by omega)]
  exact ⟨hb, .inl hk⟩
theorem set_same (σ : St) (i : Nat) (o : Ob) : (σ.set i o) i = some o := by simp [St.set]
theorem set_set (σ : St) (i : Nat) (o o' : Ob) : (σ.set i o).set i o' = σ.set i o' := by
  funext j; simp only [St.set]; split <;> rfl
theorem set_other {σ : St} {i j : Nat} (o : Ob) (h : j ≠ i) : (σ.set i o) j = σ j := by simp [St.set, h]
theorem fresh_ne {σ : St} {i j : Nat} {o : Ob} (h : (σ.set i o) j = none) : j ≠ i ∧ σ j = none := by
  simp only [St.set] at h
  split at h
  · cases h
  · rename_i hn; exact ⟨hn, h⟩
end
section
variable {P : Program} {γ : Gl} {σ : St} {ρ : Env} {K : D → St → Prop}
/-! the defining equations, once for all texts -/
theorem warm_aop (x : Operand) : aop P γ ρ σ (.move x) K = K (aeval γ ρ x) σ := by simp only [aop]
theorem warm_aeval (t : Tmp) : aeval γ ρ (.tmp t) = ρ t := by simp only [aeval]
theorem warm_ofVal : ofVal (.bool true) = .bool true := by simp only [ofVal, ofVal1]
theorem warm_abin (t : TypeId) (a b : Int) : abin P .add t (.int .i64 a) (.int .i64 b) σ K = K (.int .i64 (IntKind.i64.wrap (a + b))) σ := by simp only [abin, abinI, true_and]
theorem warm_abinS (t : TypeId) (a b : List UInt8) : abin P .eql t (.str a) (.str b) σ K = K (.bool (a == b)) σ := by simp only [abin, abinS]
theorem warm_aeq (b : Bool) : aeq .eql b σ K = K (.bool b) σ := by simp only [aeq]
theorem warm_aun (b : Bool) : aun .not (.bool b) σ K = K (.bool (!b)) σ := by simp only [aun]
theorem warm_alen (t : TypeId) : abuiltin P .len [t] [.nil] σ K = (isSl P t = true ∧ K (.int .i64 0) σ) := by simp only [abuiltin, alen]
theorem warm_conv (t u : TypeId) : aconv P t u .nilp σ K = False := by simp only [aconv]
theorem warm_load (t : TypeId) (h : tagg P t = none) : aload P t .nilp σ K = False := by simp only [aload, h]
theorem warm_read (l : List D) : aread true 1 l 0 σ K = (0 + 1 ≤ l.length ∧ K (.agg ((l.drop 0).take 1)) σ) := by simp only [aread, if_true]
theorem warm_store (t : TypeId) (x : D) : astore P t .nilp x σ K = False := by simp only [astore]
theorem warm_field (t : TypeId) (h : fld P t 0 = none) : afield P t .nilp 0 σ K = False := by simp only [afield, h]
theorem warm_fieldAddr (t : TypeId) (h : fld P t 0 = none) : afieldAddr P t .nilp 0 σ K = False := by simp only [afieldAddr, h]
theorem warm_extract (d : D) : aextract (.tup [d]) 0 σ K = K d σ := by simp only [aextract, List.getElem?_cons_zero, Option.some.injEq, exists_eq_left']
theorem warm_index (t : TypeId) (x : D) : aindex P t x .nilp σ K = False := by simp only [aindex]
theorem warm_indexAddr (t : TypeId) (x : D) : aindexAddr P t x .nilp σ K = False := by simp only [aindexAddr]
theorem warm_nilCheck : anilCheck .nilp σ K = False := by simp only [anilCheck]
theorem warm_slice (t : TypeId) : aslice P t .nilp none none none σ K = False := by simp only [aslice]
theorem warm_build (t : TypeId) (h : zc P t = none) : abuild P t [] σ K = False := by simp only [abuild, h]
theorem warm_buildSl (t : TypeId) (h : elt P t = none) : abuildSl P t 0 [] σ K = False := by simp only [abuildSl, h]
theorem warm_make (t : TypeId) (h : elt P t = none) : amake P t .nilp .nilp σ K = False := by simp only [amake, h]
theorem warm_alloc (t : TypeId) (h : zc P t = none) : aalloc P t σ K = False := by simp only [aalloc, h]
theorem warm_box : abox 5 .nilp σ K = (okc .nilp = true ∧ anew 5 (cellsOf .nilp) σ K) := by simp only [abox]
theorem warm_cells : cellsOf .nilp = [.nilp] ∧ okc (.agg []) = true := by simp only [cellsOf, okc, true_and]
theorem warm_xcells (l : List UInt8) : xcells σ 1 (.str l) = some (l.length, bytesD l) := by simp only [xcells, if_true]
theorem warm_app : aapp σ 5 1 1 .nil 0 [] K = K .nil σ := by simp only [aapp, if_true]
theorem warm_bound (n : Nat) : abound none n = some n := by simp only [abound]
theorem warm_copy (t : TypeId) (h : elt P t = none) : acopy P t .nil .nil σ K = False := by simp only [acopy, h]
theorem warm_mm : aminmax true [.int .i64 0, .int .i64 0] σ K = K (.int .i64 0) σ := by simp only [aminmax]; split <;> split <;> rfl
theorem warm_wanted (ops : List Oper) (op : Op) (t : TypeId) (p : String) (e : Array Edge) : awanted ops ρ ⟨none, op, t, p, e, none⟩ = some true := by simp only [awanted]
theorem warm_frz : frzs 0 [] [] ρ = ρ ∧ frzD 0 [] .nil = .nil := by simp only [frzs, frzD, true_and]
theorem warm_fill (pl : Nat → Option (Nat × Nat)) : afill pl [] [] = some [] := by simp only [afill]
theorem warm_one : D.one .nil = true := by simp only [D.one]
theorem warm_eqL : eqL [] [] = some true ∧ eq1 .nil .nil = none ∧ fits [] [] = true ∧ fit1 .bool (.bool true) = true := by simp only [eqL, eq1, fits, fit1, true_and]
end
end Go.Av

/- More steps: objects, rows that are owned. -/
set_option linter.unusedSimpArgs false
set_option linter.unusedVariables false
namespace Go.Av
open Go.RowKit

section
variable {P : Program} {γ : Gl} {σ σ' : St} {ρ : Env} {ops rest : List Oper} {Q : Env → St → Prop} {dst : Option Tmp} {op : Op} {ty : TypeId} {pos : String} {aft : Array Edge} {d : D} {K : D → St → Prop}

/-- An operation that is known by what it comes to. -/
theorem al_rel {t : Nat} (R : D → St → Prop) (h : ∀ K : D → St → Prop, (∀ d s, R d s → K d s) → aop P γ ρ σ op K) (h2 : ∀ d s, R d s → alist P γ ops Q rest (ρ.set t d) s) : alist P γ ops Q (⟨some t, op, ty, pos, aft, none⟩ :: rest) ρ σ :=
  al_any (h _ h2)

theorem box_agg {T : TypeId} {cs : List D} (hk : ∀ id, σ id = none → K (.ptr id 0) (σ.set id (.cells cs T))) : abox T (.agg cs) σ K := ⟨rfl, hk⟩
theorem box_one {T : TypeId} {d : D} (h1 : okc d = true) (h2 : cellsOf d = [d]) (hk : ∀ id, σ id = none → K (.ptr id 0) (σ.set id (.cells [d] T))) : abox T d σ K := ⟨h1, by rw [h2]; exact hk⟩
theorem alloc_z {T : TypeId} {z : List D} (hz : zc P T = some z) (hk : ∀ id, σ id = none → K (.ptr id 0) (σ.set id (.cells z T))) : aalloc P T σ K := by
  simp only [aalloc, hz]; exact hk
theorem slice_ptr0 {t e T : TypeId} {n sz id : Nat} {ls : List D} (ha : arrT P t = some (n, e, sz)) (h0 : 0 < n) (h1 : n ≤ 9223372036854775807) (hs : σ id = some (.cells ls T)) (hl : n * sz ≤ ls.length) (hk : K (.osl id 0 n sz) σ) : aslice P t (.ptr id 0) none none none σ K := by
  simp only [aslice, ha]
  refine ⟨rfl, h1, 0, n, ls, T, rfl, rfl, Nat.zero_le _, Nat.le_refl _, hs, by omega, ?_⟩
  rw [if_neg (by omega)]
  simpa using hk
theorem conv_osl {s d e T : TypeId} {l : List UInt8} {ls : List D} {id off n sz : Nat} (hd : isStr P d = true) (he : elt P s = some (e, 1, 1)) (hi : intT P e = some .u8) (hs : σ id = some (.cells ls T)) (hl : (ls.drop off).take n = bytesD l) (hn : n = l.length) (hk : K (.str l) σ) : aconv P s d (.osl id off n sz) σ K :=
  ⟨hd, ⟨e, he, hi⟩, ls, T, l, hs, hl, hn, hk⟩
theorem load1_ptr {t T : TypeId} {id off : Nat} {l : List D} {d : D} (ht : tagg P t = some false) (hs : σ id = some (.cells l T)) (hd : l[off]? = some d) (hk : K d σ) : aload P t (.ptr id off) σ K := by
  simp only [aload, ht]
  exact ⟨l, T, hs, by simp only [aread, Bool.false_eq_true, if_false]; exact ⟨d, hd, hk⟩⟩
theorem loadA_ptr {t T : TypeId} {id off sz : Nat} {l : List D} (ht : tagg P t = some true) (hz : tsz P t = sz) (hs : σ id = some (.cells l T)) (hl : off + sz ≤ l.length) (hk : K (.agg ((l.drop off).take sz)) σ) : aload P t (.ptr id off) σ K := by
  subst hz
  simp only [aload, ht]
  exact ⟨l, T, hs, by simp only [aread, if_true]; exact ⟨hl, hk⟩⟩
theorem load1_e {t : TypeId} {off : Nat} {l : List D} {d : D} (ht : tagg P t = some false) (hd : l[off]? = some d) (hk : K d σ) : aload P t (.eptr l off) σ K := by
  simp only [aload, ht, aread, Bool.false_eq_true, if_false]; exact ⟨d, hd, hk⟩
theorem loadA_e {t : TypeId} {off sz : Nat} {l : List D} (ht : tagg P t = some true) (hz : tsz P t = sz) (hl : off + sz ≤ l.length) (hk : K (.agg ((l.drop off).take sz)) σ) : aload P t (.eptr l off) σ K := by
  subst hz
  simp only [aload, ht, aread, if_true]; exact ⟨hl, hk⟩
theorem store_ptr {t T : TypeId} {b : Bool} {id off sz : Nat} {l : List D} {x : D} (ht : tagg P t = some b) (hz : tsz P t = sz) (hx : (cellsOf x).length = sz) (ho : okc x = true) (hs : σ id = some (.cells l T)) (hl : off + sz ≤ l.length) (hk : K (.tup []) (σ.set id (.cells (splice l off (cellsOf x)) T))) : astore P t (.ptr id off) x σ K := by
  subst hz
  exact ⟨by rw [ht]; rfl, l, T, hs, ho, hx, by omega, hk⟩

/-- A row that is owned: n elements whose cells are cs, over a state that knows nothing of it. -/
def Own (σ : St) (e : TypeId) (sz n : Nat) (cs : List D) (d : D) (s : St) : Prop :=
  (n = 0 ∧ cs = [] ∧ d = .nil ∧ s = σ) ∨ ∃ id, σ id = none ∧ cs.length = n * sz ∧ d = .sl n cs (some (id, sz)) ∧ s = σ.set id (.tok e cs)
theorem own_nil (σ : St) (e : TypeId) (sz : Nat) : Own σ e sz 0 [] .nil σ := .inl ⟨rfl, rfl, rfl, rfl⟩
theorem own_app {e : TypeId} {sz bytes n m : Nat} {cs ds : List D} {d : D} {s : St} (h : Own σ e sz n cs d s) (hm : 0 < m) (hd : ds.length = m * sz) (hb : (n + m) * bytes ≤ 140737488355328) (hk : ∀ d' s', Own σ e sz (n + m) (cs ++ ds) d' s' → K d' s') : aapp s e sz bytes d m ds K := by
  rcases h with ⟨rfl, rfl, rfl, rfl⟩ | ⟨id, h0, hl, rfl, rfl⟩
  · refine app_nil hm (by simpa using hb) fun id hid => hk _ _ (.inr ⟨id, hid, by simpa using hd, ?_, ?_⟩)
    · simp
    · simp
  · exact app_tok h0 hb fun id hid => hk _ _ (.inr ⟨id, hid, by rw [List.length_append, hl, hd, Nat.add_mul], rfl, rfl⟩)
theorem own_get {e : TypeId} {sz n : Nat} {cs : List D} {d : D} {s : St} (h : Own σ e sz n cs d s) {i : Nat} {o : Ob} (hi : σ i = some o) : s i = some o := by
  rcases h with ⟨_, _, _, rfl⟩ | ⟨id, h0, _, _, rfl⟩
  · exact hi
  · rw [set_other _ (by rintro rfl; rw [h0] at hi; cases hi)]; exact hi
/-- The row is let go for good. -/
theorem rx_own {e : TypeId} {sz n t : Nat} {cs : List D} {d : D} {s : St} (h : Own σ e sz n cs d s) (ht : ρ t = d) (hq : Rx Q (ρ.set t (.sl n cs none)) σ) : Rx Q ρ s := by
  rcases h with ⟨rfl, rfl, rfl, rfl⟩ | ⟨id, h0, hl, rfl, rfl⟩
  · exact rx_nil ht hq
  · exact rx_tok ht h0 hq
theorem len_own {t : TypeId} {e : TypeId} {sz n : Nat} {cs : List D} {d : D} {s : St} (h : Own σ e sz n cs d s) (hs : isSl P t = true) (hk : K (.int .i64 n) s) : alen P t d s K := by
  rcases h with ⟨rfl, rfl, rfl, rfl⟩ | ⟨id, h0, hl, rfl, rfl⟩
  · exact ⟨hs, hk⟩
  · exact ⟨hs, hk⟩
theorem own_len {e : TypeId} {sz n : Nat} {cs : List D} {d : D} {s : St} (h : Own σ e sz n cs d s) : cs.length = n * sz := by
  rcases h with ⟨rfl, rfl, _⟩ | ⟨id, h0, hl, _⟩
  · simp
  · exact hl
theorem conv_own {s' d' e : TypeId} {l : List UInt8} {n : Nat} {d : D} {s : St} (h : Own σ e 1 n (bytesD l) d s) (hd : isStr P d' = true) (he : elt P s' = some (e, 1, 1)) (hi : intT P e = some .u8) (hk : K (.str l) s) : aconv P s' d' d s K := by
  rcases h with ⟨rfl, hb, rfl, rfl⟩ | ⟨id, h0, hl, rfl, rfl⟩
  · have : l = [] := by cases l with | nil => rfl | cons => cases hb
    subst this; exact conv_nil hd he hi hk
  · exact conv_bytes' hd he hi rfl (by rw [length_bytesD] at hl; omega) hk
theorem xcells_osl {sz n id off : Nat} {l : List D} {T : TypeId} (hs : σ id = some (.cells l T)) (hl : off + n * sz ≤ l.length) : xcells σ sz (.osl id off n sz) = some (n, (l.drop off).take (n * sz)) := by
  simp only [xcells, if_true, hs, if_pos hl]
theorem xcells_str (σ : St) (l : List UInt8) : xcells σ 1 (.str l) = some (l.length, bytesD l) := by simp only [xcells, if_true]
theorem getElem?_bytesD (l : List UInt8) (k : Nat) : (bytesD l)[k]? = (l[k]?).map fun b => .int .u8 b.toNat := by simp [bytesD]
theorem bound_int {k : IntKind} {n : Int} {d : Nat} (h : 0 ≤ n) : abound (some (.int k n)) d = some n.toNat := by simp only [abound, if_pos h]
theorem slice_str {t : TypeId} {s : List UInt8} {lo hi : Option D} {l h : Nat} (ht : isStr P t = true) (hl : abound lo 0 = some l) (hh : abound hi s.length = some h) (h1 : l ≤ h) (h2 : h ≤ s.length) (hk : K (.str ((s.take h).drop l)) σ) : aslice P t (.str s) lo hi none σ K :=
  ⟨ht, rfl, l, h, hl, hh, h1, h2, hk⟩
theorem index_str {t : TypeId} {s : List UInt8} {k : IntKind} {n : Int} {b : UInt8} (ht : isStr P t = true) (h0 : 0 ≤ n) (hb : s[n.toNat]? = some b) (hk : K (.int .u8 b.toNat) σ) : aindex P t (.str s) (.int k n) σ K :=
  ⟨ht, h0, b, hb, hk⟩
/-- A region whose ways meet again: what holds behind it. -/
theorem awp_rj {id : Nat} {l : List Oper} {b : Code} {Q : AExit → Env → St → Prop} (R : Env → St → Prop) (h1 : ∀ K : Env → St → Prop, (∀ ρ σ, R ρ σ → K ρ σ) → alist P γ l K l ρ σ) (h2 : ∀ ρ σ, R ρ σ → awp P γ b Q ρ σ) : awp P γ (.seq (.region id l.toArray false) b) Q ρ σ :=
  awp_rs (h1 _ fun ρ σ h => Rx.done (h2 ρ σ h))
theorem awp_pj {id : Nat} {l : List Oper} {b : Code} {Q : AExit → Env → St → Prop} (R : Env → St → Prop) (hd : dOk (List.replicate l.length true) l = true) (h1 : ∀ K : Env → St → Prop, (∀ ρ σ, R ρ σ → K ρ σ) → apure P γ l K l ρ σ) (h2 : ∀ ρ σ, R ρ σ → awp P γ b Q ρ σ) : awp P γ (.seq (.region id l.toArray true) b) Q ρ σ :=
  awp_pure hd (h1 _ fun ρ σ h => Rx.done (h2 ρ σ h))
theorem shl7 {a : Int} (h0 : 0 ≤ a) (h1 : a < 144115188075855872) : bShl .u64 a 7 = a * 128 := by
  show IntKind.u64.wrap (a * 2 ^ min (7 : Int).toNat IntKind.u64.bits) = a * 128
  have : (2 : Int) ^ min (7 : Int).toNat IntKind.u64.bits = 128 := by decide
  rw [this, w_u64 (by omega) (by omega)]
theorem bound_at {k : IntKind} {n : Int} {m d : Nat} (h : 0 ≤ n) (hm : n.toNat = m) : abound (some (.int k n)) d = some m := by rw [← hm]; exact bound_int h
theorem rx_next {I : Nat → Env → St → Prop} {n : Nat} (k : Nat) (hk : k < n) (h : I k ρ σ) : Rx (fun ρ σ => ∃ k, k < n ∧ I k ρ σ) ρ σ := .done ⟨k, hk, h⟩
theorem le_set {i : Nat} (o : Ob) (h : σ i = none) : σ.le (σ.set i o) := fun j x e => by
  simp only [St.set]
  split
  · rename_i hj; subst hj; rw [h] at e; cases e
  · exact e
theorem copy_str {dt e T : TypeId} {by_ id off n m : Nat} {l : List D} {s : List UInt8} (he : elt P dt = some (e, 1, by_)) (hs : σ id = some (.cells l T)) (hm : min s.length n = m) (hl : off + m ≤ l.length) (hk : K (.int .i64 (m : Nat)) (σ.set id (.cells (splice l off (bytesD (s.take m))) T))) : acopy P dt (.osl id off n 1) (.str s) σ K := by
  subst hm
  simp only [acopy, he, xcells, if_true, Nat.mul_one]
  refine ⟨trivial, l, T, hs, by omega, ?_⟩
  have : (bytesD s).take (min s.length n) = bytesD (s.take (min s.length n)) := by simp [bytesD]
  rw [this]; exact hk
theorem splice_whole {l ds : List D} (h : ds.length = l.length) : splice l 0 ds = ds := by
  simp [splice, h]
theorem splice_none {l : List D} : splice l 0 [] = l := by simp [splice]

/-! ### an open order, where something is changed -/
theorem awp_draw {id : Nat} {l : List Oper} {b : Code} {Q : AExit → Env → St → Prop} (mask : List Bool) (hd : dOk mask l = true)
    (h : passA P γ l σ (fun ρ' obs => passT P γ l obs (fun ρ σ => Rx (awp P γ b Q) ρ σ) 0 l mask ρ' σ) 0 l mask ρ []) : awp P γ (.seq (.region id l.toArray true) b) Q ρ σ := by
  refine awp_seq ?_
  simp only [awp, adraw]
  exact ⟨mask, hd, h⟩
variable {m : List Bool} {KA : Env → List (Nat × (St → Prop)) → Prop} {obs : List (Nat × (St → Prop))} {ix : Nat}
theorem pa_set {t : Nat} (d : D) (h : ∀ K : D → St → Prop, K d σ → aop P γ ρ σ op K) (h2 : passA P γ ops σ KA (ix + 1) rest m (ρ.set t d) ((ix, fun s => aop P γ ρ s op (fun d' s' => d' = d ∧ s.le s')) :: obs)) : passA P γ ops σ KA ix (⟨some t, op, ty, pos, aft, none⟩ :: rest) (true :: m) ρ obs := by
  unfold passA
  exact ⟨d, h _ ⟨rfl, St.le.refl _⟩, h2⟩
theorem pa_skip {o : Oper} (h2 : passA P γ ops σ KA (ix + 1) rest m ρ obs) : passA P γ ops σ KA ix (o :: rest) (false :: m) ρ obs := by
  unfold passA; exact h2
theorem pa_nil (h : KA ρ obs) : passA P γ ops σ KA ix [] m ρ obs := by unfold passA; exact h
theorem pa_guard {t : Nat} {j : Nat} {want b : Bool} {g : Tmp} (hg : (ops[j]?).bind (·.dst) = some g) (hv : ρ g = .bool b) (h1 : b = want → passA P γ ops σ KA ix (⟨some t, op, ty, pos, aft, none⟩ :: rest) (true :: m) ρ obs) (h0 : b ≠ want → passA P γ ops σ KA (ix + 1) rest m (ρ.set t (.tup [])) obs) :
    passA P γ ops σ KA ix (⟨some t, op, ty, pos, aft, some (j, want)⟩ :: rest) (true :: m) ρ obs := by
  cases hp : ops[j]? with
  | none => rw [hp] at hg; cases hg
  | some p =>
    rw [hp] at hg
    have hd : p.dst = some g := hg
    unfold passA
    have hw : awanted ops ρ ⟨some t, op, ty, pos, aft, some (j, want)⟩ = some (b == want) := by simp only [awanted, hp, hd, hv]
    rw [hw]
    by_cases hb : b = want
    · have h1 := h1 hb
      unfold passA at h1
      rw [show (b == want) = true by simp [hb]]
      exact h1
    · rw [show (b == want) = false by simp [hb]]
      exact h0 hb
theorem pa_guard0 {t : Nat} {j : Nat} {want : Bool} {g : Tmp} (hg : (ops[j]?).bind (·.dst) = some g) (hv : ρ g = .tup []) (h0 : passA P γ ops σ KA (ix + 1) rest m (ρ.set t (.tup [])) obs) :
    passA P γ ops σ KA ix (⟨some t, op, ty, pos, aft, some (j, want)⟩ :: rest) (true :: m) ρ obs := by
  cases hp : ops[j]? with
  | none => rw [hp] at hg; cases hg
  | some p =>
    rw [hp] at hg
    have hd : p.dst = some g := hg
    unfold passA
    have hw : awanted ops ρ ⟨some t, op, ty, pos, aft, some (j, want)⟩ = some false := by simp only [awanted, hp, hd, hv]
    rw [hw]
    exact h0
theorem pt_skip {o : Oper} (h2 : passT P γ ops obs Q (ix + 1) rest m ρ σ) : passT P γ ops obs Q ix (o :: rest) (true :: m) ρ σ := by
  unfold passT; exact h2
theorem pt_none (d : D) (σ' : St) (h : ∀ K : D → St → Prop, K d σ' → aop P γ ρ σ op K) (ho : ∀ p ∈ unseen ops ix obs, p.2 σ') (h2 : passT P γ ops obs Q (ix + 1) rest m ρ σ') : passT P γ ops obs Q ix (⟨none, op, ty, pos, aft, none⟩ :: rest) (false :: m) ρ σ := by
  unfold passT; exact h _ ⟨ho, h2⟩
theorem pt_set {t : Nat} (d : D) (σ' : St) (h : ∀ K : D → St → Prop, K d σ' → aop P γ ρ σ op K) (ho : ∀ p ∈ unseen ops ix obs, p.2 σ') (h2 : passT P γ ops obs Q (ix + 1) rest m (ρ.set t d) σ') : passT P γ ops obs Q ix (⟨some t, op, ty, pos, aft, none⟩ :: rest) (false :: m) ρ σ := by
  unfold passT; exact h _ ⟨ho, h2⟩
/-- An operation that makes something new. -/
theorem pt_fresh {t : Nat} (σb : St) (f : Nat → D) (g : Nat → St) (h : ∀ K : D → St → Prop, (∀ id, σb id = none → K (f id) (g id)) → aop P γ ρ σ op K) (h2 : ∀ id, σb id = none → (∀ p ∈ unseen ops ix obs, p.2 (g id)) ∧ passT P γ ops obs Q (ix + 1) rest m (ρ.set t (f id)) (g id)) : passT P γ ops obs Q ix (⟨some t, op, ty, pos, aft, none⟩ :: rest) (false :: m) ρ σ := by
  unfold passT; exact h _ h2
theorem pt_rel {t : Nat} (R : D → St → Prop) (h : ∀ K : D → St → Prop, (∀ d s, R d s → K d s) → aop P γ ρ σ op K) (h2 : ∀ d s, R d s → (∀ p ∈ unseen ops ix obs, p.2 s) ∧ passT P γ ops obs Q (ix + 1) rest m (ρ.set t d) s) : passT P γ ops obs Q ix (⟨some t, op, ty, pos, aft, none⟩ :: rest) (false :: m) ρ σ := by
  unfold passT; exact h _ h2
/-- Nothing is left to be seen: found by counting. -/
theorem seen_none {σ' : St} (h : unseen ops ix obs = []) : ∀ p ∈ unseen ops ix obs, p.2 σ' := by rw [h]; intro p hp; cases hp
theorem seen_skip {σ' : St} {i : Nat} {F : St → Prop} {l : List (Nat × (St → Prop))} (h : ((befs ops []).getD ix 0).testBit i = true) (h2 : ∀ p ∈ unseen ops ix l, p.2 σ') : ∀ p ∈ unseen ops ix ((i, F) :: l), p.2 σ' := by
  have : unseen ops ix ((i, F) :: l) = unseen ops ix l := by simp only [unseen, List.filter_cons, h, Bool.not_true, Bool.false_eq_true, if_false]
  rw [this]; exact h2
theorem seen_cons {σ' : St} {i : Nat} {F : St → Prop} {l : List (Nat × (St → Prop))} (h : F σ') (h2 : ∀ p ∈ unseen ops ix l, p.2 σ') : ∀ p ∈ unseen ops ix ((i, F) :: l), p.2 σ' := by
  intro p hp
  simp only [unseen, List.filter_cons] at hp h2
  split at hp
  · rcases List.mem_cons.1 hp with rfl | hp
    · exact h
    · exact h2 p hp
  · exact h2 p hp
theorem seen_nil {σ' : St} : ∀ p ∈ unseen ops ix [], p.2 σ' := by intro p hp; cases hp
theorem pt_done {Q : Env → St → Prop} (h : Q ρ σ) : passT P γ ops obs (fun ρ σ => Rx Q ρ σ) ix [] m ρ σ := Rx.done h
theorem splice_next {l z : List UInt8} {k : Nat} (h1 : k < l.length) (h2 : k < z.length) : splice (bytesD (l.take k ++ z.drop k)) k [.int .u8 (l[k].toNat : Nat)] = bytesD (l.take (k + 1) ++ z.drop (k + 1)) := by
  have ht : (bytesD (l.take k)).length = k := by rw [length_bytesD, List.length_take]; omega
  have e1 : (bytesD (l.take k) ++ bytesD (z.drop k)).take k = bytesD (l.take k) := by
    rw [List.take_append_of_le_length (by omega), List.take_of_length_le (by omega)]
  have e2 : (bytesD (l.take k) ++ bytesD (z.drop k)).drop (k + 1) = bytesD (z.drop (k + 1)) := by
    rw [List.drop_append, ht, List.drop_of_length_le (by omega), List.nil_append]
    simp only [bytesD]
    rw [show k + 1 - k = 1 by omega, ← List.map_drop, List.drop_drop]
  simp only [splice, bytesD_append, List.length_cons, List.length_nil]
  rw [e1, show k + (0 + 1) = k + 1 by omega, e2, List.take_add_one, List.getElem?_eq_getElem h1, bytesD_append]
  rfl
theorem afin_nrm {rs : List ResultVar} {R : D → St → Prop} (h : Rx (fun ρ σ => ares P rs ρ σ fun ds => R (aone ds) σ) ρ σ) : afin P rs R .normal ρ σ :=
  h.mono fun ρ σ hr => ares_mono rs (fun ds hd => ⟨σ, St.le.refl _, hd⟩) hr
theorem conv_uns {s d T : TypeId} {i o : Nat} {l : List D} (h : isUns P s d = true) (hs : σ i = some (.cells l T)) (ho : o < l.length) (hk : K (.ptr i o) σ) : aconv P s d (.ptr i o) σ K := ⟨⟨l, T, hs, ho, .inl h⟩, hk⟩
theorem conv_back {s d T : TypeId} {i : Nat} {l : List D} (h : unsBack P s d T = true) (hs : σ i = some (.cells l T)) (ho : 0 < l.length) (hl : tsz P T ≤ l.length) (hk : K (.ptr i 0) σ) : aconv P s d (.ptr i 0) σ K := ⟨⟨l, T, hs, ho, .inr ⟨rfl, hl, h⟩⟩, hk⟩
theorem app_nil0 {e : TypeId} {sz bytes : Nat} {ds : List D} (hk : K .nil σ) : aapp σ e sz bytes .nil 0 ds K := by simp only [aapp, if_true]; exact hk
theorem set_comm {σ : St} {i j : Nat} (a b : Ob) (h : i ≠ j) : ((σ.set j a).set i b) = ((σ.set i b).set j a) := by
  funext k; simp only [St.set]
  by_cases h1 : k = i
  · subst h1; rw [if_pos rfl, if_neg h, if_pos rfl]
  · by_cases h2 : k = j
    · subst h2; rw [if_neg h1, if_pos rfl, if_pos rfl]
    · rw [if_neg h1, if_neg h2, if_neg h2, if_neg h1]
theorem sldata_sl {n t sz : Nat} {cs : List D} (h : 0 < n) (hk : K (.ptr t 0) σ) : asldata (.sl n cs (some (t, sz))) σ K := ⟨h, hk⟩
theorem ustr_tok {pt e : TypeId} {t n : Nat} {l : List UInt8} (hp : ptrE P pt = some e) (hc : P.cellsOf e = 1) (hs : σ t = some (.tok e (bytesD l))) (hn : n = l.length) (h0 : 0 < n) (h1 : n ≤ 9223372036854775807) (hk : K (.str l) (σ.del t)) : austr P pt (.ptr t 0) (.int .i64 (n : Nat)) σ K := by
  subst hn
  exact ⟨e, _, l, hs, hp, rfl, hc, rfl, rfl, by omega, by omega, hk⟩
theorem slice_oslc {t e : TypeId} {sz by_ id off n c l h m : Nat} {lo hi mx : Option D} (he : elt P t = some (e, sz, by_)) (h0 : mx.isNone = true ∨ hi.isSome = true) (hl : abound lo 0 = some l) (hh : abound hi n = some h) (hm : abound mx c = some m) (h1 : l ≤ h) (h2 : h ≤ m) (h3 : m ≤ c) (hk : K (if l = m then .e0 else .oslc id (off + l * sz) (h - l) (m - l) sz) σ) : aslice P t (.oslc id off n c sz) lo hi mx σ K := by
  simp only [aslice, he]
  exact ⟨trivial, h0, l, h, m, hl, hh, hm, h1, h2, h3, hk⟩
theorem slice_oslc' {t e : TypeId} {sz by_ id off n c l h m : Nat} {lo hi mx : Option D} (he : elt P t = some (e, sz, by_)) (h0 : mx.isNone = true ∨ hi.isSome = true) (hl : abound lo 0 = some l) (hh : abound hi n = some h) (hm : abound mx c = some m) (h1 : l ≤ h) (h2 : h ≤ m) (h3 : m ≤ c) (h4 : l ≠ m) (hk : K (.oslc id (off + l * sz) (h - l) (m - l) sz) σ) : aslice P t (.oslc id off n c sz) lo hi mx σ K :=
  slice_oslc he h0 hl hh hm h1 h2 h3 (by rw [if_neg h4]; exact hk)
theorem xcells_oslc {sz n id off c : Nat} {l : List D} {T : TypeId} (hs : σ id = some (.cells l T)) (hl : off + n * sz ≤ l.length) : xcells σ sz (.oslc id off n c sz) = some (n, (l.drop off).take (n * sz)) := by
  simp only [xcells, if_true, hs, if_pos hl]
theorem app_oslc {e : TypeId} {sz bytes t off n0 c n : Nat} {l ds : List D} (hs : σ t = some (.cells l e)) (hb : (n0 + n) * bytes ≤ 140737488355328) (hl : off + n0 * sz ≤ l.length) (hr : n0 + n ≤ c) (hk : K (.oslc t off (n0 + n) c sz) (σ.set t (.cells (splice l (off + n0 * sz) ds) e))) : aapp σ e sz bytes (.oslc t off n0 c sz) n ds K := by
  refine ⟨rfl, hb, l, hs, hl, ?_⟩
  rw [if_pos hr]; exact hk
theorem clear_oslc {t e : TypeId} {T : TypeId} {sz by_ id off n c : Nat} {z l : List D} (he : elt P t = some (e, sz, by_)) (hz : zc P e = some z) (hn : n ≠ 0) (hs : σ id = some (.cells l T)) (ho : off ≤ l.length) (hk : K (.tup []) (σ.set id (.cells (splice l off (List.replicate n z).flatten) T))) : aclear P t (.oslc id off n c sz) σ K := by
  simp only [aclear, he, hz]
  refine ⟨trivial, l, T, hs, ho, ?_⟩
  rw [if_neg hn]; exact hk
theorem app_osl {e : TypeId} {sz bytes n n0 t : Nat} {l ds : List D} (hs : σ t = some (.cells l e)) (hl : l.length = n0 * sz) (hb : (n0 + n) * bytes ≤ 140737488355328) (hk : ∀ id, σ id = none → K (.osl id 0 (n0 + n) sz) ((σ.del t).set id (.cells (l ++ ds) e))) : aapp σ e sz bytes (.osl t 0 n0 sz) n ds K :=
  ⟨rfl, rfl, hb, l, hs, hl, hk⟩
theorem app_nilo {e : TypeId} {sz bytes n : Nat} {ds : List D} (hn : 0 < n) (hb : n * bytes ≤ 140737488355328) (hk : ∀ id, σ id = none → K (.osl id 0 n sz) (σ.set id (.cells ds e))) : aapp σ e sz bytes .nil n ds K := by
  simp only [aapp, if_neg (show n ≠ 0 by omega)]
  exact ⟨hb, .inr hk⟩
/-- A slice that is handed over has some capacity. -/
theorem acalls_cap {f : FuncId} {id off n sz : Nat} {args : List D} (h : ∀ c, n ≤ c → ACalls P γ f (.oslc id off n c sz :: args) σ K) : ACalls P γ f (.osl id off n sz :: args) σ K := by
  refine ⟨(h n (Nat.le_refl _)).1, fun B w0 g w vals hγ hv hR => ?_⟩
  cases vals with
  | nil => simp [RVs] at hv
  | cons v vs =>
    have h0 := hv.2 0 v _ rfl rfl
    cases h0 with
    | osl _ b m _ _ c _ hi hc hm hf =>
      refine (h c hc).2 B w0 g w _ hγ ⟨by simpa using hv.1, fun k x d e e' => ?_⟩ hR
      cases k with
      | zero => simp only [List.getElem?_cons_zero, Option.some.injEq] at e e'; subst e; subst e'; exact .oslc id b m off n c sz hi hc hm hf
      | succ k => exact hv.2 (k + 1) x d e (by simpa using e')
/-- Less is said of what is handed over. -/
theorem acalls_wk {f : FuncId} {args args' : List D} (hl : args'.length = args.length) (hw : ∀ (k : Nat) d d', args[k]? = some d → args'[k]? = some d' → Wk d d') (h : ACalls P γ f args' σ K) : ACalls P γ f args σ K := by
  refine ⟨h.1, fun B w0 g w vals hγ hv hR => h.2 B w0 g w vals hγ ⟨by rw [hv.1, hl], fun k x d' e e' => ?_⟩ hR⟩
  have hk : k < args'.length := (List.getElem?_eq_some_iff.1 e').1
  have hk' : k < args.length := by omega
  exact (hw k _ d' (List.getElem?_eq_getElem hk') e').sound (hv.2 k x _ e (List.getElem?_eq_getElem hk'))
theorem rx_weak {Q : Env → St → Prop} {t : Nat} {d d' : D} (ht : ρ t = d) (hw : Wk d d') (h : Rx Q (ρ.set t d') σ) : Rx Q ρ σ := .weak t d' (by rw [ht]; exact hw) h
theorem rx_cells {Q : Env → St → Prop} {id : Nat} {l l' : List D} {T : TypeId} (hs : σ id = some (.cells l T)) (hl : l'.length ≤ l.length) (hw : ∀ (k : Nat) d d', l[k]? = some d → l'[k]? = some d' → Wk d d') (h : Rx Q ρ (σ.set id (.cells l' T))) : Rx Q ρ σ := .wkc id l l' T hs hl hw h
theorem rx_take {Q : Env → St → Prop} {id : Nat} {l : List D} {T : TypeId} (n : Nat) (hs : σ id = some (.cells l T)) (h : Rx Q ρ (σ.set id (.cells (l.take n) T))) : Rx Q ρ σ := by
  refine .wkc id l (l.take n) T hs (by rw [List.length_take]; omega) (fun k d d' e e' => ?_) h
  rw [List.getElem?_take] at e'
  split at e'
  · rw [e] at e'; cases e'; exact .refl _
  · cases e'
theorem bsl_agg0 {t e : TypeId} {sz by_ : Nat} {z cs : List D} (he : elt P t = some (e, sz, by_)) (hz : zc P e = some z) (hzl : z.length = sz) (hc : cs.length = sz) (hs : sz ≤ 16777216) (hk : K (.sl 1 cs none) σ) : abuildSl P t 1 [(0, .agg cs)] σ K := by
  simp only [abuildSl, he, hz]
  refine ⟨by omega, ?_⟩
  have : afill (fun i => some (i * sz, sz)) (List.replicate 1 z).flatten [(0, .agg cs)] = some cs := by
    simp only [afill, okc, cellsOf, List.replicate_succ, List.replicate_zero, List.flatten_cons, List.flatten_nil, List.append_nil, Nat.zero_mul, Nat.zero_add]
    rw [if_pos ⟨trivial, hc, by omega⟩, splice_whole (by omega)]
  rw [this]
  exact .inr (.inr hk)
/-- A copy of a row. -/
theorem own_new {e : TypeId} {sz bytes m : Nat} {ds : List D} (hd : ds.length = m * sz) (hb : m * bytes ≤ 140737488355328) (hk : ∀ d' s', Own σ e sz m ds d' s' → K d' s') : aapp σ e sz bytes .nil m ds K := by
  by_cases hm : m = 0
  · subst hm
    have : ds = [] := List.eq_nil_of_length_eq_zero (by simpa using hd)
    subst this
    exact app_nil0 (hk _ _ (own_nil σ e sz))
  · exact app_nil (by omega) hb fun id hid => hk _ _ (.inr ⟨id, hid, hd, rfl, rfl⟩)
/-- A copy of a row, as an object of its own. -/
def NewO (σ : St) (e : TypeId) (sz m : Nat) (ds : List D) (d : D) (s : St) : Prop := (m = 0 ∧ ds = [] ∧ d = .nil ∧ s = σ) ∨ ∃ id, σ id = none ∧ d = .osl id 0 m sz ∧ s = σ.set id (.cells ds e)
theorem newo_new {e : TypeId} {sz bytes m : Nat} {ds : List D} (hd : ds.length = m * sz) (hb : m * bytes ≤ 140737488355328) (hk : ∀ d' s', NewO σ e sz m ds d' s' → K d' s') : aapp σ e sz bytes .nil m ds K := by
  by_cases hm : m = 0
  · subst hm
    have : ds = [] := List.eq_nil_of_length_eq_zero (by simpa using hd)
    subst this
    exact app_nil0 (hk _ _ (.inl ⟨rfl, rfl, rfl, rfl⟩))
  · exact app_nilo (by omega) hb fun id hid => hk _ _ (.inr ⟨id, hid, rfl, rfl⟩)
theorem own_wk {e : TypeId} {sz n : Nat} {cs : List D} {d : D} {s : St} (h : Own σ e sz n cs d s) : Wk d (.sl n cs none) := by
  rcases h with ⟨rfl, rfl, rfl, _⟩ | ⟨id, _, _, rfl, _⟩
  · exact .nil
  · exact .tok _ _ _
theorem own_le' {e : TypeId} {sz n : Nat} {cs : List D} {d : D} {s : St} (h : Own σ e sz n cs d s) : σ.le s := by
  rcases h with ⟨_, _, _, rfl⟩ | ⟨id, h0, _, _, rfl⟩
  · exact St.le.refl _
  · exact le_set _ h0
theorem own_cells {e : TypeId} {sz n : Nat} {cs : List D} {d : D} {s : St} (h : Own σ e sz n cs d s) (τ : St) : xcells τ sz d = some (n, cs) := by
  rcases h with ⟨rfl, rfl, rfl, _⟩ | ⟨id, _, hl, rfl, _⟩
  · rfl
  · exact xcells_sl hl
theorem le_upd {q : Nat} {o x : Ob} {s : St} (h : (σ.set q o).le s) : (σ.set q x).le (s.set q x) := fun j y e => by
  simp only [St.set] at e ⊢
  split at e
  · rename_i hj; rw [if_pos hj]; exact e
  · rename_i hj; rw [if_neg hj]; exact h j y (by simp only [St.set, if_neg hj]; exact e)
theorem wk2 {a d d' : D} (h : Wk d d') : ∀ (k : Nat) x y, ([a, d] : List D)[k]? = some x → ([a, d'] : List D)[k]? = some y → Wk x y := by
  intro k x y e e'
  match k, e, e' with
  | 0, e, e' => cases e; cases e'; exact .refl _
  | 1, e, e' => cases e; cases e'; exact h
  | k + 2, e, e' => simp at e
theorem own_app' {e : TypeId} {sz bytes n m : Nat} {cs ds : List D} {d : D} {s : St} (h : Own σ e sz n cs d s) (hd : ds.length = m * sz) (hb : (n + m) * bytes ≤ 140737488355328) (hk : ∀ d' s', Own σ e sz (n + m) (cs ++ ds) d' s' → K d' s') : aapp s e sz bytes d m ds K := by
  by_cases hm : 0 < m
  · exact own_app h hm hd hb hk
  · have : m = 0 := by omega
    subst this
    have : ds = [] := List.eq_nil_of_length_eq_zero (by simpa using hd)
    subst this
    rcases h with ⟨rfl, rfl, rfl, rfl⟩ | ⟨id, h0, hl, rfl, rfl⟩
    · exact app_nil0 (hk _ _ (own_nil _ _ _))
    · exact app_tok h0 hb fun id hid => hk _ _ (.inr ⟨id, hid, by rw [List.append_nil, hl]; rfl, rfl, rfl⟩)
theorem slice_sl {t e : TypeId} {sz by_ n l h n' : Nat} {cs cs' : List D} {tk : Option (Nat × Nat)} {lo hi : Option D} (he : elt P t = some (e, sz, by_)) (hcl : cs.length = n * sz) (hl : abound lo 0 = some l) (hh : abound hi n = some h) (h1 : l ≤ h) (h2 : h ≤ n) (hn : h - l = n') (hc : (cs.take (h * sz)).drop (l * sz) = cs') (hk : K (.sl n' cs' none) σ) : aslice P t (.sl n cs tk) lo hi none σ K := by
  subst hn; subst hc
  simp only [aslice, he]
  exact ⟨hcl, l, h, hl, hh, h1, h2, hk⟩
/-- .. where something is said less first. -/
theorem afin_rx {rs : List ResultVar} {R : D → St → Prop} (h : Rx (fun ρ σ => ares P rs ρ σ fun ds => ∃ σ', σ'.le σ ∧ R (aone ds) σ') ρ σ) : afin P rs R .ret ρ σ := h
/-- An object is let go for good; one name of it stands in a slot. -/
theorem rx_frz1 {Q : Env → St → Prop} {t id n sz : Nat} {l : List D} {T : TypeId} (ht : ρ t = .osl id 0 n sz) (hs : σ id = some (.cells l T)) (hl : l.length = n * sz) (h : Rx Q (ρ.set t (.sl n l none)) (σ.del id)) : Rx Q ρ σ := by
  refine .freeze id l T [t] hs ?_
  have : frzs id l [t] ρ = ρ.set t (.sl n l none) := by
    simp only [frzs, ht, frzD, if_true, List.drop_zero]
    rw [List.take_of_length_le (by omega)]
    rfl
  rw [this]; exact h
/-- A block whose ways meet again: what holds behind it. -/
theorem awp_bj {id : Nat} {c rest : Code} {Q : AExit → Env → St → Prop} (R : Env → St → Prop) (h1 : ∀ K : Env → St → Prop, (∀ ρ σ, Rx R ρ σ → K ρ σ) → awp P γ c (AExit.blk id (AExit.thn K Q)) ρ σ) (h2 : ∀ ρ σ, R ρ σ → awp P γ rest Q ρ σ) : awp P γ (.seq (.block id c) rest) Q ρ σ :=
  awp_body (h1 _ fun ρ σ h => h.mono h2)
theorem awp_draw1 {id : Nat} {l : List Oper} {Q : AExit → Env → St → Prop} (mask : List Bool) (hd : dOk mask l = true)
    (h : passA P γ l σ (fun ρ' obs => passT P γ l obs (Q .normal) 0 l mask ρ' σ) 0 l mask ρ []) : awp P γ (.region id l.toArray true) Q ρ σ := by
  simp only [awp, adraw]
  exact ⟨mask, hd, h⟩
theorem pt_end {Q : Env → St → Prop} (h : Q ρ σ) : passT P γ ops obs Q ix [] m ρ σ := h
theorem awp_rj1 {id : Nat} {l : List Oper} {Q : AExit → Env → St → Prop} (h : alist P γ l (Q .normal) l ρ σ) : awp P γ (.region id l.toArray false) Q ρ σ := awp_region h
theorem make_osl {t e : TypeId} {sz bytes : Nat} {z : List D} {k k' : IntKind} {n : Int} (he : elt P t = some (e, sz, bytes)) (hz : zc P e = some z) (hn : 0 ≤ n) (hb : n.toNat * bytes ≤ 140737488355328) (hk : ∀ id, σ id = none → K (.osl id 0 n.toNat sz) (σ.set id (.cells (List.replicate n.toNat z).flatten e))) : amake P t (.int k n) (.int k' n) σ K := by
  simp only [amake, he, hz]
  exact ⟨trivial, hn, hb, .inr (.inl hk)⟩
theorem blk_other {id i : Nat} {Q : AExit → Env → St → Prop} (h : i ≠ id) (hq : Q (.exit i) ρ σ) : AExit.blk id Q (.exit i) ρ σ := by
  simp only [AExit.blk, if_neg h]; exact hq
theorem pt_guard {t : Nat} {j : Nat} {want b : Bool} {g : Tmp} (hg : (ops[j]?).bind (·.dst) = some g) (hv : ρ g = .bool b) (h1 : b = want → passT P γ ops obs Q ix (⟨some t, op, ty, pos, aft, none⟩ :: rest) (false :: m) ρ σ) (h0 : b ≠ want → passT P γ ops obs Q (ix + 1) rest m (ρ.set t (.tup [])) σ) :
    passT P γ ops obs Q ix (⟨some t, op, ty, pos, aft, some (j, want)⟩ :: rest) (false :: m) ρ σ := by
  cases hp : ops[j]? with
  | none => rw [hp] at hg; cases hg
  | some p =>
    rw [hp] at hg
    have hd : p.dst = some g := hg
    unfold passT
    have hw : awanted ops ρ ⟨some t, op, ty, pos, aft, some (j, want)⟩ = some (b == want) := by simp only [awanted, hp, hd, hv]
    rw [hw]
    by_cases hb : b = want
    · have h1 := h1 hb
      unfold passT at h1
      rw [show (b == want) = true by simp [hb]]
      exact h1
    · rw [show (b == want) = false by simp [hb]]
      exact h0 hb
theorem pt_guard0 {t : Nat} {j : Nat} {want : Bool} {g : Tmp} (hg : (ops[j]?).bind (·.dst) = some g) (hv : ρ g = .tup []) (h0 : passT P γ ops obs Q (ix + 1) rest m (ρ.set t (.tup [])) σ) :
    passT P γ ops obs Q ix (⟨some t, op, ty, pos, aft, some (j, want)⟩ :: rest) (false :: m) ρ σ := by
  cases hp : ops[j]? with
  | none => rw [hp] at hg; cases hg
  | some p =>
    rw [hp] at hg
    have hd : p.dst = some g := hg
    unfold passT
    have hw : awanted ops ρ ⟨some t, op, ty, pos, aft, some (j, want)⟩ = some false := by simp only [awanted, hp, hd, hv]
    rw [hw]
    exact h0
theorem thn_exit {i : Nat} {Q : AExit → Env → St → Prop} {K : Env → St → Prop} (h : Q (.exit i) ρ σ) : AExit.thn K Q (.exit i) ρ σ := h
end
end Go.Av
