/- What came in, read, whatever its type: numbers, texts, arrays, structs, slices of these. -/
import Derived.Test.YtgbfchagmniiiaaE1
set_option linter.unusedVariables false
set_option linter.unusedSimpArgs false
namespace Go.Av
open Go.RowKit

/-- The shape of a type's cells. -/
inductive Sh where
  | int (k : IntKind)
  | bool
  | str
  | row (e : Sh)
  | unit
  | cat (a b : Sh)
  | rep (n : Nat) (e : Sh)

def Fits : Sh → List D → Prop
  | .int k, ds => ∃ n, ds = [.int k n] ∧ k.min ≤ n ∧ n ≤ k.max
  | .bool, ds => ∃ b, ds = [.bool b]
  | .str, ds => ∃ l, ds = [.str l] ∧ l.length ≤ maxLen
  | .row e, ds => ∃ dss : List (List D), ds = [.sl dss.length dss.flatten none] ∧ dss.length ≤ maxLen ∧ ∀ x ∈ dss, Fits e x
  | .unit, ds => ds = []
  | .cat a b, ds => ∃ x y, ds = x ++ y ∧ Fits a x ∧ Fits b y
  | .rep n e, ds => ∃ dss : List (List D), dss.length = n ∧ ds = dss.flatten ∧ ∀ x ∈ dss, Fits e x

def Sh.size : Sh → Nat
  | .int _ | .bool | .str | .row _ => 1
  | .unit => 0
  | .cat a b => a.size + b.size
  | .rep n e => n * e.size

theorem flatten_len {n : Nat} : ∀ {dss : List (List D)}, (∀ x ∈ dss, x.length = n) → dss.flatten.length = dss.length * n
  | [], _ => by simp
  | a :: r, h => by
    rw [List.flatten_cons, List.length_append, h a (by simp), flatten_len (fun x hx => h x (by simp [hx])), List.length_cons, Nat.add_mul, Nat.one_mul, Nat.add_comm]

theorem Fits.len : ∀ {s : Sh} {ds : List D}, Fits s ds → ds.length = s.size ∧ ∀ d ∈ ds, d.one = true
  | .int k, ds, ⟨n, h, _⟩ => by subst h; exact ⟨rfl, by simp [D.one]⟩
  | .bool, ds, ⟨n, h⟩ => by subst h; exact ⟨rfl, by simp [D.one]⟩
  | .str, ds, ⟨n, h, _⟩ => by subst h; exact ⟨rfl, by simp [D.one]⟩
  | .row e, ds, ⟨n, h, _⟩ => by subst h; exact ⟨rfl, by simp [D.one]⟩
  | .unit, ds, h => by
    have h : ds = [] := h
    subst h; exact ⟨rfl, by simp⟩
  | .cat a b, ds, ⟨x, y, h, h1, h2⟩ => by
    subst h
    refine ⟨by rw [List.length_append, (Fits.len h1).1, (Fits.len h2).1]; rfl, fun d hd => ?_⟩
    rcases List.mem_append.1 hd with hd | hd
    · exact (Fits.len h1).2 d hd
    · exact (Fits.len h2).2 d hd
  | .rep n e, ds, ⟨dss, h0, h, h1⟩ => by
    subst h; subst h0
    refine ⟨flatten_len (fun x hx => (Fits.len (h1 x hx)).1), fun d hd => ?_⟩
    obtain ⟨l, hl, hd⟩ := List.mem_flatten.1 hd
    exact (Fits.len (h1 l hl)).2 d hd

def shFields (P : Program) (sh : TypeId → Option Sh) : Nat → List Field → Option (Nat × Sh)
  | o, [] => some (o, .unit)
  | o, f :: fs => if f.offset = o then (sh f.type).bind fun a => if a.size = P.cellsOf f.type then (shFields P sh (o + a.size) fs).map fun r => (r.1, .cat a r.2) else none else none
def shOf (P : Program) : Nat → TypeId → Option Sh
  | 0, _ => none
  | d + 1, t => match P.underlying t with
    | some (.int k) => some (.int k)
    | some .bool => some .bool
    | some .string => some .str
    | some (.slice e) => (shOf P d e).bind fun a => if a.size = P.cellsOf e ∧ 0 < a.size then some (.row a) else none
    | some (.struct fs) => (shFields P (shOf P d) 0 fs.toList).bind fun r => if r.1 = P.cellsOf t then some r.2 else none
    | some (.array n e) => (shOf P d e).bind fun a => if a.size = P.cellsOf e ∧ n * a.size = P.cellsOf t then some (.rep n a) else none
    | _ => none

theorem rep_fits {g : G} {sz : Nat} {F : List D → Prop} (hF : ∀ x, F x → x.length = sz) {cs : List Value} : ∀ (n : Nat), n * sz ≤ cs.length → (∀ i, i < n → ∃ ds, RVs g ((cs.drop (i * sz)).take sz) ds ∧ F ds) →
    ∃ dss : List (List D), dss.length = n ∧ (∀ x ∈ dss, F x) ∧ RVs g (cs.take (n * sz)) dss.flatten
  | 0, _, _ => ⟨[], rfl, by simp, by simpa using RVs.nil⟩
  | n + 1, hl, h => by
    have hl' : n * sz + sz ≤ cs.length := by rw [Nat.add_mul, Nat.one_mul] at hl; exact hl
    obtain ⟨dss, h1, h2, h3⟩ := rep_fits hF n (by omega) (fun i hi => h i (by omega))
    obtain ⟨ds, h4, h5⟩ := h n (by omega)
    refine ⟨dss ++ [ds], by simp [h1], fun x hx => ?_, ?_⟩
    · rcases List.mem_append.1 hx with hx | hx
      · exact h2 x hx
      · simp at hx; subst hx; exact h5
    · have : cs.take ((n + 1) * sz) = cs.take (n * sz) ++ (cs.drop (n * sz)).take sz := by
        rw [Nat.add_mul, Nat.one_mul, List.take_add]
      rw [this, List.flatten_append]
      simpa using h3.append h4

theorem rowcells {W : World} {g : G} {sz : Nat} {F : List D → Prop} (hF : ∀ x, F x → x.length = sz) {b o : Nat} : ∀ (n : Nat), (∀ i, i < n → ∃ ds, F ds ∧ ∀ j d, ds[j]? = some d → ∃ v, W.cell? ⟨b, o + i * sz + j, none⟩ = some v ∧ RV g v d) →
    ∃ dss : List (List D), dss.length = n ∧ (∀ x ∈ dss, F x) ∧ ∀ k d, dss.flatten[k]? = some d → ∃ v, W.cell? ⟨b, o + k, none⟩ = some v ∧ RV g v d
  | 0, _ => ⟨[], rfl, by simp, fun k d e => by simp at e⟩
  | n + 1, h => by
    obtain ⟨dss, h1, h2, h3⟩ := rowcells hF n (fun i hi => h i (by omega))
    obtain ⟨ds, h4, h5⟩ := h n (by omega)
    have hfl : dss.flatten.length = n * sz := by rw [flatten_len (fun x hx => hF x (h2 x hx)), h1]
    refine ⟨dss ++ [ds], by simp [h1], fun x hx => ?_, fun k d e => ?_⟩
    · rcases List.mem_append.1 hx with hx | hx
      · exact h2 x hx
      · simp at hx; subst hx; exact h4
    · rw [List.flatten_append] at e
      by_cases hk : k < dss.flatten.length
      · rw [List.getElem?_append_left hk] at e; exact h3 k d e
      · rw [List.getElem?_append_right (by omega), hfl] at e
        have := h5 (k - n * sz) d (by simpa using e)
        rwa [show o + n * sz + (k - n * sz) = o + k by omega] at this

section
variable {H : Type} {enc : TypeId × Value → H} {P : Program} {W : World} {hd : Bool}
theorem fields_fits {d : Nat} {cs : List Value} {fuel : Nat} (ih : ∀ t s, shOf P d t = some s → ∀ cs x, DataW.trod enc P W 0 (fun _ => true) hd fuel t cs = some x → ∃ ds, RVs (g0 W) cs ds ∧ Fits s ds) :
    ∀ (fs : List Field) (o o' : Nat) (s : Sh), shFields P (shOf P d) o fs = some (o', s) → (∀ f ∈ fs, ∃ x, DataW.trod enc P W 0 (fun _ => true) hd fuel f.type ((cs.drop f.offset).take (P.cellsOf f.type)) = some x) →
      o ≤ o' ∧ ∃ ds, RVs (g0 W) ((cs.drop o).take (o' - o)) ds ∧ Fits s ds
  | [], o, o', s, h, _ => by
    simp [shFields] at h
    obtain ⟨rfl, rfl⟩ := h
    exact ⟨Nat.le_refl _, [], by simpa using RVs.nil, rfl⟩
  | f :: fs, o, o', s, h, hf => by
    unfold shFields at h
    split at h
    · rename_i ho
      rw [Option.bind_eq_some_iff] at h
      obtain ⟨a, ha, h⟩ := h
      split at h
      · rename_i hsz
        rw [Option.map_eq_some_iff] at h
        obtain ⟨⟨o2, s2⟩, h2, h⟩ := h
        simp only [Prod.mk.injEq] at h
        obtain ⟨rfl, rfl⟩ := h
        obtain ⟨hle, ds2, r2, f2⟩ := fields_fits ih fs _ _ _ h2 (fun f' hf' => hf f' (by simp [hf']))
        obtain ⟨x, hx⟩ := hf f (by simp)
        obtain ⟨ds1, r1, f1⟩ := ih _ _ ha _ _ hx
        refine ⟨by omega, ds1 ++ ds2, ?_, ds1, ds2, rfl, f1, f2⟩
        rw [ho, ← hsz] at r1
        have : (cs.drop o).take (o2 - o) = (cs.drop o).take a.size ++ (cs.drop (o + a.size)).take (o2 - (o + a.size)) := by
          rw [show o2 - o = a.size + (o2 - (o + a.size)) by omega, List.take_add, List.drop_drop]
        rw [this]
        exact r1.append r2
      · cases h
    · cases h

theorem trod_fits : ∀ (d : Nat) (t : TypeId) (s : Sh), shOf P d t = some s → ∀ (fuel : Nat) (cs : List Value) (x : DataW H × List MemPlace), DataW.trod enc P W 0 (fun _ => true) hd fuel t cs = some x → ∃ ds, RVs (g0 W) cs ds ∧ Fits s ds
  | 0, t, s, h, _, _, _, _ => by cases h
  | d + 1, t, s, hs, 0, cs, x, h => by simp [DataW.trod] at h
  | d + 1, t, s, hs, fuel + 1, cs, x, h => by
    unfold DataW.trod at h
    unfold shOf at hs
    split at hs
    · rename_i k hu
      rw [hu] at h
      cases hs
      match cs, h with
      | [.int k' n], h =>
        simp only at h
        split at h
        · rename_i hk
          obtain ⟨rfl, hw⟩ := hk
          exact ⟨_, RVs.single (.int _ _), n, rfl, by simpa [Lit.wf] using hw⟩
        · cases h
    · rename_i hu
      rw [hu] at h
      cases hs
      match cs, h with
      | [.bool b], h => exact ⟨_, RVs.single (.bool _), b, rfl⟩
    · rename_i hu
      rw [hu] at h
      cases hs
      match cs, h with
      | [.string b], h =>
        simp only at h
        split at h
        · rename_i hl
          exact ⟨_, RVs.single (.str b _ rfl), _, rfl, by simpa using hl⟩
        · cases h
    · rename_i e hu
      rw [hu] at h
      rw [Option.bind_eq_some_iff] at hs
      obtain ⟨a, ha, hs⟩ := hs
      split at hs
      · rename_i hz
        obtain ⟨hz, hz0⟩ := hz
        cases hs
        match cs, h with
        | [.slice none 0 0], h => exact ⟨_, RVs.single (.slNil none), [], rfl, Nat.zero_le _, fun x hx => by cases hx⟩
        | [.slice (some ad) len cap], h =>
          simp only at h
          split at h
          · rename_i hc
            obtain ⟨_, hlc, hcm⟩ := hc
            rw [Option.bind_eq_some_iff] at h
            obtain ⟨xs, hx, h⟩ := h
            rw [Option.map_eq_some_iff] at h
            obtain ⟨ys, hy, _⟩ := h
            simp only [if_true] at hy
            obtain ⟨_, hx2⟩ := mapM_get hx
            obtain ⟨_, hy2⟩ := mapM_get hy
            have helem : ∀ i, i < len → ∃ cs ds, RVs (g0 W) cs ds ∧ Fits a ds ∧ cs.length = P.cellsOf e ∧ ∀ j, j < P.cellsOf e → W.cell? ((ad.add (i * P.cellsOf e)).add j) = cs[j]? := by
              intro i hi
              obtain ⟨y, e1, _⟩ := hx2 i i (by simp [hi])
              rw [Option.bind_eq_some_iff] at e1
              obtain ⟨cs, e1, e2⟩ := e1
              obtain ⟨h1, h2⟩ := cells_get e1
              obtain ⟨ds, h3, h4⟩ := trod_fits d e a ha fuel cs _ e2
              exact ⟨cs, ds, h3, h4, h1, h2⟩
            by_cases hcap : cap = 0
            · subst hcap
              have hl0 : len = 0 := by omega
              subst hl0
              exact ⟨_, RVs.single (.slNil (some ad)), [], rfl, Nat.zero_le _, fun x hx => by cases hx⟩
            · have hspot : ad.spot = none := by
                have hsome : ∃ v, W.cell? ad = some v := by
                  by_cases hl0 : len = 0
                  · subst hl0
                    obtain ⟨y, e1, _⟩ := hy2 0 0 (List.getElem?_range (by omega))
                    rw [Option.bind_eq_some_iff] at e1
                    obtain ⟨cs, e1, _⟩ := e1
                    obtain ⟨h1, h2⟩ := cells_get e1
                    have := h2 0 (by omega)
                    simp [Addr.add] at this
                    rw [this]
                    exact ⟨_, List.getElem?_eq_getElem (by omega)⟩
                  · obtain ⟨cs, ds, _, _, h1, h2⟩ := helem 0 (by omega)
                    have := h2 0 (by omega)
                    simp [Addr.add] at this
                    rw [this]
                    exact ⟨_, List.getElem?_eq_getElem (by omega)⟩
                obtain ⟨v, hv⟩ := hsome
                exact World.cell?_spot hv
              obtain ⟨dss, q1, q2, q3⟩ := rowcells (W := W) (g := g0 W) (sz := P.cellsOf e) (F := Fits a) (fun x hx => by rw [hx.len.1, hz]) (b := ad.block) (o := ad.off) len (fun i hi => by
                obtain ⟨cs, ds, h1, h2, h3, h4⟩ := helem i hi
                refine ⟨ds, h2, fun j dd hj => ?_⟩
                have hjl : j < ds.length := (List.getElem?_eq_some_iff.1 hj).1
                have hjc : j < cs.length := by rw [h1.1]; exact hjl
                have := h4 j (by omega)
                rw [add_none hspot, add_none rfl] at this
                exact ⟨_, by rw [this]; exact List.getElem?_eq_getElem hjc, h1.2 j _ _ (List.getElem?_eq_getElem hjc) hj⟩)
              have had : ad = ⟨ad.block, ad.off, none⟩ := by cases ad; simp_all
              have hfin : RV (g0 W) (.slice (some ad) len cap) (.sl dss.length dss.flatten none) := by
                rw [had, q1]
                refine .sl ad.block ad.off len cap _ none (fun k => (W.cell? ⟨ad.block, ad.off + k, none⟩).getD default) hlc hcm (fun k hk => ?_) (fun dd hdd => ?_) (fun k dd hk => ?_) (fun _ _ e => by cases e)
                · obtain ⟨v, h1, _⟩ := q3 k _ (List.getElem?_eq_getElem hk)
                  show W.cell? _ = _
                  rw [h1]; rfl
                · obtain ⟨l, hl, hdd⟩ := List.mem_flatten.1 hdd
                  exact (q2 l hl).len.2 dd hdd
                · obtain ⟨v, h1, h2⟩ := q3 k dd hk
                  simp only [h1, Option.getD_some]; exact h2
              exact ⟨_, RVs.single hfin, dss, rfl, by omega, q2⟩
          · cases h
      · cases hs
    · rename_i fs hu
      rw [hu] at h
      simp only at h
      rw [Option.bind_eq_some_iff] at hs
      obtain ⟨⟨o', s'⟩, hf, hs⟩ := hs
      split at hs
      · rename_i ho
        cases hs
        split at h
        · rename_i hl
          rw [Option.map_eq_some_iff] at h
          obtain ⟨xs, hx, _⟩ := h
          obtain ⟨_, hx2⟩ := mapM_get hx
          obtain ⟨_, ds, r, f⟩ := fields_fits (cs := cs) (fun t s h cs x => trod_fits d t s h fuel cs x) fs.toList 0 _ _ hf (fun f hf => by
            obtain ⟨i, hi⟩ := List.getElem?_of_mem hf
            obtain ⟨y, e1, _⟩ := hx2 i f hi
            exact ⟨y, e1⟩)
          simp only at ho
          rw [List.drop_zero, Nat.sub_zero, List.take_of_length_le (by omega)] at r
          exact ⟨ds, r, f⟩
        · cases h
      · cases hs
    · rename_i n e hu
      rw [hu] at h
      simp only at h
      rw [Option.bind_eq_some_iff] at hs
      obtain ⟨a, ha, hs⟩ := hs
      split at hs
      · rename_i hz
        obtain ⟨hz, hz1⟩ := hz
        cases hs
        split at h
        · rename_i hl
          rw [Option.map_eq_some_iff] at h
          obtain ⟨xs, hx, _⟩ := h
          obtain ⟨_, hx2⟩ := mapM_get hx
          obtain ⟨dss, q1, q2, q3⟩ := rep_fits (g := g0 W) (sz := a.size) (F := Fits a) (fun x hx => hx.len.1) (cs := cs) n (by omega) (fun i hi => by
            obtain ⟨y, e1, _⟩ := hx2 i i (by simp [hi])
            obtain ⟨ds, r, f⟩ := trod_fits d e a ha fuel _ _ e1
            rw [← hz] at r
            exact ⟨ds, r, f⟩)
          rw [List.take_of_length_le (by omega)] at q3
          exact ⟨_, q3, dss, q1, rfl, q2⟩
        · cases h
      · cases hs
    · cases hs

/-- A value that came in. -/
theorem trod_in {t : TypeId} {s : Sh} (d : Nat) (hs : shOf P d t = some s) {v : Value} (h1 : v.oneCell' = true) {x : DataW H} {ps : List MemPlace} (h : DataW.Trod enc P W 0 (fun _ => true) hd t v x ps) : ∃ dd, RV (g0 W) v dd ∧ Fits s [dd] := by
  obtain ⟨fuel, h⟩ := h
  obtain ⟨ds, r, f⟩ := trod_fits d t s hs fuel _ _ h
  have hc : v.cells.toList = [v] := by cases v <;> first | rfl | cases h1
  rw [hc] at r
  match ds, r.1 with
  | [dd], _ => exact ⟨dd, r.2 0 v dd rfl rfl, f⟩
theorem trod_agg {t : TypeId} {s : Sh} (d : Nat) (hs : shOf P d t = some s) {cs : Array Value} {x : DataW H} {ps : List MemPlace} (h : DataW.Trod enc P W 0 (fun _ => true) hd t (.agg cs) x ps) : ∃ ds, RV (g0 W) (.agg cs) (.agg ds) ∧ Fits s ds := by
  obtain ⟨fuel, h⟩ := h
  obtain ⟨ds, r, f⟩ := trod_fits d t s hs fuel _ _ h
  have := rv_agg r f.len.2
  exact ⟨ds, by simpa [Value.cells] using this, f⟩
end

theorem fits_bytes' {n : Nat} {ds : List D} (h : Fits (.rep n (.int .u8)) ds) : ∃ l : List UInt8, l.length = n ∧ ds = bytesD l := by
  obtain ⟨dss, rfl, rfl, h⟩ := h
  induction dss with
  | nil => exact ⟨[], rfl, rfl⟩
  | cons a r ih =>
    obtain ⟨l, h1, h2⟩ := ih (fun x hx => h x (by simp [hx]))
    obtain ⟨n, rfl, h3, h4⟩ := h a (by simp)
    have h3 : 0 ≤ n := h3
    have h4 : n ≤ 255 := h4
    refine ⟨UInt8.ofNat n.toNat :: l, by simp [h1], ?_⟩
    rw [List.flatten_cons, h2, bytesD_cons, ofNat_toNat (by omega), Int.toNat_of_nonneg h3]
    rfl

theorem list_choose {α β : Type} {F : α → β} {Q : α → Prop} : ∀ {l : List β}, (∀ x ∈ l, ∃ a, x = F a ∧ Q a) → ∃ as : List α, l = as.map F ∧ ∀ a ∈ as, Q a
  | [], _ => ⟨[], rfl, by simp⟩
  | b :: r, h => by
    obtain ⟨as, h1, h2⟩ := list_choose (l := r) (fun x hx => h x (by simp [hx]))
    obtain ⟨a, h3, h4⟩ := h b (by simp)
    refine ⟨a :: as, by simp [h1, h3], fun x hx => ?_⟩
    rcases List.mem_cons.1 hx with rfl | hx
    · exact h4
    · exact h2 x hx
end Go.Av
