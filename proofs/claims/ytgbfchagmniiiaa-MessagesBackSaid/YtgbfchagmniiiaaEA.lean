/- From a contract over abstract values to a call of the machine: the values that came in are for good. -/
import Derived.Test.YtgbfchagmniiiaaAvB
import Derived.Test.YtgbfchagmniiiaaSpA
import GoSem.ClaimChange
import Derived.WalkKit
import Derived.ProofKit
import Derived.OpenShut
import Derived.ShutString
import Derived.ChangeOld
import Derived.Below
import Derived.WideShapes
set_option linter.unusedVariables false
namespace Go.Av
open Go.RowKit

/-- All that is there when the call begins is for good. -/
def g0 (W : World) : G := { io := fun _ => none, imm := fun b o => W.cell? ⟨b, o, none⟩, tk := fun _ => none }
theorem rel0 (W : World) : Rel W.heap.size W (g0 W) (fun _ => none) W where
  below := Below.refl _ _
  base := Nat.le_refl _
  imm := fun b o v h => h
  dom := fun id b n h => by cases h
  fin := ⟨0, fun _ _ => ⟨rfl, rfl⟩⟩
  obj := fun id ob h => by cases h
  inj := fun id id' b n n' h => absurd rfl h

theorem entry {P : Program} {f : FuncId} {args : List D} {W : World} {vals : List Value} (h : ∀ (σ : St) (K : D → St → Prop), K (.bool true) σ → ACalls P (fun _ => none) f args σ K) (hv : RVs (g0 W) vals args) :
    Calls P f vals.toArray W fun e W' => e = .returned (.bool true) ∧ Below W.heap.size W W' := by
  have hc := (h (fun _ => none) (fun d _ => d = .bool true) rfl).2 W.heap.size W (g0 W) W vals (fun i cs e => by cases e) hv (rel0 W)
  refine hc.mono fun e W' ⟨v, he, d, g', σ', h1, h2, h3, h4⟩ => ?_
  subst h4
  cases h2
  exact ⟨he, h3.below⟩
end Go.Av

/- A list of hashes that came in, read. -/
set_option linter.unusedVariables false
set_option linter.unusedSimpArgs false
namespace Go.Av
open Go.RowKit

theorem mapM_get {α β : Type} {f : α → Option β} : ∀ {l : List α} {r : List β}, l.mapM f = some r → r.length = l.length ∧ ∀ (i : Nat) x, l[i]? = some x → ∃ y, f x = some y ∧ r[i]? = some y
  | [], r, h => by
    simp at h; subst h
    exact ⟨rfl, fun i x e => by simp at e⟩
  | a :: l, r, h => by
    rw [List.mapM_cons] at h
    cases ha : f a with
    | none => rw [ha] at h; simp at h
    | some b =>
      cases hl : l.mapM f with
      | none => rw [ha, hl] at h; simp at h
      | some r' =>
        rw [ha, hl] at h
        simp at h
        subst h
        obtain ⟨h1, h2⟩ := mapM_get hl
        refine ⟨by simp [h1], fun i x e => ?_⟩
        cases i with
        | zero => simp at e; subst e; exact ⟨b, ha, rfl⟩
        | succ i => exact h2 i x (by simpa using e)

theorem cells_get {W : World} {base n : Nat} {a : Addr} {cs : List Value} (h : W.cells? base a n = some cs) : cs.length = n ∧ ∀ i, i < n → W.cell? (a.add i) = cs[i]? := by
  unfold World.cells? at h
  split at h
  · obtain ⟨h1, h2⟩ := mapM_get h
    refine ⟨by simpa using h1, fun i hi => ?_⟩
    obtain ⟨y, e1, e2⟩ := h2 i i (by simp [hi])
    rw [e1, e2]
  · cases h

section
variable {H : Type} {enc : TypeId × Value → H} {P : Program} {W : World} {base : Nat} {sp : Nat → Bool} {hd : Bool}
theorem trod_byte {b : TypeId} (hb : P.underlying b = some (.int .u8)) {fuel : Nat} {cs : List Value} {x : DataW H × List MemPlace} (h : DataW.trod enc P W base sp hd fuel b cs = some x) : ∃ k : UInt8, cs = [.int .u8 (k.toNat : Nat)] := by
  cases fuel with
  | zero => simp [DataW.trod] at h
  | succ fuel =>
    unfold DataW.trod at h
    rw [hb] at h
    match cs, h with
    | [.int k n], h =>
      simp only at h
      split at h
      · rename_i hk
        obtain ⟨rfl, hw⟩ := hk
        have hn : 0 ≤ n ∧ n ≤ 255 := by simpa [Lit.wf, IntKind.min, IntKind.max, IntKind.signed, IntKind.bits] using hw
        refine ⟨UInt8.ofNat n.toNat, ?_⟩
        rw [ofNat_toNat (by omega), Int.toNat_of_nonneg hn.1]
      · cases h
def byteOf : Value → UInt8
  | .int _ n => UInt8.ofNat n.toNat
  | _ => 0
theorem trod_hash {e b : TypeId} {n : Nat} (he : P.underlying e = some (.array n b)) (hb : P.underlying b = some (.int .u8)) (hce : P.cellsOf e = n) (hcb : P.cellsOf b = 1) {fuel : Nat} {cs : List Value} {x : DataW H × List MemPlace} (h : DataW.trod enc P W base sp hd fuel e cs = some x) :
    ∃ l : List UInt8, l.length = n ∧ cs = l.map fun b => .int .u8 (b.toNat : Nat) := by
  cases fuel with
  | zero => simp [DataW.trod] at h
  | succ fuel =>
    unfold DataW.trod at h
    rw [he] at h
    simp only at h
    split at h
    · rename_i hl
      rw [hce] at hl
      rw [Option.map_eq_some_iff] at h
      obtain ⟨xs, h, _⟩ := h
      obtain ⟨_, h2⟩ := mapM_get h
      refine ⟨cs.map byteOf, by simp [hl], ?_⟩
      apply List.ext_getElem?
      intro i
      by_cases hi : i < n
      · obtain ⟨y, e1, _⟩ := h2 i i (by simp [hi])
        obtain ⟨k, hk⟩ := trod_byte hb e1
        rw [hcb, Nat.mul_one] at hk
        have hci : cs[i]? = some (.int .u8 (k.toNat : Nat)) := by
          have := congrArg (fun l => l[0]?) hk
          simpa [List.getElem?_take, List.getElem?_drop] using this
        simp [hci, byteOf]
      · rw [List.getElem?_eq_none (by omega), List.getElem?_eq_none (by simp; omega)]
    · cases h
theorem add_none {a : Addr} (h : a.spot = none) (n : Nat) : a.add n = ⟨a.block, a.off + n, none⟩ := by
  unfold Addr.add
  split
  · rename_i h0; subst h0; cases a; simp_all
  · rfl
theorem trod_hashes {t e b : TypeId} (ht : P.underlying t = some (.slice e)) (he : P.underlying e = some (.array 32 b)) (hb : P.underlying b = some (.int .u8)) (hce : P.cellsOf e = 32) (hcb : P.cellsOf b = 1) {a : Option Addr} {len cap : Nat} {d : DataW H} {ps : List MemPlace}
    (h : DataW.Trod enc P W 0 (fun _ => true) hd t (.slice a len cap) d ps) : ∃ hs, All32 hs ∧ RV (g0 W) (.slice a len cap) (.sl hs.length (bytesD hs.flatten) none) := by
  obtain ⟨fuel, h⟩ := h
  cases fuel with
  | zero => simp [DataW.trod] at h
  | succ fuel =>
    have hcs : (Value.slice a len cap).cells.toList = [.slice a len cap] := rfl
    rw [hcs] at h
    unfold DataW.trod at h
    rw [ht] at h
    cases a with
    | none =>
      match len, cap, h with
      | 0, 0, h => exact ⟨[], fun x hx => (by cases hx), .slNil none⟩
    | some a =>
      simp only at h
      split at h
      · rename_i hc
        obtain ⟨_, hlc, hcm⟩ := hc
        rw [Option.bind_eq_some_iff] at h
        obtain ⟨xs, hx, h⟩ := h
        rw [Option.map_eq_some_iff] at h
        obtain ⟨ys, hy, _⟩ := h
        simp only [if_true] at hy
        obtain ⟨_, hx2⟩ := mapM_get hx
        obtain ⟨_, hy2⟩ := mapM_get hy
        have helem : ∀ i, i < len → ∃ l : List UInt8, l.length = 32 ∧ ∀ j, j < 32 → W.cell? ((a.add (i * 32)).add j) = (l.map fun b => Value.int .u8 (b.toNat : Nat))[j]? := by
          intro i hi
          obtain ⟨y, e1, _⟩ := hx2 i i (by simp [hi])
          rw [Option.bind_eq_some_iff] at e1
          obtain ⟨cs, e1, e2⟩ := e1
          rw [hce] at e1
          obtain ⟨h1, h2⟩ := cells_get e1
          obtain ⟨l, hl, rfl⟩ := trod_hash he hb hce hcb e2
          exact ⟨l, hl, h2⟩
        by_cases hcap : cap = 0
        · subst hcap
          have hl0 : len = 0 := by omega
          subst hl0
          exact ⟨[], fun x hx => (by cases hx), .slNil (some a)⟩
        · have hspot : a.spot = none := by
            have hsome : ∃ v, W.cell? a = some v := by
              by_cases hl0 : len = 0
              · subst hl0
                obtain ⟨y, e1, _⟩ := hy2 0 0 (List.getElem?_range (by omega))
                rw [Option.bind_eq_some_iff] at e1
                obtain ⟨cs, e1, _⟩ := e1
                rw [hce] at e1
                obtain ⟨h1, h2⟩ := cells_get e1
                have := h2 0 (by decide)
                simp [Addr.add] at this
                rw [this]
                exact ⟨_, List.getElem?_eq_getElem (by omega)⟩
              · obtain ⟨l, hl, h2⟩ := helem 0 (by omega)
                have := h2 0 (by decide)
                simp [Addr.add] at this
                rw [this]
                exact ⟨_, by rw [List.getElem?_eq_getElem (show 0 < l.length by omega)]; rfl⟩
            obtain ⟨v, hv⟩ := hsome
            exact World.cell?_spot hv
          obtain ⟨f, hf⟩ := Classical.axiomOfChoice (r := fun (i : Nat) (l : List UInt8) => i < len → l.length = 32 ∧ ∀ j, j < 32 → W.cell? ((a.add (i * 32)).add j) = (l.map fun b => Value.int .u8 (b.toNat : Nat))[j]?) (fun i => by
            by_cases hi : i < len
            · obtain ⟨l, hl⟩ := helem i hi; exact ⟨l, fun _ => hl⟩
            · exact ⟨[], fun h => absurd h hi⟩)
          have hall : All32 ((List.range len).map f) := fun x hx => by
            obtain ⟨i, hi, rfl⟩ := List.mem_map.1 hx
            exact (hf i (by simpa using hi)).1
          refine ⟨(List.range len).map f, hall, ?_⟩
          have hlen : ((List.range len).map f).length = len := by simp
          rw [hlen]
          have key : ∀ (k : Nat) dd, (bytesD ((List.range len).map f).flatten)[k]? = some dd → ∃ v, W.cell? ⟨a.block, a.off + k, none⟩ = some v ∧ RV (g0 W) v dd := by
            intro k dd hk
            have hkl : k < len * 32 := by
              have := (List.getElem?_eq_some_iff.1 hk).1
              rwa [cells_len hall, hlen] at this
            have hi : k / 32 < len := by omega
            have hat := cells_at hall (k := k / 32) (by rw [hlen]; exact hi)
            have hg : ((List.range len).map f)[k / 32]'(by rw [hlen]; exact hi) = f (k / 32) := by simp
            rw [hg] at hat
            have h3 := congrArg (fun l => l[k % 32]?) hat
            simp only [List.getElem?_take, if_pos (show k % 32 < 32 by omega), List.getElem?_drop] at h3
            rw [show k / 32 * 32 + k % 32 = k by omega, hk] at h3
            obtain ⟨hl, hj⟩ := hf (k / 32) hi
            have h4 := hj (k % 32) (by omega)
            rw [add_none hspot, add_none rfl] at h4
            rw [getElem?_bytesD] at h3
            rw [show a.off + k / 32 * 32 + k % 32 = a.off + k by omega] at h4
            rw [h4, List.getElem?_map]
            have hlt : k % 32 < (f (k / 32)).length := by omega
            rw [List.getElem?_eq_getElem hlt] at h3 ⊢
            simp only [Option.map_some, Option.some.injEq] at h3
            exact ⟨_, rfl, h3 ▸ .int _ _⟩
          have ha : a = ⟨a.block, a.off, none⟩ := by cases a; simp_all
          rw [ha]
          refine .sl a.block a.off len cap _ none (fun k => (W.cell? ⟨a.block, a.off + k, none⟩).getD default) hlc hcm (fun k hk => ?_) (fun dd hdd => ?_) (fun k dd hk => ?_) (fun _ _ e => by cases e)
          · obtain ⟨v, h1, _⟩ := key k _ (List.getElem?_eq_getElem hk)
            show W.cell? _ = _
            rw [h1]; rfl
          · simp only [bytesD, List.mem_map] at hdd
            obtain ⟨x, _, rfl⟩ := hdd; rfl
          · obtain ⟨v, h1, h2⟩ := key k dd hk
            simp only [h1, Option.getD_some]; exact h2
      · cases h
end
end Go.Av

/- What came in, read, whatever its type: numbers, texts, arrays, structs, slices of these. -/
set_option linter.unusedVariables false
set_option linter.unusedSimpArgs false
namespace Go.Av
open Go.RowKit

/-- The shape of a type's cells. -/
inductive Sh where
  | int (k : IntKind)
  | bool
  | str
  | row (e : Sh)
  | unit
  | cat (a b : Sh)
  | rep (n : Nat) (e : Sh)

def Fits : Sh → List D → Prop
  | .int k, ds => ∃ n, ds = [.int k n] ∧ k.min ≤ n ∧ n ≤ k.max
  | .bool, ds => ∃ b, ds = [.bool b]
  | .str, ds => ∃ l, ds = [.str l] ∧ l.length ≤ maxLen
  | .row e, ds => ∃ dss : List (List D), ds = [.sl dss.length dss.flatten none] ∧ dss.length ≤ maxLen ∧ ∀ x ∈ dss, Fits e x
  | .unit, ds => ds = []
  | .cat a b, ds => ∃ x y, ds = x ++ y ∧ Fits a x ∧ Fits b y
  | .rep n e, ds => ∃ dss : List (List D), dss.length = n ∧ ds = dss.flatten ∧ ∀ x ∈ dss, Fits e x

def Sh.size : Sh → Nat
  | .int _ | .bool | .str | .row _ => 1
  | .unit => 0
  | .cat a b => a.size + b.size
  | .rep n e => n * e.size

theorem flatten_len {n : Nat} : ∀ {dss : List (List D)}, (∀ x ∈ dss, x.length = n) → dss.flatten.length = dss.length * n
  | [], _ => by simp
  | a :: r, h => by
    rw [List.flatten_cons, List.length_append, h a (by simp), flatten_len (fun x hx => h x (by simp [hx])), List.length_cons, Nat.add_mul, Nat.one_mul, Nat.add_comm]

theorem Fits.len : ∀ {s : Sh} {ds : List D}, Fits s ds → ds.length = s.size ∧ ∀ d ∈ ds, d.one = true
  | .int k, ds, ⟨n, h, _⟩ => by subst h; exact ⟨rfl, by simp [D.one]⟩
  | .bool, ds, ⟨n, h⟩ => by subst h; exact ⟨rfl, by simp [D.one]⟩
  | .str, ds, ⟨n, h, _⟩ => by subst h; exact ⟨rfl, by simp [D.one]⟩
  | .row e, ds, ⟨n, h, _⟩ => by subst h; exact ⟨rfl, by simp [D.one]⟩
  | .unit, ds, h => by
    have h : ds = [] := h
    subst h; exact ⟨rfl, by simp⟩
  | .cat a b, ds, ⟨x, y, h, h1, h2⟩ => by
    subst h
    refine ⟨by rw [List.length_append, (Fits.len h1).1, (Fits.len h2).1]; rfl, fun d hd => ?_⟩
    rcases List.mem_append.1 hd with hd | hd
    · exact (Fits.len h1).2 d hd
    · exact (Fits.len h2).2 d hd
  | .rep n e, ds, ⟨dss, h0, h, h1⟩ => by
    subst h; subst h0
    refine ⟨flatten_len (fun x hx => (Fits.len (h1 x hx)).1), fun d hd => ?_⟩
    obtain ⟨l, hl, hd⟩ := List.mem_flatten.1 hd
    exact (Fits.len (h1 l hl)).2 d hd

def shFields (P : Program) (sh : TypeId → Option Sh) : Nat → List Field → Option (Nat × Sh)
  | o, [] => some (o, .unit)
  | o, f :: fs => if f.offset = o then (sh f.type).bind fun a => if a.size = P.cellsOf f.type then (shFields P sh (o + a.size) fs).map fun r => (r.1, .cat a r.2) else none else none
def shOf (P : Program) : Nat → TypeId → Option Sh
  | 0, _ => none
  | d + 1, t => match P.underlying t with
    | some (.int k) => some (.int k)
    | some .bool => some .bool
    | some .string => some .str
    | some (.slice e) => (shOf P d e).bind fun a => if a.size = P.cellsOf e ∧ 0 < a.size then some (.row a) else none
    | some (.struct fs) => (shFields P (shOf P d) 0 fs.toList).bind fun r => if r.1 = P.cellsOf t then some r.2 else none
    | some (.array n e) => (shOf P d e).bind fun a => if a.size = P.cellsOf e ∧ n * a.size = P.cellsOf t then some (.rep n a) else none
    | _ => none

theorem rep_fits {g : G} {sz : Nat} {F : List D → Prop} (hF : ∀ x, F x → x.length = sz) {cs : List Value} : ∀ (n : Nat), n * sz ≤ cs.length → (∀ i, i < n → ∃ ds, RVs g ((cs.drop (i * sz)).take sz) ds ∧ F ds) →
    ∃ dss : List (List D), dss.length = n ∧ (∀ x ∈ dss, F x) ∧ RVs g (cs.take (n * sz)) dss.flatten
  | 0, _, _ => ⟨[], rfl, by simp, by simpa using RVs.nil⟩
  | n + 1, hl, h => by
    have hl' : n * sz + sz ≤ cs.length := by rw [Nat.add_mul, Nat.one_mul] at hl; exact hl
    obtain ⟨dss, h1, h2, h3⟩ := rep_fits hF n (by omega) (fun i hi => h i (by omega))
    obtain ⟨ds, h4, h5⟩ := h n (by omega)
    refine ⟨dss ++ [ds], by simp [h1], fun x hx => ?_, ?_⟩
    · rcases List.mem_append.1 hx with hx | hx
      · exact h2 x hx
      · simp at hx; subst hx; exact h5
    · have : cs.take ((n + 1) * sz) = cs.take (n * sz) ++ (cs.drop (n * sz)).take sz := by
        rw [Nat.add_mul, Nat.one_mul, List.take_add]
      rw [this, List.flatten_append]
      simpa using h3.append h4

theorem rowcells {W : World} {g : G} {sz : Nat} {F : List D → Prop} (hF : ∀ x, F x → x.length = sz) {b o : Nat} : ∀ (n : Nat), (∀ i, i < n → ∃ ds, F ds ∧ ∀ j d, ds[j]? = some d → ∃ v, W.cell? ⟨b, o + i * sz + j, none⟩ = some v ∧ RV g v d) →
    ∃ dss : List (List D), dss.length = n ∧ (∀ x ∈ dss, F x) ∧ ∀ k d, dss.flatten[k]? = some d → ∃ v, W.cell? ⟨b, o + k, none⟩ = some v ∧ RV g v d
  | 0, _ => ⟨[], rfl, by simp, fun k d e => by simp at e⟩
  | n + 1, h => by
    obtain ⟨dss, h1, h2, h3⟩ := rowcells hF n (fun i hi => h i (by omega))
    obtain ⟨ds, h4, h5⟩ := h n (by omega)
    have hfl : dss.flatten.length = n * sz := by rw [flatten_len (fun x hx => hF x (h2 x hx)), h1]
    refine ⟨dss ++ [ds], by simp [h1], fun x hx => ?_, fun k d e => ?_⟩
    · rcases List.mem_append.1 hx with hx | hx
      · exact h2 x hx
      · simp at hx; subst hx; exact h4
    · rw [List.flatten_append] at e
      by_cases hk : k < dss.flatten.length
      · rw [List.getElem?_append_left hk] at e; exact h3 k d e
      · rw [List.getElem?_append_right (by omega), hfl] at e
        have := h5 (k - n * sz) d (by simpa using e)
        rwa [show o + n * sz + (k - n * sz) = o + k by omega] at this

section
variable {H : Type} {enc : TypeId × Value → H} {P : Program} {W : World} {hd : Bool}
theorem fields_fits {d : Nat} {cs : List Value} {fuel : Nat} (ih : ∀ t s, shOf P d t = some s → ∀ cs x, DataW.trod enc P W 0 (fun _ => true) hd fuel t cs = some x → ∃ ds, RVs (g0 W) cs ds ∧ Fits s ds) :
    ∀ (fs : List Field) (o o' : Nat) (s : Sh), shFields P (shOf P d) o fs = some (o', s) → (∀ f ∈ fs, ∃ x, DataW.trod enc P W 0 (fun _ => true) hd fuel f.type ((cs.drop f.offset).take (P.cellsOf f.type)) = some x) →
      o ≤ o' ∧ ∃ ds, RVs (g0 W) ((cs.drop o).take (o' - o)) ds ∧ Fits s ds
  | [], o, o', s, h, _ => by
    simp [shFields] at h
    obtain ⟨rfl, rfl⟩ := h
    exact ⟨Nat.le_refl _, [], by simpa using RVs.nil, rfl⟩
  | f :: fs, o, o', s, h, hf => by
    unfold shFields at h
    split at h
    · rename_i ho
      rw [Option.bind_eq_some_iff] at h
      obtain ⟨a, ha, h⟩ := h
      split at h
      · rename_i hsz
        rw [Option.map_eq_some_iff] at h
        obtain ⟨⟨o2, s2⟩, h2, h⟩ := h
        simp only [Prod.mk.injEq] at h
        obtain ⟨rfl, rfl⟩ := h
        obtain ⟨hle, ds2, r2, f2⟩ := fields_fits ih fs _ _ _ h2 (fun f' hf' => hf f' (by simp [hf']))
        obtain ⟨x, hx⟩ := hf f (by simp)
        obtain ⟨ds1, r1, f1⟩ := ih _ _ ha _ _ hx
        refine ⟨by omega, ds1 ++ ds2, ?_, ds1, ds2, rfl, f1, f2⟩
        rw [ho, ← hsz] at r1
        have : (cs.drop o).take (o2 - o) = (cs.drop o).take a.size ++ (cs.drop (o + a.size)).take (o2 - (o + a.size)) := by
          rw [show o2 - o = a.size + (o2 - (o + a.size)) by omega, List.take_add, List.drop_drop]
        rw [this]
        exact r1.append r2
      · cases h
    · cases h

theorem trod_fits : ∀ (d : Nat) (t : TypeId) (s : Sh), shOf P d t = some s → ∀ (fuel : Nat) (cs : List Value) (x : DataW H × List MemPlace), DataW.trod enc P W 0 (fun _ => true) hd fuel t cs = some x → ∃ ds, RVs (g0 W) cs ds ∧ Fits s ds
  | 0, t, s, h, _, _, _, _ => by cases h
  | d + 1, t, s, hs, 0, cs, x, h => by simp [DataW.trod] at h
  | d + 1, t, s, hs, fuel + 1, cs, x, h => by
    unfold DataW.trod at h
    unfold shOf at hs
    split at hs
    · rename_i k hu
      rw [hu] at h
      cases hs
      match cs, h with
      | [.int k' n], h =>
        simp only at h
        split at h
        · rename_i hk
          obtain ⟨rfl, hw⟩ := hk
          exact ⟨_, RVs.single (.int _ _), n, rfl, by simpa [Lit.wf] using hw⟩
        · cases h
    · rename_i hu
      rw [hu] at h
      cases hs
      match cs, h with
      | [.bool b], h => exact ⟨_, RVs.single (.bool _), b, rfl⟩
    · rename_i hu
      rw [hu] at h
      cases hs
      match cs, h with
      | [.string b], h =>
        simp only at h
        split at h
        · rename_i hl
          exact ⟨_, RVs.single (.str b _ rfl), _, rfl, by simpa using hl⟩
        · cases h
    · rename_i e hu
      rw [hu] at h
      rw [Option.bind_eq_some_iff] at hs
      obtain ⟨a, ha, hs⟩ := hs
      split at hs
      · rename_i hz
        obtain ⟨hz, hz0⟩ := hz
        cases hs
        match cs, h with
        | [.slice none 0 0], h => exact ⟨_, RVs.single (.slNil none), [], rfl, Nat.zero_le _, fun x hx => by cases hx⟩
        | [.slice (some ad) len cap], h =>
          simp only at h
          split at h
          · rename_i hc
            obtain ⟨_, hlc, hcm⟩ := hc
            rw [Option.bind_eq_some_iff] at h
            obtain ⟨xs, hx, h⟩ := h
            rw [Option.map_eq_some_iff] at h
            obtain ⟨ys, hy, _⟩ := h
            simp only [if_true] at hy
            obtain ⟨_, hx2⟩ := mapM_get hx
            obtain ⟨_, hy2⟩ := mapM_get hy
            have helem : ∀ i, i < len → ∃ cs ds, RVs (g0 W) cs ds ∧ Fits a ds ∧ cs.length = P.cellsOf e ∧ ∀ j, j < P.cellsOf e → W.cell? ((ad.add (i * P.cellsOf e)).add j) = cs[j]? := by
              intro i hi
              obtain ⟨y, e1, _⟩ := hx2 i i (by simp [hi])
              rw [Option.bind_eq_some_iff] at e1
              obtain ⟨cs, e1, e2⟩ := e1
              obtain ⟨h1, h2⟩ := cells_get e1
              obtain ⟨ds, h3, h4⟩ := trod_fits d e a ha fuel cs _ e2
              exact ⟨cs, ds, h3, h4, h1, h2⟩
            by_cases hcap : cap = 0
            · subst hcap
              have hl0 : len = 0 := by omega
              subst hl0
              exact ⟨_, RVs.single (.slNil (some ad)), [], rfl, Nat.zero_le _, fun x hx => by cases hx⟩
            · have hspot : ad.spot = none := by
                have hsome : ∃ v, W.cell? ad = some v := by
                  by_cases hl0 : len = 0
                  · subst hl0
                    obtain ⟨y, e1, _⟩ := hy2 0 0 (List.getElem?_range (by omega))
                    rw [Option.bind_eq_some_iff] at e1
                    obtain ⟨cs, e1, _⟩ := e1
                    obtain ⟨h1, h2⟩ := cells_get e1
                    have := h2 0 (by omega)
                    simp [Addr.add] at this
                    rw [this]
                    exact ⟨_, List.getElem?_eq_getElem (by omega)⟩
                  · obtain ⟨cs, ds, _, _, h1, h2⟩ := helem 0 (by omega)
                    have := h2 0 (by omega)
                    simp [Addr.add] at this
                    rw [this]
                    exact ⟨_, List.getElem?_eq_getElem (by omega)⟩
                obtain ⟨v, hv⟩ := hsome
                exact World.cell?_spot hv
              obtain ⟨dss, q1, q2, q3⟩ := rowcells (W := W) (g := g0 W) (sz := P.cellsOf e) (F := Fits a) (fun x hx => by rw [hx.len.1, hz]) (b := ad.block) (o := ad.off) len (fun i hi => by
                obtain ⟨cs, ds, h1, h2, h3, h4⟩ := helem i hi
                refine ⟨ds, h2, fun j dd hj => ?_⟩
                have hjl : j < ds.length := (List.getElem?_eq_some_iff.1 hj).1
                have hjc : j < cs.length := by rw [h1.1]; exact hjl
                have := h4 j (by omega)
                rw [add_none hspot, add_none rfl] at this
                exact ⟨_, by rw [this]; exact List.getElem?_eq_getElem hjc, h1.2 j _ _ (List.getElem?_eq_getElem hjc) hj⟩)
              have had : ad = ⟨ad.block, ad.off, none⟩ := by cases ad; simp_all
              have hfin : RV (g0 W) (.slice (some ad) len cap) (.sl dss.length dss.flatten none) := by
                rw [had, q1]
                refine .sl ad.block ad.off len cap _ none (fun k => (W.cell? ⟨ad.block, ad.off + k, none⟩).getD default) hlc hcm (fun k hk => ?_) (fun dd hdd => ?_) (fun k dd hk => ?_) (fun _ _ e => by cases e)
                · obtain ⟨v, h1, _⟩ := q3 k _ (List.getElem?_eq_getElem hk)
                  show W.cell? _ = _
                  rw [h1]; rfl
                · obtain ⟨l, hl, hdd⟩ := List.mem_flatten.1 hdd
                  exact (q2 l hl).len.2 dd hdd
                · obtain ⟨v, h1, h2⟩ := q3 k dd hk
                  simp only [h1, Option.getD_some]; exact h2
              exact ⟨_, RVs.single hfin, dss, rfl, by omega, q2⟩
          · cases h
      · cases hs
    · rename_i fs hu
      rw [hu] at h
      simp only at h
      rw [Option.bind_eq_some_iff] at hs
      obtain ⟨⟨o', s'⟩, hf, hs⟩ := hs
      split at hs
      · rename_i ho
        cases hs
        split at h
        · rename_i hl
          rw [Option.map_eq_some_iff] at h
          obtain ⟨xs, hx, _⟩ := h
          obtain ⟨_, hx2⟩ := mapM_get hx
          obtain ⟨_, ds, r, f⟩ := fields_fits (cs := cs) (fun t s h cs x => trod_fits d t s h fuel cs x) fs.toList 0 _ _ hf (fun f hf => by
            obtain ⟨i, hi⟩ := List.getElem?_of_mem hf
            obtain ⟨y, e1, _⟩ := hx2 i f hi
            exact ⟨y, e1⟩)
          simp only at ho
          rw [List.drop_zero, Nat.sub_zero, List.take_of_length_le (by omega)] at r
          exact ⟨ds, r, f⟩
        · cases h
      · cases hs
    · rename_i n e hu
      rw [hu] at h
      simp only at h
      rw [Option.bind_eq_some_iff] at hs
      obtain ⟨a, ha, hs⟩ := hs
      split at hs
      · rename_i hz
        obtain ⟨hz, hz1⟩ := hz
        cases hs
        split at h
        · rename_i hl
          rw [Option.map_eq_some_iff] at h
          obtain ⟨xs, hx, _⟩ := h
          obtain ⟨_, hx2⟩ := mapM_get hx
          obtain ⟨dss, q1, q2, q3⟩ := rep_fits (g := g0 W) (sz := a.size) (F := Fits a) (fun x hx => hx.len.1) (cs := cs) n (by omega) (fun i hi => by
            obtain ⟨y, e1, _⟩ := hx2 i i (by simp [hi])
            obtain ⟨ds, r, f⟩ := trod_fits d e a ha fuel _ _ e1
            rw [← hz] at r
            exact ⟨ds, r, f⟩)
          rw [List.take_of_length_le (by omega)] at q3
          exact ⟨_, q3, dss, q1, rfl, q2⟩
        · cases h
      · cases hs
    · cases hs

/-- A value that came in. -/
theorem trod_in {t : TypeId} {s : Sh} (d : Nat) (hs : shOf P d t = some s) {v : Value} (h1 : v.oneCell' = true) {x : DataW H} {ps : List MemPlace} (h : DataW.Trod enc P W 0 (fun _ => true) hd t v x ps) : ∃ dd, RV (g0 W) v dd ∧ Fits s [dd] := by
  obtain ⟨fuel, h⟩ := h
  obtain ⟨ds, r, f⟩ := trod_fits d t s hs fuel _ _ h
  have hc : v.cells.toList = [v] := by cases v <;> first | rfl | cases h1
  rw [hc] at r
  match ds, r.1 with
  | [dd], _ => exact ⟨dd, r.2 0 v dd rfl rfl, f⟩
theorem trod_agg {t : TypeId} {s : Sh} (d : Nat) (hs : shOf P d t = some s) {cs : Array Value} {x : DataW H} {ps : List MemPlace} (h : DataW.Trod enc P W 0 (fun _ => true) hd t (.agg cs) x ps) : ∃ ds, RV (g0 W) (.agg cs) (.agg ds) ∧ Fits s ds := by
  obtain ⟨fuel, h⟩ := h
  obtain ⟨ds, r, f⟩ := trod_fits d t s hs fuel _ _ h
  have := rv_agg r f.len.2
  exact ⟨ds, by simpa [Value.cells] using this, f⟩
end

theorem fits_bytes' {n : Nat} {ds : List D} (h : Fits (.rep n (.int .u8)) ds) : ∃ l : List UInt8, l.length = n ∧ ds = bytesD l := by
  obtain ⟨dss, rfl, rfl, h⟩ := h
  induction dss with
  | nil => exact ⟨[], rfl, rfl⟩
  | cons a r ih =>
    obtain ⟨l, h1, h2⟩ := ih (fun x hx => h x (by simp [hx]))
    obtain ⟨n, rfl, h3, h4⟩ := h a (by simp)
    have h3 : 0 ≤ n := h3
    have h4 : n ≤ 255 := h4
    refine ⟨UInt8.ofNat n.toNat :: l, by simp [h1], ?_⟩
    rw [List.flatten_cons, h2, bytesD_cons, ofNat_toNat (by omega), Int.toNat_of_nonneg h3]
    rfl

theorem list_choose {α β : Type} {F : α → β} {Q : α → Prop} : ∀ {l : List β}, (∀ x ∈ l, ∃ a, x = F a ∧ Q a) → ∃ as : List α, l = as.map F ∧ ∀ a ∈ as, Q a
  | [], _ => ⟨[], rfl, by simp⟩
  | b :: r, h => by
    obtain ⟨as, h1, h2⟩ := list_choose (l := r) (fun x hx => h x (by simp [hx]))
    obtain ⟨a, h3, h4⟩ := h b (by simp)
    refine ⟨a :: as, by simp [h1, h3], fun x hx => ?_⟩
    rcases List.mem_cons.1 hx with rfl | hx
    · exact h4
    · exact h2 x hx
end Go.Av

/- A row's arguments, whatever their types: what came in; that they read as they did. -/
set_option linter.unusedVariables false
set_option linter.unusedSimpArgs false
namespace Go.Av
open Go.RowKit Go.ChangeShapes Go.WideShapes

/-- An argument of a shape: a struct or an array is handed over as its cells. -/
def FitV (ag : Option Bool) (s : Sh) (d : D) : Prop := if ag = some true then ∃ cs, d = .agg cs ∧ Fits s cs else Fits s [d]
section
variable {H : Type} {enc : TypeId × Value → H} {P : Program} {W : World}
theorem arg_in {t : TypeId} {s : Sh} (hs : shOf P 20 t = some s) {base : Nat} {v : Value} (hw : Value.okWide P W .any base t v) {x : DataW H} {ps : List MemPlace} (h : DataW.Trod enc P W 0 (fun _ => true) true t v x ps) : ∃ d, RV (g0 W) v d ∧ FitV (tagg P t) s d := by
  have hs' := hs
  unfold shOf at hs'
  have one : ∀ (ag : Bool), ag = false → tagg P t = some ag → v.oneCell' = true → ∃ d, RV (g0 W) v d ∧ FitV (tagg P t) s d := by
    intro ag hf ha h1
    subst hf
    obtain ⟨d, r, f⟩ := trod_in 20 hs h1 h
    exact ⟨d, r, by rw [FitV, ha, if_neg (by simp)]; exact f⟩
  split at hs'
  · rename_i k hu
    obtain ⟨n, rfl⟩ := okWide_int hu hw
    exact one false rfl (by simp [tagg, hu]) rfl
  · rename_i hu
    obtain ⟨n, rfl⟩ := okWide_bool hu hw
    exact one false rfl (by simp [tagg, hu]) rfl
  · rename_i hu
    obtain ⟨n, rfl⟩ := okWide_string hu hw
    exact one false rfl (by simp [tagg, hu]) rfl
  · rename_i e hu
    obtain ⟨a, l, c, rfl⟩ := okWide_slice hu hw
    exact one false rfl (by simp [tagg, hu]) rfl
  · rename_i fs hu
    obtain ⟨cs, rfl, _⟩ := okWide_struct hu hw
    obtain ⟨ds, r, f⟩ := trod_agg 20 hs h
    exact ⟨_, r, by rw [FitV, if_pos (by simp [tagg, hu])]; exact ⟨ds, rfl, f⟩⟩
  · rename_i n e hu
    unfold Value.okWide at hw
    rw [hu] at hw
    obtain ⟨cs, rfl, _⟩ := hw
    obtain ⟨ds, r, f⟩ := trod_agg 20 hs h
    exact ⟨_, r, by rw [FitV, if_pos (by simp [tagg, hu])]; exact ⟨ds, rfl, f⟩⟩
  · cases hs'

theorem args_out (hl : laidOutB P = true) {W' : World} (hb : Below W.heap.size W W') : ∀ {ts : List TypeId} {vs : List Value} {ds : List (DataW H)} {ps : List MemPlace}, ts.all (fun t => P.readableRec t && decide (t < P.types.size)) = true → DataW.TrodAll enc P W 0 (fun _ => true) true ts vs ds ps → DataW.TrodAll enc P W' 0 (fun b => decide (b < W.heap.size)) true ts vs ds ps
  | [], vs, ds, ps, _, h => by
    obtain ⟨rfl, rfl, rfl⟩ := trodAll_nil h
    exact trodAll_mk0
  | t :: ts, vs, ds, ps, hr, h => by
    obtain ⟨v, vs', d, ds', p, q, rfl, rfl, rfl, h1, h2⟩ := trodAll_cons h
    simp only [List.all_cons, Bool.and_eq_true, decide_eq_true_eq] at hr
    have lt : ∀ x ∈ p, x.block < W.heap.size := by obtain ⟨m, hm⟩ := h1; exact DataW.trod_lt m _ _ _ hm
    exact trodAll_cons_mk (Below.trod hl hr.1.1 hr.1.2 h1 hb lt) (args_out hl hb hr.2 h2)
end
theorem rvs_nil {g : G} : RVs g [] [] := ⟨rfl, fun k v d e => by simp at e⟩
theorem rvs_cons {g : G} {v : Value} {d : D} {vs : List Value} {ds : List D} (h : RV g v d) (hs : RVs g vs ds) : RVs g (v :: vs) (d :: ds) := (RVs.single h).append hs
end Go.Av
