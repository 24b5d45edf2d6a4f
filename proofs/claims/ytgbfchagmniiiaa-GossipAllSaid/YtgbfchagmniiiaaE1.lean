/- A list of hashes that came in, read. -/
import Derived.Test.YtgbfchagmniiiaaE0
import Derived.Test.YtgbfchagmniiiaaSp4
import GoSem.ClaimChange
set_option linter.unusedVariables false
set_option linter.unusedSimpArgs false
namespace Go.Av
open Go.RowKit

theorem mapM_get {α β : Type} {f : α → Option β} : ∀ {l : List α} {r : List β}, l.mapM f = some r → r.length = l.length ∧ ∀ (i : Nat) x, l[i]? = some x → ∃ y, f x = some y ∧ r[i]? = some y
  | [], r, h => by
    simp at h; subst h
    exact ⟨rfl, fun i x e => by simp at e⟩
  | a :: l, r, h => by
    rw [List.mapM_cons] at h
    cases ha : f a with
    | none => rw [ha] at h; simp at h
    | some b =>
      cases hl : l.mapM f with
      | none => rw [ha, hl] at h; simp at h
      | some r' =>
        rw [ha, hl] at h
        simp at h
        subst h
        obtain ⟨h1, h2⟩ := mapM_get hl
        refine ⟨by simp [h1], fun i x e => ?_⟩
        cases i with
        | zero => simp at e; subst e; exact ⟨b, ha, rfl⟩
        | succ i => exact h2 i x (by simpa using e)

theorem cells_get {W : World} {base n : Nat} {a : Addr} {cs : List Value} (h : W.cells? base a n = some cs) : cs.length = n ∧ ∀ i, i < n → W.cell? (a.add i) = cs[i]? := by
  unfold World.cells? at h
  split at h
  · obtain ⟨h1, h2⟩ := mapM_get h
    refine ⟨by simpa using h1, fun i hi => ?_⟩
    obtain ⟨y, e1, e2⟩ := h2 i i (by simp [hi])
    rw [e1, e2]
  · cases h

section
variable {H : Type} {enc : TypeId × Value → H} {P : Program} {W : World} {base : Nat} {sp : Nat → Bool} {hd : Bool}
theorem trod_byte {b : TypeId} (hb : P.underlying b = some (.int .u8)) {fuel : Nat} {cs : List Value} {x : DataW H × List MemPlace} (h : DataW.trod enc P W base sp hd fuel b cs = some x) : ∃ k : UInt8, cs = [.int .u8 (k.toNat : Nat)] := by
  cases fuel with
  | zero => simp [DataW.trod] at h
  | succ fuel =>
    unfold DataW.trod at h
    rw [hb] at h
    match cs, h with
    | [.int k n], h =>
      simp only at h
      split at h
      · rename_i hk
        obtain ⟨rfl, hw⟩ := hk
        have hn : 0 ≤ n ∧ n ≤ 255 := by simpa [Lit.wf, IntKind.min, IntKind.max, IntKind.signed, IntKind.bits] using hw
        refine ⟨UInt8.ofNat n.toNat, ?_⟩
        rw [ofNat_toNat (by omega), Int.toNat_of_nonneg hn.1]
      · cases h
def byteOf : Value → UInt8
  | .int _ n => UInt8.ofNat n.toNat
  | _ => 0
theorem trod_hash {e b : TypeId} {n : Nat} (he : P.underlying e = some (.array n b)) (hb : P.underlying b = some (.int .u8)) (hce : P.cellsOf e = n) (hcb : P.cellsOf b = 1) {fuel : Nat} {cs : List Value} {x : DataW H × List MemPlace} (h : DataW.trod enc P W base sp hd fuel e cs = some x) :
    ∃ l : List UInt8, l.length = n ∧ cs = l.map fun b => .int .u8 (b.toNat : Nat) := by
  cases fuel with
  | zero => simp [DataW.trod] at h
  | succ fuel =>
    unfold DataW.trod at h
    rw [he] at h
    simp only at h
    split at h
    · rename_i hl
      rw [hce] at hl
      rw [Option.map_eq_some_iff] at h
      obtain ⟨xs, h, _⟩ := h
      obtain ⟨_, h2⟩ := mapM_get h
      refine ⟨cs.map byteOf, by simp [hl], ?_⟩
      apply List.ext_getElem?
      intro i
      by_cases hi : i < n
      · obtain ⟨y, e1, _⟩ := h2 i i (by simp [hi])
        obtain ⟨k, hk⟩ := trod_byte hb e1
        rw [hcb, Nat.mul_one] at hk
        have hci : cs[i]? = some (.int .u8 (k.toNat : Nat)) := by
          have := congrArg (fun l => l[0]?) hk
          simpa [List.getElem?_take, List.getElem?_drop] using this
        simp [hci, byteOf]
      · rw [List.getElem?_eq_none (by omega), List.getElem?_eq_none (by simp; omega)]
    · cases h
theorem add_none {a : Addr} (h : a.spot = none) (n : Nat) : a.add n = ⟨a.block, a.off + n, none⟩ := by
  unfold Addr.add
  split
  · rename_i h0; subst h0; cases a; simp_all
  · rfl
theorem trod_hashes {t e b : TypeId} (ht : P.underlying t = some (.slice e)) (he : P.underlying e = some (.array 32 b)) (hb : P.underlying b = some (.int .u8)) (hce : P.cellsOf e = 32) (hcb : P.cellsOf b = 1) {a : Option Addr} {len cap : Nat} {d : DataW H} {ps : List MemPlace}
    (h : DataW.Trod enc P W 0 (fun _ => true) hd t (.slice a len cap) d ps) : ∃ hs, All32 hs ∧ RV (g0 W) (.slice a len cap) (.sl hs.length (bytesD hs.flatten) none) := by
  obtain ⟨fuel, h⟩ := h
  cases fuel with
  | zero => simp [DataW.trod] at h
  | succ fuel =>
    have hcs : (Value.slice a len cap).cells.toList = [.slice a len cap] := rfl
    rw [hcs] at h
    unfold DataW.trod at h
    rw [ht] at h
    cases a with
    | none =>
      match len, cap, h with
      | 0, 0, h => exact ⟨[], fun x hx => (by cases hx), .slNil none⟩
    | some a =>
      simp only at h
      split at h
      · rename_i hc
        obtain ⟨_, hlc, hcm⟩ := hc
        rw [Option.bind_eq_some_iff] at h
        obtain ⟨xs, hx, h⟩ := h
        rw [Option.map_eq_some_iff] at h
        obtain ⟨ys, hy, _⟩ := h
        simp only [if_true] at hy
        obtain ⟨_, hx2⟩ := mapM_get hx
        obtain ⟨_, hy2⟩ := mapM_get hy
        have helem : ∀ i, i < len → ∃ l : List UInt8, l.length = 32 ∧ ∀ j, j < 32 → W.cell? ((a.add (i * 32)).add j) = (l.map fun b => Value.int .u8 (b.toNat : Nat))[j]? := by
          intro i hi
          obtain ⟨y, e1, _⟩ := hx2 i i (by simp [hi])
          rw [Option.bind_eq_some_iff] at e1
          obtain ⟨cs, e1, e2⟩ := e1
          rw [hce] at e1
          obtain ⟨h1, h2⟩ := cells_get e1
          obtain ⟨l, hl, rfl⟩ := trod_hash he hb hce hcb e2
          exact ⟨l, hl, h2⟩
        by_cases hcap : cap = 0
        · subst hcap
          have hl0 : len = 0 := by omega
          subst hl0
          exact ⟨[], fun x hx => (by cases hx), .slNil (some a)⟩
        · have hspot : a.spot = none := by
            have hsome : ∃ v, W.cell? a = some v := by
              by_cases hl0 : len = 0
              · subst hl0
                obtain ⟨y, e1, _⟩ := hy2 0 0 (List.getElem?_range (by omega))
                rw [Option.bind_eq_some_iff] at e1
                obtain ⟨cs, e1, _⟩ := e1
                rw [hce] at e1
                obtain ⟨h1, h2⟩ := cells_get e1
                have := h2 0 (by decide)
                simp [Addr.add] at this
                rw [this]
                exact ⟨_, List.getElem?_eq_getElem (by omega)⟩
              · obtain ⟨l, hl, h2⟩ := helem 0 (by omega)
                have := h2 0 (by decide)
                simp [Addr.add] at this
                rw [this]
                exact ⟨_, by rw [List.getElem?_eq_getElem (show 0 < l.length by omega)]; rfl⟩
            obtain ⟨v, hv⟩ := hsome
            exact World.cell?_spot hv
          obtain ⟨f, hf⟩ := Classical.axiomOfChoice (r := fun (i : Nat) (l : List UInt8) => i < len → l.length = 32 ∧ ∀ j, j < 32 → W.cell? ((a.add (i * 32)).add j) = (l.map fun b => Value.int .u8 (b.toNat : Nat))[j]?) (fun i => by
            by_cases hi : i < len
            · obtain ⟨l, hl⟩ := helem i hi; exact ⟨l, fun _ => hl⟩
            · exact ⟨[], fun h => absurd h hi⟩)
          have hall : All32 ((List.range len).map f) := fun x hx => by
            obtain ⟨i, hi, rfl⟩ := List.mem_map.1 hx
            exact (hf i (by simpa using hi)).1
          refine ⟨(List.range len).map f, hall, ?_⟩
          have hlen : ((List.range len).map f).length = len := by simp
          rw [hlen]
          have key : ∀ (k : Nat) dd, (bytesD ((List.range len).map f).flatten)[k]? = some dd → ∃ v, W.cell? ⟨a.block, a.off + k, none⟩ = some v ∧ RV (g0 W) v dd := by
            intro k dd hk
            have hkl : k < len * 32 := by
              have := (List.getElem?_eq_some_iff.1 hk).1
              rwa [cells_len hall, hlen] at this
            have hi : k / 32 < len := by omega
            have hat := cells_at hall (k := k / 32) (by rw [hlen]; exact hi)
            have hg : ((List.range len).map f)[k / 32]'(by rw [hlen]; exact hi) = f (k / 32) := by simp
            rw [hg] at hat
            have h3 := congrArg (fun l => l[k % 32]?) hat
            simp only [List.getElem?_take, if_pos (show k % 32 < 32 by omega), List.getElem?_drop] at h3
            rw [show k / 32 * 32 + k % 32 = k by omega, hk] at h3
            obtain ⟨hl, hj⟩ := hf (k / 32) hi
            have h4 := hj (k % 32) (by omega)
            rw [add_none hspot, add_none rfl] at h4
            rw [getElem?_bytesD] at h3
            rw [show a.off + k / 32 * 32 + k % 32 = a.off + k by omega] at h4
            rw [h4, List.getElem?_map]
            have hlt : k % 32 < (f (k / 32)).length := by omega
            rw [List.getElem?_eq_getElem hlt] at h3 ⊢
            simp only [Option.map_some, Option.some.injEq] at h3
            exact ⟨_, rfl, h3 ▸ .int _ _⟩
          have ha : a = ⟨a.block, a.off, none⟩ := by cases a; simp_all
          rw [ha]
          refine .sl a.block a.off len cap _ none (fun k => (W.cell? ⟨a.block, a.off + k, none⟩).getD default) hlc hcm (fun k hk => ?_) (fun dd hdd => ?_) (fun k dd hk => ?_) (fun _ _ e => by cases e)
          · obtain ⟨v, h1, _⟩ := key k _ (List.getElem?_eq_getElem hk)
            show W.cell? _ = _
            rw [h1]; rfl
          · simp only [bytesD, List.mem_map] at hdd
            obtain ⟨x, _, rfl⟩ := hdd; rfl
          · obtain ⟨v, h1, h2⟩ := key k dd hk
            simp only [h1, Option.getD_some]; exact h2
      · cases h
end
end Go.Av
