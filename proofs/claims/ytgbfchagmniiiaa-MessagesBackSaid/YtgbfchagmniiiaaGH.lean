/- gossip: what is got of bytes: the plain laws. -/
import Derived.Test.YtgbfchagmniiiaaGG
set_option maxRecDepth 8000
set_option linter.unusedSimpArgs false
set_option linter.unusedVariables false
namespace Go.Proofs.Try
open Go Go.Av
def okG (t : List UInt8) : Prop := (cutB t).isSome = true ∧ GetOk (q4 t).1
instance (t : List UInt8) : Decidable (okG t) := by unfold okG; infer_instance
def gN : Nat → List UInt8 → Option (List SHead × List UInt8)
  | 0, r => some ([], r)
  | m + 1, r => if okG r then (gN m (q4 r).2).map (fun p => (getX (q4 r).1 :: p.1, p.2)) else none
def getG (t : List UInt8) : Option (List SHead) := match countB 71 t with
  | none => none
  | some (n, r) => if 1 ≤ n ∧ n ≤ 3 then (match gN n r with
    | some (l, []) => some l
    | _ => none) else none
def dGetG (t : List UInt8) : D := match getG t with
  | some l => .tup [.sl l.length (sgsD l) none, .int .i64 0]
  | none => .tup [.sl 0 [] none, .int .i64 10]
theorem cut_some {t : List UInt8} (h : (cutB t).isSome = true) : t = textB (q4 t).1 ++ (q4 t).2 := by
  rw [q4]
  obtain ⟨⟨u, r⟩, e⟩ := Option.isSome_iff_exists.1 h
  rw [e]
  unfold cutB at e
  cases hr : readB t with
  | none => rw [hr] at e; cases e
  | some q =>
    obtain ⟨n, v⟩ := q
    rw [hr] at e
    have e : takeB v n = some (u, r) := e
    have hl := (readB_some hr).2
    unfold takeB at e
    split at e
    · cases e
    · rename_i hn
      cases e
      have hlen : (v.take n).length = n := by rw [List.length_take]; omega
      show t = textB (v.take n) ++ v.drop n
      rw [textB, hlen, List.append_assoc, List.take_append_drop]
      exact hl
theorem gB_cons (x : SHead) (L : List SHead) : gB (x :: L) = textB (putB x) ++ gB L := by simp [gB]
theorem gN_some : ∀ (n : Nat) (t : List UInt8) (L : List SHead) (r : List UInt8), gN n t = some (L, r) → L.length = n ∧ (∀ x ∈ L, valid x) ∧ t = gB L ++ r
  | 0, t, L, r, h => by
    rw [gN] at h; cases h
    exact ⟨rfl, (fun x hx => nomatch hx), (by simp [gB])⟩
  | m + 1, t, L, r, h => by
    rw [gN] at h
    split at h
    · rename_i hok
      cases hg : gN m (q4 t).2 with
      | none => rw [hg] at h; cases h
      | some p =>
        obtain ⟨M, r'⟩ := p
        rw [hg] at h
        simp only [Option.map_some, Option.some.injEq, Prod.mk.injEq] at h
        obtain ⟨rfl, rfl⟩ := h
        obtain ⟨h1, h2, h3⟩ := gN_some m _ _ _ hg
        refine ⟨by rw [List.length_cons, h1], fun x hx => ?_, ?_⟩
        · rcases List.mem_cons.1 hx with rfl | hx
          · exact hok.2.2.2
          · exact h2 x hx
        · rw [gB_cons, put_get hok.2, List.append_assoc, ← h3]
          exact cut_some hok.1
    · cases h
theorem gN_put : ∀ (L : List SHead) (r : List UInt8), (∀ x ∈ L, valid x) → gN L.length (gB L ++ r) = some (L, r)
  | [], r, h => by rw [List.length_nil, gN]; simp [gB]
  | x :: L, r, h => by
    have hv := h x (by simp)
    have hl := putB_len hv
    obtain ⟨a, b⟩ := q4_put (t := putB x) (by omega) (gB L ++ r)
    have e : gB (x :: L) ++ r = textB (putB x) ++ (gB L ++ r) := by rw [gB_cons, List.append_assoc]
    have hg := get_put hv
    rw [e, List.length_cons, gN, a, if_pos ⟨b, by rw [a]; exact hg.1⟩, gN_put L r (fun y hy => h y (by simp [hy]))]
    simp only [Option.map_some, hg.2]
theorem countB_some {c : UInt8} {t r : List UInt8} {n : Nat} (h : countB c t = some (n, r)) : n < 18446744073709551616 ∧ t = c :: (numB n ++ r) := by
  unfold countB at h
  split at h
  · rename_i hp
    obtain ⟨a, b⟩ := readB_some h
    refine ⟨a, ?_⟩
    have hp : t.head? = some c := of_decide_eq_true hp
    cases t with
    | nil => cases hp
    | cons x t =>
      cases hp
      rw [List.tail_cons] at b; rw [b]
  · cases h
theorem countB_put {c : UInt8} {n : Nat} (h : n < 18446744073709551616) (r : List UInt8) : countB c (c :: (numB n ++ r)) = some (n, r) := by
  have hp : pre c (c :: (numB n ++ r)) = true := decide_eq_true rfl
  rw [countB, if_pos hp, List.tail_cons, readB_numB h]
theorem countB_other {c c' : UInt8} (hc : c' ≠ c) (r : List UInt8) : countB c (c' :: r) = none := by
  rw [countB, if_neg]
  intro h
  have : (c' :: r).head? = some c := of_decide_eq_true h
  cases this; exact hc rfl
theorem getG_put {L : List SHead} (h : GPOk L) (u : List UInt8) : countB 71 (gput L ++ u) = some (L.length, gB L ++ u) ∧ gN L.length (gB L ++ u) = some (L, u) := by
  refine ⟨?_, gN_put L u h.2⟩
  have : gput L ++ u = 71 :: (numB L.length ++ (gB L ++ u)) := by simp only [gput, List.cons_append, List.append_assoc]
  rw [this]
  exact countB_put (by have := h.1; omega) _
theorem getG_iff {t : List UInt8} {L : List SHead} : getG t = some L ↔ GPOk L ∧ t = gput L := by
  constructor
  · intro h
    unfold getG at h
    split at h
    · cases h
    · rename_i n r hc
      split at h
      · rename_i hn
        split at h
        · rename_i l hg
          cases h
          obtain ⟨h1, h2, h3⟩ := gN_some _ _ _ _ hg
          obtain ⟨h4, h5⟩ := countB_some hc
          refine ⟨⟨by omega, h2⟩, ?_⟩
          rw [h5, gput, h1, h3, List.append_nil]
        · cases h
      · cases h
  · rintro ⟨h, rfl⟩
    obtain ⟨a, b⟩ := getG_put h []
    rw [List.append_nil] at a
    rw [getG, a]
    simp only [b, if_pos h.1]
theorem getG_more {L : List SHead} (h : GPOk L) {u : List UInt8} (hu : u ≠ []) : getG (gput L ++ u) = none := by
  obtain ⟨a, b⟩ := getG_put h u
  rw [getG, a]
  simp only [b, if_pos h.1]
  cases u with
  | nil => exact absurd rfl hu
  | cons => rfl
theorem getG_cut {L : List SHead} (h : GPOk L) {t u : List UInt8} (hu : u ≠ []) (e : t ++ u = gput L) : getG t = none := by
  cases hg : getG t with
  | none => rfl
  | some M =>
    obtain ⟨a, rfl⟩ := getG_iff.1 hg
    have := getG_more a hu
    rw [e, getG_iff.2 ⟨h, rfl⟩] at this
    cases this
/-! ### heads that are known -/
theorem hB_cons (x : Head) (L : List Head) : hB (x :: L) = h1B x ++ hB L := by simp [hB]
theorem Head.ext' {a b : Head} (h1 : a.size = b.size) (h2 : a.root = b.root) : a = b := by
  obtain ⟨a1, a2, _⟩ := a
  obtain ⟨b1, b2, _⟩ := b
  simp only at h1 h2
  subst h1; subst h2; rfl
theorem unh_some {t : List UInt8} (h : (unhashB t).isSome = true) : t = (q2 t).1 ++ (q2 t).2 := by
  rw [q2]
  obtain ⟨⟨n, r⟩, e⟩ := Option.isSome_iff_exists.1 h
  rw [e]
  unfold unhashB takeB at e
  split at e
  · cases e
  · cases e; exact (List.take_append_drop _ _).symm
theorem rd_some {t : List UInt8} (h : (readB t).isSome = true) : t = numB (q1 t).1 ++ r1 t := by
  rw [r1, q1]
  obtain ⟨⟨n, r⟩, e⟩ := Option.isSome_iff_exists.1 h
  rw [e]; exact (readB_some e).2
theorem hdH_may {t : List UInt8} (h : okH t) : may (hdH t) := by
  have := h.2.2
  show 0 ≤ (((q1 t).1 : Nat) : Int) ∧ (((q1 t).1 : Nat) : Int) ≤ 4096
  omega
theorem okH_eq {t : List UInt8} (h : okH t) : t = h1B (hdH t) ++ r2 t := by
  have e1 := rd_some h.1
  have e2 := unh_some h.2.1
  have : h1B (hdH t) = numB (q1 t).1 ++ (q2 (r1 t)).1 := by
    show numB (((q1 t).1 : Nat) : Int).toNat ++ _ = _
    rw [Int.toNat_natCast]; rfl
  rw [this, List.append_assoc]
  exact e1.trans (congrArg _ e2)
theorem ok_put {h : Head} (hm : may h) (r : List UInt8) : okH (h1B h ++ r) ∧ hdH (h1B h ++ r) = h ∧ r2 (h1B h ++ r) = r := by
  obtain ⟨h0, h1⟩ := hm
  have e : h1B h ++ r = numB h.size.toNat ++ (h.root ++ r) := by rw [h1B, List.append_assoc]
  obtain ⟨a, b⟩ := q1_put (n := h.size.toNat) (by omega) (h.root ++ r)
  obtain ⟨c, d⟩ := q2_put h.hr r
  have f : r1 (h1B h ++ r) = h.root ++ r := by rw [r1, e, a]
  refine ⟨⟨by rw [e]; exact b, by rw [f]; exact d, by rw [e, a]; show h.size.toNat ≤ 4096; omega⟩, ?_, by rw [r2, f, c]⟩
  refine Head.ext' ?_ ?_
  · show (((q1 (h1B h ++ r)).1 : Nat) : Int) = _
    rw [e, a]; show ((h.size.toNat : Nat) : Int) = _; omega
  · show (q2 (r1 (h1B h ++ r))).1 = _
    rw [f, c]
theorem kN_some : ∀ (n : Nat) (t : List UInt8) (L : List Head) (r : List UInt8), kN n t = some (L, r) → L.length = n ∧ (∀ x ∈ L, may x) ∧ t = hB L ++ r
  | 0, t, L, r, h => by
    rw [kN] at h; cases h
    exact ⟨rfl, (fun x hx => nomatch hx), (by simp [hB])⟩
  | m + 1, t, L, r, h => by
    rw [kN] at h
    split at h
    · rename_i hok
      cases hg : kN m (r2 t) with
      | none => rw [hg] at h; cases h
      | some p =>
        obtain ⟨M, r'⟩ := p
        rw [hg] at h
        simp only [Option.map_some, Option.some.injEq, Prod.mk.injEq] at h
        obtain ⟨rfl, rfl⟩ := h
        obtain ⟨h1, h2, h3⟩ := kN_some m _ _ _ hg
        refine ⟨by rw [List.length_cons, h1], fun x hx => ?_, ?_⟩
        · rcases List.mem_cons.1 hx with rfl | hx
          · exact hdH_may hok
          · exact h2 x hx
        · rw [hB_cons, List.append_assoc, ← h3]
          exact okH_eq hok
    · cases h
theorem kN_put : ∀ (L : List Head) (r : List UInt8), (∀ x ∈ L, may x) → kN L.length (hB L ++ r) = some (L, r)
  | [], r, h => by rw [List.length_nil, kN]; simp [hB]
  | x :: L, r, h => by
    obtain ⟨a, b, c⟩ := ok_put (h x (by simp)) (hB L ++ r)
    have e : hB (x :: L) ++ r = h1B x ++ (hB L ++ r) := by rw [hB_cons, List.append_assoc]
    rw [e, List.length_cons, kN, if_pos a, b, c, kN_put L r (fun y hy => h y (by simp [hy]))]
    rfl
theorem getK_put {L : List Head} (h : GKOk L) (u : List UInt8) : countB 68 (gknown L ++ u) = some (L.length, hB L ++ u) ∧ kN L.length (hB L ++ u) = some (L, u) := by
  refine ⟨?_, kN_put L u h.2⟩
  have : gknown L ++ u = 68 :: (numB L.length ++ (hB L ++ u)) := by simp only [gknown, List.cons_append, List.append_assoc]
  rw [this]
  exact countB_put (by have := h.1; omega) _
theorem getK_iff {t : List UInt8} {L : List Head} : getK t = some L ↔ GKOk L ∧ t = gknown L := by
  constructor
  · intro h
    unfold getK at h
    split at h
    · cases h
    · rename_i n r hc
      split at h
      · rename_i hn
        split at h
        · rename_i l hg
          cases h
          obtain ⟨h1, h2, h3⟩ := kN_some _ _ _ _ hg
          obtain ⟨h4, h5⟩ := countB_some hc
          refine ⟨⟨by omega, h2⟩, ?_⟩
          rw [h5, gknown, h1, h3, List.append_nil]
        · cases h
      · cases h
  · rintro ⟨h, rfl⟩
    obtain ⟨a, b⟩ := getK_put h []
    rw [List.append_nil] at a
    rw [getK, a]
    simp only [b, if_pos h.1]
theorem getK_more {L : List Head} (h : GKOk L) {u : List UInt8} (hu : u ≠ []) : getK (gknown L ++ u) = none := by
  obtain ⟨a, b⟩ := getK_put h u
  rw [getK, a]
  simp only [b, if_pos h.1]
  cases u with
  | nil => exact absurd rfl hu
  | cons => rfl
theorem getK_cut {L : List Head} (h : GKOk L) {t u : List UInt8} (hu : u ≠ []) (e : t ++ u = gknown L) : getK t = none := by
  cases hg : getK t with
  | none => rfl
  | some M =>
    obtain ⟨a, rfl⟩ := getK_iff.1 hg
    have := getK_more a hu
    rw [e, getK_iff.2 ⟨h, rfl⟩] at this
    cases this
theorem getK_G (L : List SHead) (u : List UInt8) : getK (gput L ++ u) = none := by
  rw [getK, gput, List.cons_append, countB_other (by decide)]
theorem getG_K (L : List Head) (u : List UInt8) : getG (gknown L ++ u) = none := by
  rw [getG, gknown, List.cons_append, countB_other (by decide)]
/-! ### as the document has it -/
def gX (t : List UInt8) : SHead := if GetOk t then getX t else zeroS
def gE (t : List UInt8) : Int := if GetOk t then 0 else 10
theorem dGet_q (t : List UInt8) : dGet t = .tup [.agg (sgD (gX t)), .int .i64 (gE t)] := by unfold dGet gX gE; split <;> rfl
def rN : Nat → List UInt8 → List SHead
  | 0, _ => []
  | m + 1, r => gX (q4 r).1 :: rN m (q4 r).2
theorem rN_put : ∀ (L : List SHead) (r : List UInt8), (∀ x ∈ L, valid x) → rN L.length (gB L ++ r) = L
  | [], r, h => rfl
  | x :: L, r, h => by
    have hv := h x (by simp)
    have hl := putB_len hv
    obtain ⟨a, b⟩ := q4_put (t := putB x) (by omega) (gB L ++ r)
    have e : gB (x :: L) ++ r = textB (putB x) ++ (gB L ++ r) := by rw [gB_cons, List.append_assoc]
    have hg := get_put hv
    rw [e, List.length_cons, rN, a, gX, if_pos hg.1, hg.2, rN_put L r (fun y hy => h y (by simp [hy]))]
def refL (t : List UInt8) : List SHead := rN (min 3 (q1 t.tail).1) (q1 t.tail).2
theorem ref_getG (t : List UInt8) : getG t = if GPOk (refL t) ∧ gput (refL t) = t then some (refL t) else none := by
  by_cases h : GPOk (refL t) ∧ gput (refL t) = t
  · rw [if_pos h]; exact getG_iff.2 ⟨h.1, h.2.symm⟩
  · rw [if_neg h]
    cases hg : getG t with
    | none => rfl
    | some M =>
      obtain ⟨a, rfl⟩ := getG_iff.1 hg
      have e : refL (gput M) = M := by
        rw [refL, gput, List.tail_cons]
        obtain ⟨b, c⟩ := q1_put (n := M.length) (by have := a.1; omega) (gB M)
        rw [b]
        have h3 : min 3 M.length = M.length := by have := a.1; omega
        show rN (min 3 M.length) (gB M) = M
        rw [h3]
        have := rN_put M [] a.2
        rwa [List.append_nil] at this
      rw [e] at h
      exact absurd ⟨a, rfl⟩ h
theorem q1_65536 (t : List UInt8) : (q1 t).1 % 65536 < 65536 := by omega
def kX (t : List UInt8) : Head := ⟨(((q1 t).1 % 65536 : Nat) : Int), (q2 (r1 t)).1, (q2_len _).2⟩
def kR : Nat → List UInt8 → List Head
  | 0, _ => []
  | m + 1, r => kX r :: kR m (r2 r)
theorem kR_put : ∀ (L : List Head) (r : List UInt8), (∀ x ∈ L, may x) → kR L.length (hB L ++ r) = L
  | [], r, h => rfl
  | x :: L, r, h => by
    obtain ⟨a, b, c⟩ := ok_put (h x (by simp)) (hB L ++ r)
    have e : hB (x :: L) ++ r = h1B x ++ (hB L ++ r) := by rw [hB_cons, List.append_assoc]
    have f : kX (h1B x ++ (hB L ++ r)) = hdH (h1B x ++ (hB L ++ r)) := by
      refine Head.ext' ?_ rfl
      have := a.2.2
      show (((q1 _).1 % 65536 : Nat) : Int) = (((q1 _).1 : Nat) : Int)
      rw [Nat.mod_eq_of_lt (by omega)]
    rw [e, List.length_cons, kR, f, b, c, kR_put L r (fun y hy => h y (by simp [hy]))]
def refK (t : List UInt8) : List Head := kR (min 64 (q1 t.tail).1) (q1 t.tail).2
theorem ref_getK (t : List UInt8) : getK t = if GKOk (refK t) ∧ gknown (refK t) = t then some (refK t) else none := by
  by_cases h : GKOk (refK t) ∧ gknown (refK t) = t
  · rw [if_pos h]; exact getK_iff.2 ⟨h.1, h.2.symm⟩
  · rw [if_neg h]
    cases hg : getK t with
    | none => rfl
    | some M =>
      obtain ⟨a, rfl⟩ := getK_iff.1 hg
      have e : refK (gknown M) = M := by
        rw [refK, gknown, List.tail_cons]
        obtain ⟨b, c⟩ := q1_put (n := M.length) (by have := a.1; omega) (hB M)
        rw [b]
        have h3 : min 64 M.length = M.length := by have := a.1; omega
        show kR (min 64 M.length) (hB M) = M
        rw [h3]
        have := kR_put M [] a.2
        rwa [List.append_nil] at this
      rw [e] at h
      exact absurd ⟨a, rfl⟩ h
theorem rN_len : ∀ (n : Nat) (t : List UInt8), (rN n t).length = n
  | 0, _ => rfl
  | n + 1, t => by rw [rN, List.length_cons, rN_len n]
theorem kR_len : ∀ (n : Nat) (t : List UInt8), (kR n t).length = n
  | 0, _ => rfl
  | n + 1, t => by rw [kR, List.length_cons, kR_len n]
end Go.Proofs.Try
