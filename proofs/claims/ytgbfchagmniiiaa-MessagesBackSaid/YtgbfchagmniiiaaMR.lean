/- messages: replies, the plain laws of what is got, and as the document has it. -/
import Derived.Test.YtgbfchagmniiiaaMQ
set_option maxRecDepth 8000
set_option linter.unusedSimpArgs false
set_option linter.unusedVariables false
namespace Go.Proofs.Try
open Go Go.Av
theorem vR_le (m : Nat) (st : RS) : 0 ≤ vR m st ∧ vR m st ≤ m := by
  by_cases h : okR m st = true
  · obtain ⟨_, _, a, b⟩ := okR_some h; exact ⟨a, b⟩
  · rw [vR, if_neg h]; omega
theorem rpB_kind (i k : Int) (st : RS) : (rpB i k st).1.kind = k ∧ (rpB i k st).1.id = i := by
  unfold rpB
  split
  · exact ⟨rfl, rfl⟩
  split
  · exact ⟨rfl, rfl⟩
  split
  · exact ⟨rfl, rfl⟩
  split
  · exact ⟨rfl, rfl⟩
  split
  · exact ⟨rfl, rfl⟩
  · exact ⟨rfl, rfl⟩
theorem getP_some {s : List UInt8} (h : RpOk s) : s.length ≤ 65536 ∧ POk (getP s) ∧ canonP (getP s) ∧ s = putP (getP s) := by
  rw [getP, if_pos h]
  obtain ⟨⟨h1, h2⟩, h3⟩ := h
  have hk := rpB_kind (rp2 s).1.1 (rp2 s).1.2 (rp2 s).2
  have hk1 : 1 ≤ (rp2 s).1.2 := by rw [← hk.1]; exact h3
  have hk5 : (rp2 s).1.2 ≤ 5 := (vR_le 5 _).2
  obtain ⟨a, b, c, d, e, f⟩ := rpB_some hk1 hk5 h1
  obtain ⟨x1, x2, x3, x4⟩ := okR_some (m := 5) (st := nR big (beg 82 s)) e
  obtain ⟨y1, y2, y3, y4⟩ := okR_some (m := big) (st := beg 82 s) x1
  obtain ⟨z1, z2⟩ := beg_ok y1
  refine ⟨z1, ⟨?_, d⟩, c, ?_⟩
  · show goodN (rpB _ _ _).1.id
    rw [a]; exact ⟨y3, y4⟩
  · have h2 : (rpB (rp2 s).1.1 (rp2 s).1.2 (rp2 s).2).2.1 = [] := h2
    rw [h2, List.append_nil] at f
    show s = ((82 :: numB (rpB _ _ _).1.id.toNat) ++ numB (rpB _ _ _).1.kind.toNat) ++ bodyB (rpB _ _ _).1
    rw [← f, a, b]
    have e2 : (rp2 s).2.1 = (nR 5 (nR big (beg 82 s))).1 := rfl
    rw [e2, List.cons_append, List.cons_append, List.append_assoc]
    show s = 82 :: (numB (vR big (beg 82 s)).toNat ++ (numB (vR 5 (nR big (beg 82 s))).toNat ++ (nR 5 (nR big (beg 82 s))).1))
    rw [← x2, ← y2]; exact z2
theorem putP_len {r : Rep} (h : POk r) : (putP r).length ≤ 40021 := by
  have hb := body_len h.2
  have hk := BOk_kind h.2
  have l0 := length_numB (n := r.id.toNat) (by have := h.1.1; have := h.1.2; omega)
  have l1 := length_numB (n := r.kind.toNat) (by omega)
  rw [putP, List.length_append, List.length_append, List.length_cons]; omega
theorem getP_put {r : Rep} (h : POk r) (hc : canonP r) (u : List UInt8) (hu : u.length ≤ 20000) : rpA (putP r ++ u) = (r, (u, true)) := by
  have hl := putP_len h
  have hk := BOk_kind h.2
  have e : putP r ++ u = 82 :: (numB r.id.toNat ++ (numB r.kind.toNat ++ (bodyB r ++ u))) := by simp only [putP, List.cons_append, List.append_assoc]
  have hlen : (putP r ++ u).length ≤ 65536 := by rw [List.length_append]; omega
  rw [e, List.length_cons] at hlen
  have hb := beg_put (c := 82) (r := numB r.id.toNat ++ (numB r.kind.toNat ++ (bodyB r ++ u))) (by omega)
  obtain ⟨_, a, b⟩ := okR_put (m := big) (by decide) h.1.1 h.1.2 (numB r.kind.toNat ++ (bodyB r ++ u))
  obtain ⟨_, c, d⟩ := okR_put (m := 5) (n := r.kind) (by decide) (by omega) (by omega) (bodyB r ++ u)
  have e2 : rp2 (82 :: (numB r.id.toNat ++ (numB r.kind.toNat ++ (bodyB r ++ u)))) = ((r.id, r.kind), (bodyB r ++ u, true)) := by
    rw [rp2, hb, a, b, c, d]
  rw [e, rpA, e2]
  exact rpB_put h.2 hc u
theorem RpOk_put {r : Rep} (h : POk r) (hc : canonP r) : RpOk (putP r) ∧ getP (putP r) = r := by
  have e := getP_put h hc [] (by decide)
  rw [List.append_nil] at e
  have hk : RpOk (putP r) := by rw [RpOk, e]; exact ⟨⟨rfl, rfl⟩, (BOk_kind h.2).1⟩
  exact ⟨hk, by rw [getP, if_pos hk, e]⟩
/-- A reply brought to what its kind has. -/
def trimP (r : Rep) : Rep := ⟨r.id, r.kind, if r.kind = 1 then r.code else 0, if r.kind = 2 ∨ r.kind = 5 then r.heads else [], if r.kind = 3 then r.entries else [], if r.kind = 3 ∨ r.kind = 4 then r.proof else [], by split; exact r.hp; exact fun x hx => nomatch hx⟩
theorem trimP_ok {r : Rep} (h : POk r) : POk (trimP r) ∧ canonP (trimP r) ∧ putP (trimP r) = putP r := by
  obtain ⟨h0, hB⟩ := h
  obtain ⟨h1, h5⟩ := BOk_kind hB
  obtain ⟨i, k, c, hs, es, pr, hp⟩ := r
  simp only at h1 h5
  rcases kind_cases h1 h5 with rfl | rfl | rfl | rfl | rfl
  · exact ⟨⟨h0, hB⟩, ⟨fun x => absurd rfl x, fun _ _ => rfl, fun _ => rfl, fun _ _ => rfl⟩, rfl⟩
  · exact ⟨⟨h0, hB⟩, ⟨fun _ => rfl, fun x => absurd rfl x, fun _ => rfl, fun _ _ => rfl⟩, rfl⟩
  · exact ⟨⟨h0, hB⟩, ⟨fun _ => rfl, fun _ _ => rfl, fun x => absurd rfl x, fun x => absurd rfl x⟩, rfl⟩
  · exact ⟨⟨h0, hB⟩, ⟨fun _ => rfl, fun _ _ => rfl, fun _ => rfl, fun _ x => absurd rfl x⟩, rfl⟩
  · exact ⟨⟨h0, hB⟩, ⟨fun _ => rfl, fun _ x => absurd rfl x, fun _ => rfl, fun _ _ => rfl⟩, rfl⟩
theorem RpOk_more {r : Rep} (h : POk r) {u : List UInt8} (hu : u ≠ []) (hl : u.length ≤ 20000) : ¬ RpOk (putP r ++ u) := by
  obtain ⟨a, b, c⟩ := trimP_ok h
  rw [← c, RpOk, getP_put a b u hl]
  rintro ⟨⟨_, e⟩, _⟩
  exact hu e
theorem RpOk_cut {r : Rep} (h : POk r) {t u : List UInt8} (hu : u ≠ []) (e : t ++ u = putP r) : ¬ RpOk t := by
  intro hg
  obtain ⟨_, a, b, c⟩ := getP_some hg
  obtain ⟨x, y, z⟩ := trimP_ok h
  have hr := (RpOk_put x y).1
  rw [z, ← e, RpOk] at hr
  obtain ⟨⟨h1, h2⟩, _⟩ := hr
  have hl := putP_len h
  have hlt := putP_len a
  rw [← e, List.length_append] at hl
  by_cases hs : u.length ≤ 20000
  · have := getP_put a b u hs
    rw [← c] at this
    rw [this] at h2
    exact hu h2
  · -- a long rest: what is read of the front alone is told by its own numbers
    have e3 : t ++ u = 82 :: (numB (getP t).id.toNat ++ (numB (getP t).kind.toNat ++ (bodyB (getP t) ++ u))) := by
      conv => lhs; rw [c]
      simp only [putP, List.cons_append, List.append_assoc]
    have hb := beg_put (c := 82) (r := numB (getP t).id.toNat ++ (numB (getP t).kind.toNat ++ (bodyB (getP t) ++ u))) (by
      have := congrArg List.length e3
      rw [List.length_append, List.length_cons] at this; omega)
    have hk := BOk_kind a.2
    obtain ⟨_, p1, p2⟩ := okR_put (m := big) (by decide) a.1.1 a.1.2 (numB (getP t).kind.toNat ++ (bodyB (getP t) ++ u))
    obtain ⟨_, p3, p4⟩ := okR_put (m := 5) (n := (getP t).kind) (by decide) (by omega) (by omega) (bodyB (getP t) ++ u)
    have e2 : rp2 (t ++ u) = (((getP t).id, (getP t).kind), (bodyB (getP t) ++ u, true)) := by
      rw [e3, rp2, hb, p1, p2, p3, p4]
    rw [rpA, e2] at h2
    have := rpB_put a.2 b u
    simp only at h2
    rw [this] at h2
    exact hu h2
theorem rpB_false (i k : Int) (st : RS) (h : st.2 = false) : (rpB i k st).2.2 = false := by
  have hT : ∀ m, okT m st = false := fun m => by simp only [okT, h, Bool.false_and]
  have hh : ∀ st : RS, st.2 = false → (hdS st).2 = false := fun st h => by simp only [hdS, okT, h, Bool.false_and]
  unfold rpB
  split
  · simp only [cS, nR_false (m := 255) h, Bool.false_and]
  split
  · exact hh st h
  split
  · have := enR_false (vR 16 st).toNat (nR 16 st) (nR_false h)
    simp only [hS, stE, this, Bool.false_and]
  split
  · simp only [hS, h, Bool.false_and]
  split
  · exact hh _ (hh _ h)
  · exact h
theorem RpOk_Q (u : List UInt8) : ¬ RpOk (81 :: u) := by
  rintro ⟨⟨h, _⟩, _⟩
  have hb : (beg 82 (81 :: u)).2 = false := by rw [beg_other (by decide)]
  have := rpB_false (rp2 (81 :: u)).1.1 (rp2 (81 :: u)).1.2 (rp2 (81 :: u)).2 (nR_false (nR_false hb))
  rw [rpA, this] at h; cases h
/-! ### as the document has it -/
def rfE : Nat → List UInt8 → Option (List (List UInt8) × List UInt8)
  | 0, r => some ([], r)
  | n + 1, r => if (cutB r).isSome = true ∧ (q4 r).1.length ≤ 200 then (rfE n (q4 r).2).map (fun p => ((q4 r).1 :: p.1, p.2)) else none
def refEn (s : List UInt8) : Option (List (List UInt8) × List UInt8) := if (readB s).isSome = true ∧ (q1 s).1 ≤ 16 then rfE (q1 s).1 (q1 s).2 else none
def hdOk (s : List UInt8) : Bool := (cutB s).isSome && decide (GetOk (q4 s).1)
def hdV (s : List UInt8) : SHead := gX (q4 s).1
def enL (s : List UInt8) : List (List UInt8) := ((refEn s).getD ([], [])).1
def enT (s : List UInt8) : List UInt8 := ((refEn s).getD ([], [])).2
def mkR (i k c : Int) (h : List SHead) (e : List (List UInt8)) (s : List UInt8) (b : Bool) : Rep := ⟨i, k, c, h, e, if b = true then (q5 s).1 else [], by split; exact (q5_len _).2.1; exact fun x hx => nomatch hx⟩
def refB (i k : Int) (s : List UInt8) : Rep × Bool :=
  if k = 1 then (mkR i k ((min (q1 s).1 1000 : Nat) : Int) [] [] s false, (readB s).isSome)
  else if k = 2 then (if hdOk s = true then (mkR i k 0 [hdV s] [] s false, true) else (mkR i k 0 [] [] s false, false))
  else if k = 3 then (mkR i k 0 [] (enL s) (enT s) true, (refEn s).isSome && (unhashesB (enT s)).isSome)
  else if k = 4 then (mkR i k 0 [] [] s true, (unhashesB s).isSome)
  else if k = 5 then (if hdOk s = true then (if hdOk (q4 s).2 = true then (mkR i k 0 [hdV s, hdV (q4 s).2] [] s false, true) else (mkR i k 0 [hdV s] [] s false, false)) else (mkR i k 0 [] [] s false, false))
  else (mkR i k 0 [] [] s false, false)
theorem refB_canon (i k : Int) (s : List UInt8) : canonP (refB i k s).1 ∧ (refB i k s).1.id = i ∧ (refB i k s).1.kind = k := by
  unfold refB
  split
  · rename_i h; exact ⟨⟨fun x => absurd h x, fun _ _ => rfl, fun _ => rfl, fun _ _ => rfl⟩, rfl, rfl⟩
  split
  · rename_i h1 h
    split
    · exact ⟨⟨fun _ => rfl, fun x => absurd h x, fun _ => rfl, fun _ _ => rfl⟩, rfl, rfl⟩
    · exact ⟨⟨fun _ => rfl, fun x => absurd h x, fun _ => rfl, fun _ _ => rfl⟩, rfl, rfl⟩
  split
  · rename_i h; exact ⟨⟨fun _ => rfl, fun _ _ => rfl, fun x => absurd h x, fun x => absurd h x⟩, rfl, rfl⟩
  split
  · rename_i h; exact ⟨⟨fun _ => rfl, fun _ _ => rfl, fun _ => rfl, fun _ x => absurd h x⟩, rfl, rfl⟩
  split
  · rename_i h
    split
    · split
      · exact ⟨⟨fun _ => rfl, fun _ x => absurd h x, fun _ => rfl, fun _ _ => rfl⟩, rfl, rfl⟩
      · exact ⟨⟨fun _ => rfl, fun _ x => absurd h x, fun _ => rfl, fun _ _ => rfl⟩, rfl, rfl⟩
    · exact ⟨⟨fun _ => rfl, fun _ x => absurd h x, fun _ => rfl, fun _ _ => rfl⟩, rfl, rfl⟩
  · exact ⟨⟨fun _ => rfl, fun _ _ => rfl, fun _ => rfl, fun _ _ => rfl⟩, rfl, rfl⟩
theorem hd_put {x : SHead} (h : valid x) (r : List UInt8) : hdOk (textB (putB x) ++ r) = true ∧ hdV (textB (putB x) ++ r) = x ∧ (q4 (textB (putB x) ++ r)).2 = r := by
  have hl := putB_len h
  obtain ⟨a, b⟩ := q4_put (t := putB x) (by omega) r
  obtain ⟨d, e⟩ := get_put h
  refine ⟨by simp only [hdOk, a, b, Bool.true_and]; exact decide_eq_true d, by rw [hdV, a, gX, if_pos d, e], by rw [a]⟩
theorem rfE_put : ∀ (l : List (List UInt8)) (r : List UInt8), shortE l → rfE l.length (enB l ++ r) = some (l, r)
  | [], r, _ => rfl
  | x :: l, r, h => by
    have hx := h x (by simp)
    obtain ⟨a, b⟩ := q4_put (t := x) (by omega) (enB l ++ r)
    rw [enB_cons, List.append_assoc, List.length_cons, rfE, a, if_pos ⟨b, hx⟩, rfE_put l r (fun y hy => h y (by simp [hy]))]
    rfl
theorem refB_put {r : Rep} (hB : BOk r) (hc : canonP r) : refB r.id r.kind (bodyB r) = (r, true) := by
  obtain ⟨h1, h5⟩ := BOk_kind hB
  obtain ⟨i, k, c, hs, es, pr, hp⟩ := r
  simp only [canonP] at h1 h5 hc
  rcases kind_cases h1 h5 with rfl | rfl | rfl | rfl | rfl
  · obtain ⟨_, c1, c2, c3⟩ := hc
    have c1 := c1 (by decide) (by decide)
    have c2 := c2 (by decide)
    have c3 := c3 (by decide) (by decide)
    subst c1; subst c2; subst c3
    have hB : 1 ≤ c ∧ c ≤ 255 := hB
    obtain ⟨a, b⟩ := q1_put (n := c.toNat) (by omega) []
    rw [List.append_nil] at a b
    show (mkR i 1 ((min (q1 (numB c.toNat)).1 1000 : Nat) : Int) [] [] _ false, (readB (numB c.toNat)).isSome) = _
    rw [a, b]
    refine Prod.ext (Rep.ext' rfl rfl ?_ rfl rfl rfl) rfl
    show ((min c.toNat 1000 : Nat) : Int) = c
    omega
  · obtain ⟨c0, _, c2, c3⟩ := hc
    have c0 := c0 (by decide)
    have c2 := c2 (by decide)
    have c3 := c3 (by decide) (by decide)
    subst c0; subst c2; subst c3
    have hB : allV hs ∧ hs.length = 1 := hB
    match hs, hB with
    | [x], hB =>
      obtain ⟨a, b, _⟩ := hd_put (hB.1 x (by simp)) []
      rw [List.append_nil] at a b
      show (if hdOk (gB [x]) = true then (mkR i 2 0 [hdV (gB [x])] [] _ false, true) else _) = _
      rw [gB_one, if_pos a, b]; rfl
  · obtain ⟨c0, c1, _, _⟩ := hc
    have c0 := c0 (by decide)
    have c1 := c1 (by decide) (by decide)
    subst c0; subst c1
    have hB : (shortE es ∧ es.length ≤ 16) ∧ pr.length ≤ 64 := hB
    obtain ⟨⟨b1, b2⟩, b3⟩ := hB
    obtain ⟨w1, w2⟩ := q5_put hp b3 []
    rw [List.append_nil] at w1 w2
    obtain ⟨a, b⟩ := q1_put (n := es.length) (by omega) (enB es ++ hashesB pr)
    have e0 : bodyB ⟨i, 3, 0, [], es, pr, hp⟩ = numB es.length ++ (enB es ++ hashesB pr) := by
      show entB es ++ hashesB pr = _
      rw [entB, List.append_assoc]
    have e1 : refEn (numB es.length ++ (enB es ++ hashesB pr)) = some (es, hashesB pr) := by
      rw [refEn, a, if_pos ⟨b, b2⟩]; exact rfE_put es (hashesB pr) b1
    have e2 : enL (numB es.length ++ (enB es ++ hashesB pr)) = es := by rw [enL, e1]; rfl
    have e3 : enT (numB es.length ++ (enB es ++ hashesB pr)) = hashesB pr := by rw [enT, e1]; rfl
    rw [e0]
    show (mkR i 3 0 [] (enL _) (enT _) true, (refEn _).isSome && (unhashesB (enT _)).isSome) = _
    rw [e2, e3, e1, w2]
    refine Prod.ext (Rep.ext' rfl rfl rfl rfl rfl ?_) rfl
    show (q5 (hashesB pr)).1 = pr
    rw [w1]
  · obtain ⟨c0, c1, c2, _⟩ := hc
    have c0 := c0 (by decide)
    have c1 := c1 (by decide) (by decide)
    have c2 := c2 (by decide)
    subst c0; subst c1; subst c2
    have hB : pr.length ≤ 64 := hB
    obtain ⟨w1, w2⟩ := q5_put hp hB []
    rw [List.append_nil] at w1 w2
    show (mkR i 4 0 [] [] (hashesB pr) true, (unhashesB (hashesB pr)).isSome) = _
    rw [w2]
    refine Prod.ext (Rep.ext' rfl rfl rfl rfl rfl ?_) rfl
    show (q5 (hashesB pr)).1 = pr
    rw [w1]
  · obtain ⟨c0, _, c2, c3⟩ := hc
    have c0 := c0 (by decide)
    have c2 := c2 (by decide)
    have c3 := c3 (by decide) (by decide)
    subst c0; subst c2; subst c3
    have hB : allV hs ∧ hs.length = 2 := hB
    match hs, hB with
    | [x, y], hB =>
      obtain ⟨a, b, z⟩ := hd_put (hB.1 x (by simp)) (textB (putB y))
      obtain ⟨a2, b2, _⟩ := hd_put (hB.1 y (by simp)) []
      rw [List.append_nil] at a2 b2
      show (if hdOk (gB [x, y]) = true then (if hdOk (q4 (gB [x, y])).2 = true then (mkR i 5 0 [hdV (gB [x, y]), hdV (q4 (gB [x, y])).2] [] _ false, true) else _) else _) = _
      rw [gB_two, if_pos a, z, if_pos a2, b, b2]; rfl
def rfI (s : List UInt8) : Nat := (q1 s.tail).1
def rfK (s : List UInt8) : Nat := (q1 (q1 s.tail).2).1
def rfT (s : List UInt8) : List UInt8 := (q1 (q1 s.tail).2).2
def rfOk (s : List UInt8) : Prop := (s.length ≤ 65536 ∧ s ≠ []) ∧ ((readB s.tail).isSome = true ∧ (readB (q1 s.tail).2).isSome = true) ∧ rfI s ≤ big ∧ rfK s ≤ 5
instance (s : List UInt8) : Decidable (rfOk s) := by unfold rfOk; infer_instance
def refPB (s : List UInt8) : Rep × Bool := refB (rfI s : Nat) (rfK s : Nat) (rfT s)
theorem refP_put {r : Rep} (h : POk r) (hc : canonP r) : rfOk (putP r) ∧ refPB (putP r) = (r, true) := by
  have hl := putP_len h
  have hk := BOk_kind h.2
  have h0 := h.1.1
  have h1 := h.1.2
  have hb : big = 1073741824 := rfl
  have e : (putP r).tail = numB r.id.toNat ++ (numB r.kind.toNat ++ bodyB r) := by simp only [putP, List.cons_append, List.tail_cons, List.append_assoc]
  obtain ⟨a, b⟩ := q1_put (n := r.id.toNat) (by omega) (numB r.kind.toNat ++ bodyB r)
  obtain ⟨c, d⟩ := q1_put (n := r.kind.toNat) (by omega) (bodyB r)
  have e1 : rfI (putP r) = r.id.toNat := by rw [rfI, e, a]
  have e2 : rfK (putP r) = r.kind.toNat := by rw [rfK, e, a, c]
  have e3 : rfT (putP r) = bodyB r := by rw [rfT, e, a, c]
  refine ⟨⟨⟨by omega, by simp [putP]⟩, ⟨by rw [e]; exact b, by rw [e, a]; exact d⟩, by rw [e1]; omega, by rw [e2]; omega⟩, ?_⟩
  rw [refPB, e1, e2, e3, show ((r.id.toNat : Nat) : Int) = r.id by omega, show ((r.kind.toNat : Nat) : Int) = r.kind by omega]
  exact refB_put h.2 hc
theorem ref_getP (s : List UInt8) : RpOk s ↔ rfOk s ∧ (refPB s).2 = true ∧ POk (refPB s).1 ∧ putP (refPB s).1 = s := by
  constructor
  · intro h
    obtain ⟨_, a, b, c⟩ := getP_some h
    obtain ⟨x, y⟩ := refP_put a b
    rw [← c] at x y
    rw [y]
    exact ⟨x, rfl, a, c.symm⟩
  · rintro ⟨_, _, a, b⟩
    have := (RpOk_put a (refB_canon _ _ _).1).1
    rwa [b] at this
theorem ref_getP_eq {s : List UInt8} (h : RpOk s) : getP s = (refPB s).1 := by
  obtain ⟨_, a, b, c⟩ := getP_some h
  obtain ⟨x, y⟩ := refP_put a b
  rw [← c] at y
  rw [y]
end Go.Proofs.Try
