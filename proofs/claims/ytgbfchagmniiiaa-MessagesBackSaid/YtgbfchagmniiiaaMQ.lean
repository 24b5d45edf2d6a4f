/- messages: replies, the plain laws of what is got. -/
import Derived.Test.YtgbfchagmniiiaaMG
import Derived.Test.YtgbfchagmniiiaaGH
set_option maxRecDepth 8000
set_option linter.unusedSimpArgs false
set_option linter.unusedVariables false
namespace Go.Proofs.Try
open Go Go.Av
def okT (m : Nat) (st : RS) : Bool := st.2 && ((cutB st.1).isSome && decide ((q4 st.1).1.length ≤ m))
def txR (st : RS) : List UInt8 := (q4 st.1).1
def tS (m : Nat) (st : RS) : RS := ((q4 st.1).2, okT m st)
def hS (st : RS) : RS := ((q5 st.1).2, st.2 && (unhashesB st.1).isSome)
def hdS (st : RS) : RS := ((q4 st.1).2, okT 65536 st && decide (GetOk (txR st)))
def cS (st : RS) : RS := ((nR 255 st).1, (nR 255 st).2 && decide (0 < vR 255 st))
def enR : Nat → RS → List (List UInt8) × RS
  | 0, st => ([], st)
  | n + 1, st => if st.2 = true then (txR st :: (enR n (tS 200 st)).1, (enR n (tS 200 st)).2) else ([], st)
def rp2 (s : List UInt8) : (Int × Int) × RS := ((vR big (beg 82 s), vR 5 (nR big (beg 82 s))), nR 5 (nR big (beg 82 s)))
def mkP (i k c : Int) (h : List SHead) (e : List (List UInt8)) (st : RS) (b : Bool) : Rep := ⟨i, k, c, h, e, if b = true then (q5 st.1).1 else [], by split; exact (q5_len _).2.1; exact fun x hx => nomatch hx⟩
def stE (st : RS) : RS := (enR (vR 16 st).toNat (nR 16 st)).2
/-- What follows Id and Kind. -/
def rpB (i k : Int) (st : RS) : Rep × RS :=
  if k = 1 then (mkP i k (vR 255 st) [] [] st false, cS st)
  else if k = 2 then (mkP i k 0 [gX (txR st)] [] st false, hdS st)
  else if k = 3 then (mkP i k 0 [] (enR (vR 16 st).toNat (nR 16 st)).1 (stE st) true, hS (stE st))
  else if k = 4 then (mkP i k 0 [] [] st true, hS st)
  else if k = 5 then (mkP i k 0 [gX (txR st), gX (txR (hdS st))] [] st false, hdS (hdS st))
  else (mkP i k 0 [] [] st false, st)
def rpA (s : List UInt8) : Rep × RS := rpB (rp2 s).1.1 (rp2 s).1.2 (rp2 s).2
def RpOk (s : List UInt8) : Prop := ((rpA s).2.2 = true ∧ (rpA s).2.1 = []) ∧ 1 ≤ (rpA s).1.kind
instance (s : List UInt8) : Decidable (RpOk s) := by unfold RpOk; infer_instance
def zeroP : Rep := ⟨0, 0, 0, [], [], [], fun x hx => nomatch hx⟩
def getP (s : List UInt8) : Rep := if RpOk s then (rpA s).1 else zeroP
def gpR (s : List UInt8) : Int := if RpOk s then 0 else 10
theorem okT_some {m : Nat} {st : RS} (h : okT m st = true) : st.2 = true ∧ st.1 = textB (txR st) ++ (tS m st).1 ∧ (txR st).length ≤ m := by
  simp only [okT, Bool.and_eq_true, decide_eq_true_eq] at h
  exact ⟨h.1, cut_some h.2.1, h.2.2⟩
theorem okT_put {m : Nat} {t : List UInt8} (hm : t.length ≤ m) (hm2 : m < 18446744073709551616) (r : List UInt8) : okT m (textB t ++ r, true) = true ∧ tS m (textB t ++ r, true) = (r, true) ∧ txR (textB t ++ r, true) = t := by
  obtain ⟨a, b⟩ := q4_put (t := t) (by omega) r
  have h : okT m (textB t ++ r, true) = true := by
    simp only [okT, a, b, Bool.true_and, decide_eq_true_eq]; exact hm
  refine ⟨h, by rw [tS, h, a], by rw [txR, a]⟩
theorem hS_some {st : RS} (h : (hS st).2 = true) : st.2 = true ∧ st.1 = hashesB (q5 st.1).1 ++ (hS st).1 ∧ (q5 st.1).1.length ≤ 64 := by
  simp only [hS, Bool.and_eq_true] at h
  obtain ⟨a, b⟩ := h
  refine ⟨a, ?_, ?_⟩
  · show st.1 = hashesB (q5 st.1).1 ++ (q5 st.1).2
    rw [q5]
    obtain ⟨⟨u, r⟩, e⟩ := Option.isSome_iff_exists.1 b
    rw [e]
    obtain ⟨a, b, c⟩ := unhashes_len e
    show st.1 = hashesB u ++ r
    rw [hashesB, if_neg (by omega), List.append_assoc]; exact c
  · exact (q5_len st.1).2.2
theorem hS_put {hs : List (List UInt8)} (a : All32 hs) (h : hs.length ≤ 64) (r : List UInt8) : hS (hashesB hs ++ r, true) = (r, true) ∧ (q5 (hashesB hs ++ r, true).1).1 = hs := by
  obtain ⟨x, y⟩ := q5_put a h r
  exact ⟨by rw [hS]; simp only [x, y, Bool.true_and], by simp only [x]⟩
theorem hdS_some {st : RS} (h : (hdS st).2 = true) : st.2 = true ∧ st.1 = textB (putB (gX (txR st))) ++ (hdS st).1 ∧ valid (gX (txR st)) := by
  simp only [hdS, Bool.and_eq_true, decide_eq_true_eq] at h
  obtain ⟨a, b⟩ := h
  obtain ⟨c, d, e⟩ := okT_some a
  rw [gX, if_pos b, put_get b]
  exact ⟨c, d, b.2.2⟩
theorem hdS_put {x : SHead} (h : valid x) (r : List UInt8) : hdS (textB (putB x) ++ r, true) = (r, true) ∧ gX (txR (textB (putB x) ++ r, true)) = x := by
  have hl := putB_len h
  obtain ⟨a, b, c⟩ := okT_put (m := 65536) (t := putB x) (by omega) (by decide) r
  obtain ⟨d, e⟩ := get_put h
  have hg : GetOk (txR (textB (putB x) ++ r, true)) := by rw [c]; exact d
  refine ⟨?_, by rw [gX, if_pos hg, c, e]⟩
  have b2 : (q4 (textB (putB x) ++ r)).2 = r := congrArg Prod.fst b
  rw [hdS, a, decide_eq_true hg]
  exact Prod.ext b2 rfl
theorem enR_false : ∀ (n : Nat) (st : RS), st.2 = false → (enR n st).2.2 = false
  | 0, _, h => h
  | n + 1, st, h => by rw [enR, if_neg (by rw [h]; simp)]; exact h
theorem enR_some : ∀ (n : Nat) (st : RS), (enR n st).2.2 = true → (enR n st).1.length = n ∧ shortE (enR n st).1 ∧ st.2 = true ∧ st.1 = enB (enR n st).1 ++ (enR n st).2.1
  | 0, st, h => ⟨rfl, (fun x hx => nomatch hx), h, rfl⟩
  | n + 1, st, h => by
    rw [enR] at h ⊢
    split at h
    · rename_i hs
      rw [if_pos hs]
      obtain ⟨a, b, c, d⟩ := enR_some n _ h
      obtain ⟨e, f, g⟩ := okT_some (m := 200) (st := st) c
      refine ⟨by rw [List.length_cons, a], fun x hx => ?_, hs, ?_⟩
      · rcases List.mem_cons.1 hx with rfl | hx
        · exact g
        · exact b x hx
      · rw [enB_cons, List.append_assoc, ← d]; exact f
    · rename_i hs
      exact absurd h hs
theorem enR_put : ∀ (l : List (List UInt8)) (r : List UInt8), shortE l → enR l.length (enB l ++ r, true) = (l, (r, true))
  | [], r, _ => rfl
  | x :: l, r, h => by
    obtain ⟨_, b, c⟩ := okT_put (m := 200) (t := x) (h x (by simp)) (by decide) (enB l ++ r)
    rw [enB_cons, List.append_assoc, List.length_cons, enR, if_pos rfl, b, c, enR_put l r (fun y hy => h y (by simp [hy]))]
theorem cS_some {st : RS} (h : (cS st).2 = true) : st.2 = true ∧ st.1 = numB (vR 255 st).toNat ++ (cS st).1 ∧ 1 ≤ vR 255 st ∧ vR 255 st ≤ 255 := by
  simp only [cS, Bool.and_eq_true, decide_eq_true_eq] at h
  obtain ⟨a, b, c, d⟩ := okR_some (m := 255) (st := st) h.1
  exact ⟨a, b, by omega, by omega⟩
theorem cS_put {n : Int} (h0 : 1 ≤ n) (h1 : n ≤ 255) (r : List UInt8) : cS (numB n.toNat ++ r, true) = (r, true) ∧ vR 255 (numB n.toNat ++ r, true) = n := by
  obtain ⟨a, b, c⟩ := okR_put (m := 255) (by decide) (by omega : (0 : Int) ≤ n) (by omega) r
  exact ⟨by rw [cS, b, c, decide_eq_true (by omega)]; rfl, c⟩
/-- What a kind does not have is nothing. -/
def canonP (r : Rep) : Prop := (r.kind ≠ 1 → r.code = 0) ∧ (r.kind ≠ 2 → r.kind ≠ 5 → r.heads = []) ∧ (r.kind ≠ 3 → r.entries = []) ∧ (r.kind ≠ 3 → r.kind ≠ 4 → r.proof = [])
theorem Rep.ext' {a b : Rep} (h1 : a.id = b.id) (h2 : a.kind = b.kind) (h3 : a.code = b.code) (h4 : a.heads = b.heads) (h5 : a.entries = b.entries) (h6 : a.proof = b.proof) : a = b := by
  obtain ⟨a1, a2, a3, a4, a5, a6, _⟩ := a
  obtain ⟨b1, b2, b3, b4, b5, b6, _⟩ := b
  simp only at h1 h2 h3 h4 h5 h6
  subst h1; subst h2; subst h3; subst h4; subst h5; subst h6; rfl
theorem gB_one (x : SHead) : gB [x] = textB (putB x) := by simp [gB]
theorem gB_two (x y : SHead) : gB [x, y] = textB (putB x) ++ textB (putB y) := by simp [gB]
theorem rpB_some {i k : Int} {st : RS} (hk : 1 ≤ k) (hk5 : k ≤ 5) (h : (rpB i k st).2.2 = true) : (rpB i k st).1.id = i ∧ (rpB i k st).1.kind = k ∧ canonP (rpB i k st).1 ∧ BOk (rpB i k st).1 ∧ st.2 = true ∧ st.1 = bodyB (rpB i k st).1 ++ (rpB i k st).2.1 := by
  rcases kind_cases hk hk5 with rfl | rfl | rfl | rfl | rfl
  · have e : rpB i 1 st = (mkP i 1 (vR 255 st) [] [] st false, cS st) := if_pos rfl
    rw [e] at h ⊢
    obtain ⟨a, b, c, d⟩ := cS_some h
    exact ⟨rfl, rfl, ⟨fun x => absurd rfl x, fun _ _ => rfl, fun _ => rfl, fun _ _ => rfl⟩, ⟨c, d⟩, a, b⟩
  · have e : rpB i 2 st = (mkP i 2 0 [gX (txR st)] [] st false, hdS st) := rfl
    rw [e] at h ⊢
    obtain ⟨a, b, c⟩ := hdS_some h
    refine ⟨rfl, rfl, ⟨fun _ => rfl, fun x => absurd rfl x, fun _ => rfl, fun _ _ => rfl⟩, ⟨fun x hx => ?_, rfl⟩, a, ?_⟩
    · rw [List.mem_singleton.1 hx]; exact c
    · show st.1 = gB [gX (txR st)] ++ _
      rw [gB_one]; exact b
  · have e : rpB i 3 st = (mkP i 3 0 [] (enR (vR 16 st).toNat (nR 16 st)).1 (stE st) true, hS (stE st)) := rfl
    rw [e] at h ⊢
    obtain ⟨a, b, c⟩ := hS_some h
    obtain ⟨d, f, g, w⟩ := enR_some _ _ a
    obtain ⟨x, y, z, v⟩ := okR_some (m := 16) (st := st) g
    refine ⟨rfl, rfl, ⟨fun _ => rfl, fun _ _ => rfl, fun x => absurd rfl x, fun x => absurd rfl x⟩, ⟨⟨f, ?_⟩, c⟩, x, ?_⟩
    · show (enR (vR 16 st).toNat (nR 16 st)).1.length ≤ 16
      rw [d]; omega
    · show st.1 = (entB (enR (vR 16 st).toNat (nR 16 st)).1 ++ hashesB (q5 (stE st).1).1) ++ (hS (stE st)).1
      rw [List.append_assoc, ← b, entB, d, List.append_assoc]
      rw [show (stE st).1 = (enR (vR 16 st).toNat (nR 16 st)).2.1 from rfl, ← w]; exact y
  · have e : rpB i 4 st = (mkP i 4 0 [] [] st true, hS st) := rfl
    rw [e] at h ⊢
    obtain ⟨a, b, c⟩ := hS_some h
    exact ⟨rfl, rfl, ⟨fun _ => rfl, fun _ _ => rfl, fun _ => rfl, fun _ x => absurd rfl x⟩, c, a, b⟩
  · have e : rpB i 5 st = (mkP i 5 0 [gX (txR st), gX (txR (hdS st))] [] st false, hdS (hdS st)) := rfl
    rw [e] at h ⊢
    obtain ⟨a, b, c⟩ := hdS_some h
    obtain ⟨a2, b2, c2⟩ := hdS_some a
    refine ⟨rfl, rfl, ⟨fun _ => rfl, fun _ x => absurd rfl x, fun _ => rfl, fun _ _ => rfl⟩, ⟨fun x hx => ?_, rfl⟩, a2, ?_⟩
    · rcases List.mem_cons.1 hx with rfl | hx
      · exact c2
      · rw [List.mem_singleton.1 hx]; exact c
    · show st.1 = gB [gX (txR st), gX (txR (hdS st))] ++ _
      rw [gB_two, List.append_assoc, ← b]; exact b2
theorem rpB_put {r : Rep} (hB : BOk r) (hc : canonP r) (u : List UInt8) : rpB r.id r.kind (bodyB r ++ u, true) = (r, (u, true)) := by
  obtain ⟨h1, h5⟩ := BOk_kind hB
  obtain ⟨i, k, c, hs, es, pr, hp⟩ := r
  simp only [canonP] at h1 h5 hc
  rcases kind_cases h1 h5 with rfl | rfl | rfl | rfl | rfl
  · obtain ⟨_, c1, c2, c3⟩ := hc
    have c1 := c1 (by decide) (by decide)
    have c2 := c2 (by decide)
    have c3 := c3 (by decide) (by decide)
    subst c1; subst c2; subst c3
    have hB : 1 ≤ c ∧ c ≤ 255 := hB
    obtain ⟨a, b⟩ := cS_put hB.1 hB.2 u
    show (mkP i 1 (vR 255 (numB c.toNat ++ u, true)) [] [] _ false, cS (numB c.toNat ++ u, true)) = _
    rw [a, b]; rfl
  · obtain ⟨c0, _, c2, c3⟩ := hc
    have c0 := c0 (by decide)
    have c2 := c2 (by decide)
    have c3 := c3 (by decide) (by decide)
    subst c0; subst c2; subst c3
    have hB : allV hs ∧ hs.length = 1 := hB
    match hs, hB with
    | [x], hB =>
      obtain ⟨a, b⟩ := hdS_put (hB.1 x (by simp)) u
      show (mkP i 2 0 [gX (txR (gB [x] ++ u, true))] [] _ false, hdS (gB [x] ++ u, true)) = _
      rw [gB_one, a, b]; rfl
  · obtain ⟨c0, c1, _, _⟩ := hc
    have c0 := c0 (by decide)
    have c1 := c1 (by decide) (by decide)
    subst c0; subst c1
    have hB : (shortE es ∧ es.length ≤ 16) ∧ pr.length ≤ 64 := hB
    obtain ⟨⟨b1, b2⟩, b3⟩ := hB
    obtain ⟨w1, w2⟩ := hS_put hp b3 u
    have hn : vR 16 (numB es.length ++ (enB es ++ (hashesB pr ++ u)), true) = (es.length : Nat) ∧ nR 16 (numB es.length ++ (enB es ++ (hashesB pr ++ u)), true) = (enB es ++ (hashesB pr ++ u), true) := by
      obtain ⟨_, a, b⟩ := okR_put (m := 16) (n := (es.length : Nat)) (by decide) (by omega) (by omega) (enB es ++ (hashesB pr ++ u))
      rw [Int.toNat_natCast] at a b
      exact ⟨b, a⟩
    have he := enR_put es (hashesB pr ++ u) b1
    have e0 : bodyB ⟨i, 3, 0, [], es, pr, hp⟩ ++ u = numB es.length ++ (enB es ++ (hashesB pr ++ u)) := by
      show (entB es ++ hashesB pr) ++ u = _
      rw [entB, List.append_assoc, List.append_assoc]
    have e1 : enR (vR 16 (numB es.length ++ (enB es ++ (hashesB pr ++ u)), true)).toNat (nR 16 (numB es.length ++ (enB es ++ (hashesB pr ++ u)), true)) = (es, (hashesB pr ++ u, true)) := by
      rw [hn.1, hn.2, Int.toNat_natCast]; exact he
    rw [e0]
    show (mkP i 3 0 [] (enR _ _).1 (stE _) true, hS (stE _)) = _
    rw [stE, e1]
    refine Prod.ext ?_ w1
    exact Rep.ext' rfl rfl rfl rfl rfl w2
  · obtain ⟨c0, c1, c2, _⟩ := hc
    have c0 := c0 (by decide)
    have c1 := c1 (by decide) (by decide)
    have c2 := c2 (by decide)
    subst c0; subst c1; subst c2
    have hB : pr.length ≤ 64 := hB
    obtain ⟨w1, w2⟩ := hS_put hp hB u
    show (mkP i 4 0 [] [] (hashesB pr ++ u, true) true, hS (hashesB pr ++ u, true)) = _
    exact Prod.ext (Rep.ext' rfl rfl rfl rfl rfl w2) w1
  · obtain ⟨c0, _, c2, c3⟩ := hc
    have c0 := c0 (by decide)
    have c2 := c2 (by decide)
    have c3 := c3 (by decide) (by decide)
    subst c0; subst c2; subst c3
    have hB : allV hs ∧ hs.length = 2 := hB
    match hs, hB with
    | [x, y], hB =>
      obtain ⟨a, b⟩ := hdS_put (hB.1 x (by simp)) (textB (putB y) ++ u)
      obtain ⟨a2, b2⟩ := hdS_put (hB.1 y (by simp)) u
      show (mkP i 5 0 [gX (txR (gB [x, y] ++ u, true)), gX (txR (hdS (gB [x, y] ++ u, true)))] [] _ false, hdS (hdS (gB [x, y] ++ u, true))) = _
      rw [gB_two, List.append_assoc, a, b, a2, b2]; rfl
end Go.Proofs.Try
