/- messages: requests, the plain laws. -/
import Derived.Test.YtgbfchagmniiiaaGH
set_option maxRecDepth 8000
set_option linter.unusedSimpArgs false
set_option linter.unusedVariables false
namespace Go.Proofs.Try
open Go Go.Av
structure Req where
  id : Int
  kind : Int
  fr : Int
  cnt : Int
  size : Int
def reqD (r : Req) : List D := [.int .i64 r.id, .int .i64 r.kind, .int .i64 r.fr, .int .i64 r.cnt, .int .i64 r.size]
theorem reqD_len (r : Req) : (reqD r).length = 5 := rfl
def idx (k : Int) : List Nat := if k = 2 then [0, 1, 2, 3, 4] else if k = 3 ∨ k = 4 then [0, 1, 2, 4] else [0, 1]
def Req.at5 (r : Req) : Nat → Int
  | 0 => r.id
  | 1 => r.kind
  | 2 => r.fr
  | 3 => r.cnt
  | _ => r.size
def nums (r : Req) : List Int := (idx r.kind).map r.at5
def goodN (n : Int) : Prop := 0 ≤ n ∧ n ≤ 1073741824
instance (n : Int) : Decidable (goodN n) := by unfold goodN; infer_instance
def ROk (r : Req) : Prop := (1 ≤ r.kind ∧ r.kind ≤ 5) ∧ ∀ n ∈ nums r, goodN n
instance (r : Req) : Decidable (ROk r) := by unfold ROk; infer_instance
def nsB (l : List Int) : List UInt8 := (l.map (fun n => numB n.toNat)).flatten
theorem nsB_nil : nsB [] = [] := rfl
theorem nsB_cons (n : Int) (l : List Int) : nsB (n :: l) = numB n.toNat ++ nsB l := by simp [nsB]
theorem nsB_add (n : Int) (l : List Int) : nsB (l ++ [n]) = nsB l ++ numB n.toNat := by simp [nsB]
def putR (r : Req) : List UInt8 := 81 :: nsB (nums r)
def dPR (r : Req) : D := if ROk r then .tup [.str (putR r), .int .i64 0] else .tup [.str [], .int .i64 2]
def prS (r : Req) : List UInt8 := if ROk r then putR r else []
def prE (r : Req) : Int := if ROk r then 0 else 2
theorem dPR_q (r : Req) : dPR r = .tup [.str (prS r), .int .i64 (prE r)] := by unfold dPR prS prE; split <;> rfl
theorem nums_len (r : Req) : (nums r).length ≤ 5 := by
  unfold nums idx
  split
  · exact Nat.le_refl _
  · split
    · show 4 ≤ 5; omega
    · show 2 ≤ 5; omega
theorem nsB_len : ∀ {l : List Int}, (∀ n ∈ l, goodN n) → (nsB l).length ≤ l.length * 10
  | [], _ => by simp [nsB]
  | n :: l, h => by
    have h1 := h n (by simp)
    have h2 := length_numB (n := n.toNat) (by have := h1.1; have := h1.2; omega)
    have h3 := nsB_len (l := l) (fun x hx => h x (by simp [hx]))
    rw [nsB_cons, List.length_append, List.length_cons]; omega
theorem putR_len {r : Req} (h : ROk r) : (putR r).length ≤ 51 := by
  have h1 := nsB_len h.2
  have h2 := nums_len r
  rw [putR, List.length_cons]; omega
/-- Numbers one behind the other. -/
abbrev RS := List UInt8 × Bool
def okR (m : Nat) (st : RS) : Bool := st.2 && ((readB st.1).isSome && decide ((q1 st.1).1 ≤ m))
def nR (m : Nat) (st : RS) : RS := ((q1 st.1).2, okR m st)
def vR (m : Nat) (st : RS) : Int := if okR m st = true then ((q1 st.1).1 : Nat) else 0
def big : Nat := 1073741824
theorem okR_some {m : Nat} {st : RS} (h : okR m st = true) : st.2 = true ∧ st.1 = numB (vR m st).toNat ++ (nR m st).1 ∧ 0 ≤ vR m st ∧ vR m st ≤ m := by
  have h' := h
  simp only [okR, Bool.and_eq_true, decide_eq_true_eq] at h'
  obtain ⟨a, b, c⟩ := h'
  have e : vR m st = ((q1 st.1).1 : Nat) := by rw [vR, if_pos h]
  refine ⟨a, ?_, by rw [e]; omega, by rw [e]; omega⟩
  rw [e, Int.toNat_natCast]
  exact rd_some b
theorem okR_put {m : Nat} (hm : m < 18446744073709551616) {n : Int} (h0 : 0 ≤ n) (h1 : n ≤ m) (r : List UInt8) : okR m (numB n.toNat ++ r, true) = true ∧ nR m (numB n.toNat ++ r, true) = (r, true) ∧ vR m (numB n.toNat ++ r, true) = n := by
  obtain ⟨a, b⟩ := q1_put (n := n.toNat) (by omega) r
  have h : okR m (numB n.toNat ++ r, true) = true := by
    simp only [okR, b, a, Bool.true_and, decide_eq_true_eq]; omega
  refine ⟨h, ?_, ?_⟩
  · rw [nR, h, a]
  · rw [vR, if_pos h, a]; simp only; omega
def Req.upd (r : Req) (i : Nat) (v : Int) : Req := match i with
  | 0 => { r with id := v }
  | 1 => { r with kind := v }
  | 2 => { r with fr := v }
  | 3 => { r with cnt := v }
  | _ => { r with size := v }
def rdF : List Nat → Req → RS → Req × RS
  | [], r, st => (r, st)
  | i :: l, r, st => rdF l (r.upd i (vR big st)) (nR big st)
def beg (c : UInt8) (s : List UInt8) : RS := if s.length ≤ 65536 ∧ s.head? = some c then (s.tail, true) else ([], false)
def rq2 (s : List UInt8) : Req × RS := (⟨vR big (beg 81 s), vR 5 (nR big (beg 81 s)), 0, 0, 0⟩, nR 5 (nR big (beg 81 s)))
def rqA (s : List UInt8) : Req × RS := rdF ((idx (rq2 s).1.kind).drop 2) (rq2 s).1 (rq2 s).2
def RqOk (s : List UInt8) : Prop := ((rqA s).2.2 = true ∧ (rqA s).2.1 = []) ∧ 1 ≤ (rqA s).1.kind
instance (s : List UInt8) : Decidable (RqOk s) := by unfold RqOk; infer_instance
def zeroQ : Req := ⟨0, 0, 0, 0, 0⟩
def getR (s : List UInt8) : Req := if RqOk s then (rqA s).1 else zeroQ
def grE (s : List UInt8) : Int := if RqOk s then 0 else 10
/-- What a kind does not have is nothing. -/
def canon (r : Req) : Prop := (r.kind ≠ 2 → r.cnt = 0) ∧ (r.kind ≠ 2 → r.kind ≠ 3 → r.kind ≠ 4 → r.fr = 0 ∧ r.size = 0)
theorem kind_cases {k : Int} (h0 : 1 ≤ k) (h1 : k ≤ 5) : k = 1 ∨ k = 2 ∨ k = 3 ∨ k = 4 ∨ k = 5 := by omega
theorem beg_ok {c : UInt8} {s : List UInt8} (h : (beg c s).2 = true) : s.length ≤ 65536 ∧ s = c :: (beg c s).1 := by
  unfold beg at h ⊢
  split at h
  · rename_i hc
    rw [if_pos hc]
    refine ⟨hc.1, ?_⟩
    cases s with
    | nil => cases hc.2
    | cons x s => have := hc.2; cases this; rfl
  · cases h
theorem beg_put {c : UInt8} {r : List UInt8} (h : r.length < 65536) : beg c (c :: r) = (r, true) := by
  rw [beg, if_pos ⟨by rw [List.length_cons]; omega, rfl⟩]; rfl
theorem beg_other {c c' : UInt8} {r : List UInt8} (h : c' ≠ c) : beg c (c' :: r) = ([], false) := by
  rw [beg, if_neg]
  rintro ⟨_, e⟩
  cases e; exact h rfl
theorem nR_false {m : Nat} {st : RS} (h : st.2 = false) : (nR m st).2 = false := by simp only [nR, okR, h, Bool.false_and]
theorem rdF_false : ∀ (l : List Nat) (r : Req) (st : RS), st.2 = false → (rdF l r st).2.2 = false
  | [], _, _, h => h
  | i :: l, r, st, h => rdF_false l _ _ (nR_false h)
/-- What is read so is what stands there. -/
theorem rdF_some : ∀ (l : List Nat) (r : Req) (st : RS), (rdF l r st).2.2 = true → ∃ vs : List Int, vs.length = l.length ∧ (∀ v ∈ vs, goodN v) ∧ st.2 = true ∧ st.1 = nsB vs ++ (rdF l r st).2.1 ∧ (rdF l r st).1 = (l.zip vs).foldl (fun r p => r.upd p.1 p.2) r
  | [], r, st, h => ⟨[], rfl, (fun v hv => nomatch hv), h, rfl, rfl⟩
  | i :: l, r, st, h => by
    rw [rdF] at h
    obtain ⟨vs, h1, h2, h3, h4, h5⟩ := rdF_some l _ _ h
    obtain ⟨a, b, c, d⟩ := okR_some (m := big) (st := st) h3
    refine ⟨vR big st :: vs, by rw [List.length_cons, List.length_cons, h1], fun v hv => ?_, a, ?_, ?_⟩
    · rcases List.mem_cons.1 hv with rfl | hv
      · exact ⟨c, d⟩
      · exact h2 v hv
    · rw [rdF, nsB_cons, List.append_assoc, ← h4]; exact b
    · rw [rdF, List.zip_cons_cons, List.foldl_cons]; exact h5
theorem rdF_put : ∀ (l : List Nat) (r : Req) (vs : List Int) (u : List UInt8), vs.length = l.length → (∀ v ∈ vs, goodN v) → rdF l r (nsB vs ++ u, true) = ((l.zip vs).foldl (fun r p => r.upd p.1 p.2) r, (u, true))
  | [], r, [], u, _, _ => rfl
  | i :: l, r, v :: vs, u, hl, h => by
    have hv := h v (by simp)
    obtain ⟨_, b, c⟩ := okR_put (m := big) (by decide) hv.1 hv.2 (nsB vs ++ u)
    rw [nsB_cons, List.append_assoc, rdF, b, c, rdF_put l _ vs u (by simpa using hl) (fun x hx => h x (by simp [hx]))]
    rfl
  | [], _, _ :: _, _, h, _ => by simp at h
  | _ :: _, _, [], _, h, _ => by simp at h
theorem rqA_ok {s : List UInt8} (h : (rqA s).2.2 = true) : s.length ≤ 65536 ∧ ∃ (i k : Int) (vs : List Int), goodN i ∧ 0 ≤ k ∧ k ≤ 5 ∧ vs.length = ((idx k).drop 2).length ∧ (∀ v ∈ vs, goodN v) ∧ s = 81 :: (nsB (i :: k :: vs) ++ (rqA s).2.1) ∧ (rqA s).1 = (((idx k).drop 2).zip vs).foldl (fun r p => r.upd p.1 p.2) ⟨i, k, 0, 0, 0⟩ := by
  obtain ⟨vs, h1, h2, h3, h4, h5⟩ := rdF_some _ _ _ h
  obtain ⟨a, b, c, d⟩ := okR_some (m := 5) (st := nR big (beg 81 s)) h3
  obtain ⟨a', b', c', d'⟩ := okR_some (m := big) (st := beg 81 s) a
  obtain ⟨hl, hs⟩ := beg_ok a'
  refine ⟨hl, _, _, vs, ⟨c', d'⟩, c, d, h1, h2, ?_, h5⟩
  rw [nsB_cons, nsB_cons, List.append_assoc, List.append_assoc, show (rqA s).2.1 = (rdF ((idx (rq2 s).1.kind).drop 2) (rq2 s).1 (rq2 s).2).2.1 from rfl, ← h4]
  show s = 81 :: (numB _ ++ (numB _ ++ (nR 5 (nR big (beg 81 s))).1))
  rw [← b, ← b']; exact hs
theorem rqA_put {i k : Int} {vs : List Int} {u : List UInt8} (hi : goodN i) (h0 : 0 ≤ k) (h5 : k ≤ 5) (hl : vs.length = ((idx k).drop 2).length) (hv : ∀ v ∈ vs, goodN v) (hu : (nsB (i :: k :: vs) ++ u).length < 65536) : rqA (81 :: (nsB (i :: k :: vs) ++ u)) = ((((idx k).drop 2).zip vs).foldl (fun r p => r.upd p.1 p.2) ⟨i, k, 0, 0, 0⟩, (u, true)) := by
  have e : nsB (i :: k :: vs) ++ u = numB i.toNat ++ (numB k.toNat ++ (nsB vs ++ u)) := by rw [nsB_cons, nsB_cons, List.append_assoc, List.append_assoc]
  have hb := beg_put (c := 81) hu
  obtain ⟨_, a, b⟩ := okR_put (m := big) (by decide) hi.1 hi.2 (numB k.toNat ++ (nsB vs ++ u))
  obtain ⟨_, c, d⟩ := okR_put (m := 5) (by decide) h0 h5 (nsB vs ++ u)
  have e2 : rq2 (81 :: (nsB (i :: k :: vs) ++ u)) = (⟨i, k, 0, 0, 0⟩, (nsB vs ++ u, true)) := by
    rw [rq2, hb, e, a, b, c, d]
  rw [rqA, e2]
  exact rdF_put _ _ _ _ hl hv
/-- The numbers of what was read. -/
theorem fold_nums {i k : Int} (h0 : 0 ≤ k) (h5 : k ≤ 5) {vs : List Int} (hl : vs.length = ((idx k).drop 2).length) (r : Req) (hr : r = (((idx k).drop 2).zip vs).foldl (fun r p => r.upd p.1 p.2) ⟨i, k, 0, 0, 0⟩) : nums r = i :: k :: vs ∧ r.kind = k ∧ r.id = i ∧ canon r := by
  have hk : k = 0 ∨ k = 1 ∨ k = 2 ∨ k = 3 ∨ k = 4 ∨ k = 5 := by omega
  rcases hk with rfl | rfl | rfl | rfl | rfl | rfl
  all_goals simp only [idx, Int.reduceEq, if_true, if_false, or_self, or_true, true_or, or_false, false_or, List.drop_succ_cons, List.drop_zero, List.length_cons, List.length_nil] at hl hr
  · match vs, hl with
    | [], _ => subst hr; exact ⟨rfl, rfl, rfl, fun _ => rfl, fun _ _ _ => ⟨rfl, rfl⟩⟩
  · match vs, hl with
    | [], _ => subst hr; exact ⟨rfl, rfl, rfl, fun _ => rfl, fun _ _ _ => ⟨rfl, rfl⟩⟩
  · match vs, hl with
    | [a, b, c], _ => subst hr; exact ⟨rfl, rfl, rfl, fun h => absurd rfl h, fun h => absurd rfl h⟩
  · match vs, hl with
    | [a, b], _ => subst hr; exact ⟨rfl, rfl, rfl, fun _ => rfl, fun _ h => absurd rfl h⟩
  · match vs, hl with
    | [a, b], _ => subst hr; exact ⟨rfl, rfl, rfl, fun _ => rfl, fun _ _ h => absurd rfl h⟩
  · match vs, hl with
    | [], _ => subst hr; exact ⟨rfl, rfl, rfl, fun _ => rfl, fun _ _ _ => ⟨rfl, rfl⟩⟩
/-- .. and a request is what its numbers say. -/
theorem nums_fold {r : Req} (h1 : 1 ≤ r.kind) (h5 : r.kind ≤ 5) (hc : canon r) : ∃ vs : List Int, nums r = r.id :: r.kind :: vs ∧ vs.length = ((idx r.kind).drop 2).length ∧ r = (((idx r.kind).drop 2).zip vs).foldl (fun r p => r.upd p.1 p.2) ⟨r.id, r.kind, 0, 0, 0⟩ := by
  obtain ⟨i, k, f, c, z⟩ := r
  simp only [canon] at h1 h5 hc
  rcases kind_cases h1 h5 with rfl | rfl | rfl | rfl | rfl
  · obtain ⟨a, b⟩ := hc
    have a := a (by decide)
    have b := b (by decide) (by decide) (by decide)
    obtain ⟨b, d⟩ := b
    subst a; subst b; subst d
    exact ⟨[], rfl, rfl, rfl⟩
  · exact ⟨[f, c, z], rfl, rfl, rfl⟩
  · have a := hc.1 (by decide)
    subst a
    exact ⟨[f, z], rfl, rfl, rfl⟩
  · have a := hc.1 (by decide)
    subst a
    exact ⟨[f, z], rfl, rfl, rfl⟩
  · obtain ⟨a, b⟩ := hc
    have a := a (by decide)
    have b := b (by decide) (by decide) (by decide)
    obtain ⟨b, d⟩ := b
    subst a; subst b; subst d
    exact ⟨[], rfl, rfl, rfl⟩
/-- What is got is put as that. -/
theorem getR_some {s : List UInt8} (h : RqOk s) : ROk (getR s) ∧ canon (getR s) ∧ s = putR (getR s) := by
  rw [getR, if_pos h]
  obtain ⟨⟨h1, h2⟩, h3⟩ := h
  obtain ⟨_, i, k, vs, a, b, c, d, e, f, g⟩ := rqA_ok h1
  obtain ⟨x, y, z, w⟩ := fold_nums (i := i) b c d _ g
  refine ⟨⟨⟨h3, by rw [y]; exact c⟩, ?_⟩, w, ?_⟩
  · rw [x]
    intro n hn
    rcases List.mem_cons.1 hn with rfl | hn
    · exact a
    · rcases List.mem_cons.1 hn with rfl | hn
      · exact ⟨b, by omega⟩
      · exact e n hn
  · rw [putR, x]
    rw [h2, List.append_nil] at f
    exact f
theorem getR_put {r : Req} (h : ROk r) (hc : canon r) (u : List UInt8) (hu : u.length < 60000) : rqA (putR r ++ u) = (r, (u, true)) := by
  obtain ⟨vs, a, b, c⟩ := nums_fold h.1.1 h.1.2 hc
  have hg := h.2
  have hl := nsB_len hg
  have hn := nums_len r
  rw [a] at hg hl hn
  have e : putR r ++ u = 81 :: (nsB (r.id :: r.kind :: vs) ++ u) := by rw [putR, a]; rfl
  rw [e, rqA_put (hg _ (by simp)) (by have := h.1; omega) h.1.2 b (fun v hv => hg v (by simp [hv])) (by rw [List.length_append]; omega), ← c]
theorem RqOk_put {r : Req} (h : ROk r) (hc : canon r) : RqOk (putR r) ∧ getR (putR r) = r := by
  have e := getR_put h hc [] (by decide)
  rw [List.append_nil] at e
  have hk : RqOk (putR r) := by rw [RqOk, e]; exact ⟨⟨rfl, rfl⟩, h.1.1⟩
  exact ⟨hk, by rw [getR, if_pos hk, e]⟩
/-- A request brought to what its kind has. -/
def trim (r : Req) : Req := if r.kind = 2 then r else if r.kind = 3 ∨ r.kind = 4 then { r with cnt := 0 } else { r with fr := 0, cnt := 0, size := 0 }
theorem trim_ok (r : Req) : canon (trim r) ∧ nums (trim r) = nums r ∧ (trim r).kind = r.kind ∧ (trim r).id = r.id := by
  obtain ⟨i, k, f, c, z⟩ := r
  unfold trim
  by_cases h2 : k = 2
  · subst h2; exact ⟨⟨fun h => absurd rfl h, fun h => absurd rfl h⟩, rfl, rfl, rfl⟩
  · by_cases h3 : k = 3 ∨ k = 4
    · simp only [if_neg h2, if_pos h3]
      refine ⟨⟨fun _ => rfl, fun _ a b => absurd h3 (fun h => h.elim a b)⟩, ?_, trivial, trivial⟩
      simp only [nums, idx, if_neg h2, if_pos h3]; rfl
    · simp only [if_neg h2, if_neg h3]
      refine ⟨⟨fun _ => rfl, fun _ _ _ => ⟨rfl, rfl⟩⟩, ?_, trivial, trivial⟩
      simp only [nums, idx, if_neg h2, if_neg h3]; rfl
theorem trim_ROk {r : Req} (h : ROk r) : ROk (trim r) ∧ putR (trim r) = putR r := by
  obtain ⟨_, a, b, _⟩ := trim_ok r
  refine ⟨⟨by rw [b]; exact h.1, by rw [a]; exact h.2⟩, by rw [putR, a]; rfl⟩
theorem RqOk_more {r : Req} (h : ROk r) {u : List UInt8} (hu : u ≠ []) (hl : u.length < 60000) : ¬ RqOk (putR r ++ u) := by
  obtain ⟨a, b⟩ := trim_ROk h
  rw [← b, RqOk, getR_put a (trim_ok r).1 u hl]
  rintro ⟨⟨_, e⟩, _⟩
  exact hu e
theorem RqOk_cut {r : Req} (h : ROk r) {t u : List UInt8} (hu : u ≠ []) (e : t ++ u = putR r) : ¬ RqOk t := by
  intro hg
  obtain ⟨a, _, c⟩ := getR_some hg
  have hl := putR_len h
  rw [← e, List.length_append] at hl
  have := RqOk_more a hu (by omega)
  rw [← c, e] at this
  obtain ⟨x, y⟩ := trim_ROk h
  rw [← y] at this
  exact this (RqOk_put x (trim_ok r).1).1
theorem RqOk_R (u : List UInt8) : ¬ RqOk (82 :: u) := by
  rintro ⟨⟨h, _⟩, _⟩
  have hb : (beg 81 (82 :: u)).2 = false := by rw [beg_other (by decide)]
  have := rdF_false ((idx (rq2 (82 :: u)).1.kind).drop 2) (rq2 (82 :: u)).1 (rq2 (82 :: u)).2 (nR_false (nR_false hb))
  rw [rqA, this] at h; cases h
end Go.Proofs.Try
