/- LinksOnce: the plain part. -/
import Derived.Test.YtgbfchagmniiiaaK13
import Derived.Test.YtgbfchagmniiiaaSp1
set_option maxRecDepth 8000
set_option linter.unusedSimpArgs false
set_option linter.unusedVariables false
namespace Go.Proofs.Try
open Go Go.Av
variable {σ s : St}

def strsD (l : List (List UInt8)) : List D := l.map .str
theorem strsD_len (l : List (List UInt8)) : (strsD l).length = l.length := by simp [strsD]
theorem strsD_at (l : List (List UInt8)) {k : Nat} (h : k < l.length) : (strsD l)[k]? = some (.str l[k]) := by simp [strsD, List.getElem?_eq_getElem h]
/-- What is sent of the text i. -/
def onceT (l : List (List UInt8)) (i : Nat) : Mail := ⟨0, 1, UInt8.ofNat i :: l.getD i []⟩
def onceL (l : List (List UInt8)) (I : List Nat) : List Mail := I.map (onceT l)
theorem onceL_len (l : List (List UInt8)) (I : List Nat) : (onceL l I).length = I.length := by simp [onceL]
theorem onceL_get (l : List (List UInt8)) (I : List Nat) {k : Nat} (h : k < I.length) : (onceL l I).getD k mail0 = onceT l I[k] := by
  simp [onceL, List.getD, List.getElem?_eq_getElem h]
theorem onceL_erase (l : List (List UInt8)) (I : List Nat) (k : Nat) : (onceL l I).eraseIdx k = onceL l (I.eraseIdx k) := by
  simp only [onceL, List.eraseIdx_eq_take_drop_succ, List.map_append, List.map_take, List.map_drop]
theorem onceL_set (l : List (List UInt8)) (I : List Nat) (k i : Nat) : (onceL l I).set k (onceT l i) = onceL l (I.set k i) := by
  simp [onceL, List.map_set]

def wantD (f : Nat → Int) (n : Nat) : List D := (List.range n).map fun j => .int .i64 (f j)
theorem wantD_len (f : Nat → Int) (n : Nat) : (wantD f n).length = n := by simp [wantD]
theorem wantD_at (f : Nat → Int) {n i : Nat} (h : i < n) : (wantD f n)[i]? = some (.int .i64 (f i)) := by simp [wantD, h]
theorem wantD_set (f : Nat → Int) {n i : Nat} (h : i < n) (x : Int) : splice (wantD f n) i [.int .i64 x] = wantD (fun j => if j = i then x else f j) n := by
  apply List.ext_getElem?
  intro j
  rw [get_splice (by rw [wantD_len]; simp; omega)]
  by_cases hj : j = i
  · subst hj
    rw [if_pos (by simp), wantD_at _ h]; simp
  · rw [if_neg (by simp; omega)]
    by_cases hn : j < n
    · rw [wantD_at _ hn, wantD_at _ hn, if_neg hj]
    · rw [List.getElem?_eq_none (by rw [wantD_len]; omega), List.getElem?_eq_none (by rw [wantD_len]; omega)]
theorem wantD_congr {f g : Nat → Int} {n : Nat} (h : ∀ j, j < n → f j = g j) : wantD f n = wantD g n := by
  apply List.map_congr_left
  intro j hj
  rw [h j (by simpa using hj)]
theorem wantD_zero (n : Nat) : (List.replicate n [D.int .i64 0]).flatten = wantD (fun _ => 0) n := by
  induction n with
  | zero => rfl
  | succ n ih =>
    rw [List.replicate_succ', List.flatten_append, ih]
    simp [wantD, List.range_succ]
def cnt' (I : List Nat) (j : Nat) : Int := (I.count j : Nat)
theorem count_erase (I : List Nat) {k : Nat} (h : k < I.length) (j : Nat) : cnt' I j = cnt' (I.eraseIdx k) j + if j = I[k] then 1 else 0 := by
  have e : I = I.take k ++ (I[k] :: I.drop (k + 1)) := by rw [← List.drop_eq_getElem_cons h, List.take_append_drop]
  have e1 : I.count j = (I.take k ++ (I[k] :: I.drop (k + 1))).count j := congrArg (List.count j) e
  rw [cnt', cnt', List.eraseIdx_eq_take_drop_succ, e1, List.count_append, List.count_append, List.count_cons]
  by_cases hj : j = I[k]
  · rw [if_pos hj, if_pos (by simp [hj])]; omega
  · rw [if_neg hj, if_neg (by simp; exact fun h => hj h.symm)]; omega
theorem count_add (I : List Nat) (i j : Nat) : cnt' (I ++ [i]) j = cnt' I j + if j = i then 1 else 0 := by
  rw [cnt', cnt', List.count_append, List.count_singleton]
  by_cases hj : j = i
  · subst hj; simp
  · rw [if_neg hj, if_neg (by simp; exact fun h => hj h.symm)]; simp
theorem count_swap (I : List Nat) {i k : Nat} (hi : i < I.length) (hk : k < I.length) (j : Nat) : cnt' ((I.set i I[k]).set k I[i]) j = cnt' I j := by
  rw [cnt', cnt', (List.set_set_perm hi hk).count_eq]
theorem flip_twice (t : List UInt8) (k : Nat) (b : UInt8) : flipT (flipT t k b) k b = t := by
  unfold flipT
  by_cases h : k < t.length
  · apply List.ext_getElem?
    intro j
    simp only [List.set_set, List.getElem?_set, List.length_set, List.getD]
    by_cases hj : k = j
    · subst hj; simp [h, UInt8.xor_assoc]
    · simp [hj]
  · rw [List.set_eq_of_length_le (by simp; omega), List.set_eq_of_length_le (by omega)]
theorem LkS.upd {p : Nat} {n : Int} {L : List Mail} {w : Nat} {o x : Ob} (h : LkS (σ.set w o) p n L s) : LkS (σ.set w x) p n L (s.set w x) := lk_ext.2 (lk_ext.1 h).upd
end Go.Proofs.Try
