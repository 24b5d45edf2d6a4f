/- gossip, the stage's theorem: the plain part. -/
import Derived.Test.YtgbfchagmniiiaaGF
set_option maxRecDepth 8000
set_option linter.unusedSimpArgs false
set_option linter.unusedVariables false
namespace Go.Proofs.Try
open Go Go.Av
def rsz (i : Nat) (x : SHead) : SHead := ⟨⟨i, x.head.root, x.head.hr⟩, x.index, x.sig, x.path, x.hp⟩
def rszL : Nat → List SHead → List SHead
  | _, [] => []
  | i, x :: L => rsz i x :: rszL (i + 1) L
theorem rszL_len : ∀ (L : List SHead) (i : Nat), (rszL i L).length = L.length
  | [], _ => rfl
  | x :: L, i => by rw [rszL, List.length_cons, List.length_cons, rszL_len L]
theorem rszL_app : ∀ (L M : List SHead) (i : Nat), rszL i (L ++ M) = rszL i L ++ rszL (i + L.length) M
  | [], M, i => rfl
  | x :: L, M, i => by rw [List.cons_append, rszL, rszL, rszL_app L, List.length_cons, List.cons_append, Nat.add_assoc, Nat.add_comm 1]
def updL (M : List SHead) (k : Nat) : List SHead := rszL 0 (M.take k) ++ M.drop k
theorem updL_len (M : List SHead) (k : Nat) : (updL M k).length = M.length := by
  rw [updL, List.length_append, rszL_len, ← List.length_append, List.take_append_drop]
theorem updL_at (M : List SHead) {k : Nat} (h : k < M.length) : (updL M k)[k]'(by rw [updL_len]; exact h) = M[k] := by
  have hl : (rszL 0 (M.take k)).length = k := by rw [rszL_len, List.length_take]; omega
  have e : (updL M k)[k]? = some M[k] := by
    rw [updL, List.getElem?_append_right (by omega), hl, Nat.sub_self, List.drop_eq_getElem_cons h]; rfl
  rw [List.getElem?_eq_getElem (by rw [updL_len]; exact h)] at e
  exact Option.some.inj e
theorem updL_set (M : List SHead) {k : Nat} (h : k < M.length) : (updL M k).set k (rsz k M[k]) = updL M (k + 1) := by
  have hl : (rszL 0 (M.take k)).length = k := by rw [rszL_len, List.length_take]; omega
  have ht : (M.take k).length = k := by rw [List.length_take]; omega
  rw [updL, updL, List.take_succ_eq_append_getElem h, rszL_app, ht, List.set_append_right _ _ (by omega), hl, Nat.sub_self, List.drop_eq_getElem_cons h, List.set_cons_zero, Nat.zero_add, List.append_assoc]
  rfl
theorem updL_all (M : List SHead) : updL M M.length = rszL 0 M := by
  rw [updL, List.take_length, List.drop_length, List.append_nil]
theorem rszL_ge : ∀ (L : List SHead) (i : Nat), ∀ x ∈ rszL i L, (i : Int) ≤ x.head.size
  | [], _, x, h => by cases h
  | y :: L, i, x, h => by
    rw [rszL] at h
    rcases List.mem_cons.1 h with rfl | h
    · exact Int.le_refl _
    · have := rszL_ge L (i + 1) x h
      omega
theorem rszL_ne : ∀ (L : List SHead) (i : Nat), (rszL i L).Pairwise (fun a b => a.head ≠ b.head)
  | [], _ => .nil
  | y :: L, i => by
    rw [rszL]
    refine .cons (fun x hx e => ?_) (rszL_ne L (i + 1))
    have h1 := rszL_ge L (i + 1) x hx
    have h2 : (i : Int) = x.head.size := congrArg Head.size e
    omega
def good (H : List Head) (x : SHead) : Bool := decide (valid x ∧ x.head ∉ H)
theorem miss_eq {H : List Head} : ∀ (L M : List SHead), M.length ≤ 3 → miss H M L = M ++ (L.filter (good H)).take (3 - M.length)
  | [], M, h => by rw [miss]; simp
  | y :: L, M, h => by
    rw [miss, List.filter_cons]
    by_cases h3 : M.length < 3
    · by_cases hg : valid y ∧ y.head ∉ H
      · have e : good H y = true := decide_eq_true hg
        obtain ⟨n, hn⟩ : ∃ n, 3 - M.length = n + 1 := ⟨2 - M.length, by omega⟩
        have hn' : 3 - (M ++ [y]).length = n := by rw [List.length_append, List.length_singleton]; omega
        rw [if_pos ⟨h3, hg⟩, miss_eq L _ (by rw [List.length_append, List.length_singleton]; omega), e, if_pos rfl, hn', hn, List.take_succ_cons, List.append_assoc]
        rfl
      · have e : good H y = false := decide_eq_false hg
        rw [if_neg (fun hw => hg hw.2), miss_eq L M h, e]; rfl
    · have h0 : 3 - M.length = 0 := by omega
      rw [if_neg (fun hw => h3 hw.1), miss_eq L M h, h0]; simp
theorem filter_drop {V : List SHead} (hp : V.Pairwise (fun a b => a.head ≠ b.head)) (n : Nat) : V.filter (fun x => decide (x.head ∉ (V.take n).map SHead.head)) = V.drop n := by
  have hs : V = V.take n ++ V.drop n := (List.take_append_drop n V).symm
  have hx : ∀ a ∈ V.take n, ∀ b ∈ V.drop n, a.head ≠ b.head := by
    rw [hs] at hp
    exact (List.pairwise_append.1 hp).2.2
  have h1 : (V.take n).filter (fun x => decide (x.head ∉ (V.take n).map SHead.head)) = [] := by
    rw [List.filter_eq_nil_iff]
    intro a ha
    have : a.head ∈ (V.take n).map SHead.head := List.mem_map.2 ⟨a, ha, rfl⟩
    simp only [decide_eq_true_eq]
    exact fun h => h this
  have h2 : (V.drop n).filter (fun x => decide (x.head ∉ (V.take n).map SHead.head)) = V.drop n := by
    rw [List.filter_eq_self]
    intro b hb
    rw [decide_eq_true_iff]
    intro hm
    obtain ⟨a, ha, e⟩ := List.mem_map.1 hm
    exact hx a ha b hb e
  have := List.filter_append (p := fun x => decide (x.head ∉ (V.take n).map SHead.head)) (V.take n) (V.drop n)
  rw [h1, h2, List.take_append_drop, List.nil_append] at this
  exact this
/-- Those that may be, of the heads of unlike sizes. -/
def vals (X : List SHead) : List SHead := X.filter (fun x => decide (valid x))
theorem miss_turn {X : List SHead} (hp : X.Pairwise (fun a b => a.head ≠ b.head)) (n : Nat) : miss (((vals X).take n).map SHead.head) [] X = ((vals X).drop n).take 3 := by
  rw [miss_eq X [] (by decide)]
  have hq : (vals X).Pairwise (fun a b => a.head ≠ b.head) := hp.filter _
  have e : X.filter (good (((vals X).take n).map SHead.head)) = (vals X).drop n := by
    rw [← filter_drop hq n]
    generalize ((vals X).take n).map SHead.head = H
    rw [vals, List.filter_filter]
    congr 1
    funext x
    rw [Bool.eq_iff_iff]
    simp only [good, decide_eq_true_eq, Bool.and_eq_true]
    exact And.comm
  rw [e]; rfl
end Go.Proofs.Try
