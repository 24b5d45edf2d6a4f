/- The steps' own rules, under one name; objects: loads and stores where the cells are written out. -/
import Derived.Test.YtgbfchagmniiiaaAvB
import Derived.Attr
set_option linter.unusedSimpArgs false
set_option linter.unusedVariables false
namespace Go.Av
open Go.RowKit
section
variable {P : Program} {γ : Gl} {σ σ' : St} {K : D → St → Prop}
theorem cellsOf_int {k : IntKind} {n : Int} : cellsOf (.int k n) = [.int k n] := rfl
theorem cellsOf_bool {b : Bool} : cellsOf (.bool b) = [.bool b] := rfl
theorem cellsOf_str {l : List UInt8} : cellsOf (.str l) = [.str l] := rfl
theorem cellsOf_nilp : cellsOf .nilp = [.nilp] := rfl
theorem cellsOf_nil : cellsOf .nil = [.nil] := rfl
theorem cellsOf_e0 : cellsOf .e0 = [.e0] := rfl
theorem cellsOf_sl {n : Nat} {cs : List D} {t : Option (Nat × Nat)} : cellsOf (.sl n cs t) = [.sl n cs t] := rfl
theorem cellsOf_osl {i o n s : Nat} : cellsOf (.osl i o n s) = [.osl i o n s] := rfl
theorem cellsOf_ptr {i o : Nat} : cellsOf (.ptr i o) = [.ptr i o] := rfl
theorem cellsOf_eptr {cs : List D} {o : Nat} : cellsOf (.eptr cs o) = [.eptr cs o] := rfl
theorem cellsOf_fn {f : FuncId} {cs : List D} : cellsOf (.fn f cs) = [.fn f cs] := rfl
theorem cellsOf_agg {cs : List D} : cellsOf (.agg cs) = cs := rfl
theorem okc_int {k : IntKind} {n : Int} : okc (.int k n) = true := rfl
theorem okc_bool {b : Bool} : okc (.bool b) = true := rfl
theorem okc_str {l : List UInt8} : okc (.str l) = true := rfl
theorem okc_nilp : okc .nilp = true := rfl
theorem okc_nil : okc .nil = true := rfl
theorem okc_e0 : okc .e0 = true := rfl
theorem okc_sl {n : Nat} {cs : List D} {t : Option (Nat × Nat)} : okc (.sl n cs t) = true := rfl
theorem okc_osl {i o n s : Nat} : okc (.osl i o n s) = true := rfl
theorem okc_ptr {i o : Nat} : okc (.ptr i o) = true := rfl
theorem okc_eptr {cs : List D} {o : Nat} : okc (.eptr cs o) = true := rfl
theorem okc_fn {f : FuncId} {cs : List D} : okc (.fn f cs) = true := rfl
theorem okc_agg {cs : List D} : okc (.agg cs) = true := rfl
theorem splice_0n {l : List D} : splice l 0 [] = l := by simp [splice]
theorem splice_0c {a c : D} {l ds : List D} : splice (a :: l) 0 (c :: ds) = c :: splice l 0 ds := by simp [splice]
theorem splice_s {a : D} {l ds : List D} {n : Nat} : splice (a :: l) (n + 1) ds = a :: splice l n ds := by
  simp [splice, Nat.succ_add, Nat.add_right_comm n 1]
theorem load_ptr {t : TypeId} {id off : Nat} : aload P t (.ptr id off) σ K = (match tagg P t with | none => False | some ag => ∃ l T, σ id = some (.cells l T) ∧ aread ag (tsz P t) l off σ K) := by
  unfold aload; cases tagg P t <;> rfl
theorem load_eptr {t : TypeId} {cs : List D} {off : Nat} : aload P t (.eptr cs off) σ K = (match tagg P t with | none => False | some ag => aread ag (tsz P t) cs off σ K) := by
  unfold aload; cases tagg P t <;> rfl
theorem read_t {sz off : Nat} {l : List D} : aread true sz l off σ K = (off + sz ≤ l.length ∧ K (.agg ((l.drop off).take sz)) σ) := by simp only [aread, if_true]
theorem read_f {sz off : Nat} {l : List D} : aread false sz l off σ K = ∃ d, l[off]? = some d ∧ K d σ := by simp only [aread, Bool.false_eq_true, if_false]
theorem store_p {t : TypeId} {id off : Nat} {x : D} : astore P t (.ptr id off) x σ K = ((tagg P t).isSome = true ∧ ∃ l T, σ id = some (.cells l T) ∧ okc x = true ∧ (cellsOf x).length = tsz P t ∧ off + (cellsOf x).length ≤ l.length ∧ K (.tup []) (σ.set id (.cells (splice l off (cellsOf x)) T))) := by
  simp only [astore]
theorem cells_inj {l l' : List D} {T T' : TypeId} : (Ob.cells l T = Ob.cells l' T') = (l = l' ∧ T = T') := by simp
theorem le_fresh {i : Nat} {o : Ob} {s s' : St} (hi : s i = none) (h : s'.le s) : s'.le (s.set i o) := fun j x e => by
  simp only [St.set]
  split
  · rename_i hj; subst hj; rw [h j x e] at hi; cases hi
  · exact h j x e
theorem set_app (s : St) (i : Nat) (o : Ob) (j : Nat) : (s.set i o) j = if j = i then some o else s j := rfl
theorem del_other {s : St} {i j : Nat} (h : j ≠ i) : (s.del i) j = s j := by simp [St.del, h]
theorem del_app (s : St) (i j : Nat) : (s.del i) j = if j = i then none else s j := rfl
/-- An object keeps what it holds. -/
theorem keep {i j : Nat} {o x : Ob} (h : σ j = some o) (hi : σ i = none) : (σ.set i x) j = some o := by
  rw [set_other _ (by rintro rfl; rw [h] at hi; cases hi)]; exact h
theorem keep_ne {i j : Nat} {o : Ob} (h : σ j = some o) (hi : σ i = none) : j ≠ i := by rintro rfl; rw [h] at hi; cases hi
theorem keep_none {i j : Nat} {x : Ob} (h : (σ.set i x) j = none) : j ≠ i ∧ σ j = none := fresh_ne h
theorem bool_t {p : Prop} [Decidable p] (h : p) : D.bool true = D.bool (decide p) := by rw [decide_eq_true h]
theorem bool_f {p : Prop} [Decidable p] (h : ¬ p) : D.bool false = D.bool (decide p) := by rw [decide_eq_false h]
theorem bool_s {b : Bool} {p : Prop} [Decidable p] (h : b = true ↔ p) : D.bool b = D.bool (decide p) := by
  cases b with
  | true => exact bool_t (h.1 rfl)
  | false => exact bool_f (fun hp => Bool.noConfusion (h.2 hp))
theorem le_set2 {i : Nat} {o : Ob} (h : σ'.le σ) (hi : σ' i = none) : σ'.le (σ.set i o) := fun j x e => by
  simp only [St.set]
  split
  · rename_i hj; subst hj; rw [hi] at e; cases e
  · exact h j x e
end
attribute [go_sem] Bool.false_eq_true aenv0 aenvS aenvN one_ne mapv_cons mapv_nil aop List.map_cons List.map_nil List.append_nil List.nil_append List.cons_append aeval ofVal ofVal1 abuiltin alen acap abin_ii abin_ss abin_bb abin_nn abin_pn abin_np abin_pp abin_nl abin_sn abinI abinS aeq aun aconv_int aextract List.getElem?_cons_zero List.getElem?_cons_succ Option.some.injEq exists_eq_left' exists_eq_left true_and and_true arr_toList Option.map_some Option.map_none aindexAddr afieldAddr anilCheck Nat.zero_add Nat.add_zero Nat.mul_one Nat.one_mul ne_eq not_false_eq_true t_mod t_div w_i64 w_u64 w_u8 w_u16 w_u32 w_i32
end Go.Av
