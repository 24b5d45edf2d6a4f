/- A region whose order is open. -/
import Derived.Test.YtgbfchagmniiiaaAv11
import Derived.Orders
set_option linter.unusedSimpArgs false
set_option linter.unusedVariables false
namespace Go.Av
open Go.RowKit

section
variable {P : Program} {γ : Gl} {B : Nat} {w0 : World} {g : G} {σ : St} {w : World} {a : Act} {ρ : Env} {N : Nat}

theorem aeval_congr {ρ ρ' : Env} (x : Operand) (h : ∀ t, x = .tmp t → ρ t = ρ' t) : aeval γ ρ x = aeval γ ρ' x := by
  cases x with
  | tmp t => exact h t rfl
  | _ => rfl

theorem mem_tmpsOf {xs : List Operand} {t : Tmp} (h : .tmp t ∈ xs) : t ∈ tmpsOf xs := List.mem_filterMap.2 ⟨.tmp t, h, rfl⟩

theorem aop_congr {ρ ρ' : Env} (op : Op) (h : ∀ x ∈ op.operands, aeval γ ρ x = aeval γ ρ' x) {σ : St} {K : D → St → Prop} : aop P γ ρ σ op K = aop P γ ρ' σ op K := by
  have hmap : ∀ xs : List Operand, (∀ x ∈ xs, x ∈ op.operands) → xs.map (aeval γ ρ) = xs.map (aeval γ ρ') := fun xs hx => List.map_congr_left fun x hm => h x (hx x hm)
  have hpart : ∀ ps : List (Nat × Operand), (∀ p ∈ ps, p.2 ∈ op.operands) → (ps.map fun p => (p.1, aeval γ ρ p.2)) = (ps.map fun p => (p.1, aeval γ ρ' p.2)) := fun ps hp => List.map_congr_left fun p hm => by rw [h p.2 (hp p hm)]
  cases op <;> simp only [Op.operands] at h hmap hpart <;> simp only [aop]
  case move x => rw [h x (by simp)]
  case assign x => rw [h x (by simp)]
  case pick c x y => rw [h c (by simp), h x (by simp), h y (by simp)]
  case box t x => rw [h x (by simp)]
  case build t ps => rw [hpart ps.toList (fun p hp => by simp; exact ⟨p.1, by simpa using hp⟩)]
  case buildSlice t n ps => rw [hpart ps.toList (fun p hp => by simp; exact ⟨p.1, by simpa using hp⟩)]
  case load t x => rw [h x (by simp)]
  case store t x y => rw [h x (by simp), h y (by simp)]
  case nilCheck x => rw [h x (by simp)]
  case binOp o t x y t' => rw [h x (by simp), h y (by simp)]
  case unOp o t x => rw [h x (by simp)]
  case convert s d x => rw [h x (by simp)]
  case makeSlice t x y => rw [h x (by simp), h y (by simp)]
  case slice t x l hh m =>
    have e1 : l.map (aeval γ ρ) = l.map (aeval γ ρ') := by cases l with | none => rfl | some y => simp [h y (by simp)]
    have e2 : hh.map (aeval γ ρ) = hh.map (aeval γ ρ') := by cases hh with | none => rfl | some y => simp [h y (by simp)]
    have e3 : m.map (aeval γ ρ) = m.map (aeval γ ρ') := by cases m with | none => rfl | some y => simp [h y (by simp)]
    rw [h x (by simp), e1, e2, e3]
  case fieldAddr t x f => rw [h x (by simp)]
  case field t x f => rw [h x (by simp)]
  case indexAddr t x y => rw [h x (by simp), h y (by simp)]
  case index t x y => rw [h x (by simp), h y (by simp)]
  case extract x i => rw [h x (by simp)]
  case makeFunc fn first caps =>
    cases fn <;> simp only
    rw [hmap caps.toList (fun x hx => by simp; right; simpa using hx)]
  case call c =>
    cases hc : c.callee with
    | value f =>
      simp only
      rw [h f (by simp [Call.operands, hc]), hmap c.args.toList (fun x hx => by simp only [Call.operands, hc]; simp; right; simpa using hx)]
    | invoke r m => rfl
    | builtin b =>
      simp only
      rw [hmap c.args.toList (fun x hx => by simp only [Call.operands, hc]; simpa using hx)]

/-! ### the bits -/
theorem befs_prefix : ∀ (ops : List Oper) (acc : List Nat), ∃ r, befs ops acc = acc ++ r ∧ r.length = ops.length
  | [], acc => ⟨[], by simp [befs], rfl⟩
  | o :: r, acc => by
    obtain ⟨q, h1, h2⟩ := befs_prefix r (acc ++ [o.after.toList.foldl (fun s e => if Region.binds .any e then s ||| 2 ^ e.on ||| acc.getD e.on 0 else s) 0])
    refine ⟨_ :: q, by rw [befs, h1, List.append_assoc]; rfl, by simp [h2]⟩

theorem fold_bits (acc : List Nat) (i : Nat) : ∀ (es : List Edge) (s : Nat), (es.foldl (fun s e => if Region.binds .any e then s ||| 2 ^ e.on ||| acc.getD e.on 0 else s) s).testBit i = true →
    s.testBit i = true ∨ ∃ e ∈ es, Region.binds .any e = true ∧ (e.on = i ∨ (acc.getD e.on 0).testBit i = true)
  | [], s, h => .inl h
  | e :: es, s, h => by
    rw [List.foldl_cons] at h
    rcases fold_bits acc i es _ h with h | ⟨e', h1, h2⟩
    · by_cases hb : Region.binds .any e = true
      · rw [if_pos hb, Nat.testBit_or, Nat.testBit_or] at h
        simp only [Bool.or_eq_true] at h
        rcases h with (h | h) | h
        · exact .inl h
        · rw [Nat.testBit_two_pow] at h
          exact .inr ⟨e, by simp, hb, .inl (by simpa using h)⟩
        · exact .inr ⟨e, by simp, hb, .inr h⟩
      · rw [if_neg hb] at h; exact .inl h
    · exact .inr ⟨e', by simp [h1], h2⟩

theorem befs_at : ∀ (ops : List Oper) (acc : List Nat) (j : Nat) (o : Oper), ops[j]? = some o → ∀ i, ((befs ops acc).getD (acc.length + j) 0).testBit i = true →
    ∃ e ∈ o.after.toList, Region.binds .any e = true ∧ (e.on = i ∨ (e.on < acc.length + j ∧ ((befs ops acc).getD e.on 0).testBit i = true))
  | [], acc, j, o, h, _, _ => by simp at h
  | p :: r, acc, 0, o, h, i, hb => by
    simp only [List.getElem?_cons_zero, Option.some.injEq] at h
    subst h
    obtain ⟨q, h1, h2⟩ := befs_prefix r (acc ++ [p.after.toList.foldl (fun s e => if Region.binds .any e then s ||| 2 ^ e.on ||| acc.getD e.on 0 else s) 0])
    have hbe : befs (p :: r) acc = acc ++ ([p.after.toList.foldl (fun s e => if Region.binds .any e then s ||| 2 ^ e.on ||| acc.getD e.on 0 else s) 0] ++ q) := by rw [befs, h1, List.append_assoc]
    rw [hbe] at hb ⊢
    have hv : (acc ++ ([p.after.toList.foldl (fun s e => if Region.binds .any e then s ||| 2 ^ e.on ||| acc.getD e.on 0 else s) 0] ++ q)).getD (acc.length + 0) 0 = p.after.toList.foldl (fun s e => if Region.binds .any e then s ||| 2 ^ e.on ||| acc.getD e.on 0 else s) 0 := by
      simp [List.getD]
    rw [hv] at hb
    rcases fold_bits acc i _ _ hb with h | ⟨e, e1, e2, e3⟩
    · simp at h
    · refine ⟨e, e1, e2, ?_⟩
      rcases e3 with e3 | e3
      · exact .inl e3
      · right
        have hlt : e.on < acc.length := by
          rcases Nat.lt_or_ge e.on acc.length with h | h
          · exact h
          · simp [List.getD, List.getElem?_eq_none h] at e3
        refine ⟨by omega, ?_⟩
        rw [List.getD, List.getElem?_append_left hlt]
        exact e3
  | p :: r, acc, j + 1, o, h, i, hb => by
    simp only [List.getElem?_cons_succ] at h
    rw [befs] at hb ⊢
    have := befs_at r (acc ++ [p.after.toList.foldl (fun s e => if Region.binds .any e then s ||| 2 ^ e.on ||| acc.getD e.on 0 else s) 0]) j o h i (by simpa [Nat.add_assoc, Nat.add_comm 1 j] using hb)
    obtain ⟨e, e1, e2, e3⟩ := this
    refine ⟨e, e1, e2, ?_⟩
    rcases e3 with e3 | ⟨e3, e4⟩
    · exact .inl e3
    · exact .inr ⟨by simp at e3; omega, e4⟩

/-- What has been done is closed under 'before'. -/
def ClosedS (ops : List Oper) (S : Nat → Prop) : Prop := ∀ j o, ops[j]? = some o → S j → ∀ e ∈ o.after.toList, Region.binds .any e = true → S e.on

theorem before_done {ops : List Oper} {S : Nat → Prop} (hS : ClosedS ops S) : ∀ (j : Nat) (o : Oper), ops[j]? = some o → (∀ e ∈ o.after.toList, Region.binds .any e = true → S e.on) → ∀ i, ((befs ops []).getD j 0).testBit i = true → S i := by
  intro j
  induction j using Nat.strongRecOn with
  | _ j ih =>
    intro o ho hd i hb
    obtain ⟨e, e1, e2, e3⟩ := befs_at ops [] j o ho i (by simpa using hb)
    rcases e3 with rfl | ⟨e3, e4⟩
    · exact hd e e1 e2
    · have hlt : e.on < j := by simpa using e3
      have hs := hd e e1 e2
      have hj : j < ops.length := (List.getElem?_eq_some_iff.1 ho).1
      have ho' := List.getElem?_eq_getElem (show e.on < ops.length by omega)
      exact ih e.on hlt _ ho' (fun e' h1 h2 => hS e.on _ ho' hs e' h1 h2) i e4

/-! ### the orders -/
def cnt (l : Array Bool) : Nat := (l.toList.filter (fun b => !b)).length

theorem cnt_set (l : Array Bool) (i : Nat) (h : l.getD i true = false) : cnt (l.setIfInBounds i true) + 1 = cnt l := by
  obtain ⟨l⟩ := l
  have hi : l[i]? = some false := by
    simp at h
    cases hq : l[i]? with
    | none => rw [hq] at h; simp at h
    | some b => rw [hq] at h; simp at h; rw [h]
  have key : ∀ (l : List Bool) (i : Nat), l[i]? = some false → ((l.set i true).filter (fun b => !b)).length + 1 = (l.filter (fun b => !b)).length := by
    intro l
    induction l with
    | nil => intro i h; simp at h
    | cons b l ih =>
      intro i h
      cases i with
      | zero => simp at h; subst h; simp
      | succ i =>
        simp at h
        have := ih i h
        cases b <;> simp_all
  simpa [cnt] using key l i hi

theorem wpAny_inv {ops : Array Oper} {Q : Exit → Act → World → Prop} (Inv : Array Bool → Act → World → Prop)
    (hsize : ∀ l a w, Inv l a w → l.size = ops.size)
    (hstep : ∀ l a w i, Inv l a w → i ∈ Region.ready .any ops l → wpOp P ops Q i (fun a' w' => Inv (l.setIfInBounds i true) a' w') a w)
    (hend : ∀ l a w, Inv l a w → Region.ready .any ops l = [] → Q .normal a w) :
    ∀ (fuel : Nat) (l : Array Bool) (a : Act) (w : World), Inv l a w → cnt l ≤ fuel → wpAny P .any ops Q fuel l a w
  | 0, l, a, w, hI, hc => by
    have hr : Region.ready .any ops l = [] := by
      cases hq : Region.ready .any ops l with
      | nil => rfl
      | cons i r =>
        have hi : i ∈ Region.ready .any ops l := by rw [hq]; simp
        have := cnt_set l i (mem_ready.1 hi).1
        omega
    exact ⟨hr, hend l a w hI hr⟩
  | fuel + 1, l, a, w, hI, hc => by
    refine ⟨fun h => hend l a w hI h, fun i hi => ?_⟩
    refine wpOp_mono (fun a' w' h => ?_) (hstep l a w i hI hi)
    have := cnt_set l i (mem_ready.1 hi).1
    exact wpAny_inv Inv hsize hstep hend fuel _ a' w' h (by omega)

end
end Go.Av
