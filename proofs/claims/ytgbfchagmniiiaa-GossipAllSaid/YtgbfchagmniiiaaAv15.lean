/- The weakest precondition over abstract values is sound. -/
import Derived.Test.YtgbfchagmniiiaaAv14
import Derived.Deep.LoopGhost
set_option linter.unusedSimpArgs false
set_option linter.unusedVariables false
namespace Go.Av
open Go.RowKit

/-- A value may be said to be less. -/
inductive Wk : D → D → Prop where
  | refl (d : D) : Wk d d
  | nil : Wk .nil (.sl 0 [] none)
  | tok (n : Nat) (cs : List D) (t : Option (Nat × Nat)) : Wk (.sl n cs t) (.sl n cs none)
  | e0 : Wk .e0 (.sl 0 [] none)
  | osl0 (id off sz : Nat) : Wk (.osl id off 0 sz) (.sl 0 [] none)
  | oslc0 (id off c sz : Nat) : Wk (.oslc id off 0 c sz) (.sl 0 [] none)
  | oslc (id off n c sz : Nat) : Wk (.oslc id off n c sz) (.osl id off n sz)
  | cells (n : Nat) (cs cs' : List D) (t : Option (Nat × Nat)) : cs'.length ≤ cs.length → (∀ (k : Nat) d d', cs[k]? = some d → cs'[k]? = some d' → Wk d d') → Wk (.sl n cs t) (.sl n cs' none)
  | agg (cs cs' : List D) : cs'.length = cs.length → (∀ (k : Nat) d d', cs[k]? = some d → cs'[k]? = some d' → Wk d d') → Wk (.agg cs) (.agg cs')

theorem Wk.one {d d' : D} (h : Wk d d') (h1 : d.one = true) : d'.one = true := by
  cases h <;> first | rfl | exact h1 | cases h1
theorem Wk.ones {cs cs' : List D} (hl : cs'.length ≤ cs.length) (hw : ∀ (k : Nat) d d', cs[k]? = some d → cs'[k]? = some d' → Wk d d') (h1 : ∀ d ∈ cs, d.one = true) : ∀ d ∈ cs', d.one = true := by
  intro d hd
  obtain ⟨k, hk, rfl⟩ := List.mem_iff_getElem.1 hd
  have hk' : k < cs.length := by omega
  exact (hw k _ _ (List.getElem?_eq_getElem hk') (List.getElem?_eq_getElem hk)).one (h1 _ (List.getElem_mem hk'))

theorem Wk.sound {d d' : D} (h : Wk d d') : ∀ {g : G} {v : Value}, RV g v d → RV g v d' := by
  induction h with
  | refl => exact fun hv => hv
  | e0 => intro g v hv; cases hv; exact .slNil _
  | osl0 id off sz =>
    intro g v hv
    cases hv with
    | osl _ b m _ _ cap _ hi hc hm hf => exact .sl b off 0 cap [] none (fun _ => undef) hc hm (fun k hk => by simp at hk) (fun d hd => by simp at hd) (fun k d e => by simp at e) (fun _ _ e => by cases e)
  | oslc0 id off c sz =>
    intro g v hv
    cases hv with
    | oslc _ b m _ _ cap _ hi hc hm hf => exact .sl b off 0 c [] none (fun _ => undef) hc hm (fun k hk => by simp at hk) (fun d hd => by simp at hd) (fun k d e => by simp at e) (fun _ _ e => by cases e)
  | oslc id off n c sz =>
    intro g v hv
    cases hv with
    | oslc _ b m _ _ cap _ hi hc hm hf => exact .osl id b m off n c sz hi hc hm hf
  | cells n cs cs' t hl hw ih =>
    intro g v hv
    cases hv with
    | slNil a =>
      have : cs' = [] := List.eq_nil_of_length_eq_zero (by simpa using hl)
      subst this
      exact .slNil a
    | sl b off n cap cs t us a1 a2 a3 a4 a5 a6 =>
      refine .sl b off n cap cs' none us a1 a2 (fun k hk => a3 k (by omega)) (Wk.ones hl hw a4) (fun k d e => ?_) (fun _ _ e => by cases e)
      have hk : k < cs'.length := (List.getElem?_eq_some_iff.1 e).1
      have hk' : k < cs.length := by omega
      exact ih k _ _ (List.getElem?_eq_getElem hk') e (a5 k _ (List.getElem?_eq_getElem hk'))
  | agg cs cs' hl hw ih =>
    intro g v hv
    cases hv with
    | agg vs ds a1 a2 a3 =>
      refine .agg vs cs' (by omega) (Wk.ones (by omega) hw a2) (fun k v d e e' => ?_)
      have hk : k < cs'.length := (List.getElem?_eq_some_iff.1 e').1
      have hk' : k < cs.length := by omega
      exact ih k _ _ (List.getElem?_eq_getElem hk') e' (a3 k v _ e (List.getElem?_eq_getElem hk'))
  | nil => intro g v hv; cases hv; exact .slNil none
  | tok n cs t =>
    intro g v hv
    cases hv with
    | slNil a => exact .slNil a
    | sl b off n cap cs t us a1 a2 a3 a4 a5 a6 => exact .sl b off n cap cs none us a1 a2 a3 a4 a5 (fun _ _ e => by cases e)

/-- What a value is when the object id is let go for good. -/
def frzD (id : Nat) (l : List D) : D → D
  | .osl i off n sz => if i = id then .sl n ((l.drop off).take (n * sz)) none else .osl i off n sz
  | .oslc i off n c sz => if i = id then .sl n ((l.drop off).take (n * sz)) none else .oslc i off n c sz
  | .ptr i off => if i = id then .eptr l off else .ptr i off
  | d => d
def frzs (id : Nat) (l : List D) : List Tmp → Env → Env
  | [], ρ => ρ
  | t :: ts, ρ => (frzs id l ts ρ).put (some t) (frzD id l (ρ t))

/-- What may be said on the way: less; an object let go for good. -/
inductive Rx (Q : Env → St → Prop) : Env → St → Prop where
  | done {ρ : Env} {σ : St} : Q ρ σ → Rx Q ρ σ
  | forget {ρ : Env} {σ : St} (σ' : St) : σ'.le σ → Rx Q ρ σ' → Rx Q ρ σ
  | weak {ρ : Env} {σ : St} (t : Tmp) (d : D) : Wk (ρ t) d → Rx Q (ρ.put (some t) d) σ → Rx Q ρ σ
  | freeze {ρ : Env} {σ : St} (id : Nat) (l : List D) (T : TypeId) (ts : List Tmp) : σ id = some (.cells l T) → Rx Q (frzs id l ts ρ) (σ.del id) → Rx Q ρ σ
  | cap {ρ : Env} {σ : St} (t : Tmp) (id off n sz : Nat) : ρ t = .osl id off n sz → (∀ c, n ≤ c → Rx Q (ρ.put (some t) (.oslc id off n c sz)) σ) → Rx Q ρ σ
  | wkc {ρ : Env} {σ : St} (id : Nat) (l l' : List D) (T : TypeId) : σ id = some (.cells l T) → l'.length ≤ l.length → (∀ (k : Nat) d d', l[k]? = some d → l'[k]? = some d' → Wk d d') → Rx Q ρ (σ.set id (.cells l' T)) → Rx Q ρ σ

inductive AExit where
  | normal
  | exit (id : Nat)
  | ret

def AExit.thn (K : Env → St → Prop) (Q : AExit → Env → St → Prop) : AExit → Env → St → Prop
  | .normal => K
  | e => Q e
def AExit.blk (id : Nat) (Q : AExit → Env → St → Prop) : AExit → Env → St → Prop
  | .exit i => if i = id then Q .normal else Q (.exit i)
  | e => Q e

def awp (P : Program) (γ : Gl) : Code → (AExit → Env → St → Prop) → Env → St → Prop
  | .skip, Q, ρ, σ => Q .normal ρ σ
  | .region _ ops false, Q, ρ, σ => alist P γ ops.toList (Q .normal) ops.toList ρ σ
  | .region _ ops true, Q, ρ, σ => adraw P γ ops.toList (Q .normal) ρ σ
  | .seq a b, Q, ρ, σ => awp P γ a (AExit.thn (fun ρ σ => Rx (awp P γ b Q) ρ σ) Q) ρ σ
  | .cond c a b, Q, ρ, σ => (match aeval γ ρ c with
    | .bool t => if t = true then awp P γ a Q ρ σ else awp P γ b Q ρ σ
    | _ => False)
  | .block id c, Q, ρ, σ => awp P γ c (AExit.blk id Q) ρ σ
  | .loop c, Q, ρ, σ => ∃ (I : Nat → Env → St → Prop) (n : Nat), I n ρ σ ∧ ∀ n ρ σ, I n ρ σ → awp P γ c (AExit.thn (fun ρ' σ' => Rx (fun ρ σ => ∃ k, k < n ∧ I k ρ σ) ρ' σ') Q) ρ σ
  | .exit id, Q, ρ, σ => Q (.exit id) ρ σ
  | .ret, Q, ρ, σ => Q .ret ρ σ
  | _, _, _, _ => False

/-- Every slot written is one of the frame's. -/
def codeOk (N : Nat) : Code → Bool
  | .skip => true
  | .region _ ops _ => ops.toList.all fun o => match o.dst with | some t => decide (t < N) | none => true
  | .seq a b => codeOk N a && codeOk N b
  | .cond _ a b => codeOk N a && codeOk N b
  | .block _ c => codeOk N c
  | .loop c => codeOk N c
  | _ => true

section
variable {P : Program} {γ : Gl} {B : Nat} {w0 : World} {g : G} {σ : St} {w : World} {a : Act} {ρ : Env} {N : Nat}

theorem ER.env (h : ER γ g a ρ N) {ρ' : Env} (hr : ∀ t v, RV g v (ρ t) → RV g v (ρ' t)) : ER γ g a ρ' N := ⟨h.size, fun t => hr t _ (h.slot t), h.gok, h.defers⟩

theorem frzD_sound {g' : G} (hg : g.le g') {id b m : Nat} {l : List D} (hi : g.io id = some (b, m)) (h1 : ∀ k, k < l.length → ∃ u, g'.imm b k = some u) (h2 : ∀ (k : Nat) u d, g'.imm b k = some u → l[k]? = some d → RV g' u d)
    (ho : ∀ d ∈ l, d.one = true) {v : Value} {d : D} (hv : RV g v d) : RV g' v (frzD id l d) := by
  have hus : ∀ k, k < l.length → g'.imm b k = some ((g'.imm b k).getD default) := fun k hk => by obtain ⟨u, hu⟩ := h1 k hk; rw [hu]; rfl
  have hv' := hv
  cases hv with
  | osl i b' m' off n cap sz hi' hc hm hf =>
    simp only [frzD]
    split
    · rename_i hid; subst hid
      rw [hi] at hi'; cases hi'
      have hlen : ∀ k, k < ((l.drop off).take (n * sz)).length → off + k < l.length := fun k hk => by simp at hk; omega
      refine .sl b off n cap _ none (fun k => (g'.imm b (off + k)).getD default) hc hm (fun k hk => hus _ (hlen k hk)) (fun d hd => ho d (List.mem_of_mem_drop (List.mem_of_mem_take hd))) (fun k d hd => ?_) (fun _ _ e => by cases e)
      have hk : k < ((l.drop off).take (n * sz)).length := (List.getElem?_eq_some_iff.1 hd).1
      have hd' : l[off + k]? = some d := by
        rw [List.getElem?_take] at hd
        split at hd
        · simpa [List.getElem?_drop] using hd
        · cases hd
      exact h2 _ _ d (hus _ (hlen k hk)) hd'
    · exact .osl i b' m' off n cap sz (hg.io _ _ hi') hc hm hf
  | oslc i b' m' off n cap sz hi' hc hm hf =>
    simp only [frzD]
    split
    · rename_i hid; subst hid
      rw [hi] at hi'; cases hi'
      have hlen : ∀ k, k < ((l.drop off).take (n * sz)).length → off + k < l.length := fun k hk => by simp at hk; omega
      refine .sl b off n cap _ none (fun k => (g'.imm b (off + k)).getD default) hc hm (fun k hk => hus _ (hlen k hk)) (fun d hd => ho d (List.mem_of_mem_drop (List.mem_of_mem_take hd))) (fun k d hd => ?_) (fun _ _ e => by cases e)
      have hk : k < ((l.drop off).take (n * sz)).length := (List.getElem?_eq_some_iff.1 hd).1
      have hd' : l[off + k]? = some d := by
        rw [List.getElem?_take] at hd
        split at hd
        · simpa [List.getElem?_drop] using hd
        · cases hd
      exact h2 _ _ d (hus _ (hlen k hk)) hd'
    · exact .oslc i b' m' off n cap sz (hg.io _ _ hi') hc hm hf
  | ptr i b' m' off hi' =>
    simp only [frzD]
    split
    · rename_i hid; subst hid
      rw [hi] at hi'; cases hi'
      have := RV.eptr (g := g') b 0 off l (fun k => (g'.imm b k).getD default) (fun k hk => by rw [Nat.zero_add]; exact hus k hk) ho (fun k d hd => h2 k _ d (hus k (List.getElem?_eq_some_iff.1 hd).1) hd)
      simpa using this
    · exact .ptr i b' m' off (hg.io _ _ hi')
  | _ => exact RV.mono hg hv'

theorem Rel.wkc (h : Rel B w0 g σ w) {id : Nat} {l l' : List D} {T : TypeId} (hs : σ id = some (.cells l T)) (hl : l'.length ≤ l.length) (hw : ∀ (k : Nat) d d', l[k]? = some d → l'[k]? = some d' → Wk d d') : Rel B w0 g (σ.set id (.cells l' T)) w := by
  refine ⟨h.below, h.base, h.imm, h.dom, h.fin, fun i ob e => ?_, fun i j b n n' e e' => h.inj i j b n n' ?_ ?_⟩
  · by_cases hi : i = id
    · subst hi
      simp only [St.set, if_true, Option.some.injEq] at e
      subst e
      obtain ⟨b, arr, T', fr, a1, a2, a3, a4, a5, a6, a7, a8, a9⟩ := h.obj i _ hs
      refine ⟨b, arr, T', fr, a1, a2, a3, a4, by omega, Wk.ones hl hw a6, fun k v d x y => ?_, a8, a9⟩
      have hk : k < l'.length := (List.getElem?_eq_some_iff.1 y).1
      have hk' : k < l.length := by omega
      exact (hw k _ d (List.getElem?_eq_getElem hk') y).sound (a7 k v _ x (List.getElem?_eq_getElem hk'))
    · simp only [St.set, if_neg hi] at e
      exact h.obj i ob e
  · by_cases hi : i = id
    · subst hi; rw [hs]; simp
    · simpa only [St.set, if_neg hi] using e
  · by_cases hi : j = id
    · subst hi; rw [hs]; simp
    · simpa only [St.set, if_neg hi] using e'

theorem Rx.sound {Q : Env → St → Prop} (h : Rx Q ρ σ) : ∀ {g : G}, ER γ g a ρ N → Rel B w0 g σ w → ∃ g' ρ' σ', g.le g' ∧ ER γ g' a ρ' N ∧ Rel B w0 g' σ' w ∧ Q ρ' σ' := by
  induction h with
  | done h => intro g hE hR; exact ⟨g, _, _, G.le.refl _, hE, hR, h⟩
  | forget σ' hs _ ih => intro g hE hR; exact ih hE (hR.forget hs)
  | weak t d hw _ ih =>
    intro g hE hR
    refine ih (hE.env fun s v hv => ?_) hR
    show RV g v (if s = t then d else _)
    split
    · rename_i e; subst e; exact hw.sound hv
    · exact hv
  | @freeze ρ σ id l T' ts hs _ ih =>
    intro g hE hR
    obtain ⟨b, arr, T, fr, a1, a2, a3, a4, a5⟩ := hR.obj id _ hs
    obtain ⟨g', b1, b2, b3, b4⟩ := hR.freeze hs a1
    have hf : ∀ {v d}, RV g v d → RV g' v (frzD id l d) := fun hv => frzD_sound b1 a1 b3 b4 a5.2.1 hv
    have hE' : ∀ ts, ER γ g' a (frzs id l ts ρ) N := by
      intro ts
      induction ts with
      | nil => exact hE.mono b1
      | cons t ts ih2 =>
        refine ⟨ih2.size, fun s => ?_, ih2.gok, ih2.defers⟩
        show RV g' _ (if s = t then frzD id l (ρ t) else frzs id l ts ρ s)
        split
        · rename_i e; subst e; exact hf (hE.slot s)
        · exact ih2.slot s
    obtain ⟨g'', ρ', σ', c1, c2, c3, c4⟩ := ih (hE' ts) b2
    exact ⟨g'', ρ', σ', b1.trans c1, c2, c3, c4⟩
  | @cap ρ σ t id off n sz ht _ ih =>
    intro g hE hR
    have hs := hE.slot t
    rw [ht] at hs
    generalize hv : a.tmps.getD t undef = v at hs
    cases hs with
    | osl _ b m _ _ c _ hi hc hm hf =>
      refine ih c hc ⟨hE.size, fun s => ?_, hE.gok, hE.defers⟩ hR
      show RV g _ (if s = t then _ else ρ s)
      split
      · rename_i e; subst e; rw [hv]; exact .oslc id b m off n c sz hi hc hm hf
      · exact hE.slot s
  | wkc id l l' T hs hl hw _ ih => intro g hE hR; exact ih hE (hR.wkc hs hl hw)

/-- What stands behind the code. -/
def QS (γ : Gl) (B : Nat) (w0 : World) (g : G) (N : Nat) (Q : AExit → Env → St → Prop) : Exit → Act → World → Prop := fun e a w => ∃ g' ρ σ, g.le g' ∧ ER γ g' a ρ N ∧ Rel B w0 g' σ w ∧
  match e with
  | .normal => Q .normal ρ σ
  | .exit i => Q (.exit i) ρ σ
  | .ret => Q .ret ρ σ
  | _ => False

theorem QS.le {g g' : G} (hg : g.le g') {Q : AExit → Env → St → Prop} {e : Exit} {a : Act} {w : World} (h : QS γ B w0 g' N Q e a w) : QS γ B w0 g N Q e a w :=
  let ⟨g'', ρ, σ, h1, h2⟩ := h; ⟨g'', ρ, σ, hg.trans h1, h2⟩

theorem alist_sound {ops : Array Oper} {Q' : Env → St → Prop} {Q : Exit → Act → World → Prop} {g0 : G} (hn : ∀ g' ρ' σ' a' w', g0.le g' → ER γ g' a' ρ' N → Rel B w0 g' σ' w' → Q' ρ' σ' → Q .normal a' w') :
    ∀ (l : List Oper) (g : G) (ρ : Env) (σ : St) (a : Act) (w : World), (∀ o ∈ l, ∀ t, o.dst = some t → t < N) → g0.le g → ER γ g a ρ N → Rel B w0 g σ w → alist P γ ops.toList Q' l ρ σ → wpList P ops Q l a w
  | [], g, ρ, σ, a, w, _, hg, hE, hR, h => hn g ρ σ a w hg hE hR h
  | o :: rest, g, ρ, σ, a, w, hN, hg, hE, hR, h => by
    unfold alist at h
    unfold wpList
    split at h
    · rename_i hw
      rw [wanted_sound hE hw]
      simp only [if_true]
      left
      refine aop_sound hE hR h ?_
      rintro v w' ⟨d, g', σ', e1, e2, e3, e4⟩
      exact alist_sound hn rest g' _ σ' _ w' (fun o' ho => hN o' (by simp [ho])) (hg.trans e1) ((hE.mono e1).putO (hN o (by simp)) e2) e3 e4
    · rename_i hw
      rw [wanted_sound hE hw]
      simp only [Bool.false_eq_true, if_false]
      exact alist_sound hn rest g _ σ _ w (fun o' ho => hN o' (by simp [ho])) hg (hE.putO (hN o (by simp)) (rv_undef _)) hR h
    · cases h

theorem awp_sound (hm : P.follows .mixedOrders = true) : ∀ (c : Code) (Q : AExit → Env → St → Prop) (g : G) (ρ : Env) (σ : St) (a : Act) (w : World), codeOk N c = true → ER γ g a ρ N → Rel B w0 g σ w → awp P γ c Q ρ σ → c.wp P (QS γ B w0 g N Q) a w
  | .skip, Q, g, ρ, σ, a, w, hc, hE, hR, h => wp_skip ⟨g, ρ, σ, G.le.refl _, hE, hR, by simpa [awp] using h⟩
  | .region id ops false, Q, g, ρ, σ, a, w, hc, hE, hR, h => by
    refine wp_region_list (alist_sound (γ := γ) (Q' := Q .normal) (fun g' ρ' σ' a' w' h1 h2 h3 h4 => ⟨g', ρ', σ', h1, h2, h3, h4⟩) ops.toList g ρ σ a w ?_ (G.le.refl _) hE hR (by simpa only [awp] using h))
    intro o ho t ht
    have := List.all_eq_true.1 (by simpa only [codeOk] using hc) o ho
    rw [ht] at this; simpa using this
  | .region id ops true, Q, g, ρ, σ, a, w, hc, hE, hR, h => by
    refine region_any_sound hm hE hR (Q' := Q .normal) ?_ (by simpa only [awp] using h) (fun g' ρ' σ' a' w' h1 h2 h3 h4 => ⟨g', ρ', σ', h1, h2, h3, h4⟩)
    intro o ho t ht
    have := List.all_eq_true.1 (by simpa only [codeOk] using hc) o ho
    rw [ht] at this; simpa using this
  | .seq x y, Q, g, ρ, σ, a, w, hc, hE, hR, h => by
    simp only [codeOk, Bool.and_eq_true] at hc
    refine wp_seq (wp_mono (awp_sound hm x _ g ρ σ a w hc.1 hE hR (by simpa only [awp] using h)) ?_)
    rintro e a' w' ⟨g', ρ', σ', h1, h2, h3, h4⟩
    cases e with
    | normal =>
      obtain ⟨g'', ρ'', σ'', k1, k2, k3, k4⟩ := Rx.sound (show Rx (awp P γ y Q) ρ' σ' from h4) h2 h3
      exact wp_mono (awp_sound hm y Q g'' ρ'' σ'' a' w' hc.2 k2 k3 k4) fun e a w hq => hq.le (h1.trans k1)
    | exit i => exact ⟨g', ρ', σ', h1, h2, h3, h4⟩
    | ret => exact ⟨g', ρ', σ', h1, h2, h3, h4⟩
    | goto i => exact h4.elim
    | panic ch => exact h4.elim
    | outgrown => exact h4.elim
  | .cond c x y, Q, g, ρ, σ, a, w, hc, hE, hR, h => by
    simp only [codeOk, Bool.and_eq_true] at hc
    simp only [awp] at h
    split at h
    · rename_i t ht
      have hv := hE.eval c
      rw [ht] at hv
      generalize hcv : a.eval c = cv at hv
      cases hv
      refine wp_cond hcv ?_
      cases t
      · simp only [Bool.false_eq_true, if_false] at h ⊢
        exact awp_sound hm y Q g ρ σ a w hc.2 hE hR h
      · simp only [if_true] at h ⊢
        exact awp_sound hm x Q g ρ σ a w hc.1 hE hR h
    · cases h
  | .block id c, Q, g, ρ, σ, a, w, hc, hE, hR, h => by
    simp only [codeOk] at hc
    refine wp_block (wp_mono (awp_sound hm c _ g ρ σ a w hc hE hR (by simpa only [awp] using h)) ?_)
    rintro e a' w' ⟨g', ρ', σ', h1, h2, h3, h4⟩
    cases e with
    | normal => exact ⟨g', ρ', σ', h1, h2, h3, h4⟩
    | exit i =>
      have h4 : AExit.blk id Q (.exit i) ρ' σ' := h4
      simp only [AExit.blk] at h4
      simp only [Exit.inBlock]
      split at h4
      · rename_i e; rw [if_pos e]; exact ⟨g', ρ', σ', h1, h2, h3, h4⟩
      · rename_i e; rw [if_neg e]; exact ⟨g', ρ', σ', h1, h2, h3, h4⟩
    | ret => exact ⟨g', ρ', σ', h1, h2, h3, h4⟩
    | goto i => exact h4.elim
    | panic ch => exact h4.elim
    | outgrown => exact h4.elim
  | .loop c, Q, g, ρ, σ, a, w, hc, hE, hR, h => by
    simp only [codeOk] at hc
    simp only [awp] at h
    obtain ⟨I, n, hI, hround⟩ := h
    refine wp_loop_ghost (fun n a w => ∃ g' ρ σ, g.le g' ∧ ER γ g' a ρ N ∧ Rel B w0 g' σ w ∧ I n ρ σ) n ⟨g, ρ, σ, G.le.refl _, hE, hR, hI⟩ ?_
    rintro n a w ⟨g', ρ', σ', h1, h2, h3, h4⟩
    refine wp_mono (awp_sound hm c _ g' ρ' σ' a w hc h2 h3 (hround n ρ' σ' h4)) ?_
    rintro e a' w' ⟨g'', ρ'', σ'', k1, k2, k3, k4⟩
    cases e with
    | normal =>
      obtain ⟨g3, ρ3, σ3, m1, m2, m3, k, hk, hI⟩ := Rx.sound (show Rx (fun ρ σ => ∃ k, k < n ∧ I k ρ σ) ρ'' σ'' from k4) k2 k3
      exact ⟨k, hk, g3, ρ3, σ3, h1.trans (k1.trans m1), m2, m3, hI⟩
    | exit i => exact ⟨g'', ρ'', σ'', h1.trans k1, k2, k3, k4⟩
    | ret => exact ⟨g'', ρ'', σ'', h1.trans k1, k2, k3, k4⟩
    | goto i => exact k4.elim
    | panic ch => exact k4.elim
    | outgrown => exact k4.elim
  | .exit id, Q, g, ρ, σ, a, w, hc, hE, hR, h => wp_exit ⟨g, ρ, σ, G.le.refl _, hE, hR, by simpa [awp] using h⟩
  | .ret, Q, g, ρ, σ, a, w, hc, hE, hR, h => wp_ret ⟨g, ρ, σ, G.le.refl _, hE, hR, by simpa [awp] using h⟩
  | .rangeFunc .., _, _, _, _, _, _, _, _, _, h => by simp [awp] at h
  | .scope .., _, _, _, _, _, _, _, _, _, h => by simp [awp] at h
  | .label .., _, _, _, _, _, _, _, _, _, h => by simp [awp] at h
  | .goto .., _, _, _, _, _, _, _, _, _, h => by simp [awp] at h

/-! ### a function -/
def ares (P : Program) : List ResultVar → Env → St → (List D → Prop) → Prop
  | [], _, _, K => K []
  | .tmp t :: r, ρ, σ, K => ares P r ρ σ fun ds => K (ρ t :: ds)
  | .cell p t :: r, ρ, σ, K => aload P t (ρ p) σ fun d _ => ares P r ρ σ fun ds => K (d :: ds)

def aone : List D → D
  | [d] => d
  | ds => .tup ds

theorem aread_elim {ag : Bool} {sz : Nat} {l : List D} {off : Nat} {σ : St} {K : D → St → Prop} (h : aread ag sz l off σ K) : ∃ d, aread ag sz l off σ (fun d' σ' => d' = d ∧ σ' = σ) ∧ K d σ := by
  unfold aread at *
  cases ag
  · simp only [Bool.false_eq_true, if_false] at *
    obtain ⟨d, h1, h2⟩ := h
    exact ⟨d, ⟨d, h1, by simp⟩, h2⟩
  · simp only [if_true] at *
    exact ⟨_, ⟨h.1, by simp⟩, h.2⟩
theorem aload_elim {t : TypeId} {p : D} {σ : St} {K : D → St → Prop} (h : aload P t p σ K) : ∃ d, aload P t p σ (fun d' σ' => d' = d ∧ σ' = σ) ∧ K d σ := by
  unfold aload at *
  cases hq : tagg P t with
  | none => rw [hq] at h; cases h
  | some ag =>
    rw [hq] at h
    cases p with
    | ptr i o =>
      obtain ⟨l, T9, h1, h2⟩ := h
      obtain ⟨d, h3, h4⟩ := aread_elim h2
      exact ⟨d, ⟨l, T9, h1, h3⟩, h4⟩
    | eptr cs o => exact aread_elim h
    | _ => exact h.elim

theorem loadVar_of {t : TypeId} {p : Value} {pd : D} (hp : RV g p pd) {σ : St} {K : D → St → Prop} (hl : aload P t pd σ K) {w : World} {v : Value} (h : (Instr.loadAt t p).run P w = .ok v w) :
    (do loadVar t (← asAddr p) : Sem Value).run P w = .ok v w := by
  unfold aload at hl
  split at hl
  · cases hl
  · cases hp <;> simp at hl
    · simpa [Instr.loadAt, Instr.sureAddr, asAddr] using h
    · simpa [Instr.loadAt, Instr.sureAddr, asAddr] using h

def resOne (tmps : Array Value) : ResultVar → Sem Value
  | .tmp t => pure (tmps.getD t undef)
  | .cell p t => do loadVar t (← asAddr (tmps.getD p undef))

theorem results_eq (fn : Func) (tmps : Array Value) : results fn tmps = (do
    let vs ← fn.results.mapM (resOne tmps)
    pure (if h : vs.size = 1 then vs[0] else .tuple vs)) := by
  unfold results
  congr 1

def aoneV : List Value → Value
  | [v] => v
  | vs => .tuple vs.toArray

theorem ares_sound {σ : St} : ∀ (l : List ResultVar) {g : G} {K : List D → Prop}, ER γ g a ρ N → Rel B w0 g σ w → ares P l ρ σ K →
    ∃ g' vs ds, g.le g' ∧ Rel B w0 g' σ w ∧ RVs g' vs ds ∧ K ds ∧ (l.mapM (resOne a.tmps)).run P w = .ok vs w
  | [], g, K, hE, hR, h => ⟨g, [], [], G.le.refl _, hR, ⟨rfl, fun _ _ _ e => by simp at e⟩, h, by simp⟩
  | .tmp t :: r, g, K, hE, hR, h => by
    obtain ⟨g', vs, ds, h1, h2, h3, h4, h5⟩ := ares_sound r hE hR h
    refine ⟨g', a.tmps.getD t undef :: vs, ρ t :: ds, h1, h2, ⟨by simp [h3.1], fun k v d e e' => ?_⟩, h4, ?_⟩
    · cases k with
      | zero => simp only [List.getElem?_cons_zero, Option.some.injEq] at e e'; subst e; subst e'; exact (hE.slot t).mono h1
      | succ k => simp only [List.getElem?_cons_succ] at e e'; exact h3.2 k v d e e'
    · rw [List.mapM_cons]
      simp only [resOne, Sem.run_bind, Sem.run_pure, Result.andThen_ok, h5]
  | .cell p t :: r, g, K, hE, hR, h => by
    obtain ⟨d, k1, k2⟩ := aload_elim (show aload P t (ρ p) σ _ from h)
    obtain ⟨v, m1, d', g1, σ', m2, m3, m4, m5, m6⟩ := load_sound (hE.slot p) hR k1
    subst m5; subst m6
    obtain ⟨g', vs, ds, h1, h2, h3, h4, h5⟩ := ares_sound r (hE.mono m2) m4 k2
    refine ⟨g', v :: vs, d' :: ds, m2.trans h1, h2, ⟨by simp [h3.1], fun k v d e e' => ?_⟩, h4, ?_⟩
    · cases k with
      | zero => simp only [List.getElem?_cons_zero, Option.some.injEq] at e e'; subst e; subst e'; exact m3.mono h1
      | succ k => simp only [List.getElem?_cons_succ] at e e'; exact h3.2 k v d e e'
    · have := loadVar_of (hE.slot p) k1 m1
      rw [List.mapM_cons]
      simp only [Sem.run_bind] at this ⊢
      simp only [resOne, Sem.run_bind, this, Sem.run_pure, Result.andThen_ok, h5]

def afin (P : Program) (rs : List ResultVar) (R : D → St → Prop) : AExit → Env → St → Prop
  | .exit _, _, _ => False
  | _, ρ, σ => Rx (fun ρ σ => ares P rs ρ σ fun ds => ∃ σ', σ'.le σ ∧ R (aone ds) σ') ρ σ

/-- The frame as the call begins. -/
def aenv (args : List D) : Env := fun t => args.getD t (.tup [])

theorem acalls_of_awp (hm : P.follows .mixedOrders = true) {γ : Gl} {f : FuncId} {fn : Func} {c : Code} {rs : List ResultVar} {N : Nat} {args : List D} {σ : St} {R : D → St → Prop}
    (hf : P.funcs[f]? = some fn) (hb : fn.body = some c) (hname : (fn.name != "runtime.NumGoroutine") = true) (hrs : fn.results = rs.toArray) (hn : fn.ntmps = N) (hok : codeOk N c = true) (hargs : args.length ≤ N)
    (h : awp P γ c (afin P rs R) (aenv args) σ) : ACalls P γ f args σ R := by
  subst hn
  have hrs' : fn.results.toList = rs := by rw [hrs]
  subst hrs'
  refine ⟨by simp [okFn, hf, hb, hname], fun B w0 g w vals hγ hv hR => ?_⟩
  refine calls_of_wp hf hb (wp_mono (awp_sound (N := fn.ntmps) hm c _ g (aenv args) σ _ w hok ?_ hR h) ?_)
  · have hl := hv.1
    refine ⟨by simp; omega, fun t => ?_, hγ, rfl⟩
    simp only [aenv]
    by_cases ht : t < args.length
    · have h1 : vals[t]? = some vals[t] := List.getElem?_eq_getElem (by omega)
      have h2 : args[t]? = some args[t] := List.getElem?_eq_getElem ht
      have h3 : (vals.toArray ++ Array.replicate (fn.ntmps - vals.toArray.size) undef).getD t undef = vals[t] := by
        simp [Array.getElem?_append, show t < vals.length by omega]
      have h4 : args.getD t (.tup []) = args[t] := by simp [List.getD, h2]
      rw [h3, h4]
      exact hv.2 t _ _ h1 h2
    · have h3 : (vals.toArray ++ Array.replicate (fn.ntmps - vals.toArray.size) undef).getD t undef = undef := by
        simp only [Array.getD_eq_getD_getElem?, Array.getElem?_append, Array.getElem?_replicate]
        rw [if_neg (by simp; omega)]
        split <;> rfl
      have h4 : args.getD t (.tup []) = .tup [] := by simp [List.getD, List.getElem?_eq_none (Nat.le_of_not_lt ht)]
      rw [h3, h4]; exact rv_undef _
  · rintro e a' w' ⟨g', ρ', σ', h1, h2, h3, h4⟩
    have fin : Rx (fun ρ σ => ares P fn.results.toList ρ σ fun ds => ∃ σ', σ'.le σ ∧ R (aone ds) σ') ρ' σ' → a'.defers = [] ∧ ∃ v, (results fn a'.tmps).run P w' = .ok v w' ∧ ∃ v', Ending.returned v = .returned v' ∧ Comes' B w0 g R v' w' := by
      intro hx
      obtain ⟨g2, ρ2, σ2, k1, k2, k3, k4⟩ := hx.sound h2 h3
      obtain ⟨g3, vs, ds, m1, m2, m3, ⟨σ3, m6, m4⟩, m5⟩ := ares_sound fn.results.toList k2 k3 k4
      refine ⟨k2.defers, aoneV vs, ?_, _, rfl, aone ds, g3, σ3, (h1.trans k1).trans m1, ?_, m2.forget m6, m4⟩
      · rw [results_eq, Array.mapM_eq_mapM_toList]
        simp only [Sem.run_bind, map_eq_pure_bind]
        rw [m5]
        simp only [Result.andThen_ok, Sem.run_pure]
        cases vs with
        | nil => rfl
        | cons x xs => cases xs <;> rfl
      · cases vs with
        | nil =>
          cases ds with
          | nil => exact .tup #[] [] rfl (fun _ _ _ e => by simp at e)
          | cons _ _ => simp [RVs] at m3
        | cons x xs =>
          cases ds with
          | nil => simp [RVs] at m3
          | cons d ds =>
            cases xs with
            | nil =>
              cases ds with
              | nil => exact m3.2 0 x d rfl rfl
              | cons _ _ => simp [RVs] at m3
            | cons y ys =>
              cases ds with
              | nil => simp [RVs] at m3
              | cons d2 ds => exact .tup _ _ (by simpa using m3.1) (fun i v d e e' => m3.2 i v d (by simpa using e) e')
    cases e with
    | normal => exact fin h4
    | ret => exact fin h4
    | exit i => exact h4.elim
    | goto i => exact h4.elim
    | panic ch => exact h4.elim
    | outgrown => exact h4.elim
end
end Go.Av
