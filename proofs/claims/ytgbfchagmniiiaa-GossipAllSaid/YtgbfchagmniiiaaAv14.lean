/- A region whose order is open is sound. -/
import Derived.Test.YtgbfchagmniiiaaAv13
set_option linter.unusedSimpArgs false
set_option linter.unusedVariables false
set_option linter.unnecessarySimpa false
namespace Go.Av
open Go.RowKit

section
variable {P : Program} {γ : Gl} {B : Nat} {w0 : World} {g : G} {σ : St} {w : World} {a : Act} {ρ : Env} {N : Nat}

theorem passT_skip {ops : List Oper} {mask : List Bool} {obs : List (Nat × (St → Prop))} {Q : Env → St → Prop} (hl : mask.length = ops.length) {ρ : Env} {σ : St} : ∀ (n i : Nat), i + n ≤ ops.length → (∀ k, i ≤ k → k < i + n → mask.getD k true = true) →
    passT P γ ops obs Q i (ops.drop i) (mask.drop i) ρ σ → passT P γ ops obs Q (i + n) (ops.drop (i + n)) (mask.drop (i + n)) ρ σ
  | 0, i, _, _, h => h
  | n + 1, i, hi, hm, h => by
    have h1 : i < ops.length := by omega
    have h2 : i < mask.length := by omega
    have hmi := hm i (Nat.le_refl _) (by omega)
    rw [List.drop_eq_getElem_cons h1, List.drop_eq_getElem_cons h2] at h
    have : mask[i] = true := by simpa [List.getD, h2] using hmi
    rw [this] at h
    simp only [passT] at h
    have := passT_skip hl n (i + 1) (by omega) (fun k a b => hm k (by omega) (by omega)) h
    rw [show i + (n + 1) = i + 1 + n by omega]
    exact this

structure DInv (P : Program) (γ : Gl) (B : Nat) (w0 : World) (g : G) (N : Nat) (ops : List Oper) (mask : List Bool) (ρ0 : Env) (ds : Nat → D) (obs : List (Nat × (St → Prop))) (Q : Env → St → Prop) (l : Array Bool) (a : Act) (w : World)
    (g' : G) (ds' : Nat → D) (σ' : St) (i : Nat) : Prop where
  size : l.size = ops.length
  le : g.le g'
  rel : Rel B w0 g' σ' w
  er : ER γ g' a (EV ops ρ0 (fun k => l.getD k false) ds') N
  sees : ∀ p ∈ obs, l.getD p.1 false = false → p.2 σ'
  same : ∀ k, mask.getD k true = true → ds' k = ds k
  closed : ClosedS ops (fun k => l.getD k false = true)
  upto : ∀ j, j < ops.length → mask.getD j true = false → (l.getD j false = true ↔ j < i)
  rest : passT P γ ops obs Q i (ops.drop i) (mask.drop i) (EV ops ρ0 (fun k => mask.getD k true || decide (k < i)) ds') σ'
  inn : i ≤ ops.length

theorem getD_set (l : Array Bool) (i k : Nat) (hi : i < l.size) : (l.setIfInBounds i true).getD k false = if k = i then true else l.getD k false := by
  by_cases h : k = i
  · subst h; simp [hi]
  · simp [h, Array.getElem?_setIfInBounds_ne (Ne.symm h)]

theorem region_any_sound (hm : P.follows .mixedOrders = true) (hE : ER γ g a ρ N) (hR : Rel B w0 g σ w) {id : Nat} {ops : Array Oper} (hN : ∀ o ∈ ops.toList, ∀ t, o.dst = some t → t < N)
    {Q' : Env → St → Prop} (h : adraw P γ ops.toList Q' ρ σ) {Q : Exit → Act → World → Prop}
    (hn : ∀ g' ρ' σ' a' w', g.le g' → ER γ g' a' ρ' N → Rel B w0 g' σ' w' → Q' ρ' σ' → Q .normal a' w') : (Code.region id ops true).wp P Q a w := by
  obtain ⟨mask, hdok, hA⟩ := h
  have hd := dOk_spec hdok
  have h0 : EV ops.toList ρ (fun k => decide (k < 0) && mask.getD k true) (fun _ => .nil) = ρ := by
    funext t; unfold EV; cases wr ops.toList t <;> simp
  rw [← h0] at hA
  obtain ⟨ds, obs, -, -, ho, hobs, hT⟩ := passA_ext hd ops.toList mask 0 [] (fun _ => .nil) rfl rfl (by rw [h0]; rw [h0] at hA; exact hA)
  have hlen : ops.size = ops.toList.length := by simp
  refine wp_region_any hm (wpAny_inv (P := P) (ops := ops) (Q := Q) (fun l a w => ∃ g' ds' σ' i, DInv P γ B w0 g N ops.toList mask ρ ds obs Q' l a w g' ds' σ' i) ?_ ?_ ?_ ops.size _ a _ ?_ ?_)
  · rintro l a w ⟨g', ds', σ', i, hI⟩; rw [hI.size]; simp
  · rintro l a w j ⟨g', ds', σ', i, hI⟩ hj
    obtain ⟨hlj, o, hoj, hed⟩ := mem_ready.1 hj
    have hol : ops.toList[j]? = some o := by simpa using hoj
    have hjl : j < ops.toList.length := (List.getElem?_eq_some_iff.1 hol).1
    have hjs : j < l.size := by rw [hI.size]; exact hjl
    have hlf : l.getD j false = false := by
      have : l[j]? = some l[j] := Array.getElem?_eq_getElem hjs
      simp [this] at hlj ⊢; exact hlj
    have hdst : o.dst = dstOf ops.toList j := by simp [dstOf, hoj]
    have hedl : ∀ e ∈ o.after.toList, Region.binds .any e = true → l.getD e.on false = true := fun e he hb => hed e (by simpa using he) hb
    -- what lies before, and after
    have hord : ∀ k, k ≠ j → k < ops.toList.length → ((befs ops.toList []).getD (max j k) 0).testBit (min j k) = true → l.getD k false = decide (k < j) := by
      intro k hkj hk hb
      rcases Nat.lt_or_gt_of_ne hkj with hlt | hgt
      · rw [Nat.max_eq_left (by omega), Nat.min_eq_right (by omega)] at hb
        have := before_done hI.closed j o hol hedl k hb
        simp only [this, hlt, decide_true]
      · rw [Nat.max_eq_right (by omega), Nat.min_eq_left (by omega)] at hb
        have hnot : ¬ (l.getD k false = true) := fun hk' => by
          have hok := List.getElem?_eq_getElem hk
          have := before_done hI.closed k _ hok (fun e he hb => hI.closed k _ hok hk' e he hb) j hb
          rw [hlf] at this; cases this
        have : decide (k < j) = false := by simp; omega
        rw [this]; simpa using hnot
    have hclosed : ClosedS ops.toList (fun k => (l.setIfInBounds j true).getD k false = true) := by
      intro k ok hok hk e he hb
      simp only [getD_set _ _ _ hjs] at hk ⊢
      by_cases hkj : k = j
      · subst hkj
        rw [hol] at hok; cases hok
        split
        · rfl
        · exact hedl e he hb
      · rw [if_neg hkj] at hk
        split
        · rfl
        · exact hI.closed k ok hok hk e he hb
    have hNj : ∀ t, o.dst = some t → t < N := hN o (List.mem_iff_getElem?.2 ⟨j, hol⟩)
    have hseen : ∀ {τ : St}, (∀ p ∈ obs, l.getD p.1 false = false → p.1 ≠ j → p.2 τ) → ∀ p ∈ obs, (l.setIfInBounds j true).getD p.1 false = false → p.2 τ := by
      intro τ h p hp hf
      rw [getD_set _ _ _ hjs] at hf
      by_cases hpj : p.1 = j
      · rw [if_pos hpj] at hf; cases hf
      · rw [if_neg hpj] at hf; exact h p hp hf hpj
    unfold wpOp
    rw [hoj]
    simp only
    by_cases hmj : mask.getD j true = true
    · -- one of the first kind
      obtain ⟨b, hw, hb1, hb0⟩ := hobs j o (Nat.zero_le _) hol hmj σ' (fun p hp e => hI.sees p hp (by rw [e]; exact hlf))
      have hreads : ∀ t ∈ readsOf ops.toList o, EV ops.toList ρ (fun k => decide (k < j) && mask.getD k true) ds t = EV ops.toList ρ (fun k => l.getD k false) ds' t := by
        intro t ht
        refine EV_reads fun k hk hkl => ?_
        by_cases hkj : k = j
        · subst hkj
          simp only [Nat.lt_irrefl, decide_false, Bool.false_and]
          exact ⟨hlf.symm, fun hf => by cases hf⟩
        · obtain ⟨r1, r2, r3⟩ := hd.reads j o k t hol (Ne.symm hkj) hkl hk ht
          have hor := hord k hkj hkl r1
          rcases r2 with hmk | hmk | hmk
          · rw [hor, hmk, hI.same k hmk]
            simp
          · rw [hmj] at hmk; cases hmk
          · have hnk : decide (k < j) = false := by simp; omega
            rw [hor, hnk]
            simp
      rw [awanted_congr hreads] at hw
      have hws := wanted_sound hI.er hw
      have hput : (EV ops.toList ρ (fun k => l.getD k false) ds').put o.dst (ds' j) = EV ops.toList ρ (fun k => (l.setIfInBounds j true).getD k false) ds' := by
        rw [hdst]
        exact EV_put hd (by simp only [getD_set _ _ _ hjs, if_true]) (fun k hk => by simp only [getD_set _ _ _ hjs, if_neg hk])
      have hupto : ∀ j', j' < ops.toList.length → mask.getD j' true = false → ((l.setIfInBounds j true).getD j' false = true ↔ j' < i) := by
        intro k hk hmk
        have hkj : k ≠ j := by rintro rfl; rw [hmj] at hmk; cases hmk
        rw [getD_set _ _ _ hjs, if_neg hkj]
        exact hI.upto k hk hmk
      rw [hws]
      cases b
      · simp only [Bool.false_eq_true, if_false]
        refine ⟨g', ds', σ', i, by simp [hI.size], hI.le, hI.rel, ?_, hseen (fun p hp hf _ => hI.sees p hp hf), hI.same, hclosed, hupto, hI.rest, hI.inn⟩
        rw [← hput]
        refine hI.er.putO hNj ?_
        rw [hI.same j hmj, hb0 rfl]; exact rv_undef _
      · simp only [if_true]
        left
        have ha := hb1 rfl
        rw [aop_reads hreads] at ha
        refine aop_sound hI.er hI.rel ha ?_
        rintro v w' ⟨d, g'', σ'', e1, e2, e3, e4, e5⟩
        refine ⟨g'', ds', σ', i, by simp [hI.size], hI.le.trans e1, e3.forget e5, ?_, hseen (fun p hp hf _ => hI.sees p hp hf), hI.same, hclosed, hupto, hI.rest, hI.inn⟩
        rw [← hput]
        refine (hI.er.mono e1).putO hNj ?_
        rw [hI.same j hmj, ← e4]; exact e2
    · -- the next of the second
      have hmj : mask.getD j true = false := by simpa using hmj
      have hij : i ≤ j := by
        have := hI.upto j hjl hmj
        rw [hlf] at this
        have h := fun hlt => this.2 hlt
        exact Nat.le_of_not_lt fun hlt => by cases h hlt
      have hbet : ∀ k, i ≤ k → k < j → mask.getD k true = true := by
        intro k hik hkj
        cases hmk : mask.getD k true with
        | true => rfl
        | false =>
          have hc := hd.chain j k hjl (by omega) (by omega) hmj hmk
          have := hord k (by omega) (by omega) hc
          have h2 := (hI.upto k (by omega) hmk).1 (by rw [this]; simp [hkj])
          omega
      have hEVi : ∀ ds', EV ops.toList ρ (fun k => mask.getD k true || decide (k < i)) ds' = EV ops.toList ρ (fun k => mask.getD k true || decide (k < j)) ds' := fun ds' => EV_congr fun k hk => ⟨by
        by_cases hki : k < i
        · simp [hki, show k < j by omega]
        · by_cases hkj : k < j
          · rw [hbet k (by omega) hkj]; simp
          · simp [hki, hkj], fun _ => rfl⟩
      have hrest := passT_skip hd.len (j - i) i (by omega) (fun k a b => hbet k a (by omega)) hI.rest
      rw [show i + (j - i) = j by omega] at hrest
      rw [hEVi] at hrest
      have hjm : j < mask.length := by rw [hd.len]; exact hjl
      rw [List.drop_eq_getElem_cons hjl, List.drop_eq_getElem_cons hjm] at hrest
      have hmje : mask[j] = false := by simpa [List.getD, hjm] using hmj
      have hoe : ops.toList[j] = o := by have := List.getElem?_eq_getElem hjl; rw [hol] at this; exact (Option.some.inj this).symm
      rw [hmje, hoe] at hrest
      simp only [passT] at hrest
      have hreads : ∀ t ∈ readsOf ops.toList o, EV ops.toList ρ (fun k => mask.getD k true || decide (k < j)) ds' t = EV ops.toList ρ (fun k => l.getD k false) ds' t := by
        intro t ht
        refine EV_reads fun k hk hkl => ⟨?_, fun _ => rfl⟩
        by_cases hkj : k = j
        · subst hkj; rw [hmj, hlf]; simp
        · obtain ⟨r1, r2, r3⟩ := hd.reads j o k t hol (Ne.symm hkj) hkl hk ht
          rw [hord k hkj hkl r1]
          rcases r3 with r3 | r3 | r3
          · rw [hmj] at r3; cases r3
          · rw [r3]; simp
          · simp [r3]
      have hupto : ∀ j', j' < ops.toList.length → mask.getD j' true = false → ((l.setIfInBounds j true).getD j' false = true ↔ j' < j + 1) := by
        intro k hk hmk
        rw [getD_set _ _ _ hjs]
        by_cases hkj : k = j
        · subst hkj; simp
        · rw [if_neg hkj, hI.upto k hk hmk]
          constructor
          · intro h; omega
          · intro h
            rcases Nat.lt_or_ge k i with hki | hki
            · exact hki
            · have := hbet k hki (by omega); rw [hmk] at this; cases this
      have hput : ∀ d, (EV ops.toList ρ (fun k => l.getD k false) ds').put o.dst d = EV ops.toList ρ (fun k => (l.setIfInBounds j true).getD k false) (fun k => if k = j then d else ds' k) := by
        intro d
        have he : EV ops.toList ρ (fun k => l.getD k false) ds' = EV ops.toList ρ (fun k => l.getD k false) (fun k => if k = j then d else ds' k) := EV_congr fun k hk => ⟨rfl, fun hs => by
          have hkj : k ≠ j := by rintro rfl; rw [hlf] at hs; cases hs
          simp [hkj]⟩
        rw [he, hdst]
        have := EV_put (ρ0 := ρ) (S := fun k => l.getD k false) (S' := fun k => (l.setIfInBounds j true).getD k false) (ds := fun k => if k = j then d else ds' k) hd (j := j) (by simp only [getD_set _ _ _ hjs, if_true]) (fun k hk => by simp only [getD_set _ _ _ hjs, if_neg hk])
        simpa using this
      have hput2 : ∀ d, (EV ops.toList ρ (fun k => mask.getD k true || decide (k < j)) ds').put o.dst d = EV ops.toList ρ (fun k => mask.getD k true || decide (k < j + 1)) (fun k => if k = j then d else ds' k) := by
        intro d
        have he : EV ops.toList ρ (fun k => mask.getD k true || decide (k < j)) ds' = EV ops.toList ρ (fun k => mask.getD k true || decide (k < j)) (fun k => if k = j then d else ds' k) := EV_congr fun k hk => ⟨rfl, fun hs => by
          have hkj : k ≠ j := by rintro rfl; rw [hmj] at hs; simp at hs
          simp [hkj]⟩
        rw [he, hdst]
        have := EV_put (ρ0 := ρ) (S := fun k => mask.getD k true || decide (k < j)) (S' := fun k => mask.getD k true || decide (k < j + 1)) (ds := fun k => if k = j then d else ds' k) hd (j := j) (by simp) (fun k hk => by
          have : (k < j) ↔ (k < j + 1) := by omega
          simp [this])
        simpa using this
      have hsame : ∀ d k, mask.getD k true = true → (if k = j then d else ds' k) = ds k := fun d k hmk => by
        have hkj : k ≠ j := by rintro rfl; rw [hmj] at hmk; cases hmk
        rw [if_neg hkj]; exact hI.same k hmk
      split at hrest
      · rename_i hw
        rw [awanted_congr hreads] at hw
        rw [wanted_sound hI.er hw]
        simp only [if_true]
        left
        rw [aop_reads hreads] at hrest
        refine aop_sound hI.er hI.rel hrest ?_
        rintro v w' ⟨d, g'', σ'', e1, e2, e3, e4, e5⟩
        refine ⟨g'', fun k => if k = j then d else ds' k, σ'', j + 1, by simp [hI.size], hI.le.trans e1, e3, ?_, hseen (fun p hp hf _ => e4 p (List.mem_filter.2 ⟨hp, by
          cases hb : ((befs ops.toList []).getD j 0).testBit p.1 with
          | false => rfl
          | true => rw [before_done hI.closed j o hol hedl p.1 hb] at hf; cases hf⟩)), hsame d, hclosed, hupto, ?_, hjl⟩
        · rw [← hput]; exact (hI.er.mono e1).putO hNj e2
        · rw [← hput2]; exact e5
      · rename_i hw
        rw [awanted_congr hreads] at hw
        rw [wanted_sound hI.er hw]
        simp only [Bool.false_eq_true, if_false]
        refine ⟨g', fun k => if k = j then .tup [] else ds' k, σ', j + 1, by simp [hI.size], hI.le, hI.rel, ?_, hseen (fun p hp hf _ => hI.sees p hp hf), hsame _, hclosed, hupto, ?_, hjl⟩
        · rw [← hput]; exact hI.er.putO hNj (rv_undef _)
        · rw [← hput2]; exact hrest
      · cases hrest
  · rintro l a w ⟨g', ds', σ', i, hI⟩ hr
    have hall : ∀ k, k < ops.toList.length → l.getD k false = true := by
      intro k
      induction k using Nat.strongRecOn with
      | _ k ih =>
        intro hk
        have hks : k < l.size := by rw [hI.size]; exact hk
        have hlk : l[k]? = some l[k] := Array.getElem?_eq_getElem hks
        cases hq : l[k] with
        | true => simp [hlk, hq]
        | false =>
          have hok := List.getElem?_eq_getElem hk
          have : k ∈ Region.ready .any ops l := mem_ready.2 ⟨by simp [hlk, hq], ops.toList[k], by simpa using hok, fun e he hb => by
            have hlt := hd.down k _ hok e (by simpa using he) hb
            exact ih e.on hlt (by omega)⟩
          rw [hr] at this; cases this
    have hrest := passT_skip hd.len (ops.toList.length - i) i (by have := hI.inn; omega) (fun k a b => by
      cases hmk : mask.getD k true with
      | true => rfl
      | false =>
        have hk : k < ops.toList.length := by have := hI.inn; omega
        have := (hI.upto k hk hmk).1 (hall k hk)
        omega) hI.rest
    rw [show i + (ops.toList.length - i) = ops.toList.length by have := hI.inn; omega] at hrest
    rw [List.drop_length] at hrest
    simp only [passT] at hrest
    have hEVe : EV ops.toList ρ (fun k => mask.getD k true || decide (k < i)) ds' = EV ops.toList ρ (fun k => l.getD k false) ds' := EV_congr fun k hk => ⟨by
      rw [hall k hk]
      cases hmk : mask.getD k true with
      | true => rfl
      | false =>
        have := (hI.upto k hk hmk).1 (hall k hk)
        simp [this], fun _ => rfl⟩
    rw [hEVe] at hrest
    exact hn g' _ σ' a w hI.le hI.er hI.rel hrest
  · have hE0 : ∀ ds, EV ops.toList ρ (fun k => (Array.replicate ops.size false).getD k false) ds = ρ := by
      intro ds; funext t; unfold EV
      cases wr ops.toList t with
      | none => rfl
      | some k =>
        have : (Array.replicate ops.size false).getD k false = false := by
          simp only [Array.getD_eq_getD_getElem?, Array.getElem?_replicate]; split <;> rfl
        simp only [this]; rfl
    have hfalse : ∀ k, (Array.replicate ops.size false).getD k false = false := fun k => by
      simp only [Array.getD_eq_getD_getElem?, Array.getElem?_replicate]; split <;> rfl
    refine ⟨g, ds, σ, 0, by simp, G.le.refl _, hR.drew, ?_, fun p hp _ => (ho p hp).resolve_left (by simp), fun _ _ => rfl, ?_, ?_, ?_, Nat.zero_le _⟩
    · rw [hE0]; exact hE
    · intro k o _ hk; rw [hfalse] at hk; cases hk
    · intro k _ _; rw [hfalse]; simp
    · have : EV ops.toList ρ (fun k => mask.getD k true || decide (k < 0)) ds = EV ops.toList ρ (fun k => mask.getD k true) ds := EV_congr fun k _ => ⟨by simp, fun _ => rfl⟩
      rw [this]; exact hT
  · have : ∀ n, cnt (Array.replicate n false) = n := fun n => by simp [cnt]
    rw [this]; exact Nat.le_refl _

end
end Go.Av
