/- The operations over abstract values are what the machine does: slice expressions, arithmetic, comparisons, conversions, builtins. -/
import Derived.Test.YtgbfchagmniiiaaAv7
set_option linter.unusedSimpArgs false
set_option linter.unusedVariables false
namespace Go.Av
open Go.RowKit

section
variable {P : Program} {γ : Gl} {B : Nat} {w0 : World} {g : G} {σ : St} {w : World}

theorem take_drop_get {α : Type} (cs : List α) (a b k : Nat) : ((cs.take b).drop a)[k]? = if a + k < b then cs[a + k]? else none := by
  rw [List.getElem?_drop, List.getElem?_take]

theorem slice_sound (hR : Rel B w0 g σ w) {t : TypeId} {x : Value} {xd : D} (hx : RV g x xd) {lo hi mx : Option Value} {ld hd md : Option D} (hl : RVo g lo ld) (hh : RVo g hi hd) (hm : RVo g mx md) {K : D → St → Prop} (hk : aslice P t xd ld hd md σ K) :
    ∃ v, (Instr.sliceAt t x lo hi mx).run P w = .ok v w ∧ Comes' B w0 g K v w := by
  have hnone : md.isNone = true → mx = none := fun h => by
    cases mx with
    | none => rfl
    | some v => cases md with
      | none => cases hm
      | some d => simp at h
  have hS : ∀ e, P.underlying t = some (.slice e) → (Instr.sliceAt t x lo hi mx).run P w = (Instr.slice t x lo hi mx).run P w := fun e hu => by
    simp [Instr.sliceAt, run_underlying hu]
  have key0 : ∀ (a : Option Addr), (elt P t).isSome = true → (md.isNone = true ∨ hd.isSome = true) → abound ld 0 = some 0 → abound hd 0 = some 0 → abound md 0 = some 0 → (Instr.sliceAt t (.slice a 0 0) lo hi mx).run P w = .ok (.slice a 0 0) w := by
    intro a hs hmh hbl hbh hbm
    obtain ⟨⟨e, sz, bytes⟩, he⟩ := Option.isSome_iff_exists.1 hs
    obtain ⟨hu, i, z, hi', _⟩ := elt_spec he
    have h1 := bound_run hl hbl
    have h2 := bound_run hh hbh
    have h3 := bound_run hm hbm
    have hb : (Instr.sliceBounds true 0 0 lo hi mx).run P w = .ok (0, 0, 0) w := by
      rcases h3 with ⟨rfl, _⟩ | ⟨k, rfl⟩
      · exact run_bounds true 0 0 0 0 h1 h2 (Nat.le_refl _) (Nat.le_refl _)
      · rcases h2 with ⟨rfl, _⟩ | h2
        · exfalso
          cases md with
          | none => cases hm
          | some d => cases hd with
            | none => rcases hmh with h | h <;> simp at h
            | some d' => cases hh
        · exact run_bounds3 0 0 0 0 0 h1 h2 ⟨k, rfl⟩ (Nat.le_refl _) (Nat.le_refl _) (Nat.le_refl _)
    rw [show (Instr.sliceAt t (.slice a 0 0) lo hi mx).run P w = (Instr.slice t (.slice a 0 0) lo hi mx).run P w by simp [Instr.sliceAt, run_underlying hu]]
    simp [Instr.slice, run_underlying hu, hb, sizeOf, typeInfo, hi']
  unfold aslice at hk
  split at hk
  · rename_i s
    obtain ⟨hs, hmn, l, h, hbl, hbh, h1, h2, hk⟩ := hk
    have hu := isStr_spec hs
    cases hx with
    | str s' _ hsl =>
      have hsz : s.length = s'.size := by rw [← hsl]; simp
      have := hnone hmn
      subst this
      have hb := run_bounds (P := P) (w := w) false s'.size s'.size l h (bound_run hl hbl) (by rw [← hsz]; exact bound_run hh hbh) h1 (by omega)
      refine ⟨.string (s'.extract l h), by simp [Instr.sliceAt, run_underlying hu, Instr.slice, hb], same_sound hR (.str _ _ ?_) hk⟩
      rw [extract_toList, hsl]
  · obtain ⟨hs, hmh, hbl, hbh, hbm, hk⟩ := hk
    cases hx with
    | nil => exact ⟨_, key0 none hs hmh hbl hbh hbm, same_sound hR .nil hk⟩
  · obtain ⟨hs, hmh, hbl, hbh, hbm, hk⟩ := hk
    cases hx with
    | e0 a => exact ⟨_, key0 a hs hmh hbl hbh hbm, same_sound hR (.e0 a) hk⟩
  · rename_i n cs tk
    split at hk
    · rename_i e sz bytes he
      obtain ⟨hcl, l, h, hbl, hbh, h1, h2, hk⟩ := hk
      obtain ⟨hu, i, z, hi', _, _, hsz, hsz0, _⟩ := elt_spec he
      cases mx with
      | none =>
        cases md with
        | some d => cases hm
        | none =>
          simp only at hk
          cases hx with
          | slNil ad =>
            have h0 : h = 0 := by omega
            have l0 : l = 0 := by omega
            subst h0; subst l0
            have hb := run_bounds (P := P) (w := w) true 0 0 0 0 (bound_run hl hbl) (bound_run hh hbh) (Nat.le_refl _) (Nat.le_refl _)
            refine ⟨.slice ad 0 0, by rw [hS e hu]; cases ad <;> simp [Instr.slice, run_underlying hu, hb, sizeOf, typeInfo, hi', Addr.add], same_sound hR ?_ hk⟩
            simp
            exact .slNil ad
          | sl b off _ cap _ _ us hc hcm himm h1' hr ht =>
            have hb := run_bounds (P := P) (w := w) true n cap l h (bound_run hl hbl) (bound_run hh hbh) h1 (by omega)
            by_cases hcl' : cap = l
            · have : h = l := by omega
              subst this
              refine ⟨.slice (some ⟨b, off, none⟩) 0 0, by rw [hS e hu]; simp [Instr.slice, run_underlying hu, hb, sizeOf, typeInfo, hi', ← hcl'], same_sound hR ?_ hk⟩
              have hnil : (cs.take (h * sz)).drop (h * sz) = [] := by simp
              rw [hnil, Nat.sub_self]
              exact .sl b off 0 0 [] none us (Nat.le_refl _) (Nat.zero_le _) (fun k hk => by simp at hk) (fun d hd => by simp at hd) (fun k d e => by simp at e) (fun _ _ e => by cases e)
            · refine ⟨.slice (some ⟨b, off + l * sz, none⟩) (h - l) (cap - l), by rw [hS e hu]; simp [Instr.slice, run_underlying hu, hb, sizeOf, typeInfo, hi', hcl', hsz, add_at], same_sound hR ?_ hk⟩
              have hlh : l * sz ≤ h * sz := Nat.mul_le_mul_right _ h1
              have hhn : h * sz ≤ n * sz := Nat.mul_le_mul_right _ h2
              refine .sl b (off + l * sz) (h - l) (cap - l) _ none (fun k => us (l * sz + k)) (by omega) (by omega) (fun k hk => ?_) (fun d hd => h1' d (List.mem_of_mem_take (List.mem_of_mem_drop hd))) (fun k d e => ?_) (fun _ _ e => by cases e)
              · simp at hk
                rw [Nat.add_assoc]
                exact himm _ (by omega)
              · rw [take_drop_get] at e
                split at e
                · exact hr _ d e
                · cases e
      | some m =>
        cases md with
        | none => cases hm
        | some md' =>
          simp only at hk
          obtain ⟨hhs, m', hbm, h3, h4, hk⟩ := hk
          have hmr : ∃ k, some m = some (Value.int k (m' : Int)) := by
            rcases bound_run hm hbm with ⟨h, _⟩ | h
            · cases h
            · exact h
          have hhr : ∃ k, hi = some (Value.int k (h : Int)) := by
            rcases bound_run hh hbh with ⟨rfl, _⟩ | h
            · cases hd with
              | none => simp at hhs
              | some d' => cases hh
            · exact h
          cases hx with
          | slNil ad =>
            have h0 : h = 0 := by omega
            have l0 : l = 0 := by omega
            have m0 : m' = 0 := by omega
            subst h0; subst l0; subst m0
            have hb := run_bounds3 (P := P) (w := w) 0 0 0 0 0 (bound_run hl hbl) hhr hmr (Nat.le_refl _) (Nat.le_refl _) (Nat.le_refl _)
            refine ⟨.slice ad 0 0, by rw [hS e hu]; cases ad <;> simp [Instr.slice, run_underlying hu, hb, sizeOf, typeInfo, hi', Addr.add], same_sound hR ?_ hk⟩
            rw [if_pos rfl]
            exact .e0 ad
          | sl b off _ cap _ _ us hc hcm himm h1' hr ht =>
            have hb := run_bounds3 (P := P) (w := w) n cap l h m' (bound_run hl hbl) hhr hmr h1 h3 (by omega)
            by_cases hcl' : m' = l
            · have : h = l := by omega
              subst this
              refine ⟨.slice (some ⟨b, off, none⟩) 0 0, by rw [hS e hu]; simp [Instr.slice, run_underlying hu, hb, sizeOf, typeInfo, hi', ← hcl'], same_sound hR ?_ hk⟩
              rw [if_pos hcl'.symm]
              exact .e0 _
            · refine ⟨.slice (some ⟨b, off + l * sz, none⟩) (h - l) (m' - l), by rw [hS e hu]; simp [Instr.slice, run_underlying hu, hb, sizeOf, typeInfo, hi', hcl', hsz, add_at], same_sound hR ?_ hk⟩
              rw [if_neg (Ne.symm hcl')]
              have hlh : l * sz ≤ h * sz := Nat.mul_le_mul_right _ h1
              have hhn : h * sz ≤ n * sz := Nat.mul_le_mul_right _ h2
              refine .sl b (off + l * sz) (h - l) (m' - l) _ none (fun k => us (l * sz + k)) (by omega) (by omega) (fun k hk => ?_) (fun d hd => h1' d (List.mem_of_mem_take (List.mem_of_mem_drop hd))) (fun k d e => ?_) (fun _ _ e => by cases e)
              · simp at hk
                rw [Nat.add_assoc]
                exact himm _ (by omega)
              · rw [take_drop_get] at e
                split at e
                · exact hr _ d e
                · cases e
    · cases hk
  · rename_i id off n s
    split at hk
    · rename_i e sz bytes he
      obtain ⟨rfl, hmn, l, h, hbl, hbh, h1, h2, hk⟩ := hk
      obtain ⟨hu, i, z, hi', _, _, hsz, hsz0, _⟩ := elt_spec he
      have := hnone hmn
      subst this
      cases hx with
      | osl _ b m _ _ cap _ hio hc hcm hf =>
        have hb := run_bounds (P := P) (w := w) true n cap l h (bound_run hl hbl) (bound_run hh hbh) h1 (by omega)
        by_cases hcl' : cap = l
        · have : h = l := by omega
          subst this
          refine ⟨.slice (some ⟨b, off, none⟩) 0 0, by rw [hS e hu]; simp [Instr.slice, run_underlying hu, hb, sizeOf, typeInfo, hi', ← hcl'], same_sound hR ?_ hk⟩
          rw [if_pos rfl]
          exact .sl b off 0 0 [] none (fun _ => undef) (Nat.le_refl _) (Nat.zero_le _) (fun k hk => by simp at hk) (fun d hd => by simp at hd) (fun k d e => by simp at e) (fun _ _ e => by cases e)
        · refine ⟨.slice (some ⟨b, off + l * s, none⟩) (h - l) (cap - l), by rw [hS e hu]; simp [Instr.slice, run_underlying hu, hb, sizeOf, typeInfo, hi', hcl', hsz, add_at], same_sound hR ?_ hk⟩
          by_cases hlh : l = h
          · rw [if_pos hlh, hlh, Nat.sub_self]
            exact .sl b (off + h * s) 0 (cap - h) [] none (fun _ => undef) (Nat.zero_le _) (by omega) (fun k hk => by simp at hk) (fun d hd => by simp at hd) (fun k d e => by simp at e) (fun _ _ e => by cases e)
          · rw [if_neg hlh]
            have hll : l * s + (cap - l) * s = cap * s := by rw [← Nat.add_mul]; congr 1; omega
            exact .osl id b m (off + l * s) (h - l) (cap - l) s hio (by omega) (by omega) (by omega)
    · cases hk
  · rename_i id off n c s
    split at hk
    · rename_i e sz bytes he
      obtain ⟨rfl, hmh, l, h, m, hbl, hbh, hbm, h1, h2, h3, hk⟩ := hk
      obtain ⟨hu, i, z, hi', _, _, hsz, hsz0, _⟩ := elt_spec he
      cases hx with
      | oslc _ b mm _ _ _ _ hio hc hcm hf =>
        have b1 := bound_run hl hbl
        have b2 := bound_run hh hbh
        have b3 := bound_run hm hbm
        have hb : (Instr.sliceBounds true n c lo hi mx).run P w = .ok (l, h, m) w := by
          rcases b3 with ⟨rfl, rfl⟩ | ⟨k, rfl⟩
          · exact run_bounds true n m l h b1 b2 h1 h2
          · rcases b2 with ⟨rfl, _⟩ | b2
            · exfalso
              cases md with
              | none => cases hm
              | some d => cases hd with
                | none => rcases hmh with h | h <;> simp at h
                | some d' => cases hh
            · exact run_bounds3 n c l h m b1 b2 ⟨k, rfl⟩ h1 h2 h3
        by_cases hcl' : m = l
        · have : h = l := by omega
          subst this
          refine ⟨.slice (some ⟨b, off, none⟩) 0 0, by rw [hS e hu]; simp [Instr.slice, run_underlying hu, hb, sizeOf, typeInfo, hi', ← hcl'], same_sound hR ?_ hk⟩
          rw [if_pos hcl'.symm]
          exact .e0 _
        · refine ⟨.slice (some ⟨b, off + l * s, none⟩) (h - l) (m - l), by rw [hS e hu]; simp [Instr.slice, run_underlying hu, hb, sizeOf, typeInfo, hi', hcl', hsz, add_at], same_sound hR ?_ hk⟩
          rw [if_neg (Ne.symm hcl')]
          have hmc : m * s ≤ c * s := Nat.mul_le_mul_right _ h3
          have hll : l * s + (m - l) * s = m * s := by rw [← Nat.add_mul]; congr 1; omega
          exact .oslc id b mm (off + l * s) (h - l) (m - l) s hio (by omega) (by omega) (by omega)
    · cases hk
  · rename_i id off
    split at hk
    · rename_i n e sz he
      obtain ⟨hmn, hnm, l, h, ls, T9, hbl, hbh, h1, h2, hs, hfit, hk⟩ := hk
      obtain ⟨hu, _, hsz0, _, i, hi', hsz⟩ := arrT_spec he
      have := hnone hmn
      subst this
      cases hx with
      | ptr _ b m _ hio =>
        obtain ⟨hlm, _⟩ := hR.cell hs hio
        have hb := run_bounds (P := P) (w := w) false n n l h (bound_run hl hbl) (bound_run hh hbh) h1 h2
        have hrun : (Instr.sliceAt t (.pointer (some ⟨b, off, none⟩)) lo hi none).run P w = .ok (.slice (some (if n = l then ⟨b, off, none⟩ else ⟨b, off + l * sz, none⟩)) (h - l) (n - l)) w := by
          simp [Instr.sliceAt, run_underlying hu, Instr.sureAddr, hb, sizeOf, typeInfo, hi', hsz, add_at]
        refine ⟨_, hrun, same_sound hR ?_ hk⟩
        by_cases hlh : l = h
        · rw [if_pos hlh, hlh, Nat.sub_self]
          by_cases hn : n = h
          · rw [if_pos hn]
            exact .sl b off 0 (n - h) [] none (fun _ => undef) (Nat.zero_le _) (by unfold maxLen; omega) (fun k hk => by simp at hk) (fun d hd => by simp at hd) (fun k d e => by simp at e) (fun _ _ e => by cases e)
          · rw [if_neg hn]
            exact .sl b (off + h * sz) 0 (n - h) [] none (fun _ => undef) (Nat.zero_le _) (by unfold maxLen; omega) (fun k hk => by simp at hk) (fun d hd => by simp at hd) (fun k d e => by simp at e) (fun _ _ e => by cases e)
        · rw [if_neg hlh, if_neg (by omega)]
          have hll : l * sz + (n - l) * sz = n * sz := by rw [← Nat.add_mul]; congr 1; omega
          exact .osl id b m (off + l * sz) (h - l) (n - l) sz hio (by omega) (by unfold maxLen; omega) (by omega)
    · cases hk
  · rename_i cs off
    split at hk
    · rename_i n e sz he
      obtain ⟨hmn, hnm, l, h, hbl, hbh, h1, h2, hfit, hk⟩ := hk
      obtain ⟨hu, _, hsz0, _, i, hi', hsz⟩ := arrT_spec he
      have := hnone hmn
      subst this
      cases hx with
      | eptr b base _ _ us himm h1' hr =>
        have hb := run_bounds (P := P) (w := w) false n n l h (bound_run hl hbl) (bound_run hh hbh) h1 h2
        have hrun : (Instr.sliceAt t (.pointer (some ⟨b, base + off, none⟩)) lo hi none).run P w = .ok (.slice (some (if n = l then ⟨b, base + off, none⟩ else ⟨b, base + off + l * sz, none⟩)) (h - l) (n - l)) w := by
          simp [Instr.sliceAt, run_underlying hu, Instr.sureAddr, hb, sizeOf, typeInfo, hi', hsz, add_at]
        refine ⟨_, hrun, same_sound hR ?_ hk⟩
        have hhn : h * sz ≤ n * sz := Nat.mul_le_mul_right _ h2
        have hlh' : l * sz ≤ h * sz := Nat.mul_le_mul_right _ h1
        by_cases hn : n = l
        · have hlh : l = h := by omega
          rw [if_pos hn, hlh]
          have hnil : (cs.take (off + h * sz)).drop (off + h * sz) = [] := by simp
          rw [hnil, Nat.sub_self]
          exact .sl b (base + off) 0 (n - h) [] none (fun _ => undef) (Nat.zero_le _) (by unfold maxLen; omega) (fun k hk => by simp at hk) (fun d hd => by simp at hd) (fun k d e => by simp at e) (fun _ _ e => by cases e)
        · rw [if_neg hn]
          refine .sl b (base + off + l * sz) (h - l) (n - l) _ none (fun k => us (off + l * sz + k)) (by omega) (by unfold maxLen; omega) (fun k hk => ?_) (fun d hd => h1' d (List.mem_of_mem_take (List.mem_of_mem_drop hd))) (fun k d e => ?_) (fun _ _ e => by cases e)
          · simp at hk
            rw [show base + off + l * sz + k = base + (off + l * sz + k) by omega]
            exact himm _ (by omega)
          · rw [take_drop_get] at e
            split at e
            · exact hr _ d e
            · cases e
    · cases hk
  · cases hk

/-! ### arithmetic and comparisons -/
theorem toList_eq {a b : ByteArray} (h : a.data.toList = b.data.toList) : a = b := by
  cases a; cases b
  simp at h
  simp [h]

theorem binI_sound (hR : Rel B w0 g σ w) (op : BinOp) (t : TypeId) (k : IntKind) (a : Int) (k' : IntKind) (b : Int) {K : D → St → Prop} (hk : abinI op k a k' b σ K) : ∃ v, (binOp op t (.int k a) (.int k' b)).run P w = .ok v w ∧ Comes' B w0 g K v w := by
  cases op <;> simp only [abinI] at hk
  case shl => exact ⟨.int k (k.wrap (a * 2 ^ min b.toNat k.bits)), by simp only [binOp, Op.shift, if_neg (show ¬ b < 0 by omega)]; rfl, same_sound hR (.int _ _) hk.2⟩
  case shr => exact ⟨.int k (a.fdiv (2 ^ min b.toNat k.bits)), by simp only [binOp, Op.shift, if_neg (show ¬ b < 0 by omega)]; rfl, same_sound hR (.int _ _) hk.2⟩
  all_goals obtain ⟨rfl, hk⟩ := hk
  case quo => exact ⟨.int k (k.wrap (a.tdiv b)), by simp [binOp, Op.intDiv, hk.1], same_sound hR (.int _ _) hk.2⟩
  case rem => exact ⟨.int k (a.tmod b), by simp [binOp, Op.intDiv, hk.1], same_sound hR (.int _ _) hk.2⟩
  case add => exact ⟨.int k (k.wrap (a + b)), by simp [binOp, Op.intArith], same_sound hR (.int _ _) hk⟩
  case sub => exact ⟨.int k (k.wrap (a - b)), by simp [binOp, Op.intArith], same_sound hR (.int _ _) hk⟩
  case mul => exact ⟨.int k (k.wrap (a * b)), by simp [binOp, Op.intArith], same_sound hR (.int _ _) hk⟩
  case eql => exact ⟨.bool (a == b), by simp only [binOp, ne_eq, not_true_eq_false, if_false]; rfl, same_sound hR (.bool _) hk⟩
  case neq => exact ⟨.bool (a != b), by simp only [binOp, ne_eq, not_true_eq_false, if_false]; rfl, same_sound hR (.bool _) hk⟩
  case lss => exact ⟨.bool (decide (a < b)), by simp only [binOp, ne_eq, not_true_eq_false, if_false]; rfl, same_sound hR (.bool _) hk⟩
  case leq => exact ⟨.bool (decide (a ≤ b)), by simp only [binOp, ne_eq, not_true_eq_false, if_false]; rfl, same_sound hR (.bool _) hk⟩
  case gtr => exact ⟨.bool (decide (a > b)), by simp only [binOp, ne_eq, not_true_eq_false, if_false]; rfl, same_sound hR (.bool _) hk⟩
  case geq => exact ⟨.bool (decide (a ≥ b)), by simp only [binOp, ne_eq, not_true_eq_false, if_false]; rfl, same_sound hR (.bool _) hk⟩
  case and => exact ⟨_, by simp only [binOp, ne_eq, not_true_eq_false, if_false]; rfl, same_sound hR (.int _ _) hk⟩
  case or => exact ⟨_, by simp only [binOp, ne_eq, not_true_eq_false, if_false]; rfl, same_sound hR (.int _ _) hk⟩
  case xor => exact ⟨_, by simp only [binOp, ne_eq, not_true_eq_false, if_false]; rfl, same_sound hR (.int _ _) hk⟩
  case andNot => exact ⟨_, by simp only [binOp, ne_eq, not_true_eq_false, if_false]; rfl, same_sound hR (.int _ _) hk⟩

theorem binS_sound (hR : Rel B w0 g σ w) (op : BinOp) (t : TypeId) (a b : ByteArray) {K : D → St → Prop} (hk : abinS op a.data.toList b.data.toList σ K) : ∃ v, (binOp op t (.string a) (.string b)).run P w = .ok v w ∧ Comes' B w0 g K v w := by
  have hl : ∀ s : ByteArray, s.toList = s.data.toList := fun s => by simp [ByteArray.toList_eq]
  cases op <;> simp only [abinS] at hk
  case add =>
    have hn : ¬ (((a.size + b.size : Nat) : Int) > IntKind.i64.max) := by
      have h1 : a.data.toList.length = a.size := by simp
      have h2 : b.data.toList.length = b.size := by simp
      have h3 : IntKind.i64.max = 9223372036854775807 := by decide
      rw [h3]; omega
    exact ⟨.string (a ++ b), by simp only [binOp, Op.stringOp, if_neg hn]; rfl, same_sound hR (.str _ _ (by simp)) hk.2⟩
  case eql => exact ⟨.bool (a.data.toList == b.data.toList), by simp only [binOp, Op.stringOp, hl]; rfl, same_sound hR (.bool _) hk⟩
  case neq => exact ⟨.bool (!(a.data.toList == b.data.toList)), by simp only [binOp, Op.stringOp, hl]; rfl, same_sound hR (.bool _) hk⟩
  case lss => exact ⟨.bool (Op.bytesLess a.data.toList b.data.toList), by simp only [binOp, Op.stringOp, hl]; rfl, same_sound hR (.bool _) hk⟩
  case leq => exact ⟨.bool (Op.bytesLess a.data.toList b.data.toList || a.data.toList == b.data.toList), by simp only [binOp, Op.stringOp, hl]; rfl, same_sound hR (.bool _) hk⟩
  case gtr => exact ⟨.bool (!(Op.bytesLess a.data.toList b.data.toList || a.data.toList == b.data.toList)), by simp only [binOp, Op.stringOp, hl]; rfl, same_sound hR (.bool _) hk⟩
  case geq => exact ⟨.bool (!(Op.bytesLess a.data.toList b.data.toList)), by simp only [binOp, Op.stringOp, hl]; rfl, same_sound hR (.bool _) hk⟩

theorem un_sound (hR : Rel B w0 g σ w) (op : UnOp) {x : Value} {xd : D} (hx : RV g x xd) {K : D → St → Prop} (hk : aun op xd σ K) : ∃ v, (Op.unary op x).run P w = .ok v w ∧ Comes' B w0 g K v w := by
  unfold aun at hk
  split at hk
  · cases hx; exact ⟨_, by simp only [Op.unary, Op.intArith]; rfl, same_sound hR (.int _ _) hk⟩
  · cases hx; exact ⟨_, by simp only [Op.unary, Op.intBits]; rfl, same_sound hR (.int _ _) hk⟩
  · cases hx; exact ⟨_, by simp only [Op.unary]; rfl, same_sound hR (.bool _) hk⟩
  · cases hk

end
end Go.Av
