/- More steps: objects, rows that are owned. -/
import Derived.Test.YtgbfchagmniiiaaAv16
set_option linter.unusedSimpArgs false
set_option linter.unusedVariables false
namespace Go.Av
open Go.RowKit

section
variable {P : Program} {γ : Gl} {σ σ' : St} {ρ : Env} {ops rest : List Oper} {Q : Env → St → Prop} {dst : Option Tmp} {op : Op} {ty : TypeId} {pos : String} {aft : Array Edge} {d : D} {K : D → St → Prop}

/-- An operation that is known by what it comes to. -/
theorem al_rel {t : Nat} (R : D → St → Prop) (h : ∀ K : D → St → Prop, (∀ d s, R d s → K d s) → aop P γ ρ σ op K) (h2 : ∀ d s, R d s → alist P γ ops Q rest (ρ.set t d) s) : alist P γ ops Q (⟨some t, op, ty, pos, aft, none⟩ :: rest) ρ σ :=
  al_any (h _ h2)

theorem box_agg {T : TypeId} {cs : List D} (hk : ∀ id, σ id = none → K (.ptr id 0) (σ.set id (.cells cs T))) : abox T (.agg cs) σ K := ⟨rfl, hk⟩
theorem box_one {T : TypeId} {d : D} (h1 : okc d = true) (h2 : cellsOf d = [d]) (hk : ∀ id, σ id = none → K (.ptr id 0) (σ.set id (.cells [d] T))) : abox T d σ K := ⟨h1, by rw [h2]; exact hk⟩
theorem alloc_z {T : TypeId} {z : List D} (hz : zc P T = some z) (hk : ∀ id, σ id = none → K (.ptr id 0) (σ.set id (.cells z T))) : aalloc P T σ K := by
  simp only [aalloc, hz]; exact hk
theorem slice_ptr0 {t e T : TypeId} {n sz id : Nat} {ls : List D} (ha : arrT P t = some (n, e, sz)) (h0 : 0 < n) (h1 : n ≤ 9223372036854775807) (hs : σ id = some (.cells ls T)) (hl : n * sz ≤ ls.length) (hk : K (.osl id 0 n sz) σ) : aslice P t (.ptr id 0) none none none σ K := by
  simp only [aslice, ha]
  refine ⟨rfl, h1, 0, n, ls, T, rfl, rfl, Nat.zero_le _, Nat.le_refl _, hs, by omega, ?_⟩
  rw [if_neg (by omega)]
  simpa using hk
theorem conv_osl {s d e T : TypeId} {l : List UInt8} {ls : List D} {id off n sz : Nat} (hd : isStr P d = true) (he : elt P s = some (e, 1, 1)) (hi : intT P e = some .u8) (hs : σ id = some (.cells ls T)) (hl : (ls.drop off).take n = bytesD l) (hn : n = l.length) (hk : K (.str l) σ) : aconv P s d (.osl id off n sz) σ K :=
  ⟨hd, ⟨e, he, hi⟩, ls, T, l, hs, hl, hn, hk⟩
theorem load1_ptr {t T : TypeId} {id off : Nat} {l : List D} {d : D} (ht : tagg P t = some false) (hs : σ id = some (.cells l T)) (hd : l[off]? = some d) (hk : K d σ) : aload P t (.ptr id off) σ K := by
  simp only [aload, ht]
  exact ⟨l, T, hs, by simp only [aread, Bool.false_eq_true, if_false]; exact ⟨d, hd, hk⟩⟩
theorem loadA_ptr {t T : TypeId} {id off sz : Nat} {l : List D} (ht : tagg P t = some true) (hz : tsz P t = sz) (hs : σ id = some (.cells l T)) (hl : off + sz ≤ l.length) (hk : K (.agg ((l.drop off).take sz)) σ) : aload P t (.ptr id off) σ K := by
  subst hz
  simp only [aload, ht]
  exact ⟨l, T, hs, by simp only [aread, if_true]; exact ⟨hl, hk⟩⟩
theorem load1_e {t : TypeId} {off : Nat} {l : List D} {d : D} (ht : tagg P t = some false) (hd : l[off]? = some d) (hk : K d σ) : aload P t (.eptr l off) σ K := by
  simp only [aload, ht, aread, Bool.false_eq_true, if_false]; exact ⟨d, hd, hk⟩
theorem loadA_e {t : TypeId} {off sz : Nat} {l : List D} (ht : tagg P t = some true) (hz : tsz P t = sz) (hl : off + sz ≤ l.length) (hk : K (.agg ((l.drop off).take sz)) σ) : aload P t (.eptr l off) σ K := by
  subst hz
  simp only [aload, ht, aread, if_true]; exact ⟨hl, hk⟩
theorem store_ptr {t T : TypeId} {b : Bool} {id off sz : Nat} {l : List D} {x : D} (ht : tagg P t = some b) (hz : tsz P t = sz) (hx : (cellsOf x).length = sz) (ho : okc x = true) (hs : σ id = some (.cells l T)) (hl : off + sz ≤ l.length) (hk : K (.tup []) (σ.set id (.cells (splice l off (cellsOf x)) T))) : astore P t (.ptr id off) x σ K := by
  subst hz
  exact ⟨by rw [ht]; rfl, l, T, hs, ho, hx, by omega, hk⟩

/-- A row that is owned: n elements whose cells are cs, over a state that knows nothing of it. -/
def Own (σ : St) (e : TypeId) (sz n : Nat) (cs : List D) (d : D) (s : St) : Prop :=
  (n = 0 ∧ cs = [] ∧ d = .nil ∧ s = σ) ∨ ∃ id, σ id = none ∧ cs.length = n * sz ∧ d = .sl n cs (some (id, sz)) ∧ s = σ.set id (.tok e cs)
theorem own_nil (σ : St) (e : TypeId) (sz : Nat) : Own σ e sz 0 [] .nil σ := .inl ⟨rfl, rfl, rfl, rfl⟩
theorem own_app {e : TypeId} {sz bytes n m : Nat} {cs ds : List D} {d : D} {s : St} (h : Own σ e sz n cs d s) (hm : 0 < m) (hd : ds.length = m * sz) (hb : (n + m) * bytes ≤ 140737488355328) (hk : ∀ d' s', Own σ e sz (n + m) (cs ++ ds) d' s' → K d' s') : aapp s e sz bytes d m ds K := by
  rcases h with ⟨rfl, rfl, rfl, rfl⟩ | ⟨id, h0, hl, rfl, rfl⟩
  · refine app_nil hm (by simpa using hb) fun id hid => hk _ _ (.inr ⟨id, hid, by simpa using hd, ?_, ?_⟩)
    · simp
    · simp
  · exact app_tok h0 hb fun id hid => hk _ _ (.inr ⟨id, hid, by rw [List.length_append, hl, hd, Nat.add_mul], rfl, rfl⟩)
theorem own_get {e : TypeId} {sz n : Nat} {cs : List D} {d : D} {s : St} (h : Own σ e sz n cs d s) {i : Nat} {o : Ob} (hi : σ i = some o) : s i = some o := by
  rcases h with ⟨_, _, _, rfl⟩ | ⟨id, h0, _, _, rfl⟩
  · exact hi
  · rw [set_other _ (by rintro rfl; rw [h0] at hi; cases hi)]; exact hi
/-- The row is let go for good. -/
theorem rx_own {e : TypeId} {sz n t : Nat} {cs : List D} {d : D} {s : St} (h : Own σ e sz n cs d s) (ht : ρ t = d) (hq : Rx Q (ρ.set t (.sl n cs none)) σ) : Rx Q ρ s := by
  rcases h with ⟨rfl, rfl, rfl, rfl⟩ | ⟨id, h0, hl, rfl, rfl⟩
  · exact rx_nil ht hq
  · exact rx_tok ht h0 hq
theorem len_own {t : TypeId} {e : TypeId} {sz n : Nat} {cs : List D} {d : D} {s : St} (h : Own σ e sz n cs d s) (hs : isSl P t = true) (hk : K (.int .i64 n) s) : alen P t d s K := by
  rcases h with ⟨rfl, rfl, rfl, rfl⟩ | ⟨id, h0, hl, rfl, rfl⟩
  · exact ⟨hs, hk⟩
  · exact ⟨hs, hk⟩
theorem own_len {e : TypeId} {sz n : Nat} {cs : List D} {d : D} {s : St} (h : Own σ e sz n cs d s) : cs.length = n * sz := by
  rcases h with ⟨rfl, rfl, _⟩ | ⟨id, h0, hl, _⟩
  · simp
  · exact hl
theorem conv_own {s' d' e : TypeId} {l : List UInt8} {n : Nat} {d : D} {s : St} (h : Own σ e 1 n (bytesD l) d s) (hd : isStr P d' = true) (he : elt P s' = some (e, 1, 1)) (hi : intT P e = some .u8) (hk : K (.str l) s) : aconv P s' d' d s K := by
  rcases h with ⟨rfl, hb, rfl, rfl⟩ | ⟨id, h0, hl, rfl, rfl⟩
  · have : l = [] := by cases l with | nil => rfl | cons => cases hb
    subst this; exact conv_nil hd he hi hk
  · exact conv_bytes' hd he hi rfl (by rw [length_bytesD] at hl; omega) hk
theorem xcells_osl {sz n id off : Nat} {l : List D} {T : TypeId} (hs : σ id = some (.cells l T)) (hl : off + n * sz ≤ l.length) : xcells σ sz (.osl id off n sz) = some (n, (l.drop off).take (n * sz)) := by
  simp only [xcells, if_true, hs, if_pos hl]
theorem xcells_str (σ : St) (l : List UInt8) : xcells σ 1 (.str l) = some (l.length, bytesD l) := by simp only [xcells, if_true]
theorem getElem?_bytesD (l : List UInt8) (k : Nat) : (bytesD l)[k]? = (l[k]?).map fun b => .int .u8 b.toNat := by simp [bytesD]
theorem bound_int {k : IntKind} {n : Int} {d : Nat} (h : 0 ≤ n) : abound (some (.int k n)) d = some n.toNat := by simp only [abound, if_pos h]
theorem slice_str {t : TypeId} {s : List UInt8} {lo hi : Option D} {l h : Nat} (ht : isStr P t = true) (hl : abound lo 0 = some l) (hh : abound hi s.length = some h) (h1 : l ≤ h) (h2 : h ≤ s.length) (hk : K (.str ((s.take h).drop l)) σ) : aslice P t (.str s) lo hi none σ K :=
  ⟨ht, rfl, l, h, hl, hh, h1, h2, hk⟩
theorem index_str {t : TypeId} {s : List UInt8} {k : IntKind} {n : Int} {b : UInt8} (ht : isStr P t = true) (h0 : 0 ≤ n) (hb : s[n.toNat]? = some b) (hk : K (.int .u8 b.toNat) σ) : aindex P t (.str s) (.int k n) σ K :=
  ⟨ht, h0, b, hb, hk⟩
/-- A region whose ways meet again: what holds behind it. -/
theorem awp_rj {id : Nat} {l : List Oper} {b : Code} {Q : AExit → Env → St → Prop} (R : Env → St → Prop) (h1 : ∀ K : Env → St → Prop, (∀ ρ σ, R ρ σ → K ρ σ) → alist P γ l K l ρ σ) (h2 : ∀ ρ σ, R ρ σ → awp P γ b Q ρ σ) : awp P γ (.seq (.region id l.toArray false) b) Q ρ σ :=
  awp_rs (h1 _ fun ρ σ h => Rx.done (h2 ρ σ h))
theorem awp_pj {id : Nat} {l : List Oper} {b : Code} {Q : AExit → Env → St → Prop} (R : Env → St → Prop) (hd : dOk (List.replicate l.length true) l = true) (h1 : ∀ K : Env → St → Prop, (∀ ρ σ, R ρ σ → K ρ σ) → apure P γ l K l ρ σ) (h2 : ∀ ρ σ, R ρ σ → awp P γ b Q ρ σ) : awp P γ (.seq (.region id l.toArray true) b) Q ρ σ :=
  awp_pure hd (h1 _ fun ρ σ h => Rx.done (h2 ρ σ h))
theorem shl7 {a : Int} (h0 : 0 ≤ a) (h1 : a < 144115188075855872) : bShl .u64 a 7 = a * 128 := by
  show IntKind.u64.wrap (a * 2 ^ min (7 : Int).toNat IntKind.u64.bits) = a * 128
  have : (2 : Int) ^ min (7 : Int).toNat IntKind.u64.bits = 128 := by decide
  rw [this, w_u64 (by omega) (by omega)]
theorem bound_at {k : IntKind} {n : Int} {m d : Nat} (h : 0 ≤ n) (hm : n.toNat = m) : abound (some (.int k n)) d = some m := by rw [← hm]; exact bound_int h
theorem rx_next {I : Nat → Env → St → Prop} {n : Nat} (k : Nat) (hk : k < n) (h : I k ρ σ) : Rx (fun ρ σ => ∃ k, k < n ∧ I k ρ σ) ρ σ := .done ⟨k, hk, h⟩
theorem le_set {i : Nat} (o : Ob) (h : σ i = none) : σ.le (σ.set i o) := fun j x e => by
  simp only [St.set]
  split
  · rename_i hj; subst hj; rw [h] at e; cases e
  · exact e
theorem copy_str {dt e T : TypeId} {by_ id off n m : Nat} {l : List D} {s : List UInt8} (he : elt P dt = some (e, 1, by_)) (hs : σ id = some (.cells l T)) (hm : min s.length n = m) (hl : off + m ≤ l.length) (hk : K (.int .i64 (m : Nat)) (σ.set id (.cells (splice l off (bytesD (s.take m))) T))) : acopy P dt (.osl id off n 1) (.str s) σ K := by
  subst hm
  simp only [acopy, he, xcells, if_true, Nat.mul_one]
  refine ⟨trivial, l, T, hs, by omega, ?_⟩
  have : (bytesD s).take (min s.length n) = bytesD (s.take (min s.length n)) := by simp [bytesD]
  rw [this]; exact hk
theorem splice_whole {l ds : List D} (h : ds.length = l.length) : splice l 0 ds = ds := by
  simp [splice, h]
theorem splice_none {l : List D} : splice l 0 [] = l := by simp [splice]

/-! ### an open order, where something is changed -/
theorem awp_draw {id : Nat} {l : List Oper} {b : Code} {Q : AExit → Env → St → Prop} (mask : List Bool) (hd : dOk mask l = true)
    (h : passA P γ l σ (fun ρ' obs => passT P γ l obs (fun ρ σ => Rx (awp P γ b Q) ρ σ) 0 l mask ρ' σ) 0 l mask ρ []) : awp P γ (.seq (.region id l.toArray true) b) Q ρ σ := by
  refine awp_seq ?_
  simp only [awp, adraw]
  exact ⟨mask, hd, h⟩
variable {m : List Bool} {KA : Env → List (Nat × (St → Prop)) → Prop} {obs : List (Nat × (St → Prop))} {ix : Nat}
theorem pa_set {t : Nat} (d : D) (h : ∀ K : D → St → Prop, K d σ → aop P γ ρ σ op K) (h2 : passA P γ ops σ KA (ix + 1) rest m (ρ.set t d) ((ix, fun s => aop P γ ρ s op (fun d' s' => d' = d ∧ s.le s')) :: obs)) : passA P γ ops σ KA ix (⟨some t, op, ty, pos, aft, none⟩ :: rest) (true :: m) ρ obs := by
  unfold passA
  exact ⟨d, h _ ⟨rfl, St.le.refl _⟩, h2⟩
theorem pa_skip {o : Oper} (h2 : passA P γ ops σ KA (ix + 1) rest m ρ obs) : passA P γ ops σ KA ix (o :: rest) (false :: m) ρ obs := by
  unfold passA; exact h2
theorem pa_nil (h : KA ρ obs) : passA P γ ops σ KA ix [] m ρ obs := by unfold passA; exact h
theorem pa_guard {t : Nat} {j : Nat} {want b : Bool} {g : Tmp} (hg : (ops[j]?).bind (·.dst) = some g) (hv : ρ g = .bool b) (h1 : b = want → passA P γ ops σ KA ix (⟨some t, op, ty, pos, aft, none⟩ :: rest) (true :: m) ρ obs) (h0 : b ≠ want → passA P γ ops σ KA (ix + 1) rest m (ρ.set t (.tup [])) obs) :
    passA P γ ops σ KA ix (⟨some t, op, ty, pos, aft, some (j, want)⟩ :: rest) (true :: m) ρ obs := by
  cases hp : ops[j]? with
  | none => rw [hp] at hg; cases hg
  | some p =>
    rw [hp] at hg
    have hd : p.dst = some g := hg
    unfold passA
    have hw : awanted ops ρ ⟨some t, op, ty, pos, aft, some (j, want)⟩ = some (b == want) := by simp only [awanted, hp, hd, hv]
    rw [hw]
    by_cases hb : b = want
    · have h1 := h1 hb
      unfold passA at h1
      rw [show (b == want) = true by simp [hb]]
      exact h1
    · rw [show (b == want) = false by simp [hb]]
      exact h0 hb
theorem pa_guard0 {t : Nat} {j : Nat} {want : Bool} {g : Tmp} (hg : (ops[j]?).bind (·.dst) = some g) (hv : ρ g = .tup []) (h0 : passA P γ ops σ KA (ix + 1) rest m (ρ.set t (.tup [])) obs) :
    passA P γ ops σ KA ix (⟨some t, op, ty, pos, aft, some (j, want)⟩ :: rest) (true :: m) ρ obs := by
  cases hp : ops[j]? with
  | none => rw [hp] at hg; cases hg
  | some p =>
    rw [hp] at hg
    have hd : p.dst = some g := hg
    unfold passA
    have hw : awanted ops ρ ⟨some t, op, ty, pos, aft, some (j, want)⟩ = some false := by simp only [awanted, hp, hd, hv]
    rw [hw]
    exact h0
theorem pt_skip {o : Oper} (h2 : passT P γ ops obs Q (ix + 1) rest m ρ σ) : passT P γ ops obs Q ix (o :: rest) (true :: m) ρ σ := by
  unfold passT; exact h2
theorem pt_none (d : D) (σ' : St) (h : ∀ K : D → St → Prop, K d σ' → aop P γ ρ σ op K) (ho : ∀ p ∈ unseen ops ix obs, p.2 σ') (h2 : passT P γ ops obs Q (ix + 1) rest m ρ σ') : passT P γ ops obs Q ix (⟨none, op, ty, pos, aft, none⟩ :: rest) (false :: m) ρ σ := by
  unfold passT; exact h _ ⟨ho, h2⟩
theorem pt_set {t : Nat} (d : D) (σ' : St) (h : ∀ K : D → St → Prop, K d σ' → aop P γ ρ σ op K) (ho : ∀ p ∈ unseen ops ix obs, p.2 σ') (h2 : passT P γ ops obs Q (ix + 1) rest m (ρ.set t d) σ') : passT P γ ops obs Q ix (⟨some t, op, ty, pos, aft, none⟩ :: rest) (false :: m) ρ σ := by
  unfold passT; exact h _ ⟨ho, h2⟩
/-- An operation that makes something new. -/
theorem pt_fresh {t : Nat} (σb : St) (f : Nat → D) (g : Nat → St) (h : ∀ K : D → St → Prop, (∀ id, σb id = none → K (f id) (g id)) → aop P γ ρ σ op K) (h2 : ∀ id, σb id = none → (∀ p ∈ unseen ops ix obs, p.2 (g id)) ∧ passT P γ ops obs Q (ix + 1) rest m (ρ.set t (f id)) (g id)) : passT P γ ops obs Q ix (⟨some t, op, ty, pos, aft, none⟩ :: rest) (false :: m) ρ σ := by
  unfold passT; exact h _ h2
theorem pt_rel {t : Nat} (R : D → St → Prop) (h : ∀ K : D → St → Prop, (∀ d s, R d s → K d s) → aop P γ ρ σ op K) (h2 : ∀ d s, R d s → (∀ p ∈ unseen ops ix obs, p.2 s) ∧ passT P γ ops obs Q (ix + 1) rest m (ρ.set t d) s) : passT P γ ops obs Q ix (⟨some t, op, ty, pos, aft, none⟩ :: rest) (false :: m) ρ σ := by
  unfold passT; exact h _ h2
/-- Nothing is left to be seen: found by counting. -/
theorem seen_none {σ' : St} (h : unseen ops ix obs = []) : ∀ p ∈ unseen ops ix obs, p.2 σ' := by rw [h]; intro p hp; cases hp
theorem seen_skip {σ' : St} {i : Nat} {F : St → Prop} {l : List (Nat × (St → Prop))} (h : ((befs ops []).getD ix 0).testBit i = true) (h2 : ∀ p ∈ unseen ops ix l, p.2 σ') : ∀ p ∈ unseen ops ix ((i, F) :: l), p.2 σ' := by
  have : unseen ops ix ((i, F) :: l) = unseen ops ix l := by simp only [unseen, List.filter_cons, h, Bool.not_true, Bool.false_eq_true, if_false]
  rw [this]; exact h2
theorem seen_cons {σ' : St} {i : Nat} {F : St → Prop} {l : List (Nat × (St → Prop))} (h : F σ') (h2 : ∀ p ∈ unseen ops ix l, p.2 σ') : ∀ p ∈ unseen ops ix ((i, F) :: l), p.2 σ' := by
  intro p hp
  simp only [unseen, List.filter_cons] at hp h2
  split at hp
  · rcases List.mem_cons.1 hp with rfl | hp
    · exact h
    · exact h2 p hp
  · exact h2 p hp
theorem seen_nil {σ' : St} : ∀ p ∈ unseen ops ix [], p.2 σ' := by intro p hp; cases hp
theorem pt_done {Q : Env → St → Prop} (h : Q ρ σ) : passT P γ ops obs (fun ρ σ => Rx Q ρ σ) ix [] m ρ σ := Rx.done h
theorem splice_next {l z : List UInt8} {k : Nat} (h1 : k < l.length) (h2 : k < z.length) : splice (bytesD (l.take k ++ z.drop k)) k [.int .u8 (l[k].toNat : Nat)] = bytesD (l.take (k + 1) ++ z.drop (k + 1)) := by
  have ht : (bytesD (l.take k)).length = k := by rw [length_bytesD, List.length_take]; omega
  have e1 : (bytesD (l.take k) ++ bytesD (z.drop k)).take k = bytesD (l.take k) := by
    rw [List.take_append_of_le_length (by omega), List.take_of_length_le (by omega)]
  have e2 : (bytesD (l.take k) ++ bytesD (z.drop k)).drop (k + 1) = bytesD (z.drop (k + 1)) := by
    rw [List.drop_append, ht, List.drop_of_length_le (by omega), List.nil_append]
    simp only [bytesD]
    rw [show k + 1 - k = 1 by omega, ← List.map_drop, List.drop_drop]
  simp only [splice, bytesD_append, List.length_cons, List.length_nil]
  rw [e1, show k + (0 + 1) = k + 1 by omega, e2, List.take_add_one, List.getElem?_eq_getElem h1, bytesD_append]
  rfl
theorem afin_nrm {rs : List ResultVar} {R : D → St → Prop} (h : Rx (fun ρ σ => ares P rs ρ σ fun ds => R (aone ds) σ) ρ σ) : afin P rs R .normal ρ σ :=
  h.mono fun ρ σ hr => ares_mono rs (fun ds hd => ⟨σ, St.le.refl _, hd⟩) hr
theorem conv_uns {s d T : TypeId} {i o : Nat} {l : List D} (h : isUns P s d = true) (hs : σ i = some (.cells l T)) (ho : o < l.length) (hk : K (.ptr i o) σ) : aconv P s d (.ptr i o) σ K := ⟨⟨l, T, hs, ho, .inl h⟩, hk⟩
theorem conv_back {s d T : TypeId} {i : Nat} {l : List D} (h : unsBack P s d T = true) (hs : σ i = some (.cells l T)) (ho : 0 < l.length) (hl : tsz P T ≤ l.length) (hk : K (.ptr i 0) σ) : aconv P s d (.ptr i 0) σ K := ⟨⟨l, T, hs, ho, .inr ⟨rfl, hl, h⟩⟩, hk⟩
theorem app_nil0 {e : TypeId} {sz bytes : Nat} {ds : List D} (hk : K .nil σ) : aapp σ e sz bytes .nil 0 ds K := by simp only [aapp, if_true]; exact hk
theorem set_comm {σ : St} {i j : Nat} (a b : Ob) (h : i ≠ j) : ((σ.set j a).set i b) = ((σ.set i b).set j a) := by
  funext k; simp only [St.set]
  by_cases h1 : k = i
  · subst h1; rw [if_pos rfl, if_neg h, if_pos rfl]
  · by_cases h2 : k = j
    · subst h2; rw [if_neg h1, if_pos rfl, if_pos rfl]
    · rw [if_neg h1, if_neg h2, if_neg h2, if_neg h1]
theorem sldata_sl {n t sz : Nat} {cs : List D} (h : 0 < n) (hk : K (.ptr t 0) σ) : asldata (.sl n cs (some (t, sz))) σ K := ⟨h, hk⟩
theorem ustr_tok {pt e : TypeId} {t n : Nat} {l : List UInt8} (hp : ptrE P pt = some e) (hc : P.cellsOf e = 1) (hs : σ t = some (.tok e (bytesD l))) (hn : n = l.length) (h0 : 0 < n) (h1 : n ≤ 9223372036854775807) (hk : K (.str l) (σ.del t)) : austr P pt (.ptr t 0) (.int .i64 (n : Nat)) σ K := by
  subst hn
  exact ⟨e, _, l, hs, hp, rfl, hc, rfl, rfl, by omega, by omega, hk⟩
theorem slice_oslc {t e : TypeId} {sz by_ id off n c l h m : Nat} {lo hi mx : Option D} (he : elt P t = some (e, sz, by_)) (h0 : mx.isNone = true ∨ hi.isSome = true) (hl : abound lo 0 = some l) (hh : abound hi n = some h) (hm : abound mx c = some m) (h1 : l ≤ h) (h2 : h ≤ m) (h3 : m ≤ c) (hk : K (if l = m then .e0 else .oslc id (off + l * sz) (h - l) (m - l) sz) σ) : aslice P t (.oslc id off n c sz) lo hi mx σ K := by
  simp only [aslice, he]
  exact ⟨trivial, h0, l, h, m, hl, hh, hm, h1, h2, h3, hk⟩
theorem slice_oslc' {t e : TypeId} {sz by_ id off n c l h m : Nat} {lo hi mx : Option D} (he : elt P t = some (e, sz, by_)) (h0 : mx.isNone = true ∨ hi.isSome = true) (hl : abound lo 0 = some l) (hh : abound hi n = some h) (hm : abound mx c = some m) (h1 : l ≤ h) (h2 : h ≤ m) (h3 : m ≤ c) (h4 : l ≠ m) (hk : K (.oslc id (off + l * sz) (h - l) (m - l) sz) σ) : aslice P t (.oslc id off n c sz) lo hi mx σ K :=
  slice_oslc he h0 hl hh hm h1 h2 h3 (by rw [if_neg h4]; exact hk)
theorem xcells_oslc {sz n id off c : Nat} {l : List D} {T : TypeId} (hs : σ id = some (.cells l T)) (hl : off + n * sz ≤ l.length) : xcells σ sz (.oslc id off n c sz) = some (n, (l.drop off).take (n * sz)) := by
  simp only [xcells, if_true, hs, if_pos hl]
theorem app_oslc {e : TypeId} {sz bytes t off n0 c n : Nat} {l ds : List D} (hs : σ t = some (.cells l e)) (hb : (n0 + n) * bytes ≤ 140737488355328) (hl : off + n0 * sz ≤ l.length) (hr : n0 + n ≤ c) (hk : K (.oslc t off (n0 + n) c sz) (σ.set t (.cells (splice l (off + n0 * sz) ds) e))) : aapp σ e sz bytes (.oslc t off n0 c sz) n ds K := by
  refine ⟨rfl, hb, l, hs, hl, ?_⟩
  rw [if_pos hr]; exact hk
theorem clear_oslc {t e : TypeId} {T : TypeId} {sz by_ id off n c : Nat} {z l : List D} (he : elt P t = some (e, sz, by_)) (hz : zc P e = some z) (hn : n ≠ 0) (hs : σ id = some (.cells l T)) (ho : off ≤ l.length) (hk : K (.tup []) (σ.set id (.cells (splice l off (List.replicate n z).flatten) T))) : aclear P t (.oslc id off n c sz) σ K := by
  simp only [aclear, he, hz]
  refine ⟨trivial, l, T, hs, ho, ?_⟩
  rw [if_neg hn]; exact hk
theorem app_osl {e : TypeId} {sz bytes n n0 t : Nat} {l ds : List D} (hs : σ t = some (.cells l e)) (hl : l.length = n0 * sz) (hb : (n0 + n) * bytes ≤ 140737488355328) (hk : ∀ id, σ id = none → K (.osl id 0 (n0 + n) sz) ((σ.del t).set id (.cells (l ++ ds) e))) : aapp σ e sz bytes (.osl t 0 n0 sz) n ds K :=
  ⟨rfl, rfl, hb, l, hs, hl, hk⟩
theorem app_nilo {e : TypeId} {sz bytes n : Nat} {ds : List D} (hn : 0 < n) (hb : n * bytes ≤ 140737488355328) (hk : ∀ id, σ id = none → K (.osl id 0 n sz) (σ.set id (.cells ds e))) : aapp σ e sz bytes .nil n ds K := by
  simp only [aapp, if_neg (show n ≠ 0 by omega)]
  exact ⟨hb, .inr hk⟩
/-- A slice that is handed over has some capacity. -/
theorem acalls_cap {f : FuncId} {id off n sz : Nat} {args : List D} (h : ∀ c, n ≤ c → ACalls P γ f (.oslc id off n c sz :: args) σ K) : ACalls P γ f (.osl id off n sz :: args) σ K := by
  refine ⟨(h n (Nat.le_refl _)).1, fun B w0 g w vals hγ hv hR => ?_⟩
  cases vals with
  | nil => simp [RVs] at hv
  | cons v vs =>
    have h0 := hv.2 0 v _ rfl rfl
    cases h0 with
    | osl _ b m _ _ c _ hi hc hm hf =>
      refine (h c hc).2 B w0 g w _ hγ ⟨by simpa using hv.1, fun k x d e e' => ?_⟩ hR
      cases k with
      | zero => simp only [List.getElem?_cons_zero, Option.some.injEq] at e e'; subst e; subst e'; exact .oslc id b m off n c sz hi hc hm hf
      | succ k => exact hv.2 (k + 1) x d e (by simpa using e')
/-- Less is said of what is handed over. -/
theorem acalls_wk {f : FuncId} {args args' : List D} (hl : args'.length = args.length) (hw : ∀ (k : Nat) d d', args[k]? = some d → args'[k]? = some d' → Wk d d') (h : ACalls P γ f args' σ K) : ACalls P γ f args σ K := by
  refine ⟨h.1, fun B w0 g w vals hγ hv hR => h.2 B w0 g w vals hγ ⟨by rw [hv.1, hl], fun k x d' e e' => ?_⟩ hR⟩
  have hk : k < args'.length := (List.getElem?_eq_some_iff.1 e').1
  have hk' : k < args.length := by omega
  exact (hw k _ d' (List.getElem?_eq_getElem hk') e').sound (hv.2 k x _ e (List.getElem?_eq_getElem hk'))
theorem rx_weak {Q : Env → St → Prop} {t : Nat} {d d' : D} (ht : ρ t = d) (hw : Wk d d') (h : Rx Q (ρ.set t d') σ) : Rx Q ρ σ := .weak t d' (by rw [ht]; exact hw) h
theorem rx_cells {Q : Env → St → Prop} {id : Nat} {l l' : List D} {T : TypeId} (hs : σ id = some (.cells l T)) (hl : l'.length ≤ l.length) (hw : ∀ (k : Nat) d d', l[k]? = some d → l'[k]? = some d' → Wk d d') (h : Rx Q ρ (σ.set id (.cells l' T))) : Rx Q ρ σ := .wkc id l l' T hs hl hw h
theorem rx_take {Q : Env → St → Prop} {id : Nat} {l : List D} {T : TypeId} (n : Nat) (hs : σ id = some (.cells l T)) (h : Rx Q ρ (σ.set id (.cells (l.take n) T))) : Rx Q ρ σ := by
  refine .wkc id l (l.take n) T hs (by rw [List.length_take]; omega) (fun k d d' e e' => ?_) h
  rw [List.getElem?_take] at e'
  split at e'
  · rw [e] at e'; cases e'; exact .refl _
  · cases e'
theorem bsl_agg0 {t e : TypeId} {sz by_ : Nat} {z cs : List D} (he : elt P t = some (e, sz, by_)) (hz : zc P e = some z) (hzl : z.length = sz) (hc : cs.length = sz) (hs : sz ≤ 16777216) (hk : K (.sl 1 cs none) σ) : abuildSl P t 1 [(0, .agg cs)] σ K := by
  simp only [abuildSl, he, hz]
  refine ⟨by omega, ?_⟩
  have : afill (fun i => some (i * sz, sz)) (List.replicate 1 z).flatten [(0, .agg cs)] = some cs := by
    simp only [afill, okc, cellsOf, List.replicate_succ, List.replicate_zero, List.flatten_cons, List.flatten_nil, List.append_nil, Nat.zero_mul, Nat.zero_add]
    rw [if_pos ⟨trivial, hc, by omega⟩, splice_whole (by omega)]
  rw [this]
  exact .inr (.inr hk)
/-- A copy of a row. -/
theorem own_new {e : TypeId} {sz bytes m : Nat} {ds : List D} (hd : ds.length = m * sz) (hb : m * bytes ≤ 140737488355328) (hk : ∀ d' s', Own σ e sz m ds d' s' → K d' s') : aapp σ e sz bytes .nil m ds K := by
  by_cases hm : m = 0
  · subst hm
    have : ds = [] := List.eq_nil_of_length_eq_zero (by simpa using hd)
    subst this
    exact app_nil0 (hk _ _ (own_nil σ e sz))
  · exact app_nil (by omega) hb fun id hid => hk _ _ (.inr ⟨id, hid, hd, rfl, rfl⟩)
/-- A copy of a row, as an object of its own. -/
def NewO (σ : St) (e : TypeId) (sz m : Nat) (ds : List D) (d : D) (s : St) : Prop := (m = 0 ∧ ds = [] ∧ d = .nil ∧ s = σ) ∨ ∃ id, σ id = none ∧ d = .osl id 0 m sz ∧ s = σ.set id (.cells ds e)
theorem newo_new {e : TypeId} {sz bytes m : Nat} {ds : List D} (hd : ds.length = m * sz) (hb : m * bytes ≤ 140737488355328) (hk : ∀ d' s', NewO σ e sz m ds d' s' → K d' s') : aapp σ e sz bytes .nil m ds K := by
  by_cases hm : m = 0
  · subst hm
    have : ds = [] := List.eq_nil_of_length_eq_zero (by simpa using hd)
    subst this
    exact app_nil0 (hk _ _ (.inl ⟨rfl, rfl, rfl, rfl⟩))
  · exact app_nilo (by omega) hb fun id hid => hk _ _ (.inr ⟨id, hid, rfl, rfl⟩)
theorem own_wk {e : TypeId} {sz n : Nat} {cs : List D} {d : D} {s : St} (h : Own σ e sz n cs d s) : Wk d (.sl n cs none) := by
  rcases h with ⟨rfl, rfl, rfl, _⟩ | ⟨id, _, _, rfl, _⟩
  · exact .nil
  · exact .tok _ _ _
theorem own_le' {e : TypeId} {sz n : Nat} {cs : List D} {d : D} {s : St} (h : Own σ e sz n cs d s) : σ.le s := by
  rcases h with ⟨_, _, _, rfl⟩ | ⟨id, h0, _, _, rfl⟩
  · exact St.le.refl _
  · exact le_set _ h0
theorem own_cells {e : TypeId} {sz n : Nat} {cs : List D} {d : D} {s : St} (h : Own σ e sz n cs d s) (τ : St) : xcells τ sz d = some (n, cs) := by
  rcases h with ⟨rfl, rfl, rfl, _⟩ | ⟨id, _, hl, rfl, _⟩
  · rfl
  · exact xcells_sl hl
theorem le_upd {q : Nat} {o x : Ob} {s : St} (h : (σ.set q o).le s) : (σ.set q x).le (s.set q x) := fun j y e => by
  simp only [St.set] at e ⊢
  split at e
  · rename_i hj; rw [if_pos hj]; exact e
  · rename_i hj; rw [if_neg hj]; exact h j y (by simp only [St.set, if_neg hj]; exact e)
theorem wk2 {a d d' : D} (h : Wk d d') : ∀ (k : Nat) x y, ([a, d] : List D)[k]? = some x → ([a, d'] : List D)[k]? = some y → Wk x y := by
  intro k x y e e'
  match k, e, e' with
  | 0, e, e' => cases e; cases e'; exact .refl _
  | 1, e, e' => cases e; cases e'; exact h
  | k + 2, e, e' => simp at e
theorem own_app' {e : TypeId} {sz bytes n m : Nat} {cs ds : List D} {d : D} {s : St} (h : Own σ e sz n cs d s) (hd : ds.length = m * sz) (hb : (n + m) * bytes ≤ 140737488355328) (hk : ∀ d' s', Own σ e sz (n + m) (cs ++ ds) d' s' → K d' s') : aapp s e sz bytes d m ds K := by
  by_cases hm : 0 < m
  · exact own_app h hm hd hb hk
  · have : m = 0 := by omega
    subst this
    have : ds = [] := List.eq_nil_of_length_eq_zero (by simpa using hd)
    subst this
    rcases h with ⟨rfl, rfl, rfl, rfl⟩ | ⟨id, h0, hl, rfl, rfl⟩
    · exact app_nil0 (hk _ _ (own_nil _ _ _))
    · exact app_tok h0 hb fun id hid => hk _ _ (.inr ⟨id, hid, by rw [List.append_nil, hl]; rfl, rfl, rfl⟩)
theorem slice_sl {t e : TypeId} {sz by_ n l h n' : Nat} {cs cs' : List D} {tk : Option (Nat × Nat)} {lo hi : Option D} (he : elt P t = some (e, sz, by_)) (hcl : cs.length = n * sz) (hl : abound lo 0 = some l) (hh : abound hi n = some h) (h1 : l ≤ h) (h2 : h ≤ n) (hn : h - l = n') (hc : (cs.take (h * sz)).drop (l * sz) = cs') (hk : K (.sl n' cs' none) σ) : aslice P t (.sl n cs tk) lo hi none σ K := by
  subst hn; subst hc
  simp only [aslice, he]
  exact ⟨hcl, l, h, hl, hh, h1, h2, hk⟩
/-- .. where something is said less first. -/
theorem afin_rx {rs : List ResultVar} {R : D → St → Prop} (h : Rx (fun ρ σ => ares P rs ρ σ fun ds => ∃ σ', σ'.le σ ∧ R (aone ds) σ') ρ σ) : afin P rs R .ret ρ σ := h
/-- An object is let go for good; one name of it stands in a slot. -/
theorem rx_frz1 {Q : Env → St → Prop} {t id n sz : Nat} {l : List D} {T : TypeId} (ht : ρ t = .osl id 0 n sz) (hs : σ id = some (.cells l T)) (hl : l.length = n * sz) (h : Rx Q (ρ.set t (.sl n l none)) (σ.del id)) : Rx Q ρ σ := by
  refine .freeze id l T [t] hs ?_
  have : frzs id l [t] ρ = ρ.set t (.sl n l none) := by
    simp only [frzs, ht, frzD, if_true, List.drop_zero]
    rw [List.take_of_length_le (by omega)]
    rfl
  rw [this]; exact h
/-- A block whose ways meet again: what holds behind it. -/
theorem awp_bj {id : Nat} {c rest : Code} {Q : AExit → Env → St → Prop} (R : Env → St → Prop) (h1 : ∀ K : Env → St → Prop, (∀ ρ σ, Rx R ρ σ → K ρ σ) → awp P γ c (AExit.blk id (AExit.thn K Q)) ρ σ) (h2 : ∀ ρ σ, R ρ σ → awp P γ rest Q ρ σ) : awp P γ (.seq (.block id c) rest) Q ρ σ :=
  awp_body (h1 _ fun ρ σ h => h.mono h2)
theorem awp_draw1 {id : Nat} {l : List Oper} {Q : AExit → Env → St → Prop} (mask : List Bool) (hd : dOk mask l = true)
    (h : passA P γ l σ (fun ρ' obs => passT P γ l obs (Q .normal) 0 l mask ρ' σ) 0 l mask ρ []) : awp P γ (.region id l.toArray true) Q ρ σ := by
  simp only [awp, adraw]
  exact ⟨mask, hd, h⟩
theorem pt_end {Q : Env → St → Prop} (h : Q ρ σ) : passT P γ ops obs Q ix [] m ρ σ := h
theorem awp_rj1 {id : Nat} {l : List Oper} {Q : AExit → Env → St → Prop} (h : alist P γ l (Q .normal) l ρ σ) : awp P γ (.region id l.toArray false) Q ρ σ := awp_region h
theorem make_osl {t e : TypeId} {sz bytes : Nat} {z : List D} {k k' : IntKind} {n : Int} (he : elt P t = some (e, sz, bytes)) (hz : zc P e = some z) (hn : 0 ≤ n) (hb : n.toNat * bytes ≤ 140737488355328) (hk : ∀ id, σ id = none → K (.osl id 0 n.toNat sz) (σ.set id (.cells (List.replicate n.toNat z).flatten e))) : amake P t (.int k n) (.int k' n) σ K := by
  simp only [amake, he, hz]
  exact ⟨trivial, hn, hb, .inr (.inl hk)⟩
theorem blk_other {id i : Nat} {Q : AExit → Env → St → Prop} (h : i ≠ id) (hq : Q (.exit i) ρ σ) : AExit.blk id Q (.exit i) ρ σ := by
  simp only [AExit.blk, if_neg h]; exact hq
theorem pt_guard {t : Nat} {j : Nat} {want b : Bool} {g : Tmp} (hg : (ops[j]?).bind (·.dst) = some g) (hv : ρ g = .bool b) (h1 : b = want → passT P γ ops obs Q ix (⟨some t, op, ty, pos, aft, none⟩ :: rest) (false :: m) ρ σ) (h0 : b ≠ want → passT P γ ops obs Q (ix + 1) rest m (ρ.set t (.tup [])) σ) :
    passT P γ ops obs Q ix (⟨some t, op, ty, pos, aft, some (j, want)⟩ :: rest) (false :: m) ρ σ := by
  cases hp : ops[j]? with
  | none => rw [hp] at hg; cases hg
  | some p =>
    rw [hp] at hg
    have hd : p.dst = some g := hg
    unfold passT
    have hw : awanted ops ρ ⟨some t, op, ty, pos, aft, some (j, want)⟩ = some (b == want) := by simp only [awanted, hp, hd, hv]
    rw [hw]
    by_cases hb : b = want
    · have h1 := h1 hb
      unfold passT at h1
      rw [show (b == want) = true by simp [hb]]
      exact h1
    · rw [show (b == want) = false by simp [hb]]
      exact h0 hb
theorem pt_guard0 {t : Nat} {j : Nat} {want : Bool} {g : Tmp} (hg : (ops[j]?).bind (·.dst) = some g) (hv : ρ g = .tup []) (h0 : passT P γ ops obs Q (ix + 1) rest m (ρ.set t (.tup [])) σ) :
    passT P γ ops obs Q ix (⟨some t, op, ty, pos, aft, some (j, want)⟩ :: rest) (false :: m) ρ σ := by
  cases hp : ops[j]? with
  | none => rw [hp] at hg; cases hg
  | some p =>
    rw [hp] at hg
    have hd : p.dst = some g := hg
    unfold passT
    have hw : awanted ops ρ ⟨some t, op, ty, pos, aft, some (j, want)⟩ = some false := by simp only [awanted, hp, hd, hv]
    rw [hw]
    exact h0
theorem thn_exit {i : Nat} {Q : AExit → Env → St → Prop} {K : Env → St → Prop} (h : Q (.exit i) ρ σ) : AExit.thn K Q (.exit i) ρ σ := h
end
end Go.Av
