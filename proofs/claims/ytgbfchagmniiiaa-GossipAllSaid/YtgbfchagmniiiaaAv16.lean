/- Steps over abstract values. -/
import Derived.Test.YtgbfchagmniiiaaAv15
import Derived.IntWalk
import Derived.KernelRfl
set_option linter.unusedSimpArgs false
set_option linter.unusedVariables false
namespace Go.Av
open Go.RowKit

theorem set_get (ρ : Env) (t : Nat) (d : D) (s : Nat) : (ρ.set t d) s = if s = t then d else ρ s := rfl
theorem one_ne (n : Nat) : (n + 1 = 0) = False := by simp
theorem aenv0 (d : D) (l : List D) : aenv (d :: l) 0 = d := rfl
theorem aenvS (d : D) (l : List D) (n : Nat) : aenv (d :: l) (n + 1) = aenv l n := rfl
theorem aenvN (n : Nat) : aenv [] n = .tup [] := rfl
theorem arr_toList {α : Type} (l : List α) : l.toArray.toList = l := rfl

/-! ### whole numbers -/
theorem w_i64 {n : Int} (h1 : -9223372036854775808 ≤ n) (h2 : n ≤ 9223372036854775807) : IntKind.i64.wrap n = n := IntWalk.i64_in n ⟨h1, h2⟩
theorem w_i32 {n : Int} (h1 : -2147483648 ≤ n) (h2 : n ≤ 2147483647) : IntKind.i32.wrap n = n := IntWalk.i32_in n ⟨h1, h2⟩
theorem w_u8 {n : Int} (h1 : 0 ≤ n) (h2 : n ≤ 255) : IntKind.u8.wrap n = n := IntWalk.u8_in n ⟨h1, h2⟩
theorem w_u16 {n : Int} (h1 : 0 ≤ n) (h2 : n ≤ 65535) : IntKind.u16.wrap n = n := IntWalk.u16_in n ⟨h1, h2⟩
theorem w_u32 {n : Int} (h1 : 0 ≤ n) (h2 : n ≤ 4294967295) : IntKind.u32.wrap n = n := IntWalk.u32_in n ⟨h1, h2⟩
theorem w_u64 {n : Int} (h1 : 0 ≤ n) (h2 : n ≤ 18446744073709551615) : IntKind.u64.wrap n = n := IntWalk.u64_in n ⟨h1, h2⟩
theorem t_mod {a b : Int} (h : 0 ≤ a) : a.tmod b = a % b := Int.tmod_eq_emod_of_nonneg h
theorem t_div {a b : Int} (h : 0 ≤ a) : a.tdiv b = a / b := Int.tdiv_eq_ediv_of_nonneg h

section
variable {P : Program} {γ : Gl} {σ σ' : St} {ρ : Env} {ops rest : List Oper} {Q : Env → St → Prop} {dst : Option Tmp} {op : Op} {ty : TypeId} {pos : String} {aft : Array Edge} {d : D}

theorem abin_ii {op : BinOp} {t : TypeId} {k k' : IntKind} {a b : Int} {K : D → St → Prop} : abin P op t (.int k a) (.int k' b) σ K = abinI op k a k' b σ K := rfl
theorem abin_ss {op : BinOp} {t : TypeId} {a b : List UInt8} {K : D → St → Prop} : abin P op t (.str a) (.str b) σ K = abinS op a b σ K := rfl
theorem abin_bb {op : BinOp} {t : TypeId} {a b : Bool} {K : D → St → Prop} : abin P op t (.bool a) (.bool b) σ K = (isBool P t = true ∧ aeq op (a == b) σ K) := rfl
theorem abin_nn {op : BinOp} {t : TypeId} {K : D → St → Prop} : abin P op t .nilp .nilp σ K = (isPtr P t = true ∧ aeq op true σ K) := rfl
theorem abin_pn {op : BinOp} {t : TypeId} {i o : Nat} {K : D → St → Prop} : abin P op t (.ptr i o) .nilp σ K = (isPtr P t = true ∧ aeq op false σ K) := rfl
theorem abin_np {op : BinOp} {t : TypeId} {i o : Nat} {K : D → St → Prop} : abin P op t .nilp (.ptr i o) σ K = (isPtr P t = true ∧ aeq op false σ K) := rfl
theorem abin_pp {op : BinOp} {t : TypeId} {i o j u : Nat} {K : D → St → Prop} : abin P op t (.ptr i o) (.ptr j u) σ K = (isPtrI P t = true ∧ (i = j ∧ o = u) ∧ aeq op true σ K) := rfl
theorem abin_nl {op : BinOp} {t : TypeId} {K : D → St → Prop} : abin P op t .nil .nil σ K = (isSl P t = true ∧ aeq op true σ K) := rfl
theorem abin_sn {op : BinOp} {t : TypeId} {n : Nat} {cs : List D} {tk : Option (Nat × Nat)} {K : D → St → Prop} : abin P op t (.sl n cs tk) .nil σ K = (isSl P t = true ∧ 0 < n ∧ aeq op false σ K) := rfl
/-- '==' of aggregates. -/
theorem abin_agg {op : BinOp} {t : TypeId} {xs ys : List D} {ks : List LK} {b : Bool} {K : D → St → Prop} (h1 : tagg P t = some true) (h2 : P.eqGuardType P.depth t = false) (h3 : kinds P 20 t = some ks) (h4 : fits ks xs = true) (h5 : fits ks ys = true) (h6 : eqL xs ys = some b) (hk : aeq op b σ K) : abin P op t (.agg xs) (.agg ys) σ K :=
  ⟨⟨h1, h2⟩, ks, h3, h4, h5, b, h6, hk⟩
theorem fits_bytes : ∀ (n : Nat) (l : List UInt8), l.length = n → fits (List.replicate n (.int .u8)) (bytesD l) = true
  | 0, [], _ => rfl
  | n + 1, b :: l, h => by
    have := fits_bytes n l (by simpa using h)
    simp only [List.replicate_succ, bytesD, List.map_cons, fits, fit1, decide_true, Bool.true_and]
    exact this
theorem eqL_bytes : ∀ (l r : List UInt8), l.length = r.length → eqL (bytesD l) (bytesD r) = some (decide (l = r))
  | [], [], _ => rfl
  | a :: l, b :: r, h => by
    have := eqL_bytes l r (by simpa using h)
    simp only [bytesD, List.map_cons, eqL, eq1, if_true] at this ⊢
    rw [this]
    simp only [Option.some.injEq, List.cons.injEq]
    have hab : ((a.toNat : Int) == (b.toNat : Int)) = decide (a = b) := by
      rw [Bool.eq_iff_iff]
      simp only [beq_iff_eq, decide_eq_true_eq]
      constructor
      · intro e; exact UInt8.toNat_inj.1 (by omega)
      · rintro rfl; rfl
    rw [hab, Bool.decide_and]
  | [], _ :: _, h => by simp at h
  | _ :: _, [], h => by simp at h
def mapv (γ : Gl) (ρ : Env) : List (Nat × Operand) → List (Nat × D)
  | [] => []
  | (i, x) :: r => (i, aeval γ ρ x) :: mapv γ ρ r
theorem mapv_nil : mapv γ ρ [] = [] := rfl
theorem mapv_cons (i : Nat) (x : Operand) (r : List (Nat × Operand)) : mapv γ ρ ((i, x) :: r) = (i, aeval γ ρ x) :: mapv γ ρ r := rfl
theorem mapv_eq : ∀ ps : List (Nat × Operand), ps.map (fun p => (p.1, aeval γ ρ p.2)) = mapv γ ρ ps
  | [] => rfl
  | (i, x) :: r => by rw [List.map_cons, mapv_eq r]; rfl
theorem o_bsl {t : TypeId} {n : Nat} {ps : List (Nat × Operand)} {K : D → St → Prop} : aop P γ ρ σ (.buildSlice t n ps.toArray) K = abuildSl P t n (mapv γ ρ ps) σ K := by
  rw [← mapv_eq]; rfl
theorem o_build {t : TypeId} {ps : List (Nat × Operand)} {K : D → St → Prop} : aop P γ ρ σ (.build t ps.toArray) K = abuild P t (mapv γ ρ ps) σ K := by
  rw [← mapv_eq]; rfl
theorem al_nil (h : Q ρ σ) : alist P γ ops Q [] ρ σ := h
theorem al_cons (d : D) (σ' : St) (h : ∀ K : D → St → Prop, K d σ' → aop P γ ρ σ op K) (h2 : alist P γ ops Q rest (ρ.put dst d) σ') : alist P γ ops Q (⟨dst, op, ty, pos, aft, none⟩ :: rest) ρ σ := by
  unfold alist
  exact h _ h2
theorem al_set {t : Nat} (d : D) (σ' : St) (h : ∀ K : D → St → Prop, K d σ' → aop P γ ρ σ op K) (h2 : alist P γ ops Q rest (ρ.set t d) σ') : alist P γ ops Q (⟨some t, op, ty, pos, aft, none⟩ :: rest) ρ σ := al_cons d σ' h h2
theorem al_none (d : D) (σ' : St) (h : ∀ K : D → St → Prop, K d σ' → aop P γ ρ σ op K) (h2 : alist P γ ops Q rest ρ σ') : alist P γ ops Q (⟨none, op, ty, pos, aft, none⟩ :: rest) ρ σ := al_cons d σ' h h2
theorem al_move {t s : Nat} {d : D} (h : ρ s = d) (h2 : alist P γ ops Q rest (ρ.set t d) σ) : alist P γ ops Q (⟨some t, .move (.tmp s), ty, pos, aft, none⟩ :: rest) ρ σ := by
  subst h; exact al_cons _ σ (fun K hK => hK) h2
theorem al_assign {t s : Nat} {d : D} (h : ρ s = d) (h2 : alist P γ ops Q rest (ρ.set t d) σ) : alist P γ ops Q (⟨some t, .assign (.tmp s), ty, pos, aft, none⟩ :: rest) ρ σ := by
  subst h; exact al_cons _ σ (fun K hK => hK) h2
/-- An operation whose answer is not one. -/
theorem al_any {t : Nat} (h : aop P γ ρ σ op fun d σ' => alist P γ ops Q rest (ρ.set t d) σ') : alist P γ ops Q (⟨some t, op, ty, pos, aft, none⟩ :: rest) ρ σ := by
  unfold alist; exact h

theorem awp_region {id : Nat} {l : List Oper} {Q : AExit → Env → St → Prop} (h : alist P γ l (Q .normal) l ρ σ) : awp P γ (.region id l.toArray false) Q ρ σ := by
  simpa only [awp] using h
theorem awp_seq {a b : Code} {Q : AExit → Env → St → Prop} (h : awp P γ a (AExit.thn (fun ρ σ => Rx (awp P γ b Q) ρ σ) Q) ρ σ) : awp P γ (.seq a b) Q ρ σ := by
  simpa only [awp] using h
theorem awp_assoc {a b c : Code} {Q : AExit → Env → St → Prop} (h : awp P γ (.seq a (.seq b c)) Q ρ σ) : awp P γ (.seq (.seq a b) c) Q ρ σ := by
  simp only [awp] at h ⊢
  have : AExit.thn (fun ρ σ => Rx (awp P γ b (AExit.thn (fun ρ σ => Rx (awp P γ c Q) ρ σ) Q)) ρ σ) Q = AExit.thn (fun ρ σ => Rx (awp P γ b (AExit.thn (fun ρ σ => Rx (awp P γ c Q) ρ σ) Q)) ρ σ) (AExit.thn (fun ρ σ => Rx (awp P γ c Q) ρ σ) Q) := by
    funext e; cases e <;> rfl
  rw [this] at h; exact h
/-- A region, and what follows. -/
theorem awp_rs {id : Nat} {l : List Oper} {b : Code} {Q : AExit → Env → St → Prop} (h : alist P γ l (fun ρ σ => Rx (awp P γ b Q) ρ σ) l ρ σ) : awp P γ (.seq (.region id l.toArray false) b) Q ρ σ := awp_seq (awp_region h)
/-! ### an open order, where nothing is changed -/
def apure (P : Program) (γ : Gl) (ops : List Oper) (Q : Env → St → Prop) : List Oper → Env → St → Prop
  | [], ρ, σ => Q ρ σ
  | o :: rest, ρ, σ => match awanted ops ρ o with
    | some true => ∃ d, aop P γ ρ σ o.op (fun d' σ' => d' = d ∧ σ.le σ') ∧ apure P γ ops Q rest (ρ.put o.dst d) σ
    | some false => apure P γ ops Q rest (ρ.put o.dst (.tup [])) σ
    | none => False
theorem apure_passT {obs : List (Nat × (St → Prop))} {Q : Env → St → Prop} (all : List Oper) : ∀ (l : List Oper) (i n : Nat) (ρ : Env) (σ : St), n = l.length → Q ρ σ → passT P γ all obs Q i l (List.replicate n true) ρ σ
  | [], i, n, ρ, σ, hn, h => by subst hn; exact h
  | o :: r, i, n, ρ, σ, hn, h => by
    subst hn
    simp only [List.length_cons, List.replicate_succ, passT]
    exact apure_passT all r (i + 1) r.length ρ σ rfl h
theorem apure_passA {K : Env → List (Nat × (St → Prop)) → Prop} {Q : Env → St → Prop} (all : List Oper) (hK : ∀ ρ obs, Q ρ σ → K ρ obs) : ∀ (l : List Oper) (i n : Nat) (ρ : Env) (obs : List (Nat × (St → Prop))), n = l.length → apure P γ all Q l ρ σ → passA P γ all σ K i l (List.replicate n true) ρ obs
  | [], i, n, ρ, obs, hn, h => by subst hn; exact hK ρ obs h
  | o :: r, i, n, ρ, obs, hn, h => by
    subst hn
    simp only [apure] at h
    simp only [List.length_cons, List.replicate_succ, passA]
    split
    · rename_i hw
      rw [hw] at h
      obtain ⟨d, h1, h2⟩ := h
      exact ⟨d, h1, apure_passA all hK r (i + 1) r.length _ _ rfl h2⟩
    · rename_i hw
      rw [hw] at h
      exact apure_passA all hK r (i + 1) r.length _ _ rfl h
    · rename_i hw
      rw [hw] at h
      exact h

theorem awp_pure {id : Nat} {l : List Oper} {b : Code} {Q : AExit → Env → St → Prop} (hd : dOk (List.replicate l.length true) l = true) (h : apure P γ l (fun ρ σ => Rx (awp P γ b Q) ρ σ) l ρ σ) : awp P γ (.seq (.region id l.toArray true) b) Q ρ σ := by
  refine awp_seq ?_
  simp only [awp, adraw]
  exact ⟨_, hd, apure_passA l (fun ρ obs hq => apure_passT l l 0 l.length ρ σ rfl hq) l 0 l.length ρ _ rfl h⟩
theorem ap_nil (h : Q ρ σ) : apure P γ ops Q [] ρ σ := h
theorem ap_done (h : Q ρ σ) : apure P γ ops (fun ρ σ => Rx Q ρ σ) [] ρ σ := Rx.done h
theorem ap_set {t : Nat} (d : D) (h : ∀ K : D → St → Prop, K d σ → aop P γ ρ σ op K) (h2 : apure P γ ops Q rest (ρ.set t d) σ) : apure P γ ops Q (⟨some t, op, ty, pos, aft, none⟩ :: rest) ρ σ := by
  unfold apure
  exact ⟨d, h _ ⟨rfl, St.le.refl _⟩, h2⟩
theorem ap_guard {t : Nat} {j : Nat} {want b : Bool} {g : Tmp} (hg : (ops[j]?).bind (·.dst) = some g) (hv : ρ g = .bool b) (h1 : b = want → apure P γ ops Q (⟨some t, op, ty, pos, aft, none⟩ :: rest) ρ σ) (h0 : b ≠ want → apure P γ ops Q rest (ρ.set t (.tup [])) σ) :
    apure P γ ops Q (⟨some t, op, ty, pos, aft, some (j, want)⟩ :: rest) ρ σ := by
  cases hp : ops[j]? with
  | none => simp [hp] at hg
  | some p =>
    simp [hp] at hg
    have hw : awanted ops ρ ⟨some t, op, ty, pos, aft, some (j, want)⟩ = some (b == want) := by
      simp only [awanted, hp, hg, hv]
    unfold apure
    rw [hw]
    by_cases hb : b = want
    · have := h1 hb
      rw [show (b == want) = true by simpa using hb]
      unfold apure at this
      exact this
    · rw [show (b == want) = false by simpa using hb]
      exact h0 hb
theorem ap_guard0 {t : Nat} {j : Nat} {want : Bool} {g : Tmp} (hg : (ops[j]?).bind (·.dst) = some g) (hv : ρ g = .tup []) (h0 : apure P γ ops Q rest (ρ.set t (.tup [])) σ) :
    apure P γ ops Q (⟨some t, op, ty, pos, aft, some (j, want)⟩ :: rest) ρ σ := by
  cases hp : ops[j]? with
  | none => simp [hp] at hg
  | some p =>
    simp [hp] at hg
    have hw : awanted ops ρ ⟨some t, op, ty, pos, aft, some (j, want)⟩ = some false := by
      simp only [awanted, hp, hg, hv]
    unfold apure
    rw [hw]
    exact h0
theorem al_done (h : Q ρ σ) : alist P γ ops (fun ρ σ => Rx Q ρ σ) [] ρ σ := Rx.done h
theorem awp_cond {c : Operand} {x y : Code} {Q : AExit → Env → St → Prop} {b : Bool} (hc : aeval γ ρ c = .bool b) (h1 : b = true → awp P γ x Q ρ σ) (h2 : b = false → awp P γ y Q ρ σ) : awp P γ (.cond c x y) Q ρ σ := by
  simp only [awp, hc]
  cases b
  · exact h2 rfl
  · exact h1 rfl
theorem awp_skip {Q : AExit → Env → St → Prop} (h : Q .normal ρ σ) : awp P γ .skip Q ρ σ := by simpa only [awp] using h
theorem awp_exit {Q : AExit → Env → St → Prop} {id : Nat} (h : Q (.exit id) ρ σ) : awp P γ (.exit id) Q ρ σ := by simpa only [awp] using h
theorem awp_ret {Q : AExit → Env → St → Prop} (h : Q .ret ρ σ) : awp P γ .ret Q ρ σ := by simpa only [awp] using h
theorem awp_block {Q : AExit → Env → St → Prop} {id : Nat} {c : Code} (h : awp P γ c (AExit.blk id Q) ρ σ) : awp P γ (.block id c) Q ρ σ := by simpa only [awp] using h
theorem awp_loop {Q : AExit → Env → St → Prop} {c : Code} (I : Nat → Env → St → Prop) (n : Nat) (h0 : I n ρ σ) (h : ∀ n ρ σ, I n ρ σ → awp P γ c (AExit.thn (fun ρ' σ' => Rx (fun ρ σ => ∃ k, k < n ∧ I k ρ σ) ρ' σ') Q) ρ σ) : awp P γ (.loop c) Q ρ σ := by
  simp only [awp]; exact ⟨I, n, h0, h⟩
/-- The end. -/
theorem aload_mono {t : TypeId} {p : D} {K K' : D → St → Prop} (hk : ∀ d σ, K d σ → K' d σ) (h : aload P t p σ K) : aload P t p σ K' := by
  have hr : ∀ ag sz l off, aread ag sz l off σ K → aread ag sz l off σ K' := fun ag sz l off h => by
    unfold aread at *
    cases ag
    · simp only [Bool.false_eq_true, if_false] at *; obtain ⟨d, h1, h2⟩ := h; exact ⟨d, h1, hk _ _ h2⟩
    · simp only [if_true] at *; exact ⟨h.1, hk _ _ h.2⟩
  unfold aload at *
  cases hq : tagg P t with
  | none => rw [hq] at h; cases h
  | some ag =>
    rw [hq] at h
    cases p with
    | ptr i o => obtain ⟨l, T, h1, h2⟩ := h; exact ⟨l, T, h1, hr _ _ _ _ h2⟩
    | eptr cs o => exact hr _ _ _ _ h
    | _ => exact h.elim
theorem ares_mono : ∀ (rs : List ResultVar) {K K' : List D → Prop}, (∀ ds, K ds → K' ds) → ares P rs ρ σ K → ares P rs ρ σ K'
  | [], K, K', h, hk => h _ hk
  | .tmp t :: r, K, K', h, hk => ares_mono r (fun ds => h _) hk
  | .cell p t :: r, K, K', h, hk => aload_mono (fun d _ hd => ares_mono r (fun ds => h _) hd) (show aload P t (ρ p) σ _ from hk)
theorem Rx.mono {Q Q' : Env → St → Prop} (hq : ∀ ρ σ, Q ρ σ → Q' ρ σ) (h : Rx Q ρ σ) : Rx Q' ρ σ := by
  induction h with
  | done h => exact .done (hq _ _ h)
  | forget s hs _ ih => exact .forget s hs ih
  | weak t d hw _ ih => exact .weak t d hw ih
  | freeze id l T ts hs _ ih => exact .freeze id l T ts hs ih
  | cap t id off n sz ht _ ih => exact .cap t id off n sz ht ih
  | wkc id l l' T hs hl hw _ ih => exact .wkc id l l' T hs hl hw ih
theorem afin_ret {rs : List ResultVar} {R : D → St → Prop} (h : Rx (fun ρ σ => ares P rs ρ σ fun ds => R (aone ds) σ) ρ σ) : afin P rs R .ret ρ σ :=
  h.mono fun ρ σ hr => ares_mono rs (fun ds hd => ⟨σ, St.le.refl _, hd⟩) hr
/-- .. where what is known of the results' own cells goes. -/
theorem afin_cell {rs : List ResultVar} {R : D → St → Prop} (s : St) (hs : s.le σ) (h : ares P rs ρ σ fun ds => R (aone ds) s) : afin P rs R .ret ρ σ :=
  Rx.done (ares_mono rs (fun ds hd => ⟨s, hs, hd⟩) h)
/-- An operation that makes something new: whatever its name. σb: the state that a new name must not be in. -/
theorem al_fresh {t : Nat} (σb : St) (f : Nat → D) (g : Nat → St) (h : ∀ K : D → St → Prop, (∀ id, σb id = none → K (f id) (g id)) → aop P γ ρ σ op K) (h2 : ∀ id, σb id = none → alist P γ ops Q rest (ρ.set t (f id)) (g id)) : alist P γ ops Q (⟨some t, op, ty, pos, aft, none⟩ :: rest) ρ σ :=
  al_any (h _ h2)
/-- Operations under a guard. -/
theorem al_guard {t : Nat} {j : Nat} {want b : Bool} {g : Tmp} (hg : (ops[j]?).bind (·.dst) = some g) (hv : ρ g = .bool b) (h1 : b = want → alist P γ ops Q (⟨some t, op, ty, pos, aft, none⟩ :: rest) ρ σ) (h0 : b ≠ want → alist P γ ops Q rest (ρ.set t (.tup [])) σ) :
    alist P γ ops Q (⟨some t, op, ty, pos, aft, some (j, want)⟩ :: rest) ρ σ := by
  cases hp : ops[j]? with
  | none => simp [hp] at hg
  | some p =>
    simp [hp] at hg
    have hw : awanted ops ρ ⟨some t, op, ty, pos, aft, some (j, want)⟩ = some (b == want) := by
      simp only [awanted, hp, hg, hv]
    unfold alist
    rw [hw]
    by_cases hb : b = want
    · have := h1 hb
      rw [show (b == want) = true by simpa using hb]
      unfold alist at this
      exact this
    · rw [show (b == want) = false by simpa using hb]
      exact h0 hb
theorem al_guard0 {t : Nat} {j : Nat} {want : Bool} {g : Tmp} (hg : (ops[j]?).bind (·.dst) = some g) (hv : ρ g = .tup []) (h0 : alist P γ ops Q rest (ρ.set t (.tup [])) σ) :
    alist P γ ops Q (⟨some t, op, ty, pos, aft, some (j, want)⟩ :: rest) ρ σ := by
  cases hp : ops[j]? with
  | none => simp [hp] at hg
  | some p =>
    simp [hp] at hg
    have hw : awanted ops ρ ⟨some t, op, ty, pos, aft, some (j, want)⟩ = some false := by
      simp only [awanted, hp, hg, hv]
    unfold alist
    rw [hw]
    exact h0

/-! ### tests and loops -/
theorem awp_if {c : Operand} {x rest : Code} {Q : AExit → Env → St → Prop} {b : Bool} (hc : aeval γ ρ c = .bool b) (h1 : b = true → awp P γ x (AExit.thn (fun ρ σ => Rx (awp P γ rest Q) ρ σ) Q) ρ σ) (h2 : b = false → awp P γ rest Q ρ σ) : awp P γ (.seq (.cond c x .skip) rest) Q ρ σ :=
  awp_seq (awp_cond hc h1 fun h => awp_skip (Rx.done (h2 h)))
theorem awp_test {c : Operand} {id : Nat} {rest : Code} {Q : AExit → Env → St → Prop} {b : Bool} (hc : aeval γ ρ c = .bool b) (h1 : b = true → awp P γ rest Q ρ σ) (h2 : b = false → Q (.exit id) ρ σ) : awp P γ (.seq (.cond c .skip (.exit id)) rest) Q ρ σ :=
  awp_seq (awp_cond hc (fun h => awp_skip (Rx.done (h1 h))) fun h => awp_exit (h2 h))
/-- What a loop's round comes to: another round, what follows the loop, a return. -/
def LQ (P : Program) (γ : Gl) (id : Nat) (rest : Code) (I : Nat → Env → St → Prop) (n : Nat) (Q : AExit → Env → St → Prop) : AExit → Env → St → Prop
  | .normal, ρ, σ => Rx (fun ρ σ => ∃ k, k < n ∧ I k ρ σ) ρ σ
  | .exit i, ρ, σ => if i = id then Rx (awp P γ rest Q) ρ σ else Q (.exit i) ρ σ
  | .ret, ρ, σ => Q .ret ρ σ
theorem awp_Q {c : Code} {Q Q' : AExit → Env → St → Prop} (h : Q = Q') (hc : awp P γ c Q ρ σ) : awp P γ c Q' ρ σ := h ▸ hc
theorem awp_while {id : Nat} {c rest : Code} {Q : AExit → Env → St → Prop} (I : Nat → Env → St → Prop) (n : Nat) (h0 : I n ρ σ) (h : ∀ n ρ σ, I n ρ σ → awp P γ c (LQ P γ id rest I n Q) ρ σ) : awp P γ (.seq (.block id (.loop c)) rest) Q ρ σ := by
  refine awp_seq (awp_block (awp_loop I n h0 fun n ρ σ hI => awp_Q ?_ (h n ρ σ hI)))
  funext e ρ σ
  cases e with
  | normal => rfl
  | exit i =>
    simp only [LQ, AExit.thn, AExit.blk]
    split <;> rfl
  | ret => rfl
theorem lq_exit {id : Nat} {rest : Code} {I : Nat → Env → St → Prop} {n : Nat} {Q : AExit → Env → St → Prop} (h : awp P γ rest Q ρ σ) : LQ P γ id rest I n Q (.exit id) ρ σ := by
  simp only [LQ, if_true]; exact Rx.done h
theorem lq_next {id : Nat} {rest : Code} {I : Nat → Env → St → Prop} {n : Nat} {Q : AExit → Env → St → Prop} (k : Nat) (hk : k < n) (h : I k ρ σ) : LQ P γ id rest I n Q .normal ρ σ := Rx.done ⟨k, hk, h⟩
/-- The body of a round, in its block: no way out of the block but its end. -/
theorem awp_body {id : Nat} {c rest : Code} {Q : AExit → Env → St → Prop} (h : awp P γ c (AExit.blk id (AExit.thn (fun ρ σ => Rx (awp P γ rest Q) ρ σ) Q)) ρ σ) : awp P γ (.seq (.block id c) rest) Q ρ σ := awp_seq (awp_block h)

/-! ### what may be said less -/
theorem rx_tok {Q : Env → St → Prop} {t id sz n : Nat} {cs c0 : List D} {e : TypeId} (ht : ρ t = .sl n cs (some (id, sz))) (h0 : σ id = none) (h : Rx Q (ρ.set t (.sl n cs none)) σ) : Rx Q ρ (σ.set id (.tok e c0)) := by
  refine .forget σ (fun i o e => ?_) (.weak t (.sl n cs none) (by rw [ht]; exact .tok n cs _) h)
  simp only [St.set]
  split
  · rename_i hi; subst hi; rw [h0] at e; cases e
  · exact e
theorem rx_drop {Q : Env → St → Prop} {id : Nat} {o : Ob} (h0 : σ id = none) (h : Rx Q ρ σ) : Rx Q ρ (σ.set id o) := by
  refine .forget σ (fun i o' e => ?_) h
  simp only [St.set]
  split
  · rename_i hi; subst hi; rw [h0] at e; cases e
  · exact e
theorem rx_nil {Q : Env → St → Prop} {t : Nat} (ht : ρ t = .nil) (h : Rx Q (ρ.set t (.sl 0 [] none)) σ) : Rx Q ρ σ := .weak t _ (by rw [ht]; exact .nil) h

/-! ### rows -/
theorem length_bytesD (l : List UInt8) : (bytesD l).length = l.length := by simp [bytesD]
theorem bytesD_nil : bytesD [] = [] := rfl
theorem bytesD_cons (b : UInt8) (l : List UInt8) : bytesD (b :: l) = .int .u8 b.toNat :: bytesD l := rfl
theorem bytesD_append (a b : List UInt8) : bytesD (a ++ b) = bytesD a ++ bytesD b := by simp [bytesD]
theorem xcells_sl {σ : St} {sz n : Nat} {cs : List D} {t : Option (Nat × Nat)} (h : cs.length = n * sz) : xcells σ sz (.sl n cs t) = some (n, cs) := by simp only [xcells, h, if_true]
theorem aconv_int {s d : TypeId} {k : IntKind} {n : Int} {K : D → St → Prop} : aconv P s d (.int k n) σ K = ((P.underlying s).isSome = true ∧ match intT P d with | some k => K (.int k (k.wrap n)) σ | none => False) := rfl
theorem conv_bytes {s d e : TypeId} {l : List UInt8} {t : Option (Nat × Nat)} {K : D → St → Prop} (hd : isStr P d = true) (he : elt P s = some (e, 1, 1)) (hi : intT P e = some .u8) (hk : K (.str l) σ) : aconv P s d (.sl l.length (bytesD l) t) σ K :=
  ⟨hd, ⟨e, he, hi⟩, l, rfl, rfl, hk⟩
theorem conv_bytes' {s d e : TypeId} {l : List UInt8} {n : Nat} {cs : List D} {t : Option (Nat × Nat)} {K : D → St → Prop} (hd : isStr P d = true) (he : elt P s = some (e, 1, 1)) (hi : intT P e = some .u8) (hc : cs = bytesD l) (hn : n = l.length) (hk : K (.str l) σ) : aconv P s d (.sl n cs t) σ K :=
  ⟨hd, ⟨e, he, hi⟩, l, hc, hn, hk⟩
theorem conv_nil {s d e : TypeId} {K : D → St → Prop} (hd : isStr P d = true) (he : elt P s = some (e, 1, 1)) (hi : intT P e = some .u8) (hk : K (.str []) σ) : aconv P s d .nil σ K := ⟨hd, ⟨e, he, hi⟩, hk⟩
theorem conv_str {s d : TypeId} {l : List UInt8} {K : D → St → Prop} (hs : isStr P s = true) (hd : isStr P d = true) (hk : K (.str l) σ) : aconv P s d (.str l) σ K := ⟨hs, .inl ⟨hd, hk⟩⟩
theorem conv_row {s d e : TypeId} {l : List UInt8} {K : D → St → Prop} (hs : isStr P s = true) (he : elt P d = some (e, 1, 1)) (hi : intT P e = some .u8) (hl : l.length ≤ 140737488355328) (hk : ∀ id, σ id = none → K (.osl id 0 l.length 1) (σ.set id (.cells (bytesD l) e))) : aconv P s d (.str l) σ K := ⟨hs, .inr ⟨e, he, hi, hl, .inr (.inl hk)⟩⟩
theorem bsl_int0 {t e : TypeId} {by_ : Nat} {z : D} {k : IntKind} {n : Int} {K : D → St → Prop} (he : elt P t = some (e, 1, by_)) (hz : zc P e = some [z]) (hk : K (.sl 1 [.int k n] none) σ) :
    abuildSl P t 1 [(0, .int k n)] σ K := by
  simp only [abuildSl, he, hz]
  refine ⟨by decide, ?_⟩
  have : afill (fun i => some (i * 1, 1)) (List.replicate 1 [z]).flatten [(0, .int k n)] = some [.int k n] := by
    simp [afill, okc, D.one, cellsOf, splice]
  rw [this]
  exact .inr (.inr hk)
/-- A row of one number. -/
theorem bsl_int {t e : TypeId} {by_ : Nat} {z : D} {k : IntKind} {n : Int} {K : D → St → Prop} (he : elt P t = some (e, 1, by_)) (hz : zc P e = some [z]) (hk : ∀ id, σ id = none → K (.sl 1 [.int k n] (some (id, 1))) (σ.set id (.tok e [.int k n]))) :
    abuildSl P t 1 [(0, .int k n)] σ K := by
  simp only [abuildSl, he, hz]
  refine ⟨by decide, ?_⟩
  have : afill (fun i => some (i * 1, 1)) (List.replicate 1 [z]).flatten [(0, .int k n)] = some [.int k n] := by
    simp [afill, okc, D.one, cellsOf, splice]
  rw [this]
  exact .inl hk
theorem del_set {σ : St} {i : Nat} (o : Ob) (h : σ i = none) : (σ.set i o).del i = σ := by
  funext j
  simp only [St.set, St.del]
  split
  · rename_i hj; subst hj; exact h.symm
  · rfl
theorem app_tok {e : TypeId} {sz bytes : Nat} {n0 n t : Nat} {cs ds c0 : List D} {K : D → St → Prop} (h0 : σ t = none) (hb : (n0 + n) * bytes ≤ 140737488355328) (hk : ∀ id, σ id = none → K (.sl (n0 + n) (cs ++ ds) (some (id, sz))) (σ.set id (.tok e (cs ++ ds)))) :
    aapp (σ.set t (.tok e c0)) e sz bytes (.sl n0 cs (some (t, sz))) n ds K := by
  refine ⟨rfl, ⟨c0, by simp [St.set]⟩, hb, fun id hid => ?_⟩
  rw [del_set _ h0]
  refine hk id ?_
  simp only [St.set] at hid
  split at hid
  · cases hid
  · exact hid
theorem app_nil {e : TypeId} {sz bytes : Nat} {n : Nat} {ds : List D} {K : D → St → Prop} (hn : 0 < n) (hb : n * bytes ≤ 140737488355328) (hk : ∀ id, σ id = none → K (.sl n ds (some (id, sz))) (σ.set id (.tok e ds))) :
    aapp σ e sz bytes .nil n ds K := by
  simp only [aapp, if_neg (show n ≠ 0 by omega)]
  exact ⟨hb, .inl hk⟩
theorem set_same (σ : St) (i : Nat) (o : Ob) : (σ.set i o) i = some o := by simp [St.set]
theorem set_set (σ : St) (i : Nat) (o o' : Ob) : (σ.set i o).set i o' = σ.set i o' := by
  funext j; simp only [St.set]; split <;> rfl
theorem set_other {σ : St} {i j : Nat} (o : Ob) (h : j ≠ i) : (σ.set i o) j = σ j := by simp [St.set, h]
theorem fresh_ne {σ : St} {i j : Nat} {o : Ob} (h : (σ.set i o) j = none) : j ≠ i ∧ σ j = none := by
  simp only [St.set] at h
  split at h
  · cases h
  · rename_i hn; exact ⟨hn, h⟩
end
section
variable {P : Program} {γ : Gl} {σ : St} {ρ : Env} {K : D → St → Prop}
/-! the defining equations, once for all texts -/
theorem warm_aop (x : Operand) : aop P γ ρ σ (.move x) K = K (aeval γ ρ x) σ := by simp only [aop]
theorem warm_aeval (t : Tmp) : aeval γ ρ (.tmp t) = ρ t := by simp only [aeval]
theorem warm_ofVal : ofVal (.bool true) = .bool true := by simp only [ofVal, ofVal1]
theorem warm_abin (t : TypeId) (a b : Int) : abin P .add t (.int .i64 a) (.int .i64 b) σ K = K (.int .i64 (IntKind.i64.wrap (a + b))) σ := by simp only [abin, abinI, true_and]
theorem warm_abinS (t : TypeId) (a b : List UInt8) : abin P .eql t (.str a) (.str b) σ K = K (.bool (a == b)) σ := by simp only [abin, abinS]
theorem warm_aeq (b : Bool) : aeq .eql b σ K = K (.bool b) σ := by simp only [aeq]
theorem warm_aun (b : Bool) : aun .not (.bool b) σ K = K (.bool (!b)) σ := by simp only [aun]
theorem warm_alen (t : TypeId) : abuiltin P .len [t] [.nil] σ K = (isSl P t = true ∧ K (.int .i64 0) σ) := by simp only [abuiltin, alen]
theorem warm_conv (t u : TypeId) : aconv P t u .nilp σ K = False := by simp only [aconv]
theorem warm_load (t : TypeId) (h : tagg P t = none) : aload P t .nilp σ K = False := by simp only [aload, h]
theorem warm_read (l : List D) : aread true 1 l 0 σ K = (0 + 1 ≤ l.length ∧ K (.agg ((l.drop 0).take 1)) σ) := by simp only [aread, if_true]
theorem warm_store (t : TypeId) (x : D) : astore P t .nilp x σ K = False := by simp only [astore]
theorem warm_field (t : TypeId) (h : fld P t 0 = none) : afield P t .nilp 0 σ K = False := by simp only [afield, h]
theorem warm_fieldAddr (t : TypeId) (h : fld P t 0 = none) : afieldAddr P t .nilp 0 σ K = False := by simp only [afieldAddr, h]
theorem warm_extract (d : D) : aextract (.tup [d]) 0 σ K = K d σ := by simp only [aextract, List.getElem?_cons_zero, Option.some.injEq, exists_eq_left']
theorem warm_index (t : TypeId) (x : D) : aindex P t x .nilp σ K = False := by simp only [aindex]
theorem warm_indexAddr (t : TypeId) (x : D) : aindexAddr P t x .nilp σ K = False := by simp only [aindexAddr]
theorem warm_nilCheck : anilCheck .nilp σ K = False := by simp only [anilCheck]
theorem warm_slice (t : TypeId) : aslice P t .nilp none none none σ K = False := by simp only [aslice]
theorem warm_build (t : TypeId) (h : zc P t = none) : abuild P t [] σ K = False := by simp only [abuild, h]
theorem warm_buildSl (t : TypeId) (h : elt P t = none) : abuildSl P t 0 [] σ K = False := by simp only [abuildSl, h]
theorem warm_make (t : TypeId) (h : elt P t = none) : amake P t .nilp .nilp σ K = False := by simp only [amake, h]
theorem warm_alloc (t : TypeId) (h : zc P t = none) : aalloc P t σ K = False := by simp only [aalloc, h]
theorem warm_box : abox 5 .nilp σ K = (okc .nilp = true ∧ anew 5 (cellsOf .nilp) σ K) := by simp only [abox]
theorem warm_cells : cellsOf .nilp = [.nilp] ∧ okc (.agg []) = true := by simp only [cellsOf, okc, true_and]
theorem warm_xcells (l : List UInt8) : xcells σ 1 (.str l) = some (l.length, bytesD l) := by simp only [xcells, if_true]
theorem warm_app : aapp σ 5 1 1 .nil 0 [] K = K .nil σ := by simp only [aapp, if_true]
theorem warm_bound (n : Nat) : abound none n = some n := by simp only [abound]
theorem warm_copy (t : TypeId) (h : elt P t = none) : acopy P t .nil .nil σ K = False := by simp only [acopy, h]
theorem warm_mm : aminmax true [.int .i64 0, .int .i64 0] σ K = K (.int .i64 0) σ := by simp only [aminmax]; split <;> split <;> rfl
theorem warm_wanted (ops : List Oper) (op : Op) (t : TypeId) (p : String) (e : Array Edge) : awanted ops ρ ⟨none, op, t, p, e, none⟩ = some true := by simp only [awanted]
theorem warm_frz : frzs 0 [] [] ρ = ρ ∧ frzD 0 [] .nil = .nil := by simp only [frzs, frzD, true_and]
theorem warm_fill (pl : Nat → Option (Nat × Nat)) : afill pl [] [] = some [] := by simp only [afill]
theorem warm_one : D.one .nil = true := by simp only [D.one]
theorem warm_eqL : eqL [] [] = some true ∧ eq1 .nil .nil = none ∧ fits [] [] = true ∧ fit1 .bool (.bool true) = true := by simp only [eqL, eq1, fits, fit1, true_and]
end
end Go.Av
