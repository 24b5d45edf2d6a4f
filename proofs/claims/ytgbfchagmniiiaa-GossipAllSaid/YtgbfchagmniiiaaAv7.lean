/- The operations over abstract values are what the machine does: addresses, indexes, slices, builtins. -/
import Derived.Test.YtgbfchagmniiiaaAv6
set_option linter.unusedSimpArgs false
set_option linter.unusedVariables false
namespace Go.Av
open Go.RowKit

section
variable {P : Program} {γ : Gl} {B : Nat} {w0 : World} {g : G} {σ : St} {w : World}

/-- A value, the world as it was. -/
theorem same_sound (hR : Rel B w0 g σ w) {v : Value} {d : D} (hv : RV g v d) {K : D → St → Prop} (hk : K d σ) : Comes' B w0 g K v w := ⟨d, g, σ, G.le.refl g, hv, hR, hk⟩

theorem nilCheck_sound (hR : Rel B w0 g σ w) {x : Value} {xd : D} (hx : RV g x xd) {K : D → St → Prop} (hk : anilCheck xd σ K) : (∃ a, x = .pointer (some a)) ∧ Comes' B w0 g K x w := by
  cases hx with
  | ptr id b m off hi => exact ⟨⟨_, rfl⟩, same_sound hR (.ptr id b m off hi) hk⟩
  | eptr b base off cs us a1 a2 a3 => exact ⟨⟨_, rfl⟩, same_sound hR (.eptr b base off cs us a1 a2 a3) hk⟩
  | _ => simp [anilCheck] at hk

theorem extract_sound (hR : Rel B w0 g σ w) {x : Value} {xd : D} (hx : RV g x xd) {i : Nat} {K : D → St → Prop} (hk : aextract xd i σ K) : ∃ v, (Instr.extract x i).run P w = .ok v w ∧ Comes' B w0 g K v w := by
  cases hx with
  | tup vs ds hl hr =>
    obtain ⟨d, hd, hk⟩ := hk
    have hi : i < vs.size := by rw [hl]; exact (List.getElem?_eq_some_iff.1 hd).1
    exact ⟨vs[i], by simp [Instr.extract, hi], same_sound hR (hr i _ d (Array.getElem?_eq_getElem hi) hd) hk⟩
  | _ => simp [aextract] at hk

/-- A part of an aggregate's cells. -/
theorem part_sound (hR : Rel B w0 g σ w) {t : TypeId} {ag : Bool} (hag : tagg P t = some ag) {cs : Array Value} {ds : List D} (hl : cs.size = ds.length) (h1 : ∀ d ∈ ds, d.one = true) (h : ∀ (i : Nat) v d, cs[i]? = some v → ds[i]? = some d → RV g v d) {off : Nat}
    {K : D → St → Prop} (hk : aread ag (tsz P t) ds off σ K) : ∃ v, (part t cs off).run P w = .ok v w ∧ Comes' B w0 g K v w := by
  have hinfo : ∃ i, P.info? t = some i ∧ i.size = tsz P t := by
    cases hq : P.info? t with
    | none =>
      have : P.underlying t = none := by simp [Program.underlying, hq]
      simp [tagg, this] at hag
    | some i => exact ⟨i, rfl, by simp [tsz, hq]⟩
  obtain ⟨i, hi, his⟩ := hinfo
  cases ag with
  | true =>
    simp only [aread, if_true] at hk
    obtain ⟨d, hu, hd⟩ := tagg_true hag
    have hagg : (isAgg t).run P w = .ok true w := by
      unfold isAgg
      rw [Sem.run_bind, run_underlying hu w]
      cases d <;> simp_all
    refine ⟨.agg (cs.extract off (off + tsz P t)), by simp [part, hagg, sizeOf, typeInfo, hi, his], same_sound hR (.agg _ _ (by simp; omega) (fun d hd => h1 d (List.mem_of_mem_drop (List.mem_of_mem_take hd))) (fun k v d e e' => ?_)) hk.2⟩
    have hk' : k < tsz P t := by
      have := (List.getElem?_eq_some_iff.1 e').1
      simp at this; omega
    rw [List.getElem?_take, if_pos hk', List.getElem?_drop] at e'
    refine h (off + k) v d ?_ e'
    rw [Array.getElem?_extract] at e
    split at e
    · exact e
    · cases e
  | false =>
    simp only [aread, Bool.false_eq_true, if_false] at hk
    obtain ⟨d, hd, hk⟩ := hk
    have ho : off < cs.size := by rw [hl]; exact (List.getElem?_eq_some_iff.1 hd).1
    obtain ⟨dt, hu, hdt⟩ := tagg_false hag
    have hagg : (isAgg t).run P w = .ok false w := by
      unfold isAgg
      rw [Sem.run_bind, run_underlying hu w]
      cases dt <;> simp_all
    exact ⟨cs[off], by simp [part, hagg, ho], same_sound hR (h off _ d (Array.getElem?_eq_getElem ho) hd) hk⟩

theorem fld_spec {t : TypeId} {f : Nat} {o n : Nat} {ft : TypeId} (h : fld P t f = some (o, n, ft)) : ∃ fs x, P.underlying t = some (.struct fs) ∧ fs[f]? = some x ∧ x.offset = o ∧ x.type = ft ∧ tsz P ft = n ∧ 0 < n := by
  unfold fld at h
  split at h
  · rename_i fs hu
    split at h
    · rename_i x hx
      split at h
      · rename_i hs
        cases h
        exact ⟨fs, x, hu, hx, rfl, rfl, rfl, hs⟩
      · cases h
    · cases h
  · cases h

theorem field_sound (hR : Rel B w0 g σ w) {t : TypeId} {f : Nat} {x : Value} {xd : D} (hx : RV g x xd) {K : D → St → Prop} (hk : afield P t xd f σ K) : ∃ v, (Instr.field t x f).run P w = .ok v w ∧ Comes' B w0 g K v w := by
  unfold afield at hk
  split at hk
  · rename_i o n ft cs hf
    split at hk
    · rename_i ag hag
      obtain ⟨fs, y, hu, hy, rfl, rfl, hn, _⟩ := fld_spec hf
      cases hx with
      | agg cs' _ hl h1 hr =>
        rw [← hn] at hk
        obtain ⟨v, e1, e2⟩ := part_sound hR hag hl h1 hr hk
        exact ⟨v, by simp [Instr.field, run_underlying hu, hy, asAgg, e1], e2⟩
    · cases hk
  · cases hk

theorem fieldAddr_sound (hR : Rel B w0 g σ w) {t : TypeId} {f : Nat} {x : Value} {xd : D} (hx : RV g x xd) {K : D → St → Prop} (hk : afieldAddr P t xd f σ K) : ∃ v, (Instr.fieldAt t x f).run P w = .ok v w ∧ Comes' B w0 g K v w := by
  have key : ∀ b o off n ft, fld P t f = some (off, n, ft) → (Instr.fieldAt t (.pointer (some ⟨b, o, none⟩)) f).run P w = .ok (.pointer (some ⟨b, o + off, none⟩)) w := by
    intro b o off n ft hf
    obtain ⟨fs, y, hu, hy, rfl, rfl, hn, h0⟩ := fld_spec hf
    have hinfo := tsz_info hn h0
    obtain ⟨i, hi, his⟩ := Option.map_eq_some_iff.1 hinfo
    have hs : ¬ i.size = 0 := by omega
    simp [Instr.fieldAt, run_underlying hu, hy, Instr.sureAddr, fieldPlace, sizeOf, typeInfo, hi, hs, add_at]
  unfold afieldAddr at hk
  split at hk
  · rename_i off n id o hf
    cases hx with
    | ptr _ b m _ hi => exact ⟨_, key b o off _ _ hf, same_sound hR (.ptr id b m (o + off) hi) hk⟩
  · rename_i off n cs o hf
    cases hx with
    | eptr b base _ _ us a1 a2 a3 => exact ⟨_, key b (base + o) off _ _ hf, same_sound hR (by rw [Nat.add_assoc]; exact .eptr b base (o + off) cs us a1 a2 a3) hk⟩
  · cases hk

theorem arrT_spec {t : TypeId} {n : Nat} {e : TypeId} {sz : Nat} (h : arrT P t = some (n, e, sz)) : P.underlying t = some (.array n e) ∧ tsz P e = sz ∧ 0 < sz ∧ 1 < n ∧ ∃ i, P.info? e = some i ∧ i.size = sz := by
  unfold arrT at h
  split at h
  · rename_i n' e' hu
    split at h
    · rename_i hc
      cases h
      obtain ⟨i, hi, his⟩ := Option.map_eq_some_iff.1 (tsz_info rfl hc.1)
      exact ⟨hu, rfl, hc.1, hc.2, i, hi, his⟩
    · cases h
  · cases h

theorem indexAddr_sound (hR : Rel B w0 g σ w) {t : TypeId} {x i : Value} {xd id_ : D} (hx : RV g x xd) (hi : RV g i id_) {K : D → St → Prop} (hk : aindexAddr P t xd id_ σ K) : ∃ v, (Instr.indexAt t x i).run P w = .ok v w ∧ Comes' B w0 g K v w := by
  have keyS : ∀ (b o m c : Nat) (k : IntKind) (n : Int) (e : TypeId) (sz bytes : Nat), elt P t = some (e, sz, bytes) → 0 ≤ n → n < (m : Int) → (Instr.indexAt t (.slice (some ⟨b, o, none⟩) m c) (.int k n)).run P w = .ok (.pointer (some ⟨b, o + n.toNat * sz, none⟩)) w := by
    intro b o m c k n e sz bytes he h0 h1
    obtain ⟨hu, j, z, hj, _, _, hsz, _⟩ := elt_spec he
    simp [Instr.indexAt, asIntOf, run_underlying hu, h0, h1, sizeOf, typeInfo, hj, hsz, add_at]
  have keyA : ∀ (b o : Nat) (k : IntKind) (n : Int) (m : Nat) (e : TypeId) (sz : Nat), arrT P t = some (m, e, sz) → 0 ≤ n → n < (m : Int) → (Instr.indexAt t (.pointer (some ⟨b, o, none⟩)) (.int k n)).run P w = .ok (.pointer (some ⟨b, o + n.toNat * sz, none⟩)) w := by
    intro b o k n m e sz he h0 h1
    obtain ⟨hu, _, _, hm, j, hj, hsz⟩ := arrT_spec he
    simp [Instr.indexAt, asIntOf, run_underlying hu, h0, h1, sizeOf, typeInfo, hj, hsz, add_at, Instr.sureAddr]
  unfold aindexAddr at hk
  split at hk
  · rename_i k n
    cases hi
    split at hk
    · rename_i m cs tk
      split at hk
      · rename_i e sz bytes he
        obtain ⟨h0, h1, hk⟩ := hk
        cases hx with
        | slNil => omega
        | sl b off _ cap _ _ us hc hm hi h1' hr ht => exact ⟨_, keyS b off m cap k n e sz bytes he h0 h1, same_sound hR (.eptr b off (n.toNat * sz) cs us hi h1' hr) hk⟩
      · cases hk
    · rename_i id off m s
      split at hk
      · rename_i e sz bytes he
        obtain ⟨h0, h1, hk⟩ := hk
        cases hx with
        | osl _ b mm _ _ cap _ a1 a2 a3 a4 => exact ⟨_, keyS b off m cap k n e sz bytes he h0 h1, same_sound hR (.ptr id b mm _ a1) hk⟩
      · cases hk
    · rename_i id off m cc s
      split at hk
      · rename_i e sz bytes he
        obtain ⟨h0, h1, hk⟩ := hk
        cases hx with
        | oslc _ b mm _ _ cap _ a1 a2 a3 a4 => exact ⟨_, keyS b off m cc k n e sz bytes he h0 h1, same_sound hR (.ptr id b mm _ a1) hk⟩
      · cases hk
    · rename_i id off
      split at hk
      · rename_i m e sz he
        obtain ⟨h0, h1, hk⟩ := hk
        cases hx with
        | ptr _ b mm _ a1 => exact ⟨_, keyA b off k n m e sz he h0 h1, same_sound hR (.ptr id b mm _ a1) hk⟩
      · cases hk
    · rename_i cs off
      split at hk
      · rename_i m e sz he
        obtain ⟨h0, h1, hk⟩ := hk
        cases hx with
        | eptr b base _ _ us a1 a2 a3 => exact ⟨_, keyA b (base + off) k n m e sz he h0 h1, same_sound hR (by rw [Nat.add_assoc]; exact .eptr b base (off + n.toNat * sz) cs us a1 a2 a3) hk⟩
      · cases hk
    · cases hk
  · cases hk

theorem isStr_spec {t : TypeId} (h : isStr P t = true) : P.underlying t = some .string := by
  unfold isStr at h
  split at h
  · assumption
  · cases h
theorem isSl_spec {t : TypeId} (h : isSl P t = true) : ∃ e, P.underlying t = some (.slice e) := by
  unfold isSl at h
  split at h
  · exact ⟨_, by assumption⟩
  · cases h
theorem isPtr_spec {t : TypeId} (h : isPtr P t = true) : ∃ e, P.underlying t = some (.pointer e) := by
  unfold isPtr at h
  split at h
  · exact ⟨_, by assumption⟩
  · cases h
theorem isBool_spec {t : TypeId} (h : isBool P t = true) : P.underlying t = some .bool := by
  unfold isBool at h
  split at h
  · assumption
  · cases h
theorem intT_spec {t : TypeId} {k : IntKind} (h : intT P t = some k) : P.underlying t = some (.int k) := by
  unfold intT at h
  split at h
  · cases h; assumption
  · cases h

theorem byte_at (s : ByteArray) (n : Nat) (b : UInt8) (h : s.data.toList[n]? = some b) : s[n]? = some b := by
  have hn : n < s.data.size := by have := (List.getElem?_eq_some_iff.1 h).1; simpa using this
  have hb : s.data[n] = b := by have := (List.getElem?_eq_some_iff.1 h).2; simpa using this
  rw [getElem?_pos s n (by simpa using hn)]
  exact congrArg some hb

theorem index_sound (hR : Rel B w0 g σ w) {t : TypeId} {x i : Value} {xd id_ : D} (hx : RV g x xd) (hi : RV g i id_) {K : D → St → Prop} (hk : aindex P t xd id_ σ K) : ∃ v, (Instr.index t x i).run P w = .ok v w ∧ Comes' B w0 g K v w := by
  unfold aindex at hk
  split at hk
  · rename_i k n
    cases hi
    split at hk
    · rename_i l
      obtain ⟨hs, h0, b, hb, hk⟩ := hk
      cases hx with
      | str s _ hl =>
        subst hl
        have hu := isStr_spec hs
        have := byte_at s n.toNat b hb
        exact ⟨_, by simp [Instr.index, asIntOf, run_underlying hu, h0, this], same_sound hR (.int .u8 _) hk⟩
    · rename_i cs
      split at hk
      · rename_i m e sz he
        obtain ⟨h0, h1, hk⟩ := hk
        split at hk
        · rename_i ag hag
          obtain ⟨hu, hsz, _, _, j, hj, hjs⟩ := arrT_spec he
          cases hx with
          | agg cs' _ hl h1' hr =>
            rw [← hsz] at hk
            obtain ⟨v, e1, e2⟩ := part_sound hR hag hl h1' hr hk
            rw [hsz] at e1
            exact ⟨v, by simp [Instr.index, asIntOf, run_underlying hu, h0, h1, sizeOf, typeInfo, hj, hjs, e1], e2⟩
        · cases hk
      · cases hk
    · cases hk
  · cases hk

/-! ### slice expressions -/
def RVo (g : G) : Option Value → Option D → Prop
  | none, none => True
  | some v, some d => RV g v d
  | _, _ => False

theorem bound_run {lo : Option Value} {ld : Option D} (h : RVo g lo ld) {dflt n : Nat} (hb : abound ld dflt = some n) : (lo = none ∧ n = dflt) ∨ ∃ k, lo = some (.int k n) := by
  cases lo with
  | none =>
    cases ld with
    | none => simp [abound] at hb; exact .inl ⟨rfl, hb.symm⟩
    | some d => cases h
  | some v =>
    cases ld with
    | none => cases h
    | some d =>
      right
      cases h with
      | int k i =>
        simp only [abound] at hb
        split at hb
        · rename_i h0
          cases hb
          exact ⟨k, by rw [Int.toNat_of_nonneg h0]⟩
        · cases hb
      | _ => simp [abound] at hb

theorem run_bounds (isS : Bool) (len cap l h : Nat) {lo hi : Option Value} (hl : (lo = none ∧ l = 0) ∨ ∃ k, lo = some (.int k l)) (hh : (hi = none ∧ h = len) ∨ ∃ k, hi = some (.int k h)) (hlh : l ≤ h) (hc : h ≤ cap) :
    (Instr.sliceBounds isS len cap lo hi none).run P w = .ok (l, h, cap) w := by
  rcases hl with ⟨rfl, rfl⟩ | ⟨k, rfl⟩ <;> rcases hh with ⟨rfl, rfl⟩ | ⟨k', rfl⟩ <;>
    simp [Instr.sliceBounds, Instr.sliceBound, asIntOf, Int.natCast_nonneg, hc, hlh]

theorem run_bounds3 (len cap l h m : Nat) {lo hi mx : Option Value} (hl : (lo = none ∧ l = 0) ∨ ∃ k, lo = some (.int k l)) (hh : ∃ k, hi = some (.int k h)) (hm : ∃ k, mx = some (.int k m)) (hlh : l ≤ h) (hc : h ≤ m) (hmc : m ≤ cap) :
    (Instr.sliceBounds true len cap lo hi mx).run P w = .ok (l, h, m) w := by
  obtain ⟨k', rfl⟩ := hh
  obtain ⟨k2, rfl⟩ := hm
  rcases hl with ⟨rfl, rfl⟩ | ⟨k, rfl⟩ <;>
    simp [Instr.sliceBounds, Instr.sliceBound, asIntOf, Int.natCast_nonneg, hc, hlh, hmc]

theorem extract_toList (s : ByteArray) (l h : Nat) : (s.extract l h).data.toList = (s.data.toList.take h).drop l := by
  simp [ByteArray.data_extract, List.extract_eq_take_drop, List.drop_take]

end
end Go.Av
