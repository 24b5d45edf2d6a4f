/- Gossip: the statements' arguments. -/
import Derived.Test.YtgbfchagmniiiaaGD
import Derived.Test.YtgbfchagmniiiaaEA
set_option maxRecDepth 8000
set_option linter.unusedVariables false
namespace Go.Proofs.Try
open Go Go.Av
variable {γ : Gl} {σ s : St} {K : D → St → Prop}
theorem u8_in {n : Int} (h1 : IntKind.min .u8 ≤ n) (h2 : n ≤ IntKind.max .u8) : ∃ b : UInt8, n = (b.toNat : Nat) := by
  have h1 : 0 ≤ n := h1
  have h2 : n ≤ 255 := h2
  exact ⟨UInt8.ofNat n.toNat, by rw [ofNat_toNat (by omega)]; omega⟩
theorem flat_one {α : Type} (f : α → D) : ∀ l : List α, (l.map fun a => [f a]).flatten = l.map f
  | [] => rfl
  | a :: l => by simp [flat_one f l]
def shHash : Sh := .rep 32 (.int .u8)
def shHead : Sh := .cat (.int .i64) (.cat shHash .unit)
def shRo : Sh := .cat shHead (.cat (.int .i64) (.cat .str (.cat (.int .i8) (.cat (.row shHash) .unit))))
theorem sh77 : shOf prog 20 77 = some (.row shRo) := by kernel_rfl
theorem sh78 : shOf prog 20 78 = some (.row shHead) := by kernel_rfl
theorem hash_of {ds : List D} (h : Fits shHash ds) : ∃ b : List UInt8, ds = bytesD b ∧ b.length = 32 := by
  obtain ⟨dss, h1, rfl, h2⟩ := h
  obtain ⟨l, rfl, _⟩ := list_choose (F := fun x : UInt8 => [D.int .u8 (x.toNat : Nat)]) (Q := fun _ => True) (fun x hx => by
    obtain ⟨n, rfl, b, c⟩ := h2 x hx
    obtain ⟨k, rfl⟩ := u8_in b c
    exact ⟨k, rfl, trivial⟩)
  exact ⟨l, by rw [flat_one]; simp [bytesD], by simpa using h1⟩
theorem head_of {ds : List D} (h : Fits shHead ds) : ∃ x : Head, ds = headD x := by
  obtain ⟨x1, y1, rfl, ⟨n1, rfl, b1, c1⟩, x2, y2, rfl, h2, hu⟩ := h
  have hu : y2 = [] := hu
  subst hu
  obtain ⟨r, rfl, hr⟩ := hash_of h2
  exact ⟨⟨n1, r, hr⟩, by simp [headD]⟩
theorem path_of {ds : List D} (h : Fits (.row shHash) ds) : ∃ p : List (List UInt8), ds = [pathD p] ∧ All32 p := by
  obtain ⟨dss, rfl, h1, h2⟩ := h
  obtain ⟨l, rfl, h3⟩ := list_choose (F := bytesD) (Q := fun b => b.length = 32) (fun x hx => hash_of (h2 x hx))
  refine ⟨l, ?_, fun x hx => h3 x hx⟩
  have : ∀ l : List (List UInt8), (l.map bytesD).flatten = bytesD l.flatten := by
    intro l
    induction l with
    | nil => rfl
    | cons a l ih => simp [bytesD_append, ih]
  rw [pathD, this, List.length_map]
theorem ro_of {ds : List D} (h : Fits shRo ds) : ∃ x : Ro, ds = roD x ∧ x.sig.length ≤ 9223372036854775807 := by
  obtain ⟨x1, y1, rfl, hh, x2, y2, rfl, ⟨n2, rfl, _⟩, x3, y3, rfl, ⟨t3, rfl, l3⟩, x4, y4, rfl, ⟨n4, rfl, b4, c4⟩, x5, y5, rfl, h5, hu⟩ := h
  have hu : y5 = [] := hu
  subst hu
  obtain ⟨hd, rfl⟩ := head_of hh
  obtain ⟨p, rfl, hp⟩ := path_of h5
  exact ⟨⟨hd, n2, t3, n4, p, hp, b4, c4⟩, by simp [roD, tailD], l3⟩
theorem ros_of {d : D} (h : FitV (tagg prog 77) (.row shRo) d) : ∃ l : List Ro, d = .sl l.length (rosD l) none ∧ Fine l := by
  rw [FitV, if_neg (by rw [tagg77]; simp)] at h
  obtain ⟨dss, h, h1, h2⟩ := h
  simp at h
  obtain ⟨l, rfl, h3⟩ := list_choose (F := roD) (Q := fun x => x.sig.length ≤ 9223372036854775807) (fun x hx => ro_of (h2 x hx))
  refine ⟨l, ?_, h3⟩
  rw [h]; simp [rosD, rowsD]
theorem heads_of {d : D} (h : FitV (tagg prog 78) (.row shHead) d) : ∃ l : List Head, d = .sl l.length (headsD l) none := by
  rw [FitV, if_neg (by rw [tagg78]; simp)] at h
  obtain ⟨dss, h, h1, h2⟩ := h
  simp at h
  obtain ⟨l, rfl, _⟩ := list_choose (F := headD) (Q := fun _ => True) (fun x hx => by obtain ⟨a, e⟩ := head_of (h2 x hx); exact ⟨a, e, trivial⟩)
  refine ⟨l, ?_⟩
  rw [h]; simp [headsD, rowsD]
theorem gossipPut_in {d1 d2 : D} (h1 : FitV (tagg prog 77) (.row shRo) d1) (h2 : FitV (tagg prog 78) (.row shHead) d2) (hK : K (.bool true) s) : ACalls prog γ 11 [d1, d2] s K := by
  obtain ⟨l, rfl, hf⟩ := ros_of h1
  obtain ⟨m, rfl⟩ := heads_of h2
  exact GossipPut_c hf hK
end Go.Proofs.Try
